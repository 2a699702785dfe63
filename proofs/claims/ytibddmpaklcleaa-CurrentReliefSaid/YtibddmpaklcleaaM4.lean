import Derived.Test.YtibddmpaklcleaaM3
import Derived.Test.YtibddmpaklcleaaProg
set_option maxRecDepth 100000
set_option maxHeartbeats 8000000
set_option linter.unusedVariables false
set_option linter.unusedSimpArgs false
section
namespace Go.Cur
open Go.AM Go.Proofs
theorem d5.split {P : Program} {f : FuncId} {fn : Func} {c : Code} {x : AV} {rest : List AV} {res : AV} (hf : P.funcs[f]? = some fn) (hb : fn.body = some c) (hname : (fn.name == "runtime.NumGoroutine") = false)
  (h:∀(w:World) (S:Nat→Prop) (y:Value),q8 w S x y→∃x',q8 w S x' y∧d5 P f (x'::rest) res):d5 P f (x::rest) res:=by
 have hn' : ¬ fn.name = "runtime.NumGoroutine" := by simpa using hname
 have hcf:∀(w:World) (vs:Array Value),(callFunc f vs).run P w= .ok (.enter f vs) w:=fun w vs=>by simp[callFunc,hf,hn',hb]
 refine Or.inl ⟨hcf,?_⟩;intro S0 w vs hlow hl hrep
 match vs,hl with
 | y::vs,hl=>
  obtain⟨x',hx',hp⟩:=h w S0 y (hrep 0 x y rfl rfl);have hrep':∀(i:Nat) c z,(x'::rest)[i]?=some c→(y::vs)[i]?=some z→q8 w S0 c z:=by
   intro i c z h1 h2
   cases i with
   |zero=>simp only[List.getElem?_cons_zero,Option.some.injEq]at h1 h2;subst h1 h2;exact hx'
   |succ i=>exact hrep (i+1) c z (by simpa using h1) h2
  rcases hp with⟨_,h2⟩|h2
  ·exact h2 S0 w (y::vs) hlow (by simpa using hl) hrep'
  ·obtain⟨v,h3,_⟩:=h2 S0 w (y::vs) (by simpa using hl) hrep';rw[hcf]at h3;cases h3
theorem b4O (op:BinOp) (t:TypeId) (x y:Operand) (a b:Option Addr) (n c m d:Nat) (w:World):(eqGuard op t x y (.slice a n c) (.slice b m d)).run Try.prog w= .ok () w:=by
 cases op<;>simp[eqGuard]
theorem a7f (t e:TypeId) (hu:(Try.prog).underlying t=some (.slice e)) (a:Option Addr) (n c:Nat) (w:World):(binOp .eql t (.slice a n c) (.slice none 0 0)).run Try.prog w= .ok (.bool a.isNone) w:=by
 have hq:(Op.equal t (.slice a n c) (.slice none 0 0)).run Try.prog w= .ok a.isNone w:=by
  show(Op.equalIn (Op.maxDepth-1+1) t _ _).run _ w=_
  cases a<;>simp[Op.equalIn,run_underlying hu]
 simp[binOp,hq]
@[simp] theorem c3y:Z9 Try.prog 42=true:=by kernel_rfl
@[simp] theorem c3i:Z9 Try.prog 26=true:=by kernel_rfl
theorem b9i:(Try.prog).underlying 26=some (.slice 4):=by kernel_rfl
theorem b9a {w:World} {S:Nat→Prop} {sz:Nat} {y:Value} (h:q8 w S (.lst sz []) y):∃a cap,y= .slice a 0 cap:=by
 cases h with
 |lst _ _ b off cap=>exact⟨_,cap,rfl⟩
 |lstNil _ a cap=>exact⟨a,cap,rfl⟩
theorem a5u {w:World} {S:Nat→Prop} {sz:Nat} {y:Value} (h:q8 w S (.v (.slice none 0 0)) y):q8 w S (.lst sz []) y:=by
 cases h;exact .lstNil _ _ _
theorem b5w {w:World} {S:Nat→Prop} {sz:Nat} {y:Value} (h:q8 w S (.full sz []) y):q8 w S (.lst sz []) y:=by
 cases h;exact .lstNil _ _ _
theorem v7 (l:List Bool) (hn:l.length≤1000):d5 Try.prog 73 [.lst 1 (l.map i8)] (.lst 1 (l.map i8)):=by
 by_cases hne:l=[]
 ·subst hne;refine d5.split Try.func73 rfl (by decide) fun w S y hy=>?_;obtain⟨a,cap,rfl⟩:=b9a hy;refine⟨.v (.slice a 0 cap), .v _,?_⟩
  cases a with
  |none=>
   refine d5.res (res:= .v (.slice none 0 0)) ?_ fun w S y=>a5u;refine d5.of_body Try.func73 rfl (by decide) (by simp[Try.ntmps73]) ?_;simp only[Try.ntmps73,Try.results73];refine aS fun K hK=>?_;simp -dsimp;apply hK;clear hK K;refine d4 fun K1 hK1=>?_;refine aS fun K hK=>?_;simp -dsimp;apply hK;clear hK K;refine d9 rfl (fun hc0=>?_) (fun hc0=>?_)
   ·refine aS fun K hK=>?_;simp -dsimp;apply hK;clear hK K;exact g7 (by simp)
   ·simp at hc0
  |some a=>
   refine d5.res (res:= .full 1 []) ?_ fun w S y=>b5w;refine d5.of_body Try.func73 rfl (by decide) (by simp[Try.ntmps73]) ?_;simp only[Try.ntmps73,Try.results73];refine aS fun K hK=>?_;simp -dsimp;apply hK;clear hK K;refine d4 fun K1 hK1=>?_;refine aS fun K hK=>?_;simp -dsimp;refine⟨fun w=>b4O _ _ _ _ _ _ _ _ _ _ w,_,fun w=>a7f _ _ b9i _ _ _ w,?_⟩;simp -dsimp;apply hK;clear hK K;refine d9 rfl (fun hc0=>?_) (fun hc0=>?_)
   ·simp at hc0
   ·refine f6 ?_;simp only[zT,reduceIte,Nat.reduceEqDiff];refine hK1 _ _ ?_;refine b8 [0] ?_;simp only[zP,Nat.reduceEqDiff,reduceIte];refine aS fun K hK=>?_;simp -dsimp;apply hK;clear hK K;exact g7 (by simp)
 ·have f1:C7 l.length 2:=k9 (by omega) (by omega);refine d5.of_body Try.func73 rfl (by decide) (by simp[Try.ntmps73]) ?_;simp only[Try.ntmps73,Try.results73];refine aS fun K hK=>?_;simp -dsimp;apply hK;clear hK K;refine d4 fun K1 hK1=>?_;refine aS fun K hK=>?_;simp -dsimp [hne];apply hK;clear hK K;refine d9 rfl (fun hc0=>?_) (fun hc0=>?_)
  ·simp at hc0
  ·refine f6 ?_;simp only[zT,reduceIte,Nat.reduceEqDiff];refine hK1 _ _ ?_;refine b8 [0] ?_;simp only[zP,Nat.reduceEqDiff,reduceIte];refine aS fun K hK=>?_;simp -dsimp [hne,f1];apply hK;clear hK K;exact g7 (by simp)
theorem a9F (l:List Int) (x:Int) (hn:l.length≤100000):d5 Try.prog 71 [iL l,I x] (I (K0 l fun y=>decide (x=y))):=by
 refine d5.of_body Try.func71 rfl (by decide) (by simp[Try.ntmps71]) ?_;simp only[Try.ntmps71,Try.results71];refine aS fun K hK=>?_;simp -dsimp;apply hK;clear hK K;refine d4 fun K1 hK1=>?_;refine aS fun K hK=>?_;simp -dsimp;apply hK;clear hK K;refine e7 ?_;refine b8 [0,1,7,8] ?_;simp only[zP,Nat.reduceEqDiff,reduceIte];refine g9 [0,1,7] (α:=Nat) (fun k=>[(8,I k)]) (fun _=>[]) (fun k=>k≤l.length∧(l.take k).any (fun y=>decide (x=y))=false) (fun k=>l.length-k) 0 ?_ ?_ ?_
 ·simp
 ·exact j7 (by simp)
 rintro k ⟨k1,k2⟩;simp only[zP,Nat.reduceEqDiff,reduceIte];refine aS fun K hK=>?_;simp -dsimp;apply hK;clear hK K;refine d4 fun K2 hK2=>?_;refine d9 rfl (fun hc0=>?_) (fun hc0=>?_)
 ·skip
  try simp at hc0
  obtain⟨y,hx⟩:∃y,l[k]?=some y:=⟨_,List.getElem?_eq_getElem hc0⟩;have wk:=zW k (by omega);refine f6 ?_;simp only[zT,reduceIte,Nat.reduceEqDiff];refine hK2 _ _ ?_;refine b8 [0,1,7,8] ?_;simp only[zP,Nat.reduceEqDiff,reduceIte];refine d4 fun K3 hK3=>?_;refine e7 ?_;refine aS fun K hK=>?_;simp -dsimp;apply hK;clear hK K;refine aS fun K hK=>?_;simp -dsimp [hx];apply hK;clear hK K;refine d9 rfl (fun hc1=>?_) (fun hc1=>?_)
  ·simp only[a7a]at hc1;refine aS fun K hK=>?_;simp -dsimp;apply hK;clear hK K;exact g7 (by simp[a0y hx hc1 k2])
  ·simp only[a7a]at hc1;refine f6 ?_;simp only[zT,reduceIte,Nat.reduceEqDiff];refine hK3 _ _ ?_;refine b8 [0,1,7,8] ?_;simp only[zP,Nat.reduceEqDiff,reduceIte];refine aR fun K hK=>?_;simp -dsimp [wk];apply hK;clear hK K;simp only[zT,reduceIte,Nat.reduceEqDiff];exact⟨k+1,⟨by omega,by rw[b7f hx,k2,hc1];rfl⟩,by omega,j7 (by simp)⟩
 ·skip
  try simp at hc0
  have hall:=a7D (by omega) k2;refine j9 ?_;simp only[zT,reduceIte,Nat.reduceEqDiff];refine hK1 _ _ ?_;refine b8 [] ?_;simp only[zP,Nat.reduceEqDiff,reduceIte];refine aS fun K hK=>?_;simp -dsimp;apply hK;clear hK K;exact g7 (by simp[O3 hall])
theorem b7w (l:List Int) (x:Int):l.any (fun y=>decide (x=y))=decide (x∈l):=by
 rw[Bool.eq_iff_iff];simp
theorem a4i (l:List Int) (x:Int) (hn:l.length≤100000):d5 Try.prog 91 [iL l,I x] (Bo (decide (x∈l))):=by
 refine d5.of_body Try.func91 rfl (by decide) (by simp[Try.ntmps91]) ?_;simp only[Try.ntmps91,Try.results91];refine aS fun K hK=>?_;simp -dsimp;apply hK;clear hK K;refine aS fun K hK=>?_;simp -dsimp;refine d6 _ (a9F l x hn) (by simp) ?_;simp -dsimp;apply hK;clear hK K;exact g7 (by simp[a6a,b7w])
theorem b4d (a:Int):d5 Try.prog 121 [I a] (Bo false):=by
 refine d5.of_body Try.func121 rfl (by decide) (by simp[Try.ntmps121]) ?_;simp only[Try.ntmps121,Try.results121];refine aS fun K hK=>?_;simp -dsimp;apply hK;clear hK K;refine aS fun K hK=>?_;simp -dsimp;apply hK;clear hK K;exact g7 (by simp)
theorem b7K (a b:Int):d5 Try.prog 110 [I a,I b] (Bo (decide (a<b))):=by
 refine d5.of_body Try.func110 rfl (by decide) (by simp[Try.ntmps110]) ?_;simp only[Try.ntmps110,Try.results110];refine aS fun K hK=>?_;simp -dsimp;apply hK;clear hK K;refine aS fun K hK=>?_;simp -dsimp;refine d6 _ (b4d a) (by simp) ?_;simp -dsimp;refine f8 _ (fun hm=>b4d b) (by simp) ?_;simp -dsimp;apply hK;clear hK K;exact g7 (by simp)
def ins (x:Int):List Int→List Int
 |[]=>[x]
 |y::l=>if x<y then x::y::l else y::ins x l
def srt (l:List Int):List Int:=l.foldl (fun s x=>ins x s) []
theorem b2N (x:Int):∀l,(ins x l).length=l.length+1
 |[]=>rfl
 |y::l=>by
  simp only[ins]
  split
  ·rfl
  ·simp[b2N x l]
theorem b4i (x z:Int):∀l,z∈ins x l↔z=x∨z∈l
 |[]=>by simp[ins]
 | y::l=>by
  simp only[ins]
  split
  ·simp
  ·simp only[List.mem_cons,b4i x z l];constructor
   ·rintro(h|h|h)<;>simp[h]
   ·rintro(h|h|h)<;>simp[h]
theorem a3H (x:Int):∀l:List Int,l.Pairwise (· ≤ ·)→(ins x l).Pairwise (· ≤ ·)
 |[],_=>by simp[ins]
 | y::l,h=>by
  rw[List.pairwise_cons]at h;simp only[ins]
  split
  ·rename_i hx;rw[List.pairwise_cons,List.pairwise_cons];refine⟨fun z hz=>?_,h⟩
   rcases List.mem_cons.1 hz with rfl|hz
   ·omega
   ·have:=h.1 z hz;omega
  ·rename_i hx;rw[List.pairwise_cons];refine⟨fun z hz=>?_,a3H x l h.2⟩
   rcases(b4i x z l).1 hz with rfl|hz
   ·omega
   ·exact h.1 z hz
theorem a2e (x:Int) (B:List Int) (hB:∀y∈B,x<y):∀A:List Int,(∀y∈A,y≤x)→ins x (A++B)=A++x::B
 |[],_=>by
  cases B with
  |nil=>rfl
  |cons y B=>simp only[List.nil_append,ins];rw[if_pos (hB y (by simp))]
 |a::A,h=>by
  simp only[List.cons_append,ins];rw[if_neg (by have:=h a (by simp);omega),a2e x B hB A fun y hy=>h y (by simp[hy])]
theorem b6R {l:List Int} {i:Nat} {x:Int} (h:l[i]?=some x):srt (l.take (i+1))=ins x (srt (l.take i)):=by
 rw[List.take_add_one,h];simp[srt]
theorem b8n (l:List Int):(srt l).length=l.length:=by
 have gen:∀(l s:List Int),(l.foldl (fun s x=>ins x s) s).length=s.length+l.length:=by
  intro l
  induction l with
  |nil=>simp
  |cons x l ih=>intro s;rw[List.foldl_cons,ih,b2N];simp;omega
 have:=gen l [];simpa [srt]using this
theorem a3N (l:List Int):(srt l).Pairwise (· ≤ ·):=by
 have gen:∀(l s:List Int),s.Pairwise (· ≤ ·)→(l.foldl (fun s x=>ins x s) s).Pairwise (· ≤ ·):=by
  intro l
  induction l with
  |nil=>intro s h;exact h
  |cons x l ih=>intro s h;exact ih _ (a3H x s h)
 exact gen l [] List.Pairwise.nil
theorem c2p {L:List Int} (h:L.Pairwise (· ≤ ·)) {j:Nat} {y:Int} (hy:L[j]?=some y):∀a∈L.take (j+1),a≤y:=by
 intro a ha;obtain⟨hj,he⟩:=List.getElem?_eq_some_iff.1 hy;rw[List.take_add_one,hy]at ha
 rcases List.mem_append.1 ha with ha|ha
 ·have hs:L=L.take j++y::L.drop (j+1):=by rw[←he,List.getElem_cons_drop,List.take_append_drop]
  rw[hs,List.pairwise_append]at h;exact h.2.2 a ha y (by simp)
 ·simp at ha;omega
def a8B (L:List Int) (x:Int) (R:List Int) (j:Nat):List Int:=L.take j++x::(L.drop j++R)
theorem a8r {L:List Int} {x:Int} {R:List Int} {j:Nat} (h:j≤L.length):(a8B L x R j)[j]?=some x:=by
 unfold a8B;rw[List.getElem?_append_right (by simp;omega)];simp[Nat.min_eq_left h]
theorem a7T {L:List Int} {x y:Int} {R:List Int} {j:Nat} (h:L[j]?=some y):(a8B L x R (j+1))[j]?=some y:=by
 have hj:=(List.getElem?_eq_some_iff.1 h).1;unfold a8B;rw[List.getElem?_append_left (by simp;omega),List.getElem?_take];simp[h]
theorem b4z {L:List Int} {x y:Int} {R:List Int} {j:Nat} (h:L[j]?=some y):((a8B L x R (j+1)).set (j+1) y).set j x=a8B L x R j:=by
 obtain⟨hj,hy⟩:=List.getElem?_eq_some_iff.1 h;have h1:L.take (j+1)=L.take j++[y]:=by rw[List.take_add_one,h];rfl
 have h2:L.drop j=y::L.drop (j+1):=by rw[List.drop_eq_getElem_cons hj,hy]
 have hl:(L.take j).length=j:=by rw[List.length_take];omega
 unfold a8B;rw[h1,h2,List.append_assoc,List.set_append,if_neg (by omega),List.set_append,if_neg (by omega),hl];simp
theorem b9Z (xs:List Int) (h1:1≤xs.length) (hn:xs.length≤1000):g6 Try.prog 104 [.row 0 0 xs.length,I 0,I xs.length] [some (.els 1 (xs.map i9))] [] (.tup []) [some (.els 1 ((srt xs).map i9))] []:=by
 have w01:IntKind.i64.wrap 1=1:=i7 (by omega) (by omega);have wm1:IntKind.i64.wrap (-1)=-1:=i7 (by omega) (by omega);refine g6.of_bodyG [0] Try.func104 rfl (by decide) (by simp[Try.ntmps104]) rfl rfl ?_;intro J hJ;simp only[Try.ntmps104,Try.results104];refine gS fun K hK=>?_;simp -dsimp [w01];apply hK;clear hK K;refine d7 ?_;refine b7 [0,1,2,6] (Or.inr (by simp)) ?_;simp only[zP,Nat.reduceEqDiff,reduceIte];refine g8 [0,1,2] (α:=Nat) (fun i=>[(6,I i)]) (fun i=>[some (.els 1 ((srt (xs.take i)++xs.drop i).map i9))]) (fun i=>1≤i∧i≤xs.length) (fun i=>xs.length-i) 1 ?_ ?_ ?_
 ·exact⟨Nat.le_refl _,h1⟩
 ·refine m8 (e8 [some 0] rfl (by simp) ?_) (by simp);obtain⟨x,l,rfl⟩:∃x l,xs=x::l:=by cases xs with|nil=>simp at h1|cons x l=>exact⟨x,l,rfl⟩
  simp[srt,ins]
 rintro i ⟨i1,i2⟩;simp only[zP,Nat.reduceEqDiff,reduceIte];refine b9 fun K1 hK1=>?_;refine gS fun K hK=>?_;simp -dsimp;apply hK;clear hK K;refine d8 rfl (fun hc0=>?_) (fun hc0=>?_)
 ·skip
  try simp at hc0
  have wi:=zW i (by omega);obtain⟨x,hx⟩:∃x,xs[i]?=some x:=⟨_,List.getElem?_eq_getElem hc0⟩;obtain⟨hxi,hxe⟩:=List.getElem?_eq_some_iff.1 hx;have hdr:xs.drop i=x::xs.drop (i+1):=by rw[List.drop_eq_getElem_cons hxi,hxe]
  have hdm:(xs.map i9).drop i=[I x]::(xs.drop (i+1)).map i9:=by rw[←List.map_drop,hdr];rfl
  have hst:=b6R hx;have hsl:(srt (xs.take i)).length=i:=by rw[b8n,List.length_take];omega
  have hso:=a3N (xs.take i);generalize srt (xs.take i)=L at hst hsl hso ⊢;generalize hR:xs.drop (i+1)=R at hdr hdm ⊢;have hRl:R.length=xs.length-(i+1):=by rw[←hR,List.length_drop]
  refine e9 ?_;simp only[zT,reduceIte,Nat.reduceEqDiff];refine hK1 _ _ ?_;refine b7 [0,1,2,6] (Or.inr (by simp)) ?_;simp only[zP,Nat.reduceEqDiff,reduceIte];refine b9 fun K2 hK2=>?_;refine d7 ?_;refine gS fun K hK=>?_;simp -dsimp;apply hK;clear hK K;refine d7 ?_;refine b7 [0,1,2,6,7] (Or.inr (by simp)) ?_;simp only[zP,Nat.reduceEqDiff,reduceIte];refine g8 [0,1,2,6] (α:=Nat) (fun j=>[(7,I j)]) (fun j=>[some (.els 1 ((a8B L x R j).map i9))]) (fun j=>j≤i∧∀y∈L.drop j,x<y) (fun j=>j) i ?_ ?_ ?_
  ·exact⟨Nat.le_refl _,by rw[List.drop_of_length_le (by omega)];simp⟩
  ·refine m8 (e8 [some 0] rfl (by simp) ?_) (by simp);simp[a8B,hdm,List.take_of_length_le (show L.length≤i by omega),List.drop_of_length_le (show L.length≤i by omega)]
  rintro j ⟨j1,j2⟩
  rcases j with _|j
  rotate_left
  obtain⟨y,hy⟩:∃y,L[j]?=some y:=⟨_,List.getElem?_eq_getElem (by omega)⟩;have gj:=a8r (L:=L) (x:=x) (R:=R) (j:=j+1) (by omega);have gb:=a7T (x:=x) (R:=R) hy;have wj:IntKind.i64.wrap (j:Int)=j:=i7 (by omega) (by omega);have hj1:j+1<xs.length:=by omega
  have hj0:j<xs.length:=by omega
  have hdj:L.drop j=y::L.drop (j+1):=by obtain⟨hh,he⟩:=List.getElem?_eq_some_iff.1 hy;rw[List.drop_eq_getElem_cons hh,he]
  rotate_left
  ·simp only[zP,Nat.reduceEqDiff,reduceIte];refine b9 fun K3 hK3=>?_;refine s4 l6 rfl (by decide) rfl rfl fun K hK=>?_;simp -dsimp [a8r (L:=L) (x:=x) (R:=R) (Nat.zero_le _),wm1];refine f8 _ (fun hm=>b7K x x) (by simp) ?_;simp -dsimp [a8r (L:=L) (x:=x) (R:=R) (Nat.zero_le _),wm1];refine hK _ _ _ (by decide+kernel) ?_;clear hK K;refine d8 rfl (fun hc1=>?_) (fun hc1=>?_)
   ·simp at hc1
   ·have hfin:ins x L=x::L:=by have:=a2e x L (by simpa using j2) [] (by simp);simpa using this
    have he:srt (xs.take (i+1))++xs.drop (i+1)=a8B L x R 0:=by rw[hst,hR,hfin];simp[a8B]
    refine i6 ?_;simp only[zT,reduceIte,Nat.reduceEqDiff];refine hK2 _ _ ?_;refine b7 [0,1,2,6] (Or.inr (by simp)) ?_;simp only[zP,Nat.reduceEqDiff,reduceIte];refine gR fun K hK=>?_;simp -dsimp [wi];apply hK;clear hK K;simp only[zT,reduceIte,Nat.reduceEqDiff];exact⟨i+1,⟨by omega,by omega⟩,by omega,m8 (e8 [some 0] rfl (by simp) (by simp only[he];simp)) (by simp)⟩
  ·simp only[zP,Nat.reduceEqDiff,reduceIte];refine b9 fun K4 hK4=>?_;refine s4 l6 rfl (by decide) rfl rfl fun K hK=>?_;simp -dsimp [gj,gb,wj,hj1,hj0];refine⟨by omega,?_⟩
   try simp -dsimp [gj,gb,wj,hj1,hj0]
   refine f8 _ (fun hm=>b7K x y) (by simp) ?_;simp -dsimp [gj,gb,wj,hj1,hj0];refine hK _ _ _ (by decide+kernel) ?_;clear hK K;refine d8 rfl (fun hc1=>?_) (fun hc1=>?_)
   ·skip
    try simp at hc1
    refine e9 ?_;simp only[zT,reduceIte,Nat.reduceEqDiff];refine hK4 _ _ ?_;refine b7 [0,1,2,6,7] (Or.inr (by simp)) ?_;simp only[zP,Nat.reduceEqDiff,reduceIte];refine b9 fun K5 hK5=>?_;refine d7 ?_;refine p9 l6 rfl (by decide) rfl rfl fun K hK=>?_;simp -dsimp [gj,gb,wj,hj1,hj0]
    repeat (refine⟨by omega,?_⟩;try simp -dsimp [gj,gb,wj,hj1,hj0])
    refine hK _ _ _ (by decide+kernel) ?_;clear hK K;simp only[zT,reduceIte,Nat.reduceEqDiff];refine hK5 _ _ ?_;refine b7 [0,1,2,6,7] (Or.inr (by simp)) ?_;simp only[zP,Nat.reduceEqDiff,reduceIte];refine gR fun K hK=>?_;simp -dsimp [wj];apply hK;clear hK K;simp only[zT,reduceIte,Nat.reduceEqDiff];have hsw:(((a8B L x R (j+1)).map i9).set (j+1) [I y]).set j [I x]=(a8B L x R j).map i9:=by rw[←b4z hy,List.map_set,List.map_set];rfl
    exact⟨j,⟨by omega,by intro z hz;rw[hdj]at hz;rcases List.mem_cons.1 hz with rfl|hz;exact hc1;exact j2 z hz⟩,by omega,m8 (e8 [some 0] rfl (by simp) (by simp[hsw])) (by simp)⟩
   ·skip
    try simp at hc1
    have hfin:ins x L=L.take (j+1)++x::L.drop (j+1):=by have:=a2e x (L.drop (j+1)) j2 (L.take (j+1)) (fun a ha=>Int.le_trans (c2p hso hy a ha) hc1);rwa [List.take_append_drop]at this
    have he:srt (xs.take (i+1))++xs.drop (i+1)=a8B L x R (j+1):=by rw[hst,hR,hfin];simp[a8B]
    refine i6 ?_;simp only[zT,reduceIte,Nat.reduceEqDiff];refine hK2 _ _ ?_;refine b7 [0,1,2,6] (Or.inr (by simp)) ?_;simp only[zP,Nat.reduceEqDiff,reduceIte];refine gR fun K hK=>?_;simp -dsimp [wi];apply hK;clear hK K;simp only[zT,reduceIte,Nat.reduceEqDiff];exact⟨i+1,⟨by omega,by omega⟩,by omega,m8 (e8 [some 0] rfl (by simp) (by simp only[he];simp)) (by simp)⟩
 ·skip
  try simp at hc0
  have hie:i=xs.length:=by omega
  subst hie;refine i6 ?_
  try simp only[zT,reduceIte,Nat.reduceEqDiff]
  exact⟨[some 0],rfl,by simp,by simp,by simp[h1],by simp[y8,n5]⟩
theorem a8M:(Try.prog).underlying 3=some (.int .i64):=by kernel_rfl
theorem b3G:(Try.prog).underlying 156=some (.int .u64):=by kernel_rfl
theorem c0s:(Try.prog).underlying 9=some .string:=by kernel_rfl
theorem b7N:(Try.prog).underlying 5=some (.int .u8):=by kernel_rfl
theorem b6P:(Try.prog).underlying 154=some (.int .u64):=by kernel_rfl
theorem b3Y (s:ByteArray) (n:Int) (h0:0≤n) (h1:n.toNat<s.size) (w:World):(Instr.index 9 (.string s) (.int .u8 n)).run Try.prog w= .ok (.int .u8 (s[n.toNat]).toNat) w:=by
 have hs:s[n.toNat]?=some s[n.toNat]:=getElem?_pos s n.toNat h1;simp[Instr.index,asIntOf,run_underlying c0s,h0,hs]
theorem b8O (n:Int) (w:World):(convert 3 154 (.int .i64 n)).run Try.prog w= .ok (.int .u64 (IntKind.u64.wrap n)) w:=by
 simp[convert,run_underlying a8M,run_underlying b6P,Conv.intToInt]
theorem b8V (n:Int) (w:World):(convert 156 5 (.int .u64 n)).run Try.prog w= .ok (.int .u8 (IntKind.u8.wrap n)) w:=by
 simp[convert,run_underlying b3G,run_underlying b7N,Conv.intToInt]
theorem b9p (n:Int) (w:World):(convert 5 3 (.int .u8 n)).run Try.prog w= .ok (.int .i64 (IntKind.i64.wrap n)) w:=by
 simp[convert,run_underlying a8M,run_underlying b7N,Conv.intToInt]
abbrev U (n:Int):AV:= .v (.int .u64 n)
theorem u64_in {n:Int} (h0:0≤n) (h1:n<18446744073709551616):IntKind.u64.wrap n=n:=by rw[IntKind.wrap_u64];omega
theorem b9X (n:Int) (h0:0≤n) (h1:n≤200):∃k,d5 Try.prog 114 [U n] (I k):=by
 have w8:IntKind.u8.wrap n=n:=by rw[IntKind.wrap_u8];omega
 have h2:¬4294967296≤n:=by omega
 have h3:¬65536≤n:=by omega
 have h4:¬256≤n:=by omega
 apply Exists.intro;refine d5.of_body Try.func114 rfl (by decide) (by simp[Try.ntmps114]) ?_;simp only[Try.ntmps114,Try.results114];refine aS fun K hK=>?_;simp -dsimp;apply hK;clear hK K;refine d4 fun K1 hK1=>?_;refine aS fun K hK=>?_;simp -dsimp;apply hK;clear hK K;refine d9 rfl (fun hc0=>?_) (fun hc0=>?_)
 ·skip
  try simp at hc0
  omega
 ·skip
  try simp at hc0
  refine f6 ?_;simp only[zT,reduceIte,Nat.reduceEqDiff];refine hK1 _ _ ?_;refine b8 [0,2] ?_;simp only[zP,Nat.reduceEqDiff,reduceIte];refine d4 fun K2 hK2=>?_;refine aS fun K hK=>?_;simp -dsimp;apply hK;clear hK K;refine d9 rfl (fun hc1=>?_) (fun hc1=>?_)
  ·skip
   try simp at hc1
   omega
  ·skip
   try simp at hc1
   refine f6 ?_;simp only[zT,reduceIte,Nat.reduceEqDiff];refine hK2 _ _ ?_;refine b8 [0,2] ?_;simp only[zP,Nat.reduceEqDiff,reduceIte];refine d4 fun K3 hK3=>?_;refine aS fun K hK=>?_;simp -dsimp;apply hK;clear hK K;refine d9 rfl (fun hc2=>?_) (fun hc2=>?_)
   ·skip
    try simp at hc2
    omega
   ·skip
    try simp at hc2
    refine f6 ?_;simp only[zT,reduceIte,Nat.reduceEqDiff];refine hK3 _ _ ?_;refine b8 [0,2] ?_;simp only[zP,Nat.reduceEqDiff,reduceIte];refine aS fun K hK=>?_;simp -dsimp;refine⟨_,b8V n,?_⟩
    try simp -dsimp [w8]
    refine⟨_,b3Y _ n h0 (Nat.lt_of_lt_of_le (show n.toNat<256 by omega) (by decide+kernel)),?_⟩
    try simp -dsimp
    refine⟨_,b9p _,?_⟩
    try simp -dsimp
    apply hK;clear hK K;exact g7 rfl
theorem c2K (n:Int) (h0:0≤n) (h1:n≤200):∃k,d5 Try.prog 101 [U n] (I k):=by
 obtain⟨k,hk⟩:=b9X n h0 h1;refine⟨k,?_⟩;refine d5.of_body Try.func101 rfl (by decide) (by simp[Try.ntmps101]) ?_;simp only[Try.ntmps101,Try.results101];refine aS fun K hK=>?_;simp -dsimp;apply hK;clear hK K;refine d4 fun K1 hK1=>?_;refine d9 rfl (fun hc0=>?_) (fun hc0=>?_)
 ·simp at hc0
 ·refine f6 ?_;simp only[zT,reduceIte,Nat.reduceEqDiff];refine hK1 _ _ ?_;refine b8 [0] ?_;simp only[zP,Nat.reduceEqDiff,reduceIte];refine aS fun K hK=>?_;simp -dsimp;refine d6 _ (hk) (by simp) ?_;simp -dsimp;apply hK;clear hK K;exact g7 (by simp)
theorem c2L (xs:List Int) (k:Int) (h1:1≤xs.length) (hn:xs.length≤12):g6 Try.prog 100 [.row 0 0 xs.length,I 0,I xs.length,I k] [some (.els 1 (xs.map i9))] [] (.tup []) [some (.els 1 ((srt xs).map i9))] []:=by
 have hs:=b9Z xs h1 (by omega);have wl:IntKind.i64.wrap (xs.length:Int)=xs.length:=i7 (by omega) (by omega);refine g6.of_bodyG [0] Try.func100 rfl (by decide) (by simp[Try.ntmps100]) rfl rfl ?_;intro J hJ;simp only[Try.ntmps100,Try.results100];refine gS fun K hK=>?_;simp -dsimp;apply hK;clear hK K;refine gS fun K hK=>?_;simp -dsimp;apply hK;clear hK K;refine d7 ?_;refine b7 [0,1,2,3,8,9] (Or.inr (by simp)) ?_;simp only[zP,Nat.reduceEqDiff,reduceIte];refine g8 [0] (α:=Unit) (fun _=>[(1,I 0),(2,I xs.length),(3,I k),(8,Bo true),(9,Bo true)]) (fun _=>[some (.els 1 (xs.map i9))]) (fun _=>True) (fun _=>0) () ?_ ?_ ?_
 ·simp
 ·exact m8 (j7 (by simp)) (by simp)
 rintro u-;simp only[zP,Nat.reduceEqDiff,reduceIte];refine d7 ?_;refine gS fun K hK=>?_;simp -dsimp [wl];apply hK;clear hK K;refine b9 fun K1 hK1=>?_;refine gS fun K hK=>?_;simp -dsimp;apply hK;clear hK K;refine d8 rfl (fun hc0=>?_) (fun hc0=>?_)
 ·skip
  try simp at hc0
  refine gS fun K hK=>?_;simp -dsimp;refine k8 [0] [] [some 0] (hs) (by decide) rfl (by simp) (by simp) rfl (by simp) ?_;simp -dsimp;apply hK;clear hK K;exact k7 ⟨[some 0],rfl,by simp,by simp,by simp[h1],by simp[y8,n5]⟩
 ·skip
  try simp at hc0
  omega
theorem c2s (xs:List Int) (h1:1≤xs.length) (hn:xs.length≤12):g6 Try.prog 85 [.row 0 0 xs.length] [some (.els 1 (xs.map i9))] [] (.tup []) [some (.els 1 ((srt xs).map i9))] []:=by
 obtain⟨k,hk⟩:=c2K xs.length (by omega) (by omega);have hs:=c2L xs k h1 hn;have wu:IntKind.u64.wrap (xs.length:Int)=xs.length:=u64_in (by omega) (by omega);refine g6.of_bodyG [0] Try.func85 rfl (by decide) (by simp[Try.ntmps85]) rfl rfl ?_;intro J hJ;simp only[Try.ntmps85,Try.results85];refine gS fun K hK=>?_;simp -dsimp;apply hK;clear hK K;refine gR fun K hK=>?_;simp -dsimp;refine⟨_,b8O _,?_⟩;simp -dsimp [wu];refine d6 _ (hk) (by simp) ?_;simp -dsimp;refine k8 [0] [] [some 0] (hs) (by decide) rfl (by simp) (by simp) rfl (by simp) ?_;simp -dsimp;apply hK;clear hK K
 try simp only[zT,reduceIte,Nat.reduceEqDiff]
 exact⟨[some 0],rfl,by simp,by simp,by simp[h1],by simp[y8,n5]⟩
end Go.Cur
end
section
namespace Go.Cur
open Go.AM Go.Proofs
def bAt (l:List Bool) (k:Nat):Bool:=(l[k]?).getD false
theorem s7 {l:List Bool} {k:Nat} (h:k<l.length):l[k]?=some (bAt l k):=by
 unfold bAt;rw[List.getElem?_eq_getElem h];rfl
theorem b7Z {l:List Bool} {k:Nat} {b:Bool} (h:l[k]?=some b):bAt l k=b:=by simp[bAt,h]
def a4V (g:Gr) (s:Sta):Nat→Bool
 |0=>true
 |k+1=>a4V g s k&&(match g.Wires[k]? with|some w=>w.Sw||bAt s.Wires k|none=>true)
def stB (g:Gr) (s:Sta):Bool:=decide (s.Feeds.length=g.Feeds.length)&&decide (s.Wires.length=g.Wires.length)&&a4V g s g.Wires.length
def lkv (l:List Ld):List (List KC×Value):=l.map fun f=>(ik f.At, .bool true)
theorem b3e:∀(l:List Ld) (x:Int),t7 (lkv l) (ik x)=if (l.any fun f=>decide (f.At=x))=true then some (.bool true)else none
 |[],x=>rfl
 |f::l,x=>by
  have ih:=b3e l x;simp only[lkv]at ih;simp only[lkv,List.map_cons,t7,List.any_cons,Bool.or_eq_true,decide_eq_true_eq]
  by_cases h:f.At=x
  ·rw[if_pos (by rw[h]),if_pos (Or.inl h)]
  ·rw[if_neg (fun e=>h (P1.1 e).symm),ih];simp only[h,false_or]
theorem s8 (l:List Ld) (x:Int):((t7 (lkv l) (ik x)).getD (.bool false))= .bool (l.any fun f=>decide (f.At=x)):=by
 rw[b3e]
 cases (l.any fun f=>decide (f.At=x))<;>rfl
theorem Z2:∀(l:List Ld) (f:Ld),(l.any fun x=>decide (x.At=f.At))=false→y5 (lkv l) (ik f.At) (.bool true)=lkv (l++[f])
 |[],f,_=>rfl
 |x::l,f,h=>by
  simp only[List.any_cons,Bool.or_eq_false_iff,decide_eq_false_iff_not]at h;have ih:=Z2 l f h.2;simp only[lkv]at ih;simp only[lkv,List.map_cons,List.cons_append,y5];rw[if_neg (fun e=>h.1 (P1.1 e).symm),ih]
def ldB (g:Gr) (l:List Ld) (f:Ld):Bool:=inr f.At 0 (g.Nodes-1)&&inr f.Units (-40) 40&&inr f.Rank 0 100&& !(l.any fun x=>decide (x.At=f.At))
def a1V (g:Gr) (l:List Ld):Nat→Bool
 |0=>true
 |k+1=>a1V g l k&&(match l[k]? with|some f=>ldB g (l.take k) f|none=>true)
def w9 (g:Gr) (s:Sta) (l:List Ld):Bool:=grB g&&stB g s&&a1V g l l.length
theorem a8y {g:Gr} {s:Sta} {k:Nat} (h:a4V g s k=false):∀d,a4V g s (k+d)=false
 |0=>h
 |d+1=>by rw[←Nat.add_assoc];simp only[a4V,a8y h d,Bool.false_and]
theorem a8o {g:Gr} {l:List Ld} {k:Nat} (h:a1V g l k=false):∀d,a1V g l (k+d)=false
 |0=>h
 |d+1=>by rw[←Nat.add_assoc];simp only[a1V,a8o h d,Bool.false_and]
theorem b4H {g:Gr} {s:Sta} {l:List Ld} {k:Nat} {w:Wr} (hw:g.Wires[k]?=some w) (h:(w.Sw||bAt s.Wires k)=false):w9 g s l=false:=by
 have hk:=(List.getElem?_eq_some_iff.1 hw).1;have h1:a4V g s (k+1)=false:=by simp only[a4V,hw,h,Bool.and_false]
 have h2:=a8y h1 (g.Wires.length-(k+1));rw[show k+1+(g.Wires.length-(k+1))=g.Wires.length by omega]at h2;simp[w9,stB,h2]
theorem b2u {g:Gr} {s:Sta} {l:List Ld} {k:Nat} {f:Ld} (hf:l[k]?=some f) (h:ldB g (l.take k) f=false):w9 g s l=false:=by
 have hk:=(List.getElem?_eq_some_iff.1 hf).1;have h1:a1V g l (k+1)=false:=by simp only[a1V,hf,h,Bool.and_false]
 have h2:=a8o h1 (l.length-(k+1));rw[show k+1+(l.length-(k+1))=l.length by omega]at h2;simp[w9,h2]
@[simp] def ntC (g:Gr) (fe wi:AV):List AV:=g.cells++[fe,wi]
abbrev net (g:Gr) (s:Sta):AV:= .iptr (ntC g (bL s.Feeds) (bL s.Wires))
theorem c1Q (t:List Bool) (hne:t≠[]) (hn:t.length≤1000):N9 Try.prog 73 [bL t] 0 t.length 1 (t.map i8):=by
 have f1:C7 t.length 2:=k9 (by omega) (by omega);refine N9.of_body Try.func73 rfl (by decide) (by simp[Try.ntmps73]) (by simp) (by simpa using hne) ?_;simp only[Try.ntmps73,Try.results73];refine aS fun K hK=>?_;simp -dsimp;apply hK;clear hK K;refine d4 fun K1 hK1=>?_;refine aS fun K hK=>?_;simp -dsimp [hne];apply hK;clear hK K;refine d9 rfl (fun hc0=>?_) (fun hc0=>?_)
 ·simp at hc0
 ·refine f6 ?_;simp only[zT,reduceIte,Nat.reduceEqDiff];refine hK1 _ _ ?_;refine b8 [0] ?_;simp only[zP,Nat.reduceEqDiff,reduceIte];refine aS fun K hK=>?_;simp -dsimp [hne,f1];apply hK;clear hK K;exact g7 ⟨2,0,rfl,by simp,by simp⟩
theorem r7 {g:Gr} (h:grB g=true):1≤g.Nodes∧g.Nodes≤40∧g.Wires.length≤80∧g.Feeds.length≤12∧0≤g.Least∧g.Least≤1000:=by
 simp only[grB,grH,Bool.and_eq_true,decide_eq_true_eq,v9]at h;omega
theorem a6N (g:Gr) (s:Sta) (l:List Ld) (hl:l.length≤1000) (hfine:w9 g s l=false):d5 Try.prog 47 [g.av,s.av,lL l] (.tup [.v (.pointer none),Bo false]):=by
 refine d5.of_body Try.func47 rfl (by decide) (by simp[Try.ntmps47]) ?_;simp only[Try.ntmps47,Try.results47];refine aS fun K hK=>?_;simp -dsimp;apply hK;clear hK K;refine d4 fun K1 hK1=>?_;refine aS fun K hK=>?_;simp -dsimp [okE];refine d6 _ (a4N g) (by simp) ?_;simp -dsimp [okE];apply hK;clear hK K;refine d9 rfl (fun hc0=>?_) (fun hc0=>?_)
 ·refine aS fun K hK=>?_;simp -dsimp;apply hK;clear hK K;exact g7 (by simp)
 ·have hgo:grB g=true∧s.Feeds.length=g.Feeds.length∧s.Wires.length=g.Wires.length:=by
   cases hg:grB g with
   |false=>simp[hg]at hc0
   |true=>simp[hg]at hc0;exact⟨rfl,by omega,by omega⟩
  have hb:=r7 hgo.1;refine f6 ?_;simp only[zT,reduceIte,Nat.reduceEqDiff];refine hK1 _ _ ?_;refine b8 [2,3,4] ?_;simp only[zP,Nat.reduceEqDiff,reduceIte];refine d4 fun K2 hK2=>?_;refine aS fun K hK=>?_;simp -dsimp;apply hK;clear hK K;refine e7 ?_;refine b8 [2,3,4,35,36,37] ?_;simp only[zP,Nat.reduceEqDiff,reduceIte];refine g9 [2,3,4,35,36] (α:=Nat) (fun k=>[(37,I k)]) (fun k=>[some (.els 4 [g.cells]),some (.els 2 [s.cells])]) (fun k=>k≤g.Wires.length∧a4V g s k=true) (fun k=>g.Wires.length-k) 0 ?_ ?_ ?_
  ·exact⟨Nat.zero_le _,rfl⟩
  ·exact j7 (by simp)
  rintro k ⟨k1,k2⟩;simp only[zP,Nat.reduceEqDiff,reduceIte];refine aS fun K hK=>?_;simp -dsimp;apply hK;clear hK K;refine d4 fun K3 hK3=>?_;refine d9 rfl (fun hc1=>?_) (fun hc1=>?_)
  ·skip
   try simp at hc1
   obtain⟨w,hw⟩:∃w,g.Wires[k]?=some w:=⟨_,List.getElem?_eq_getElem hc1⟩;have wk:=zW k (by omega);have gb:=s7 (l:=s.Wires) (k:=k) (by omega);refine f6 ?_;simp only[zT,reduceIte,Nat.reduceEqDiff];refine hK3 _ _ ?_;refine b8 [2,3,4,35,36,37] ?_;simp only[zP,Nat.reduceEqDiff,reduceIte];refine d4 fun K4 hK4=>?_;refine e7 ?_;refine aS fun K hK=>?_;simp -dsimp [hw];apply hK;clear hK K;refine aS fun K hK=>?_;simp -dsimp [gb,hgo.2.2];refine j8 (i8 (bAt s.Wires k)) (fun _=>by simp[gb]) ?_;simp -dsimp [gb,hgo.2.2];apply hK;clear hK K;refine d9 rfl (fun hc2=>?_) (fun hc2=>?_)
   ·skip
    try simp at hc2
    refine aS fun K hK=>?_;simp -dsimp;apply hK;clear hK K;exact g7 (by simp)
   ·skip
    try simp at hc2
    refine f6 ?_;simp only[zT,reduceIte,Nat.reduceEqDiff];refine hK4 _ _ ?_;refine b8 [2,3,4,35,36,37] ?_;simp only[zP,Nat.reduceEqDiff,reduceIte];refine aR fun K hK=>?_;simp -dsimp [wk];apply hK;clear hK K;simp only[zT,reduceIte,Nat.reduceEqDiff];refine⟨k+1,⟨by omega,?_⟩,by omega,e8 [some 0,some 1] rfl (by simp) (by simp)⟩;simp only[a4V,k2,hw,Bool.true_and]
    cases hw1:w.Sw<;>cases hb1:bAt s.Wires k<;>simp[hw1,hb1]at hc2 ⊢
  ·skip
   try simp at hc1
   have hke:k=g.Wires.length:=by omega
   subst hke;refine j9 ?_;simp only[zT,reduceIte,Nat.reduceEqDiff];refine hK2 _ _ ?_;refine b8 [2,3,4] ?_;simp only[zP,Nat.reduceEqDiff,reduceIte];refine aS fun K hK=>?_;simp -dsimp;apply hK;clear hK K;refine d4 fun K5 hK5=>?_;refine aS fun K hK=>?_;simp -dsimp;apply hK;clear hK K;refine e7 ?_;refine b8 [3,4,10,55,56,57] ?_;simp only[zP,Nat.reduceEqDiff,reduceIte];refine g9 [3,4,10,55,56] (α:=Nat) (fun k=>[(57,I k)]) (fun k=>[some (.els 4 [g.cells]),some (.els 2 [s.cells]),some (.map false [.i .i64] (lkv (l.take k)))]) (fun k=>k≤l.length∧a1V g l k=true) (fun k=>l.length-k) 0 ?_ ?_ ?_
   ·exact⟨Nat.zero_le _,rfl⟩
   ·exact e8 [some 0,some 1,some 2] rfl (by simp) (by simp[lkv])
   rintro i ⟨i1,i2⟩;simp only[zP,Nat.reduceEqDiff,reduceIte];refine aS fun K hK=>?_;simp -dsimp;apply hK;clear hK K;refine d4 fun K6 hK6=>?_;refine d9 rfl (fun hc3=>?_) (fun hc3=>?_)
   ·skip
    try simp at hc3
    obtain⟨f,hf⟩:∃f,l[i]?=some f:=⟨_,List.getElem?_eq_getElem hc3⟩;have wi:=zW i (by omega);have wn:IntKind.i64.wrap (g.Nodes-1)=g.Nodes-1:=i7 (by omega) (by omega);refine f6 ?_;simp only[zT,reduceIte,Nat.reduceEqDiff];refine hK6 _ _ ?_;refine b8 [3,4,10,55,56,57] ?_;simp only[zP,Nat.reduceEqDiff,reduceIte];refine d4 fun K7 hK7=>?_;refine e7 ?_;refine aS fun K hK=>?_;simp -dsimp [hf];apply hK;clear hK K;refine d4 fun K8 hK8=>?_;refine aS fun K hK=>?_;simp -dsimp [wn,s8];refine d6 _ (s5 _ _ _) (by simp) ?_;simp -dsimp [wn,s8];refine f8 _ (fun hm=>s5 f.Units (-40) 40) (by simp) ?_;simp -dsimp [wn,s8];refine f8 _ (fun hm=>s5 f.Rank 0 100) (by simp) ?_;simp -dsimp [wn,s8];refine p6 (_) (fun hm=>rfl) ?_;simp -dsimp [wn,s8];apply hK;clear hK K;refine d9 rfl (fun hc4=>?_) (fun hc4=>?_)
    ·have hfd:ldB g (l.take i) f= !(!inr f.At 0 (g.Nodes-1)|| !inr f.Units (-40) 40|| !inr f.Rank 0 100||((l.take i).any fun x=>decide (x.At=f.At))):=by
      simp only[ldB]
      cases inr f.At 0 (g.Nodes-1)<;>cases inr f.Units (-40) 40<;>cases inr f.Rank 0 100<;>cases ((l.take i).any fun x=>decide (x.At=f.At))<;>rfl
     refine aS fun K hK=>?_;simp -dsimp;apply hK;clear hK K;exact g7 (by simp)
    ·have hfd:ldB g (l.take i) f= !(!inr f.At 0 (g.Nodes-1)|| !inr f.Units (-40) 40|| !inr f.Rank 0 100||((l.take i).any fun x=>decide (x.At=f.At))):=by
      simp only[ldB]
      cases inr f.At 0 (g.Nodes-1)<;>cases inr f.Units (-40) 40<;>cases inr f.Rank 0 100<;>cases ((l.take i).any fun x=>decide (x.At=f.At))<;>rfl
     have hany:((l.take i).any fun x=>decide (x.At=f.At))=false:=by
      cases h:((l.take i).any fun x=>decide (x.At=f.At))with
      |false=>rfl
      |true=>rw[h]at hc4;simp at hc4
     refine f6 ?_;simp only[zT,reduceIte,Nat.reduceEqDiff];refine hK8 _ _ ?_;refine b8 [3,4,10,12,55,56,57] ?_;simp only[zP,Nat.reduceEqDiff,reduceIte];refine aR fun K hK=>?_;simp -dsimp [Z2 _ _ hany];apply hK;clear hK K;simp only[zT,reduceIte,Nat.reduceEqDiff];refine hK7 _ _ ?_;refine b8 [3,4,10,55,56,57] ?_;simp only[zP,Nat.reduceEqDiff,reduceIte];refine aR fun K hK=>?_;simp -dsimp [wi];apply hK;clear hK K;simp only[zT,reduceIte,Nat.reduceEqDiff];refine⟨i+1,⟨by omega,?_⟩,by omega,e8 [some 0,some 1,some 2] rfl (by simp) (by simp[List.take_add_one,hf])⟩;simp only[a1V,i2,hf,hfd,hc4];rfl
   ·skip
    try simp at hc3
    have hie:i=l.length:=by omega
    subst hie;exfalso;simp[w9,stB,hgo.1,hgo.2.1,hgo.2.2,k2,i2]at hfine
theorem a2a (g:Gr) (s:Sta) (l:List Ld) (hl:l.length≤1000) (hfine:w9 g s l=true):d5 Try.prog 47 [g.av,s.av,lL l] (.tup [net g s,Bo true]):=by
 have hfine0:=hfine;simp only[w9,stB,Bool.and_eq_true,decide_eq_true_eq]at hfine0;have hgo:grB g=true∧s.Feeds.length=g.Feeds.length∧s.Wires.length=g.Wires.length:=⟨hfine0.1.1,hfine0.1.2.1.1,hfine0.1.2.1.2⟩;refine d5.of_body Try.func47 rfl (by decide) (by simp[Try.ntmps47]) ?_;simp only[Try.ntmps47,Try.results47];refine aS fun K hK=>?_;simp -dsimp;apply hK;clear hK K;refine d4 fun K1 hK1=>?_;refine aS fun K hK=>?_;simp -dsimp [okE];refine d6 _ (a4N g) (by simp) ?_;simp -dsimp [okE];apply hK;clear hK K;refine d9 rfl (fun hc0=>?_) (fun hc0=>?_)
 ·exfalso;simp[hgo.1,hgo.2.1,hgo.2.2]at hc0
 ·have hb:=r7 hgo.1;refine f6 ?_;simp only[zT,reduceIte,Nat.reduceEqDiff];refine hK1 _ _ ?_;refine b8 [2,3,4] ?_;simp only[zP,Nat.reduceEqDiff,reduceIte];refine d4 fun K2 hK2=>?_;refine aS fun K hK=>?_;simp -dsimp;apply hK;clear hK K;refine e7 ?_;refine b8 [2,3,4,35,36,37] ?_;simp only[zP,Nat.reduceEqDiff,reduceIte];refine g9 [2,3,4,35,36] (α:=Nat) (fun k=>[(37,I k)]) (fun k=>[some (.els 4 [g.cells]),some (.els 2 [s.cells])]) (fun k=>k≤g.Wires.length∧a4V g s k=true) (fun k=>g.Wires.length-k) 0 ?_ ?_ ?_
  ·exact⟨Nat.zero_le _,rfl⟩
  ·exact j7 (by simp)
  rintro k ⟨k1,k2⟩;simp only[zP,Nat.reduceEqDiff,reduceIte];refine aS fun K hK=>?_;simp -dsimp;apply hK;clear hK K;refine d4 fun K3 hK3=>?_;refine d9 rfl (fun hc1=>?_) (fun hc1=>?_)
  ·skip
   try simp at hc1
   obtain⟨w,hw⟩:∃w,g.Wires[k]?=some w:=⟨_,List.getElem?_eq_getElem hc1⟩;have wk:=zW k (by omega);have gb:=s7 (l:=s.Wires) (k:=k) (by omega);refine f6 ?_;simp only[zT,reduceIte,Nat.reduceEqDiff];refine hK3 _ _ ?_;refine b8 [2,3,4,35,36,37] ?_;simp only[zP,Nat.reduceEqDiff,reduceIte];refine d4 fun K4 hK4=>?_;refine e7 ?_;refine aS fun K hK=>?_;simp -dsimp [hw];apply hK;clear hK K;refine aS fun K hK=>?_;simp -dsimp [gb,hgo.2.2];refine j8 (i8 (bAt s.Wires k)) (fun _=>by simp[gb]) ?_;simp -dsimp [gb,hgo.2.2];apply hK;clear hK K;refine d9 rfl (fun hc2=>?_) (fun hc2=>?_)
   ·exfalso;have hfl:(w.Sw||bAt s.Wires k)=false:=by cases hw1:w.Sw<;>cases hb1:bAt s.Wires k<;>simp[hw1,hb1]at hc2 ⊢
    rw[b4H hw hfl]at hfine;cases hfine
   ·refine f6 ?_;simp only[zT,reduceIte,Nat.reduceEqDiff];refine hK4 _ _ ?_;refine b8 [2,3,4,35,36,37] ?_;simp only[zP,Nat.reduceEqDiff,reduceIte];refine aR fun K hK=>?_;simp -dsimp [wk];apply hK;clear hK K;simp only[zT,reduceIte,Nat.reduceEqDiff];refine⟨k+1,⟨by omega,?_⟩,by omega,e8 [some 0,some 1] rfl (by simp) (by simp)⟩;simp only[a4V,k2,hw,Bool.true_and]
    cases hw1:w.Sw<;>cases hb1:bAt s.Wires k<;>simp[hw1,hb1]at hc2 ⊢
  ·skip
   try simp at hc1
   have hke:k=g.Wires.length:=by omega
   subst hke;refine j9 ?_;simp only[zT,reduceIte,Nat.reduceEqDiff];refine hK2 _ _ ?_;refine b8 [2,3,4] ?_;simp only[zP,Nat.reduceEqDiff,reduceIte];refine aS fun K hK=>?_;simp -dsimp;apply hK;clear hK K;refine d4 fun K5 hK5=>?_;refine aS fun K hK=>?_;simp -dsimp;apply hK;clear hK K;refine e7 ?_;refine b8 [3,4,10,55,56,57] ?_;simp only[zP,Nat.reduceEqDiff,reduceIte];refine g9 [3,4,10,55,56] (α:=Nat) (fun k=>[(57,I k)]) (fun k=>[some (.els 4 [g.cells]),some (.els 2 [s.cells]),some (.map false [.i .i64] (lkv (l.take k)))]) (fun k=>k≤l.length∧a1V g l k=true) (fun k=>l.length-k) 0 ?_ ?_ ?_
   ·exact⟨Nat.zero_le _,rfl⟩
   ·exact e8 [some 0,some 1,some 2] rfl (by simp) (by simp[lkv])
   rintro i ⟨i1,i2⟩;simp only[zP,Nat.reduceEqDiff,reduceIte];refine aS fun K hK=>?_;simp -dsimp;apply hK;clear hK K;refine d4 fun K6 hK6=>?_;refine d9 rfl (fun hc3=>?_) (fun hc3=>?_)
   ·skip
    try simp at hc3
    obtain⟨f,hf⟩:∃f,l[i]?=some f:=⟨_,List.getElem?_eq_getElem hc3⟩;have wi:=zW i (by omega);have wn:IntKind.i64.wrap (g.Nodes-1)=g.Nodes-1:=i7 (by omega) (by omega);refine f6 ?_;simp only[zT,reduceIte,Nat.reduceEqDiff];refine hK6 _ _ ?_;refine b8 [3,4,10,55,56,57] ?_;simp only[zP,Nat.reduceEqDiff,reduceIte];refine d4 fun K7 hK7=>?_;refine e7 ?_;refine aS fun K hK=>?_;simp -dsimp [hf];apply hK;clear hK K;refine d4 fun K8 hK8=>?_;refine aS fun K hK=>?_;simp -dsimp [wn,s8];refine d6 _ (s5 _ _ _) (by simp) ?_;simp -dsimp [wn,s8];refine f8 _ (fun hm=>s5 f.Units (-40) 40) (by simp) ?_;simp -dsimp [wn,s8];refine f8 _ (fun hm=>s5 f.Rank 0 100) (by simp) ?_;simp -dsimp [wn,s8];refine p6 (_) (fun hm=>rfl) ?_;simp -dsimp [wn,s8];apply hK;clear hK K;refine d9 rfl (fun hc4=>?_) (fun hc4=>?_)
    ·have hfd:ldB g (l.take i) f= !(!inr f.At 0 (g.Nodes-1)|| !inr f.Units (-40) 40|| !inr f.Rank 0 100||((l.take i).any fun x=>decide (x.At=f.At))):=by
      simp only[ldB]
      cases inr f.At 0 (g.Nodes-1)<;>cases inr f.Units (-40) 40<;>cases inr f.Rank 0 100<;>cases ((l.take i).any fun x=>decide (x.At=f.At))<;>rfl
     exfalso;rw[b2u hf (by rw[hfd,hc4];rfl)]at hfine;cases hfine
    ·have hfd:ldB g (l.take i) f= !(!inr f.At 0 (g.Nodes-1)|| !inr f.Units (-40) 40|| !inr f.Rank 0 100||((l.take i).any fun x=>decide (x.At=f.At))):=by
      simp only[ldB]
      cases inr f.At 0 (g.Nodes-1)<;>cases inr f.Units (-40) 40<;>cases inr f.Rank 0 100<;>cases ((l.take i).any fun x=>decide (x.At=f.At))<;>rfl
     have hany:((l.take i).any fun x=>decide (x.At=f.At))=false:=by
      cases h:((l.take i).any fun x=>decide (x.At=f.At))with
      |false=>rfl
      |true=>rw[h]at hc4;simp at hc4
     refine f6 ?_;simp only[zT,reduceIte,Nat.reduceEqDiff];refine hK8 _ _ ?_;refine b8 [3,4,10,12,55,56,57] ?_;simp only[zP,Nat.reduceEqDiff,reduceIte];refine aR fun K hK=>?_;simp -dsimp [Z2 _ _ hany];apply hK;clear hK K;simp only[zT,reduceIte,Nat.reduceEqDiff];refine hK7 _ _ ?_;refine b8 [3,4,10,55,56,57] ?_;simp only[zP,Nat.reduceEqDiff,reduceIte];refine aR fun K hK=>?_;simp -dsimp [wi];apply hK;clear hK K;simp only[zT,reduceIte,Nat.reduceEqDiff];refine⟨i+1,⟨by omega,?_⟩,by omega,e8 [some 0,some 1,some 2] rfl (by simp) (by simp[List.take_add_one,hf])⟩;simp only[a1V,i2,hf,hfd,hc4];rfl
   ·skip
    try simp at hc3
    refine j9 ?_;simp only[zT,reduceIte,Nat.reduceEqDiff];refine hK5 _ _ ?_;refine b8 [3,4] ?_;simp only[zP,Nat.reduceEqDiff,reduceIte];refine v5 l6 rfl fun K hK=>?_;simp -dsimp;refine d6 _ (v7 s.Feeds (by omega)) (by simp) ?_;simp -dsimp;refine d6 _ (v7 s.Wires (by omega)) (by simp) ?_;simp -dsimp;refine hK _ _ _ (by decide+kernel) ?_;clear hK K;exact g7 (by simp)
end Go.Cur
end
section
namespace Go.Cur
open Go.AM Go.Proofs
theorem b9S {nt:Nat} {T:Tm} {H:Hp} (g:List (Option Nat)) (hn:u6 g=true):Go.AM.Sub nt T H (T.map fun p=>(p.1,R7 (m7 H) g 3 (Go.AM.m6 T p.1))) (a0t H g):=by
 refine B5 g hn ?_ rfl;have gen:∀(T':Tm),a1p H g T (T'.map fun p=>(p.1,R7 (m7 H) g 3 (Go.AM.m6 T p.1))):=by
  intro T'
  induction T' with
  |nil=>trivial
  |cons p T' ih=>exact⟨Or.inr rfl,ih⟩
 exact gen T
def tkS (s:List (List KC×Value)) (p:Ld×Bool):List (List KC×Value):=if p.2 then y5 s (ik p.1.At) (.int .i64 p.1.Units)else s
def tkK (l:List Ld) (sv:List Bool):List (List KC×Value):=(l.zip sv).foldl tkS []
def b1o (x:Int) (c:Int) (p:Ld×Bool):Int:=if p.2=true∧p.1.At=x then p.1.Units else c
def cur (l:List Ld) (sv:List Bool) (x:Int):Int:=(l.zip sv).foldl (b1o x) 0
theorem a4E (l:List Ld) (sv:List Bool):a1s (tkK l sv):=by
 have gen:∀(l:List (Ld×Bool)) (s:List (List KC×Value)),a1s s→a1s (l.foldl tkS s):=by
  intro l
  induction l with
  |nil=>intro s h;exact h
  |cons w l ih=>
   intro s h;refine ih _ ?_;unfold tkS
   split
   ·exact h.set _ _
   ·exact h
 exact gen _ [] a1s.nil
theorem a2G (l:List Ld) (sv:List Bool) (x:Int):igt (tkK l sv) x=cur l sv x:=by
 have gen:∀(l:List (Ld×Bool)) (s:List (List KC×Value)),igt (l.foldl tkS s) x=l.foldl (b1o x) (igt s x):=by
  intro l
  induction l with
  |nil=>intro s;rfl
  | cons w l ih=>
   intro s;rw[List.foldl_cons,List.foldl_cons,ih]
   congr 1
   unfold tkS b1o
   by_cases h:w.2=true
   ·rw[if_pos h,a3j]
    by_cases hx:w.1.At=x
    ·rw[if_pos hx.symm,if_pos ⟨h,hx⟩]
    ·rw[if_neg (fun e=>hx e.symm),if_neg (fun e=>hx e.2)]
   ·rw[if_neg h,if_neg (fun e=>h e.1)]
 exact gen _ []
theorem a9M {l:List Ld} {sv:List Bool} {k:Nat} {f:Ld} {b:Bool} (hl:l[k]?=some f) (hs:sv[k]?=some b):tkK (l.take (k+1)) (sv.take (k+1))=tkS (tkK (l.take k) (sv.take k)) (f,b):=by
 have hk:=(List.getElem?_eq_some_iff.1 hl).1;have hk2:=(List.getElem?_eq_some_iff.1 hs).1;unfold tkK;rw[List.take_add_one,List.take_add_one,hl,hs,List.zip_append (by simp;omega)];simp
theorem b6w {n k:Nat} (h:k<n):(List.replicate n true)[k]?=some true:=by simp[h]
theorem b0V (l:List Ld) (sv:List Bool) (hl:l.length≤1000) (hs:∀k,k<l.length→sv[k]?=some true) (hsl:sv.take l.length=sv):d5 Try.prog 50 [lL l, .v (.slice none 0 0)] (.mpc false [.i .i64] (tkK l sv)):=by
 refine d5.of_body Try.func50 rfl (by decide) (by simp[Try.ntmps50]) ?_;simp only[Try.ntmps50,Try.results50];refine aS fun K hK=>?_;simp -dsimp;apply hK;clear hK K;refine aS fun K hK=>?_;simp -dsimp;apply hK;clear hK K;refine d4 fun K1 hK1=>?_;refine aS fun K hK=>?_;simp -dsimp;apply hK;clear hK K;refine e7 ?_;refine b8 [1,5,9,10,11] ?_;simp only[zP,Nat.reduceEqDiff,reduceIte];refine g9 [1,5,9,10] (α:=Nat) (fun k=>[(11,I k)]) (fun k=>[some (.map false [.i .i64] (tkK (l.take k) (sv.take k)))]) (fun k=>k≤l.length) (fun k=>l.length-k) 0 ?_ ?_ ?_
 ·exact Nat.zero_le _
 ·exact j7 (by simp[tkK])
 rintro k k1;simp only[zP,Nat.reduceEqDiff,reduceIte];refine aS fun K hK=>?_;simp -dsimp;apply hK;clear hK K;refine d4 fun K2 hK2=>?_;refine d9 rfl (fun hc0=>?_) (fun hc0=>?_)
 ·skip
  try simp at hc0
  obtain⟨f,hf⟩:∃f,l[k]?=some f:=⟨_,List.getElem?_eq_getElem hc0⟩;have wk:=zW k (by omega);have hsn:=a9M hf (hs k hc0);refine f6 ?_;simp only[zT,reduceIte,Nat.reduceEqDiff];refine hK2 _ _ ?_;refine b8 [1,5,9,10,11] ?_;simp only[zP,Nat.reduceEqDiff,reduceIte];refine d4 fun K3 hK3=>?_;refine e7 ?_;refine aS fun K hK=>?_;simp -dsimp [hf];apply hK;clear hK K;refine aS fun K hK=>?_;simp -dsimp;apply hK;clear hK K;refine d9 rfl (fun hc1=>?_) (fun hc1=>?_)
  ·refine aR fun K hK=>?_;simp -dsimp;apply hK;clear hK K;simp only[zT,reduceIte,Nat.reduceEqDiff];refine hK3 _ _ ?_;refine b8 [1,5,9,10,11] ?_;simp only[zP,Nat.reduceEqDiff,reduceIte];refine aR fun K hK=>?_;simp -dsimp [wk];apply hK;clear hK K;simp only[zT,reduceIte,Nat.reduceEqDiff];exact⟨k+1,by omega,by omega,e8 [some 0] rfl (by simp) (by simp[hsn,tkS])⟩
  ·simp at hc1
 ·skip
  try simp at hc0
  have hke:k=l.length:=by omega
  subst hke;refine j9 ?_;simp only[zT,reduceIte,Nat.reduceEqDiff];refine hK1 _ _ ?_;refine b8 [5] ?_;simp only[zP,Nat.reduceEqDiff,reduceIte];refine aS fun K hK=>?_;simp -dsimp;apply hK;clear hK K;exact g7 (by simp[hsl])
theorem b3u (l:List Ld) (hl:l.length≤1000):d5 Try.prog 50 [lL l, .v (.slice none 0 0)] (.mpc false [.i .i64] (tkK l (List.replicate l.length true))):=b0V l _ hl (fun k hk=>b6w hk) (by simp)
theorem c2m (l:List Int) (f:FuncId) (cl:List (List AV)) (q:Int→Bool) (h:∀x∈l,d5 Try.prog f (I x::a5V cl) (Bo (q x))) (hl:l.length≤1000):d5 Try.prog 89 [iL l, .clo f (a5V cl)] (iL (l.filter q)):=by
 refine d5.of_body Try.func89 rfl (by decide) (by simp[Try.ntmps89]) ?_;simp only[Try.ntmps89,Try.results89];refine aS fun K hK=>?_;simp -dsimp;apply hK;clear hK K;refine aS fun K hK=>?_;simp -dsimp;apply hK;clear hK K;refine d4 fun K1 hK1=>?_;refine aS fun K hK=>?_;simp -dsimp;apply hK;clear hK K;refine e7 ?_;refine b8 [1,5,8,9,10] ?_;simp only[zP,Nat.reduceEqDiff,reduceIte];refine g9 [1,8,9] (α:=Nat) (fun k=>[(5, .row 0 0 ((l.take k).filter q).length),(10,I k)]) (fun k=>[some (.els 1 (((l.take k).filter q).map i9))]) (fun k=>k≤l.length) (fun k=>l.length-k) 0 ?_ ?_ ?_
 ·exact Nat.zero_le _
 ·exact(z8 5 1 (by simp)).trans (j7 (by simp))
 rintro k k1;simp only[zP,Nat.reduceEqDiff,reduceIte];refine aS fun K hK=>?_;simp -dsimp;apply hK;clear hK K;refine d4 fun K2 hK2=>?_;refine d9 rfl (fun hc0=>?_) (fun hc0=>?_)
 ·skip
  try simp at hc0
  obtain⟨x,hx⟩:∃x,l[k]?=some x:=⟨_,List.getElem?_eq_getElem hc0⟩;have wk:=zW k (by omega);have hfl:((l.take k).filter q).length≤k:=by have:=List.length_filter_le q (l.take k);rw[List.length_take]at this;omega
  have hfs:(l.take (k+1)).filter q=(l.take k).filter q++if q x then [x]else []:=by rw[List.take_add_one,hx,List.filter_append];cases hq:q x<;>simp[hq]
  have f1:C7 (((l.take k).filter q).length+1) 9:=k9 (by omega) (by omega);generalize (l.take k).filter q=L at hfs hfl f1 ⊢;refine f6 ?_;simp only[zT,reduceIte,Nat.reduceEqDiff];refine hK2 _ _ ?_;refine b8 [1,5,8,9,10] ?_;simp only[zP,Nat.reduceEqDiff,reduceIte];refine d4 fun K3 hK3=>?_;refine e7 ?_;refine aS fun K hK=>?_;simp -dsimp [hx];apply hK;clear hK K;refine aS fun K hK=>?_;simp -dsimp;refine d6 _ (h x (List.mem_of_getElem? hx)) (by simp) ?_;simp -dsimp;apply hK;clear hK K;refine d9 rfl (fun hc1=>?_) (fun hc1=>?_)
  ·refine aR fun K hK=>?_;simp -dsimp [f1];apply hK;clear hK K;simp only[zT,reduceIte,Nat.reduceEqDiff];refine hK3 _ _ ?_;refine b8 [1,5,8,9,10] ?_;simp only[zP,Nat.reduceEqDiff,reduceIte];refine aR fun K hK=>?_;simp -dsimp [wk];apply hK;clear hK K;simp only[zT,reduceIte,Nat.reduceEqDiff];exact⟨k+1,by omega,by omega,e8 [some 1] rfl (by simp[hfs,hc1]) (by simp[hfs,hc1])⟩
  ·refine f6 ?_;simp only[zT,reduceIte,Nat.reduceEqDiff];refine hK3 _ _ ?_;refine b8 [1,5,8,9,10] ?_;simp only[zP,Nat.reduceEqDiff,reduceIte];refine aR fun K hK=>?_;simp -dsimp [wk];apply hK;clear hK K;simp only[zT,reduceIte,Nat.reduceEqDiff];exact⟨k+1,by omega,by omega,e8 [some 0] rfl (by simp[hfs,hc1]) (by simp[hfs,hc1])⟩
 ·skip
  try simp at hc0
  have hke:k=l.length:=by omega
  subst hke;refine j9 ?_;simp only[zT,reduceIte,Nat.reduceEqDiff];refine hK1 _ _ ?_;refine b8 [5] ?_;simp only[zP,Nat.reduceEqDiff,reduceIte];refine aS fun K hK=>?_;simp -dsimp;apply hK;clear hK K;exact g7 (by simp)
def fdI (g:Gr) (i:Int):Fd:=(g.Feeds[i.toNat]?).getD default
theorem M7 {g:Gr} {i:Int} (h0:0≤i) (h1:i<g.Feeds.length):g.Feeds[i.toNat]?=some (fdI g i):=by
 unfold fdI;rw[List.getElem?_eq_getElem (by omega)];rfl
def upI (n:Nat):List Int:=(List.range n).map fun(k:Nat)=>(k:Int)
theorem a5D {n:Nat} {i:Int}:i∈upI n↔0≤i∧i<n:=by
 simp only[upI,List.mem_map,List.mem_range];constructor
 ·rintro⟨k,hk,rfl⟩;omega
 ·rintro⟨h0,h1⟩;exact⟨i.toNat,by omega,by omega⟩
theorem J3 (n:Nat):(upI n).length=n:=by simp[upI]
@[simp] theorem c2B (n:Nat):List.take n ((upI n).map i9)=(upI n).map i9:=List.take_of_length_le (by simp[J3])
theorem a4C (n:Nat):upI (n+1)=upI n++[(n:Int)]:=by simp[upI,List.range_succ]
def a1K (g:Gr) (s:Sta) (part:List Int) (i:Int):Bool:=bAt s.Feeds i.toNat&&decide ((fdI g i).At∈part)
def n8 (g:Gr) (s:Sta) (part:List Int):List Int:=(upI g.Feeds.length).filter (a1K g s part)
theorem b6B (g:Gr) (s:Sta) (part:List Int) (i:Int) (hs:s.Feeds.length=g.Feeds.length) (hp:part.length≤1000) (h0:0≤i) (h1:i<g.Feeds.length):
  d5 Try.prog 90 (I i::a5V [[net g s],[iL part]]) (Bo (a1K g s part i)):=by
 show d5 Try.prog 90 [I i, .iptr [net g s], .iptr [iL part]] (Bo (a1K g s part i));have gb:=s7 (l:=s.Feeds) (k:=i.toNat) (by omega);have gf:=M7 h0 h1;refine d5.of_body Try.func90 rfl (by decide) (by simp[Try.ntmps90]) ?_;simp only[Try.ntmps90,Try.results90];refine aS fun K hK=>?_;simp -dsimp;apply hK;clear hK K;refine v5 l6 rfl fun K hK=>?_;simp -dsimp [gb,gf,h0];refine j8 (fdI g i).cells (fun _=>by simp[gf]) ?_;simp -dsimp [gb,gf,h0];refine f8 _ (fun hm=>a4i part (fdI g i).At (by omega)) (by simp) ?_;simp -dsimp [gb,gf,h0];refine hK _ _ _ (by decide+kernel) ?_;clear hK K;exact g7 (by simp[a1K])
theorem a8t (g:Gr) (s:Sta) (part:List Int) (hs:s.Feeds.length=g.Feeds.length) (hp:part.length≤1000) (hn:g.Feeds.length≤1000):
  d5 Try.prog 70 [net g s,iL part] (iL (n8 g s part)):=by
 have hk:=c2m (upI g.Feeds.length) 90 [[net g s],[iL part]] (a1K g s part) (fun x hx=>b6B g s part x hs hp (a5D.1 hx).1 (a5D.1 hx).2) (by rw[J3];omega);refine d5.of_body Try.func70 rfl (by decide) (by simp[Try.ntmps70]) ?_;simp only[Try.ntmps70,Try.results70];refine aS fun K hK=>?_;simp -dsimp;apply hK;clear hK K;refine aS fun K hK=>?_;simp -dsimp;apply hK;clear hK K;refine d4 fun K1 hK1=>?_;refine aS fun K hK=>?_;simp -dsimp;apply hK;clear hK K;refine e7 ?_;refine b8 [2,3,5,12,13] ?_;simp only[zP,Nat.reduceEqDiff,reduceIte];refine g9 [2,3,12] (α:=Nat) (fun k=>[(5, .row 2 0 k),(13,I k)]) (fun k=>[some (.els 1 [[net g s]]),some (.els 1 [[iL part]]),some (.els 1 ((upI k).map i9))]) (fun k=>k≤g.Feeds.length) (fun k=>g.Feeds.length-k) 0 ?_ ?_ ?_
 ·exact Nat.zero_le _
 ·exact(z8 5 1 (by simp)).trans (j7 (by simp[upI]))
 rintro k k1;simp only[zP,Nat.reduceEqDiff,reduceIte];refine aS fun K hK=>?_;simp -dsimp;apply hK;clear hK K;refine d4 fun K2 hK2=>?_;refine d9 rfl (fun hc0=>?_) (fun hc0=>?_)
 ·skip
  try simp at hc0
  have wk:=zW k (by omega);have f1:C7 (k+1) 9:=k9 (by omega) (by omega);refine f6 ?_;simp only[zT,reduceIte,Nat.reduceEqDiff];refine hK2 _ _ ?_;refine b8 [2,3,5,12,13] ?_;simp only[zP,Nat.reduceEqDiff,reduceIte];refine d4 fun K3 hK3=>?_;refine e7 ?_;refine aS fun K hK=>?_;simp -dsimp;apply hK;clear hK K;refine aR fun K hK=>?_;simp -dsimp [f1,J3,a4C];apply hK;clear hK K;simp only[zT,reduceIte,Nat.reduceEqDiff];refine hK3 _ _ ?_;refine b8 [2,3,5,12,13] ?_;simp only[zP,Nat.reduceEqDiff,reduceIte];refine aR fun K hK=>?_;simp -dsimp [wk];apply hK;clear hK K;simp only[zT,reduceIte,Nat.reduceEqDiff];exact⟨k+1,by omega,by omega,e8 [some 0,some 1,some 3] rfl (by simp) (by simp[a4C,J3])⟩
 ·skip
  try simp at hc0
  have hke:k=g.Feeds.length:=by omega
  subst hke;refine a0a (b9S [] rfl) ?_;simp;refine j9 ?_;simp only[zT,reduceIte,Nat.reduceEqDiff];refine hK1 _ _ ?_;refine b8 [2,3,5] ?_;simp only[zP,Nat.reduceEqDiff,reduceIte];refine aS fun K hK=>?_;simp -dsimp [J3];refine d6 _ (hk) (by simp) ?_;simp -dsimp [J3];apply hK;clear hK K;exact g7 (by simp[n8])
def red (n d:Int):Fr:=⟨n/Int.gcd n d,d/Int.gcd n d⟩
theorem a7Y {n d:Int} (hd:0<d):∃a b g:Int,0<g∧(Int.gcd n d:Int)=g∧n=g*a∧d=g*b:=by
 obtain⟨a,ha⟩:=Int.gcd_dvd_left n d;obtain⟨b,hb⟩:=Int.gcd_dvd_right n d;refine⟨a,b,Int.gcd n d,?_,rfl,ha,hb⟩;have:0<Int.gcd n d:=Int.gcd_pos_of_ne_zero_right _ (by omega);omega
theorem b3c {n d:Int} (hd:0<d) (h1:-9223372036854775807≤n) (h2:n≤9223372036854775807) (h3:d≤9223372036854775807):
  0<(Int.gcd n d:Int)∧IntKind.i64.wrap (n.tdiv (Int.gcd n d))=(red n d).Num∧IntKind.i64.wrap (d.tdiv (Int.gcd n d))=(red n d).Den:=by
 obtain⟨a,b,g,hg,e,ha,hb⟩:=a7Y (n:=n) hd;have ea:n.tdiv g=a:=by rw[ha];exact Int.mul_tdiv_cancel_left _ (by omega)
 have eb:d.tdiv g=b:=by rw[hb];exact Int.mul_tdiv_cancel_left _ (by omega)
 have ea':n/g=a:=by rw[ha];exact Int.mul_ediv_cancel_left _ (by omega)
 have eb':d/g=b:=by rw[hb];exact Int.mul_ediv_cancel_left _ (by omega)
 have hb0:0<b:=by
  refine Int.not_le.1 fun h=>?_;have:=Int.mul_nonpos_of_nonneg_of_nonpos (Int.le_of_lt hg) h;omega
 have hbd:b≤d:=by
  have:=Int.mul_le_mul_of_nonneg_right (show(1:Int)≤g by omega) (Int.le_of_lt hb0);omega
 have hna:a.natAbs≤n.natAbs:=by
  rw[ha,Int.natAbs_mul];exact Nat.le_mul_of_pos_left _ (by omega)
 unfold red;rw[e,ea,eb,ea',eb'];exact⟨hg,i7 (by omega) (by omega),i7 (by omega) (by omega)⟩
theorem a8Z {a b:Nat} (hb:¬b=0):Nat.gcd b (a % b)=Nat.gcd a b:=by
 rw[Nat.gcd_comm a b,Nat.gcd_rec b a,Nat.gcd_comm]
theorem a3L (n d:Int) (hd:0<d) (h1:-9223372036854775807≤n) (h2:n≤9223372036854775807) (h3:d≤9223372036854775807):d5 Try.prog 72 [I n,I d] (red n d).av:=by
 have wn:IntKind.i64.wrap (-n)=-n:=i7 (by omega) (by omega);have hmx:(if n< -n then-n else n)=(n.natAbs:Int):=by split<;>omega
 obtain⟨hg,q1,q2⟩:=b3c hd h1 h2 h3;refine d5.of_body Try.func72 rfl (by decide) (by simp[Try.ntmps72]) ?_;simp only[Try.ntmps72,Try.results72];refine aS fun K hK=>?_;simp -dsimp;apply hK;clear hK K;refine aS fun K hK=>?_;simp -dsimp [wn,hmx];apply hK;clear hK K;refine d4 fun K1 hK1=>?_;refine e7 ?_;refine b8 [0,1,4,5,6] ?_;simp only[zP,Nat.reduceEqDiff,reduceIte];refine g9 [0,1,4] (α:=Nat×Nat) (fun x=>[(5,I x.1),(6,I x.2)]) (fun _=>[some (.els 2 [[I 0,I 0]])]) (fun x=>Nat.gcd x.1 x.2=Int.gcd n d) (fun x=>x.2) (n.natAbs,d.toNat) ?_ ?_ ?_
 ·simp only[Int.gcd];congr 1;omega
 ·have hdn:((d.toNat:Nat):Int)=d:=Int.toNat_of_nonneg (by omega);exact j7 (by simp[hdn])
 rintro⟨a,b⟩ i1;simp only at i1 ⊢;simp only[zP,Nat.reduceEqDiff,reduceIte];refine d4 fun K2 hK2=>?_;refine aS fun K hK=>?_;simp -dsimp;apply hK;clear hK K;refine d9 rfl (fun hc0=>?_) (fun hc0=>?_)
 ·skip
  try simp at hc0
  have hb0:¬b=0:=by omega
  have hm:(a:Int).tmod b=((a % b:Nat):Int):=by rw[Int.tmod_eq_emod_of_nonneg (by omega)];rfl
  refine f6 ?_;simp only[zT,reduceIte,Nat.reduceEqDiff];refine hK2 _ _ ?_;refine b8 [0,1,4,5,6] ?_;simp only[zP,Nat.reduceEqDiff,reduceIte];refine e7 ?_;refine E1 l6 rfl fun K hK=>?_;simp -dsimp [hm,hb0];refine hK _ _ _ (by decide+kernel) ?_;clear hK K;simp only[zT,reduceIte,Nat.reduceEqDiff];exact⟨(b,a % b),by simp only;rw[a8Z hb0];exact i1,Nat.mod_lt _ (by omega),j7 (by simp)⟩
 ·skip
  try simp at hc0
  have hb0:b=0:=by omega
  subst hb0;rw[Nat.gcd_zero_right]at i1;subst i1;have hg0:¬Int.gcd n d=0:=by omega
  refine j9 ?_;simp only[zT,reduceIte,Nat.reduceEqDiff];refine hK1 _ _ ?_;refine b8 [0,1,4,5] ?_;simp only[zP,Nat.reduceEqDiff,reduceIte];refine v5 l6 rfl fun K hK=>?_;simp -dsimp [q1,q2,hg0];refine hK _ _ _ (by decide+kernel) ?_;clear hK K;exact g7 (by simp)
end Go.Cur
end
section
namespace Go.Cur
def E {α:Type}:(α→List α→Int)→List α→Int
 |_,[]=>0
 |f,c::cs=>f c cs-E (fun d l=>f d (c::l)) cs
theorem H4 {α:Type}:∀{cs:List α} {f g:α→List α→Int},(∀c l,c∈cs→l.length+1=cs.length→(∀x∈l,x∈cs)→f c l=g c l)→E f cs=E g cs
 |[],_,_,_=>rfl
 | c::cs,f,g,h=>by
  rw[E,E,h c cs (by simp) (by simp) (fun x hx=>by simp[hx])]
  congr 1
  exact H4 fun d l hd hl hm=>h d (c::l) (by simp[hd]) (by simp only[List.length_cons];omega) (fun x hx=>by
   rcases List.mem_cons.1 hx with rfl|hx
   ·simp
   ·exact List.mem_cons_of_mem _ (hm x hx))
theorem b3I {α:Type}:∀{cs:List α} {f g:α→List α→Int},E (fun c l=>f c l+g c l) cs=E f cs+E g cs
 |[],_,_=>rfl
 |c::cs,f,g=>by rw[E,E,E,b3I];omega
theorem a2U {α:Type} (a:Int):∀{cs:List α} {f:α→List α→Int},E (fun c l=>a*f c l) cs=a*E f cs
 |[],_=>by simp[E]
 |c::cs,f=>by rw[E,E,a2U,Int.mul_sub]
theorem c2h {α:Type} {cs:List α} {f:α→List α→Int}:E (fun c l=>-f c l) cs=-E f cs:=by
 have:=a2U (cs:=cs) (f:=f) (-1);simpa using this
theorem c2W {α:Type} {cs:List α} {f g:α→List α→Int}:E (fun c l=>f c l-g c l) cs=E f cs-E g cs:=by
 have:=b3I (cs:=cs) (f:=f) (g:=fun c l=>-g c l);rw[c2h]at this;simpa [Int.sub_eq_add_neg]using this
theorem a4g {α:Type} {cs:List α} {f:α→List α→Int} (h:∀c l,c∈cs→l.length+1=cs.length→(∀x∈l,x∈cs)→f c l=0):E f cs=0:=by
 have:E f cs=E (fun c l=>0*f c l) cs:=H4 fun c l h1 h2 h3=>by rw[h c l h1 h2 h3];simp
 rw[this,a2U,Int.zero_mul]
theorem b8b {α:Type} {a b:α}:∀{pre post:List α} {f:α→List α→Int},(∀c u v,f c (u++a::b::v)=-f c (u++b::a::v))→E f (pre++a::b::post)=-E f (pre++b::a::post)
 | [],post,f,h=>by
  simp only[List.nil_append,E];have:E (fun d l=>f d (a::b::l)) post=-E (fun d l=>f d (b::a::l)) post:=by
   rw[←c2h];exact H4 fun d l _ _ _=>h d [] l
  omega
 |x::pre,post,f,h=>by
  simp only[List.cons_append,E];rw[h,b8b (f:=fun d l=>f d (x::l)) (pre:=pre) (post:=post) fun c u v=>h c (x::u) v];omega
theorem b9N {α:Type} {a b z:α} {x y:Int}:∀{pre post:List α} {f:α→List α→Int},(∀c u v,f c (u++z::v)=x*f c (u++a::v)+y*f c (u++b::v))→(∀l,f z l=x*f a l+y*f b l)→
  E f (pre++z::post)=x*E f (pre++a::post)+y*E f (pre++b::post)
 | [],post,f,h,hz=>by
  simp only[List.nil_append,E];have:E (fun d l=>f d (z::l)) post=x*E (fun d l=>f d (a::l)) post+y*E (fun d l=>f d (b::l)) post:=by
   rw[←a2U,←a2U,←b3I];exact H4 fun d l _ _ _=>h d [] l
  rw[hz,this,Int.mul_sub,Int.mul_sub];omega
 |w::pre,post,f,h,hz=>by
  simp only[List.cons_append,E];rw[h,b9N (f:=fun d l=>f d (w::l)) (pre:=pre) (post:=post) (fun c u v=>h c (w::u) v) (fun l=>hz (w::l)),Int.mul_sub,Int.mul_sub];omega
theorem c1V {α:Type}:∀{cs:List α} {h:α→α→List α→Int},E (fun c l=>E (fun d m=>h c d m) l) cs=-E (fun c l=>E (fun d m=>h d c m) l) cs
 |[],_=>rfl
 |x::cs,h=>by
  simp only[E,c2W];have h1:E (fun c=>E fun d l=>h c d (x::l)) cs=-E (fun c=>E fun d l=>h d c (x::l)) cs:=c1V (cs:=cs) (h:=fun c d m=>h c d (x::m));have h2:E (fun d m=>h d x m) cs=E (fun c=>h c x) cs:=rfl;have h3:E (fun d m=>h x d m) cs=E (h x) cs:=rfl;omega
def det:List Nat→List (Nat→Int)→Int
 |[],[]=>1
 |[],_::_=>0
 |i::is,cs=>E (fun c l=>c i*det is l) cs
def sg:Nat→Int
 |0=>1
 |n+1=>-sg n
theorem b1B:∀n,sg n*sg n=1
 |0=>rfl
 |n+1=>by rw[sg,Int.neg_mul_neg,b1B n]
theorem b0g {a b:Nat→Int}:∀{is:List Nat} {pre post:List (Nat→Int)},det is (pre++a::b::post)=-det is (pre++b::a::post)
 |[],pre,post=>by cases pre<;>simp[det]
 |i::is,pre,post=>by
  rw[det,det];exact b8b fun c u v=>by rw[b0g (is:=is),Int.mul_neg]
theorem b4v {a b:Nat→Int} {x y:Int}:∀{is:List Nat} {pre post:List (Nat→Int)},is≠[]→det is (pre++(fun i=>x*a i+y*b i)::post)=x*det is (pre++a::post)+y*det is (pre++b::post)
 |[],pre,post,h=>absurd rfl h
 |[i],pre,post,_=>by
  rw[det,det,det];refine b9N (fun c u v=>?_) (fun l=>?_)
  ·cases u<;>simp[det]
  ·simp only[Int.add_mul,Int.mul_assoc]
 |i::j::is,pre,post,_=>by
  rw[det,det,det];refine b9N (fun c u v=>?_) (fun l=>?_)
  ·rw[b4v (is:=j::is) (by simp),Int.mul_add,Int.mul_left_comm,Int.mul_left_comm (c i) y]
  ·simp only[Int.add_mul,Int.mul_assoc]
theorem a3h {a:Nat→Int} {is:List Nat}:∀{pre mid post:List (Nat→Int)},det is (pre++mid++a::post)=sg mid.length*det is (pre++a::mid++post)
 |pre,[],post=>by simp[sg]
 |pre,m::mid,post=>by
  have h:=a3h (a:=a) (is:=is) (pre:=pre++[m]) (mid:=mid) (post:=post);have h2:=b0g (a:=m) (b:=a) (is:=is) (pre:=pre) (post:=mid++post);simp only[List.append_assoc,List.cons_append,List.nil_append,List.length_cons,sg]at h h2 ⊢;rw[h,h2,Int.mul_neg,Int.neg_mul]
theorem a5j {i j:Nat} {is:List Nat} {cs:List (Nat→Int)}:det (i::j::is) cs=-det (j::i::is) cs:=by
 simp only[det];simp only[←a2U];rw[c1V]
 congr 1
 exact H4 fun c l _ _ _=>H4 fun d m _ _ _=>by rw[Int.mul_left_comm]
theorem a6b {i:Nat}:∀{u v:List Nat} {cs:List (Nat→Int)},det (i::(u++i::v)) cs=0
 |[],v,cs=>by have:=a5j (i:=i) (j:=i) (is:=v) (cs:=cs);rw[List.nil_append];omega
 |j::u,v,cs=>by
  rw[List.cons_append,a5j,det];rw[a4g fun c l _ _ _=>by rw[a6b,Int.mul_zero]]
  rfl
theorem b4a {i:Nat} {is:List Nat} {cs:List (Nat→Int)} (h:i∈is):det (i::is) cs=0:=by
 obtain⟨u,v,rfl⟩:=List.append_of_mem h;exact a6b
theorem N2 {r:Nat}:∀{is v:List Nat} {cs:List (Nat→Int)},det (is++r::v) cs=sg is.length*det (r::(is++v)) cs
 |[],v,cs=>by simp[sg]
 | i::is,v,cs=>by
  have:det (i::(is++r::v)) cs=sg is.length*det (i::r::(is++v)) cs:=by
   rw[det,det,←a2U];exact H4 fun c l _ _ _=>by rw[N2,Int.mul_left_comm]
  rw[List.cons_append,this,a5j,List.length_cons,sg,Int.mul_neg,Int.neg_mul];rfl
def rep (i:Nat) (is:List Nat) (b:Nat→Int) (pre:List (Nat→Int)):List (Nat→Int)→Int
 |[]=>0
 |c::post=>c i*det is (pre++b::post)+rep i is b (pre++[c]) post
theorem c0U {i:Nat} {is:List Nat} {b:Nat→Int}:∀{post pre:List (Nat→Int)},E (fun d l=>d i*det is (b::pre++l)) post=sg pre.length*rep i is b pre post
 |[],pre=>by simp[E,rep]
 |c::post,pre=>by
  have h:=c0U (i:=i) (is:=is) (b:=b) (post:=post) (pre:=pre++[c]);have h2:=a3h (a:=b) (is:=is) (pre:=[]) (mid:=pre) (post:=post);simp only[List.append_assoc,List.cons_append,List.nil_append,List.length_append,List.length_cons,List.length_nil,sg]at h h2 ⊢;rw[E,rep,h,h2];have hs:=b1B pre.length;rw[Int.mul_add,Int.mul_left_comm (sg pre.length) (c i),←Int.mul_assoc (sg pre.length) (sg pre.length),hs,Int.one_mul,Int.neg_mul];omega
theorem c2f {i:Nat} {is:List Nat} {b:Nat→Int} {cs:List (Nat→Int)} (h:i∈is):rep i is b [] cs=det is cs*b i:=by
 have h1:=b4a (cs:=b::cs) h;have h2:=c0U (i:=i) (is:=is) (b:=b) (post:=cs) (pre:=[]);rw[det,E]at h1;simp only[List.cons_append,List.nil_append,List.length_nil,sg,Int.one_mul]at h2;rw[h2]at h1;rw[Int.mul_comm];omega
end Go.Cur
end
section
namespace Go.Cur
def sm (f:Nat→Int):List Nat→Int
 |[]=>0
 |i::is=>f i+sm f is
theorem P5 {f:Nat→Int}:∀{u v:List Nat},sm f (u++v)=sm f u+sm f v
 |[],v=>by simp[sm]
 |i::u,v=>by rw[List.cons_append,sm,sm,P5];omega
theorem n9 {f g:Nat→Int}:∀{u:List Nat},(∀i∈u,f i=g i)→sm f u=sm g u
 |[],_=>rfl
 |i::u,h=>by rw[sm,sm,h i (by simp),n9 fun k hk=>h k (by simp[hk])]
theorem N6 {f:Nat→Int}:∀{u:List Nat},(∀i∈u,f i=0)→sm f u=0
 |[],_=>rfl
 |i::u,h=>by rw[sm,h i (by simp),N6 fun k hk=>h k (by simp[hk])];rfl
theorem a6L {f:Nat→Int}:∀{u:List Nat},(∀i∈u,0≤f i)→0≤sm f u
 |[],_=>by simp[sm]
 |i::u,h=>by
  have h1:=h i (by simp);have h2:=a6L (f:=f) (u:=u) fun k hk=>h k (by simp[hk]);rw[sm];omega
theorem b2d {f g:Nat→Int}:∀{u:List Nat},(∀i∈u,f i≤g i)→sm f u≤sm g u
 |[],_=>by simp[sm]
 |i::u,h=>by
  have h1:=h i (by simp);have h2:=b2d (f:=f) (g:=g) (u:=u) fun k hk=>h k (by simp[hk]);rw[sm,sm];omega
theorem a1i {f g:Nat→Int}:∀{u:List Nat},sm (fun i=>f i+g i) u=sm f u+sm g u
 |[]=>rfl
 |i::u=>by rw[sm,sm,sm,a1i];omega
theorem r6 {f:Nat→Int} (a:Int):∀{u:List Nat},sm (fun i=>a*f i) u=a*sm f u
 |[]=>by simp[sm]
 |i::u=>by rw[sm,sm,r6,Int.mul_add]
theorem a0M {f:Nat→Nat→Int}:∀{u v:List Nat},sm (fun i=>sm (fun k=>f i k) v) u=sm (fun k=>sm (fun i=>f i k) u) v
 |[],v=>by rw[sm,N6];intro k _;rfl
 |i::u,v=>by
  rw[sm,a0M (u:=u),←a1i];exact n9 fun k _=>rfl
theorem X0 {f:Nat→Int} {u v:List Nat} {k:Nat}:sm f (u++k::v)=f k+sm f (u++v):=by
 rw[P5,P5,sm];omega
theorem b8W {α β:Type} {g:β→α}:∀{cs:List β} {f:α→List α→Int},E f (cs.map g)=E (fun c l=>f (g c) (l.map g)) cs
 |[],_=>rfl
 |c::cs,f=>by
  rw[List.map_cons,E,E,b8W];rfl
theorem a0g {i:Nat} {is ks:List Nat} {A:Nat→Nat→Int}:det (i::is) (ks.map fun k i=>A i k)=E (fun k l=>A i k*det is (l.map fun k i=>A i k)) ks:=by
 rw[det,b8W]
theorem a2u:∀{is ks:List Nat} {A B:Nat→Nat→Int},(∀i∈is,∀k∈ks,A i k=B i k)→det is (ks.map fun k i=>A i k)=det is (ks.map fun k i=>B i k)
 |[],ks,A,B,_=>by cases ks<;>rfl
 |i::is,ks,A,B,h=>by
  rw[a0g,a0g];exact H4 fun k l hk _ hl=>by rw[h i (by simp) k hk,a2u fun i hi k hk=>h i (by simp[hi]) k (hl k hk)]
theorem a9W {e:Nat→Int}:∀{is:List Nat} {cs:List (Nat→Int)},(∀i∈is,e i=0)→det is (e::cs)=0
 |[],_,_=>rfl
 |i::is,cs,h=>by
  rw[det,E,h i (by simp),a4g fun c l _ _ _=>by rw[a9W fun k hk=>h k (by simp[hk]),Int.mul_zero]];simp
theorem a9z {i:Nat} {is:List Nat} {cs:List (Nat→Int)} (h:∀c∈cs,sm c (i::is)=0):det (i::is) cs=0:=by
 have hw:∀w:List Nat,(∀k∈w,k∈is)→E (fun c l=>sm c w*det is l) cs=0:=by
  intro w
  induction w with
  |nil=>intro _;exact a4g fun c l _ _ _=>by rw[sm,Int.zero_mul]
  |cons k w ih=>
   intro hk;have:E (fun c l=>sm c (k::w)*det is l) cs=E (fun c l=>c k*det is l+sm c w*det is l) cs:=H4 fun c l _ _ _=>by rw[sm,Int.add_mul]
   rw[this,b3I,ih fun k hk'=>hk k (by simp[hk'])];have:=b4a (cs:=cs) (hk k (by simp));rw[det]at this;omega
 have h1:E (fun c l=>sm c (i::is)*det is l) cs=0:=a4g fun c l hc _ _=>by rw[h c hc,Int.zero_mul]
 have h2:E (fun c l=>sm c (i::is)*det is l) cs=E (fun c l=>c i*det is l+sm c is*det is l) cs:=H4 fun c l _ _ _=>by rw[sm,Int.add_mul]
 rw[h2,b3I,hw is fun _ h=>h]at h1;rw[det];omega
def D (A:Nat→Nat→Int) (ns:List Nat):Int:=det ns (ns.map fun k i=>A i k)
def a0k (A:Nat→Nat→Int) (k0:Nat) (s:Int):Nat→Nat→Int:=fun i k=>if i=k0∧k=k0 then A i k-s else A i k
theorem b6e {k0:Nat} {u v:List Nat} {cu cv:List (Nat→Int)} (hl:cu.length=u.length) (hu:k0∉u) (hv:k0∉v):
  det (u++k0::v) (cu++(fun i=>if i=k0 then 1 else 0)::cv)=det (u++v) (cu++cv):=by
 have h1:=a3h (a:=fun i=>if i=k0 then(1:Int)else 0) (is:=u++k0::v) (pre:=[]) (mid:=cu) (post:=cv);simp only[List.nil_append,List.cons_append]at h1;rw[h1,N2,det,E,a4g fun c l _ _ _=>?_,hl]
 ·simp only[if_pos,Int.one_mul,Int.sub_zero];rw[←Int.mul_assoc,b1B,Int.one_mul]
 ·rw[a9W fun i hi=>?_,Int.mul_zero];rw[if_neg];rintro rfl
  rcases List.mem_append.1 hi with h|h
  ·exact hu h
  ·exact hv h
theorem b7u {A:Nat→Nat→Int} {u v:List Nat} {k0:Nat} (s:Int) (hu:k0∉u) (hv:k0∉v):D A (u++k0::v)=D (a0k A k0 s) (u++k0::v)+s*D A (u++v):=by
 have hc:∀w:List Nat,k0∉w→(w.map fun k i=>A i k)=w.map fun k i=>a0k A k0 s i k:=fun w hw=>List.map_congr_left fun k hk=>by
  funext i
  unfold a0k;rw[if_neg];rintro⟨_,rfl⟩;exact hw hk
 unfold D;simp only[List.map_append,List.map_cons];have he:(fun i=>A i k0)=fun i=>1*a0k A k0 s i k0+s*(if i=k0 then 1 else 0):=by
  funext i
  unfold a0k
  by_cases h:i=k0
  ·simp[h]
  ·simp[h]
 rw[he,b4v (by simp),Int.one_mul,b6e (by simp) hu hv,←hc u hu,←hc v hv]
def b1n (A:Nat→Nat→Int) (ns:List Nat):Prop:=(∀i∈ns,∀k∈ns,i≠k→A i k≤0)∧∀k∈ns,0≤sm (fun i=>A i k) ns
theorem a4I {A:Nat→Nat→Int} {k0 i k:Nat} {s:Int} (h:i≠k∨k≠k0):a0k A k0 s i k=A i k:=by
 unfold a0k;rw[if_neg];rintro⟨rfl,rfl⟩
 rcases h with h|h<;>exact h rfl
theorem b4K {A:Nat→Nat→Int} {k0:Nat} {s:Int} {u v:List Nat} (hu:k0∉u) (hv:k0∉v):sm (fun i=>a0k A k0 s i k0) (u++k0::v)=sm (fun i=>A i k0) (u++k0::v)-s:=by
 rw[X0,X0,n9 (g:=fun i=>A i k0)]
 ·simp only[a0k,and_self,if_true];omega
 ·intro i hi;refine a4I (.inl ?_);rintro rfl
  rcases List.mem_append.1 hi with h|h
  ·exact hu h
  ·exact hv h
theorem b1n.minor {A:Nat→Nat→Int} {k0:Nat} {u v:List Nat} (h:b1n A (u++k0::v)) (hu:k0∉u) (hv:k0∉v):b1n A (u++v):=by
 have hm:∀i∈u++v,i∈u++k0::v:=fun i hi=>by
  simp only[List.mem_append,List.mem_cons]at hi ⊢;rcases hi with h|h<;>simp[h]
 refine⟨fun i hi k hk hne=>h.1 i (hm i hi) k (hm k hk) hne,fun k hk=>?_⟩;have h1:=h.2 k (hm k hk);rw[X0]at h1;have h2:=h.1 k0 (by simp) k (hm k hk) (by
  rintro rfl
  rcases List.mem_append.1 hk with h|h
  ·exact hu h
  ·exact hv h)
 omega
theorem b1n.less {A:Nat→Nat→Int} {k0:Nat} {u v:List Nat} (h:b1n A (u++k0::v)) (hu:k0∉u) (hv:k0∉v) {s:Int} (hs:s=sm (fun i=>A i k0) (u++k0::v)):
  b1n (a0k A k0 s) (u++k0::v)∧sm (fun i=>a0k A k0 s i k0) (u++k0::v)=0∧∀k,k≠k0→sm (fun i=>a0k A k0 s i k) (u++k0::v)=sm (fun i=>A i k) (u++k0::v):=by
 have h0:=b4K (A:=A) (s:=s) hu hv;have h1:∀k,k≠k0→sm (fun i=>a0k A k0 s i k) (u++k0::v)=sm (fun i=>A i k) (u++k0::v):=fun k hk=>n9 fun i _=>a4I (.inr hk);refine⟨⟨fun i hi k hk hne=>?_,fun k hk=>?_⟩,by omega,h1⟩
 ·rw[a4I (.inl hne)];exact h.1 i hi k hk hne
 ·by_cases e:k=k0
  ·subst e;omega
  ·rw[h1 k e];exact h.2 k hk
theorem y4 {u v:List Nat} {k:Nat} (h:(u++k::v).Nodup):k∉u∧k∉v∧(u++v).Nodup:=by
 simp only[List.nodup_append,List.nodup_cons,List.mem_cons]at h ⊢;obtain⟨h1,⟨h2,h3⟩,h4⟩:=h;refine⟨fun hk=>h4 k hk k (.inl rfl) rfl,h2,h1,h3,fun a ha b hb=>h4 a ha b (.inr hb)⟩
theorem c3w:∀(n:Nat) {ns:List Nat} {A:Nat→Nat→Int},ns.length=n→ns.Nodup→b1n A ns→0≤D A ns
 |0,ns,A,hn,_,_=>by
  rw[List.length_eq_zero_iff]at hn;subst hn;simp[D,det]
 | n +1,ns,A,hn,hd,hc=>by
  have key:∀(w:List Nat) (A:Nat→Nat→Int),b1n A ns→(∀k∈ns,k∉w→sm (fun i=>A i k) ns=0)→0≤D A ns:=by
   intro w
   induction w with
   | nil=>
    intro A _ h0
    cases ns with
    |nil=>simp at hn
    | cons i is=>
     have:D A (i::is)=0:=a9z fun c hc=>by
      obtain⟨k,hk,rfl⟩:=List.mem_map.1 hc;exact h0 k hk (by simp)
     omega
   | cons k0 w ih=>
    intro A hc h0
    by_cases hk0:k0∈ns
    ·obtain⟨u,v,rfl⟩:=List.append_of_mem hk0;obtain⟨hu,hv,hd'⟩:=y4 hd;obtain⟨c1,c2,c3⟩:=hc.less hu hv rfl;rw[b7u (sm (fun i=>A i k0) (u++k0::v)) hu hv];have i1:=ih _ c1 fun k hk hkw=>by
      by_cases e:k=k0
      ·subst e;exact c2
      ·rw[c3 k e];exact h0 k hk (by simp[e,hkw])
     have i2:=c3w n (by simp only[List.length_append,List.length_cons]at hn ⊢;omega) hd' (hc.minor hu hv);have:=Int.mul_nonneg (hc.2 k0 hk0) i2;omega
    ·exact ih A hc fun k hk hkw=>h0 k hk (by
      simp only[List.mem_cons,not_or];exact⟨fun e=>hk0 (e▸hk),hkw⟩)
  exact key ns A hc fun k hk hkn=>absurd hk hkn
def c0g (A:Nat→Nat→Int) (ns:List Nat):Prop:=∀U:List Nat,U.Nodup→U≠[]→(∀k∈U,k∈ns)→∃k∈U,0<sm (fun i=>A i k) U
theorem b9u:∀(n:Nat) {ns:List Nat} {A:Nat→Nat→Int},ns.length=n→ns.Nodup→b1n A ns→c0g A ns→0<D A ns
 |0,ns,A,hn,_,_,_=>by
  rw[List.length_eq_zero_iff]at hn;subst hn;simp[D,det]
 | n+1,ns,A,hn,hd,hc,hl=>by
  obtain⟨k0,hk0,hs⟩:=hl ns hd (by intro e;rw[e]at hn;simp at hn) fun _ h=>h;obtain⟨u,v,rfl⟩:=List.append_of_mem hk0;obtain⟨hu,hv,hd'⟩:=y4 hd;rw[b7u (sm (fun i=>A i k0) (u++k0::v)) hu hv];have i1:=c3w (n+1) hn hd (hc.less hu hv rfl).1;have i2:=b9u n (ns:=u++v) (A:=A) (by simp only[List.length_append,List.length_cons]at hn ⊢;omega) hd' (hc.minor hu hv) fun U h1 h2 h3=>hl U h1 h2 fun k hk=>by
   have:=h3 k hk;simp only[List.mem_append,List.mem_cons]at this ⊢
   rcases this with h|h<;>simp[h]
  have:=Int.mul_pos hs i2;omega
end Go.Cur
end
section
namespace Go.Cur
theorem a4q {x:Nat→Int}:∀{ns:List Nat},ns≠[]→∃k∈ns,∀i∈ns,x k≤x i
 |[],h=>absurd rfl h
 |[a],_=>⟨a,by simp,by simp⟩
 | a::b::l,_=>by
  obtain⟨k,hk,hm⟩:=a4q (x:=x) (ns:=b::l) (by simp)
  by_cases h:x a≤x k
  ·exact⟨a,by simp,fun i hi=>by
    rcases List.mem_cons.1 hi with rfl|hi
    ·exact Int.le_refl _
    ·have:=hm i hi;omega⟩
  ·exact⟨k,List.mem_cons_of_mem _ hk,fun i hi=>by
    rcases List.mem_cons.1 hi with rfl|hi
    ·omega
    ·exact hm i hi⟩
theorem b2e {f:Nat→Int}:∀{u:List Nat},(∀i∈u,0≤f i)→(∃i∈u,0<f i)→0<sm f u
 |[],_,⟨_,h,_⟩=>by simp at h
 |a::u,h,⟨i,hi,hp⟩=>by
  have h1:=h a (by simp);have h2:=a6L (f:=f) (u:=u) fun k hk=>h k (by simp[hk]);rw[sm]
  rcases List.mem_cons.1 hi with rfl|hi
  ·omega
  ·have:=b2e (f:=f) (u:=u) (fun k hk=>h k (by simp[hk])) ⟨i,hi,hp⟩;omega
theorem a2H {f:Nat→Int} {p:Nat→Bool}:∀{u:List Nat},sm f u=sm f (u.filter p)+sm f (u.filter fun k=> !p k)
 |[]=>rfl
 |a::u=>by
  have:=a2H (f:=f) (p:=p) (u:=u)
  by_cases h:p a
  ·simp only[List.filter_cons,h,if_true,Bool.not_true,sm];simp only[Bool.false_eq_true,if_false];omega
  ·simp only[List.filter_cons,h,sm];simp only[Bool.false_eq_true,if_false,Bool.not_false,if_true,sm];omega
theorem b1D {f:Nat→Int} {ns U:List Nat} (hn:ns.Nodup) (hU:U.Nodup) (hs:∀k∈U,k∈ns) (h:∀k∈ns,k∉U→f k≤0):sm f ns≤sm f U:=by
 induction U generalizing ns with
 |nil=>
  rw[sm];have:=a6L (f:=fun k=>-f k) (u:=ns) fun k hk=>by have:=h k hk (by simp);omega
  have h2:=r6 (f:=f) (-1) (u:=ns);simp only[Int.neg_mul,Int.one_mul]at h2;omega
 | cons a U ih=>
  obtain⟨u,v,rfl⟩:=List.append_of_mem (hs a (by simp));obtain⟨hu,hv,hd⟩:=y4 hn;rw[List.nodup_cons]at hU;rw[X0,sm];have:=ih hd hU.2 (fun k hk=>by
   have:=hs k (by simp[hk]);simp only[List.mem_append,List.mem_cons]at this ⊢
   rcases this with h|rfl|h
   ·simp[h]
   ·exact absurd hk hU.1
   ·simp[h]) fun k hk hkU=>h k (by
    simp only[List.mem_append,List.mem_cons]at hk ⊢;rcases hk with h|h<;>simp[h]) (by
    simp only[List.mem_cons,not_or];refine⟨?_,hkU⟩;rintro rfl
    rcases List.mem_append.1 hk with h|h
    ·exact hu h
    ·exact hv h)
  omega
theorem Y6 {A:Nat→Nat→Int} {ns:List Nat} {x:Nat→Int} (hd:ns.Nodup) (hoff:∀i∈ns,∀k∈ns,i≠k→A i k≤0) (hrow:∀i∈ns,0≤sm (fun k=>A i k) ns) (hcol:∀k∈ns,0≤sm (fun i=>A i k) ns) (hl:c0g A ns)
  (hx:∀i∈ns,0≤sm (fun k=>A i k*x k) ns):∀k∈ns,0≤x k:=by
 intro k0 hk0;obtain⟨km,hkm,hmin⟩:=a4q (x:=x) (ns:=ns) (by rintro rfl;simp at hk0)
 suffices h:0≤x km by have:=hmin k0 hk0;omega
 refine Int.not_lt.1 fun hneg=>?_
 let p:Nat→Bool:=fun k=>decide (x k=x km)
 let U:=ns.filter p
 let V:=ns.filter fun k=> !p k
 let sig:Nat→Int:=fun k=>sm (fun i=>A i k) U
 have hU:∀k∈U,k∈ns∧x k=x km:=fun k hk=>by simpa [U,p]using hk
 have hV:∀k∈V,k∈ns∧x km+1≤x k∧∀i∈U,i≠k:=fun k hk=>by
  have:k∈ns∧¬x k=x km:=by simpa [V,p]using hk
  have h2:=hmin k this.1;exact⟨this.1,by omega,fun i hi e=>this.2 (e▸(hU i hi).2)⟩
 have hUd:U.Nodup:=hd.filter _;have hUn:U≠[]:=List.ne_nil_of_mem (a:=km) (by simp[U,p,hkm]);have h1:0≤sm (fun i=>sm (fun k=>A i k*x k) ns) U:=a6L fun i hi=>hx i (hU i hi).1;rw[a0M]at h1;have h2:sm (fun k=>sm (fun i=>A i k*x k) U) ns=sm (fun k=>x k*sig k) ns:=n9 fun k _=>by
  rw[←r6];exact n9 fun i _=>Int.mul_comm _ _
 rw[h2,a2H (p:=p)]at h1;have h3:sm (fun k=>x k*sig k) U=x km*sm sig U:=by
  rw[←r6];exact n9 fun k hk=>by rw[(hU k hk).2]
 have hsV:∀k∈V,sig k≤0:=fun k hk=>by
  have:=a6L (f:=fun i=>-A i k) (u:=U) fun i hi=>by
   have:=hoff i (hU i hi).1 k (hV k hk).1 ((hV k hk).2.2 i hi);omega
  have h2:=r6 (f:=fun i=>A i k) (-1) (u:=U);simp only[Int.neg_mul,Int.one_mul]at h2;show sm (fun i=>A i k) U≤0;omega
 have h4:sm (fun k=>x k*sig k) V≤sm (fun k=>(x km+1)*sig k) V:=b2d fun k hk=>by
  have a:=hsV k hk;have b:=(hV k hk).2.1;exact Int.mul_le_mul_of_nonpos_right b a
 rw[r6]at h4;have h5:sm sig U+sm sig V=sm (fun i=>sm (fun k=>A i k) ns) U:=by
  have:=a2H (f:=sig) (p:=p) (u:=ns);have h6:=a0M (f:=A) (u:=U) (v:=ns);show sm sig (ns.filter p)+sm sig (ns.filter fun k=> !p k)=_;rw[←this,h6]
 have h6:0≤sm (fun i=>sm (fun k=>A i k) ns) U:=a6L fun i hi=>hrow i (hU i hi).1;have h7:0<sm sig U:=by
  refine b2e (fun k hk=>?_) (hl U hUd hUn fun k hk=>(hU k hk).1);have:=hcol k (hU k hk).1;have h8:=b1D (f:=fun i=>A i k) hd hUd (fun k hk=>(hU k hk).1) fun i hi hiU=>hoff i hi k (hU k hk).1 (by rintro rfl;exact hiU hk);show 0≤sm (fun i=>A i k) U;omega
 have h8:sm sig V≤0:=by
  have:=b2d (f:=sig) (g:=fun _=>0) (u:=V) hsV;rw[N6 fun _ _=>rfl]at this;exact this
 change 0≤sm (fun k=>x k*sig k) U+sm (fun k=>x k*sig k) V at h1;rw[h3]at h1;have h9:x km*(sm sig U+sm sig V)≤0:=by
  rw[h5];exact Int.mul_nonpos_of_nonpos_of_nonneg (by omega) h6
 rw[Int.mul_add]at h9;rw[Int.add_mul,Int.one_mul]at h4;have h10:sm sig V=0:=by omega
 have h11:x km*(sm sig U+sm sig V)<0:=Int.mul_neg_of_neg_of_pos hneg (by omega);rw[Int.mul_add]at h11;omega
end Go.Cur
end
section
namespace Go.Cur
def num (A:Nat→Nat→Int) (b:Nat→Int) (ns:List Nat) (k:Nat):Int:=det ns (ns.map fun j i=>if j=k then b i else A i j)
theorem b4m {A:Nat→Nat→Int} {b:Nat→Int} {i:Nat} {is:List Nat}:∀{post pre:List Nat},(pre++post).Nodup→
  rep i is b (pre.map fun k i=>A i k) (post.map fun k i=>A i k)=sm (fun k=>A i k*det is ((pre++post).map fun j i=>if j=k then b i else A i j)) post
 |[],_,_=>rfl
 | k::post,pre,h=>by
  have ih:=b4m (A:=A) (b:=b) (i:=i) (is:=is) (post:=post) (pre:=pre++[k]) (by simpa using h);obtain⟨h1,h2,_⟩:=y4 h;have hc:∀w:List Nat,k∉w→(w.map fun j i=>if j=k then b i else A i j)=w.map fun k i=>A i k:=fun w hw=>List.map_congr_left fun j hj=>by
   funext i
   rw[if_neg];rintro rfl;exact hw hj
  simp only[List.map_append,List.map_cons,List.map_nil,List.append_assoc,List.cons_append,List.nil_append]at ih;rw[List.map_cons,rep,sm,ih];rw[List.map_append,List.map_cons];rw[hc pre h1,hc post h2];simp
theorem b0O {A:Nat→Nat→Int} {b:Nat→Int} {ns:List Nat} (hd:ns.Nodup) {i:Nat} (hi:i∈ns):sm (fun k=>A i k*num A b ns k) ns=D A ns*b i:=by
 have h1:=c2f (i:=i) (is:=ns) (b:=b) (cs:=ns.map fun k i=>A i k) hi;have h2:=b4m (A:=A) (b:=b) (i:=i) (is:=ns) (post:=ns) (pre:=[]) hd;simp only[List.map_nil,List.nil_append]at h2;rw[h2]at h1;exact h1
structure o6 where
 ns:List Nat
 L:Nat→Nat→Int
 u:Nat→Int
 fs:List Nat
 p:Nat→Nat
 s:Nat→Int
 V:Nat→Int
def o6.at_ (P:o6) (S:Nat→Bool) (c:Nat→Int) (i:Nat):Int:=sm (fun b=>if S b=true∧P.p b=i then c b else 0) P.fs
def o6.A (P:o6) (S:Nat→Bool):Nat→Nat→Int:=fun i k=>P.L i k+if i=k then P.at_ S P.s i else 0
def o6.b (P:o6) (S:Nat→Bool):Nat→Int:=fun i=>-P.u i+P.at_ S (fun b=>P.s b*P.V b) i
def o6.num (P:o6) (S:Nat→Bool) (k:Nat):Int:=Cur.num (P.A S) (P.b S) P.ns k
def o6.den (P:o6) (S:Nat→Bool):Int:=D (P.A S) P.ns
structure o6.Ok (P:o6):Prop where
 nd:P.ns.Nodup
 off:∀i∈P.ns,∀k∈P.ns,i≠k→P.L i k≤0
 col:∀k∈P.ns,sm (fun i=>P.L i k) P.ns=0
 row:∀i∈P.ns,sm (fun k=>P.L i k) P.ns=0
 lead:∀U:List Nat,U.Nodup→U≠[]→(∀k∈U,k∈P.ns)→(∃k∈P.ns,k∉U)→∃k∈U,0<sm (fun i=>P.L i k) U
 pin:∀b∈P.fs,P.p b∈P.ns
 spos:∀b∈P.fs,0<P.s b
theorem c3s {P:o6} {S:Nat→Bool} {c:Nat→Int}:∀{U:List Nat},U.Nodup→sm (P.at_ S c) U=sm (fun b=>if S b=true∧P.p b∈U then c b else 0) P.fs:=by
 intro U hU;unfold o6.at_;rw[a0M];refine n9 fun b _=>?_
 induction U with
 |nil=>simp[sm]
 | cons a U ih=>
  rw[List.nodup_cons]at hU;rw[sm,ih hU.2]
  by_cases hS:S b=true
  ·by_cases ha:P.p b=a
   ·subst ha;simp[hS,hU.1]
   ·simp[hS,ha]
  ·simp[hS]
theorem b4c {f:Nat→Int} {g:Nat→Nat→Int} {k:Nat}:∀{U:List Nat},U.Nodup→k∈U→sm (fun i=>g i k+if i=k then f i else 0) U=sm (fun i=>g i k) U+f k
 |[],_,h=>by simp at h
 | a::U,hU,h=>by
  rw[List.nodup_cons]at hU;rw[sm,sm]
  rcases List.mem_cons.1 h with rfl|hm
  ·rw[n9 (u:=U) (g:=fun i=>g i k) fun i hi=>by
    rw[if_neg]; · omega
    ·rintro rfl;exact hU.1 hi]
   rw[if_pos rfl];omega
  ·rw[b4c hU.2 hm,if_neg]
   ·omega
   ·rintro rfl;exact hU.1 hm
theorem a5K {f:Nat→Int} {g:Nat→Int} {k:Nat}:∀{U:List Nat},U.Nodup→k∈U→sm (fun i=>g i+if k=i then f k else 0) U=sm g U+f k
 |[],_,h=>by simp at h
 | a::U,hU,h=>by
  rw[List.nodup_cons]at hU;rw[sm,sm]
  rcases List.mem_cons.1 h with rfl|hm
  ·rw[n9 (u:=U) (g:=g) fun i hi=>by
    rw[if_neg]; · omega
    ·rintro rfl;exact hU.1 hi]
   rw[if_pos rfl];omega
  ·rw[a5K hU.2 hm,if_neg]
   ·omega
   ·rintro rfl;exact hU.1 hm
theorem b5Y {P:o6} (ho:P.Ok) {S:Nat→Bool} {i:Nat}:0≤P.at_ S P.s i:=a6L fun b hb=>by
 have:=ho.spos b hb
 split<;>omega
theorem b9d {P:o6} (ho:P.Ok) {S:Nat→Bool}:∀i∈P.ns,∀k∈P.ns,i≠k→P.A S i k≤0:=fun i hi k hk h=>by
 have:=ho.off i hi k hk h;unfold o6.A;rw[if_neg h];omega
theorem b4A {P:o6} (ho:P.Ok) {S:Nat→Bool} {k:Nat} {U:List Nat} (hU:U.Nodup) (hk:k∈U):sm (fun i=>P.A S i k) U=sm (fun i=>P.L i k) U+P.at_ S P.s k:=b4c hU hk
theorem c0P {P:o6} (ho:P.Ok) {S:Nat→Bool} {i:Nat} (hi:i∈P.ns):sm (fun k=>P.A S i k) P.ns=P.at_ S P.s i:=by
 have:=a5K (f:=fun i=>P.at_ S P.s i) (g:=fun k=>P.L i k) ho.nd hi;rw[ho.row i hi]at this;unfold o6.A;omega
theorem b3B {P:o6} (ho:P.Ok) {S:Nat→Bool}:b1n (P.A S) P.ns:=⟨b9d ho,fun k hk=>by
 rw[b4A ho ho.nd hk,ho.col k hk];have:=b5Y ho (S:=S) (i:=k);omega⟩
theorem a7W {P:o6} (ho:P.Ok) {S:Nat→Bool} (hS:∃b∈P.fs,S b=true):c0g (P.A S) P.ns:=fun U hU hn hs=>by
 by_cases hall:∃k∈P.ns,k∉U
 ·obtain⟨k,hk,h⟩:=ho.lead U hU hn hs hall;refine⟨k,hk,?_⟩;rw[b4A ho hU hk];have:=b5Y ho (S:=S) (i:=k);omega
 ·obtain⟨b,hb,hSb⟩:=hS;have hpU:P.p b∈U:=by
   by_cases h:P.p b∈U
   ·exact h
   ·exact absurd ⟨_,ho.pin b hb,h⟩ hall
  refine⟨P.p b,hpU,?_⟩;rw[b4A ho hU hpU];have h1:sm (fun i=>P.L i (P.p b)) P.ns≤sm (fun i=>P.L i (P.p b)) U:=b1D ho.nd hU hs fun i hi hiU=>absurd ⟨i,hi,hiU⟩ hall;rw[ho.col _ (ho.pin b hb)]at h1;have h2:0<P.at_ S P.s (P.p b):=b2e (fun c hc=>by
   have:=ho.spos c hc
   split<;>omega) ⟨b,hb,by rw[if_pos ⟨hSb,rfl⟩];exact ho.spos b hb⟩
  omega
theorem J4 {P:o6} (ho:P.Ok) {S:Nat→Bool} (hS:∃b∈P.fs,S b=true):0<P.den S:=b9u _ rfl ho.nd (b3B ho) (a7W ho hS)
theorem b6H {P:o6} (ho:P.Ok) (hn:P.ns≠[]) {S:Nat→Bool} (hS:∀b∈P.fs,S b=false):P.den S=0:=by
 unfold o6.den D
 cases h:P.ns with
 |nil=>exact absurd h hn
 |cons i is=>
  refine a9z fun c hc=>?_;obtain⟨k,hk,rfl⟩:=List.mem_map.1 hc;rw[←h]at hk ⊢;rw[b4A ho ho.nd hk,ho.col k hk];have:P.at_ S P.s k=0:=N6 fun b hb=>by rw[if_neg];simp[hS b hb]
  omega
theorem a6C {P:o6} (ho:P.Ok) {S:Nat→Bool} {i:Nat} (hi:i∈P.ns):sm (fun k=>P.A S i k*P.num S k) P.ns=P.den S*P.b S i:=b0O ho.nd hi
end Go.Cur
end
section
namespace Go.Cur
theorem a0T {f g:Nat→Int} {u:List Nat}:sm (fun i=>f i-g i) u=sm f u-sm g u:=by
 have h1:=a1i (f:=f) (g:=fun i=>-1*g i) (u:=u);rw[r6]at h1;rw[show(fun i=>f i-g i)=fun i=>f i+ -1*g i from funext fun i=>by omega,h1];omega
theorem a8g {f:Nat→Int} {k:Nat}:∀{U:List Nat},U.Nodup→k∈U→sm (fun i=>if k=i then f i else 0) U=f k
 |U,hU,hk=>by
  have:=a5K (f:=f) (g:=fun _=>0) hU hk;rw[N6 (f:=fun _=>0) fun _ _=>rfl]at this;rw[n9 (g:=fun i=>0+if k=i then f k else 0) fun i _=>by by_cases h:k=i<;>simp[h],this];omega
theorem b1Z {P:o6} {S S':Nat→Bool} (hs:∀b,S' b=true→S b=true) (c:Nat→Int) (i:Nat):P.at_ S c i=P.at_ S' c i+P.at_ (fun b=>S b&& !S' b) c i:=by
 unfold o6.at_;rw[←a1i];refine n9 fun b _=>?_
 by_cases h:S' b=true
 ·simp[h,hs b h]
 ·simp[h]
theorem c3Q {P:o6} (ho:P.Ok) {S S':Nat→Bool} (hs:∀b,S' b=true→S b=true) (hn:∃b∈P.fs,S' b=true) (hr:∀b∈P.fs,S b=true→S' b=false→P.V b*P.den S≤P.num S (P.p b)):
  ∀k∈P.ns,P.num S k*P.den S'≤P.num S' k*P.den S:=by
 have hn':∃b∈P.fs,S b=true:=by obtain⟨b,hb,h⟩:=hn;exact⟨b,hb,hs b h⟩
 have d1:=J4 ho hn;have d2:=J4 ho hn';have key:=Y6 (A:=P.A S') (x:=fun k=>P.num S' k*P.den S-P.num S k*P.den S') ho.nd (b9d ho) (fun i hi=>by rw[c0P ho hi];exact b5Y ho) (b3B ho).2 (a7W ho hn) fun i hi=>by
  have e1:sm (fun k=>P.A S' i k*(P.num S' k*P.den S-P.num S k*P.den S')) P.ns=P.den S*sm (fun k=>P.A S' i k*P.num S' k) P.ns-P.den S'*sm (fun k=>P.A S' i k*P.num S k) P.ns:=by
   rw[←r6,←r6,←a0T];refine n9 fun k _=>?_;rw[Int.mul_sub,Int.mul_comm (P.den S),Int.mul_comm (P.den S'),Int.mul_assoc,Int.mul_assoc]
  have e2:sm (fun k=>P.A S i k*P.num S k) P.ns=sm (fun k=>P.A S' i k*P.num S k) P.ns+P.at_ (fun b=>S b&& !S' b) P.s i*P.num S i:=by
   have e3:=a8g (f:=fun k=>P.at_ (fun b=>S b&& !S' b) P.s k*P.num S k) ho.nd hi;rw[←e3,←a1i];refine n9 fun k _=>?_;unfold o6.A
   by_cases h:i=k
   ·subst h;simp only[if_true];rw[b1Z hs P.s i,←Int.add_assoc,Int.add_mul]
   ·simp[h]
  rw[a6C ho hi]at e2;have e4:P.b S i=P.b S' i+P.at_ (fun b=>S b&& !S' b) (fun b=>P.s b*P.V b) i:=by
   unfold o6.b;rw[b1Z hs (fun b=>P.s b*P.V b) i];omega
  have e5:0≤P.at_ (fun b=>S b&& !S' b) P.s i*P.num S i-P.den S*P.at_ (fun b=>S b&& !S' b) (fun b=>P.s b*P.V b) i:=by
   unfold o6.at_;rw[Int.mul_comm (sm _ _) (P.num S i),←r6,←r6,←a0T];refine a6L fun b hb=>?_
   by_cases h:(S b&& !S' b)=true∧P.p b=i
   ·rw[if_pos h,if_pos h];simp only[Bool.and_eq_true,Bool.not_eq_true']at h;obtain⟨⟨h1,h2⟩,h3⟩:=h;have:=hr b hb h1 h2;rw[h3]at this;have h4:=Int.mul_le_mul_of_nonneg_left this (Int.le_of_lt (ho.spos b hb));rw[Int.mul_comm (P.num S i),Int.mul_left_comm (P.den S),Int.mul_comm (P.den S)];omega
   ·rw[if_neg h,if_neg h];simp
  rw[e1,a6C ho hi];have e6:P.den S*(P.den S'*P.b S' i)-P.den S'*sm (fun k=>P.A S' i k*P.num S k) P.ns=P.den S'*(P.at_ (fun b=>S b&& !S' b) P.s i*P.num S i-P.den S*P.at_ (fun b=>S b&& !S' b) (fun b=>P.s b*P.V b) i):=by
   rw[e4,Int.mul_add]at e2;have:sm (fun k=>P.A S' i k*P.num S k) P.ns=P.den S*P.b S' i+P.den S*P.at_ (fun b=>S b&& !S' b) (fun b=>P.s b*P.V b) i-P.at_ (fun b=>S b&& !S' b) P.s i*P.num S i:=by omega
   rw[this,Int.mul_left_comm (P.den S),←Int.mul_sub]
   congr 1
   omega
  rw[e6];exact Int.mul_nonneg (Int.le_of_lt d1) e5
 intro k hk;have:=key k hk;omega
theorem a8T {P:o6} (ho:P.Ok) (S:Nat→Bool):sm (fun b=>if S b=true then P.s b*(P.V b*P.den S-P.num S (P.p b))else 0) P.fs=P.den S*sm P.u P.ns:=by
 have h1:sm (fun i=>sm (fun k=>P.A S i k*P.num S k) P.ns) P.ns=sm (fun i=>P.den S*P.b S i) P.ns:=n9 fun i hi=>a6C ho hi;rw[a0M,r6]at h1;have h2:sm (fun k=>sm (fun i=>P.A S i k*P.num S k) P.ns) P.ns=sm (fun k=>P.at_ S P.s k*P.num S k) P.ns:=n9 fun k hk=>by
  have:sm (fun i=>P.A S i k*P.num S k) P.ns=sm (fun i=>P.num S k*P.A S i k) P.ns:=n9 fun i _=>Int.mul_comm _ _;rw[this,r6,b4A ho ho.nd hk,ho.col k hk,Int.zero_add,Int.mul_comm]
 have h3:sm (fun k=>P.at_ S P.s k*P.num S k) P.ns=sm (fun b=>if S b=true then P.s b*P.num S (P.p b)else 0) P.fs:=by
  have:sm (fun k=>P.at_ S P.s k*P.num S k) P.ns=sm (fun k=>sm (fun b=>if S b=true∧P.p b=k then P.s b*P.num S k else 0) P.fs) P.ns:=n9 fun k _=>by
   unfold o6.at_;rw[Int.mul_comm,←r6];refine n9 fun b _=>?_
   by_cases h:S b=true∧P.p b=k
   ·rw[if_pos h,if_pos h,Int.mul_comm]
   ·rw[if_neg h,if_neg h,Int.mul_zero]
  rw[this,a0M];refine n9 fun b hb=>?_
  by_cases h:S b=true
  ·have:=a8g (f:=fun k=>P.s b*P.num S k) ho.nd (ho.pin b hb);rw[if_pos h,←this];exact n9 fun k _=>by simp[h]
  ·rw[if_neg h];exact N6 fun k _=>by simp[h]
 have h4:sm (P.b S) P.ns=-sm P.u P.ns+sm (fun b=>if S b=true then P.s b*P.V b else 0) P.fs:=by
  unfold o6.b;rw[a1i,c3s ho.nd]
  congr 1
  ·have:=r6 (f:=P.u) (-1) (u:=P.ns);simpa using this
  ·refine n9 fun b hb=>?_
   by_cases h:S b=true<;>simp[h,ho.pin b hb]
 rw[h2,h3,h4]at h1;have h5:sm (fun b=>if S b=true then P.s b*(P.V b*P.den S-P.num S (P.p b))else 0) P.fs=P.den S*sm (fun b=>if S b=true then P.s b*P.V b else 0) P.fs-sm (fun b=>if S b=true then P.s b*P.num S (P.p b)else 0) P.fs:=by
  rw[←r6,←a0T];refine n9 fun b _=>?_
  by_cases h:S b=true
  ·simp only[h,if_true];rw[Int.mul_sub,Int.mul_comm (P.V b),Int.mul_left_comm]
  ·simp[h]
 rw[h5,h1,Int.mul_add,Int.mul_neg];omega
def a4G (P:o6) (S:Nat→Bool):Prop:=(∃b∈P.fs,S b=true)∧∀b∈P.fs,(S b=true→P.num S (P.p b)≤P.V b*P.den S)∧(S b=false→P.V b*P.den S≤P.num S (P.p b))
theorem a3D {P:o6} (ho:P.Ok) (hsum:0<sm P.u P.ns) (hf:P.fs≠[]):∃S,a4G P S:=by
 have go:∀(n:Nat) (S:Nat→Bool),(P.fs.filter S).length≤n→(∃b∈P.fs,S b=true)→(∀b∈P.fs,S b=false→P.V b*P.den S≤P.num S (P.p b))→∃S,a4G P S:=by
  intro n
  induction n with
  |zero=>
   intro S h ⟨b,hb,hS⟩ _;have:b∈P.fs.filter S:=List.mem_filter.2 ⟨hb,hS⟩;rw[List.length_eq_zero_iff.1 (Nat.le_zero.1 h)]at this;simp at this
  | succ n ih=>
   intro S h hn hout
   let S':Nat→Bool:=fun b=>S b&&decide (P.num S (P.p b)≤P.V b*P.den S)
   have hs:∀b,S' b=true→S b=true:=fun b hb=>by simp only[S',Bool.and_eq_true]at hb;exact hb.1
   have hd:=J4 ho hn
   by_cases hall:∀b∈P.fs,S b=true→P.num S (P.p b)≤P.V b*P.den S
   ·exact⟨S,hn,fun b hb=>⟨hall b hb,hout b hb⟩⟩
   ·have hn':∃b∈P.fs,S' b=true:=by
     refine Classical.byContradiction fun hno=>?_;have hneg:∀b∈P.fs,S b=true→P.V b*P.den S-P.num S (P.p b)≤0:=fun b hb hS=>by
      have:¬P.num S (P.p b)≤P.V b*P.den S:=fun hle=>hno ⟨b,hb,by simp[S',hS,hle]⟩;omega
     have h1:=a8T ho S;have h2:sm (fun b=>if S b=true then P.s b*(P.V b*P.den S-P.num S (P.p b))else 0) P.fs≤sm (fun _=>0) P.fs:=b2d fun b hb=>by
      split
      ·exact Int.mul_nonpos_of_nonneg_of_nonpos (Int.le_of_lt (ho.spos b hb)) (hneg b hb (by assumption))
      ·exact Int.le_refl _
     rw[N6 (f:=fun _=>0) fun _ _=>rfl,h1]at h2;have:=Int.mul_pos hd hsum;omega
    have hrise:=c3Q ho hs hn' fun b hb h1 h2=>by
     simp only[S',h1,Bool.true_and,decide_eq_false_iff_not]at h2;omega
    have hd':=J4 ho hn';refine ih S' ?_ hn' fun b hb hb'=>?_
    ·simp only[Classical.not_forall]at hall;obtain⟨b,hb,hSb,hgt⟩:=hall;have h1:P.fs.filter S'=(P.fs.filter S).filter S':=by
      rw[List.filter_filter];refine List.filter_congr fun a _=>?_;simp only[S']
      cases S a<;>simp
     have h2:((P.fs.filter S).filter S').length<(P.fs.filter S).length:=by
      refine List.length_filter_lt_length_iff_exists.2 ⟨b,List.mem_filter.2 ⟨hb,hSb⟩,?_⟩;simp only[S',hSb,Bool.true_and,decide_eq_true_eq];exact hgt
     rw[h1];omega
    ·have h1:P.V b*P.den S≤P.num S (P.p b):=by
      by_cases hS:S b=true
      ·simp only[S',hS,Bool.true_and,decide_eq_false_iff_not]at hb';omega
      ·exact hout b hb (by simpa using hS)
     have h2:=hrise _ (ho.pin b hb);have h3:=Int.mul_le_mul_of_nonneg_right h1 (Int.le_of_lt hd');have h4:(P.V b*P.den S')*P.den S≤P.num S' (P.p b)*P.den S:=by
      rw[Int.mul_assoc,Int.mul_comm (P.den S'),←Int.mul_assoc];omega
     exact Int.le_of_mul_le_mul_right h4 hd
 refine go _ (fun _=>true) (Nat.le_refl _) ?_ fun b _ h=>by simp at h
 obtain⟨b,l,hl⟩:=List.exists_cons_of_ne_nil hf;exact⟨b,by simp[hl],rfl⟩
end Go.Cur
end
section
namespace Go.Cur
def nmE (f:Nat→Nat) (e:Nat×Nat):Nat→Nat:=fun k=>if k=e.1∨k=e.2 then min (f e.1) (f e.2)else f k
def nmR (E:List (Nat×Nat)) (f:Nat→Nat):Nat→Nat:=E.foldl nmE f
def nmT (E:List (Nat×Nat)):Nat→Nat→Nat
 |0=>id
 |t+1=>nmR E (nmT E t)
def a0W (E:List (Nat×Nat)) (U:Nat→Prop):Prop:=∀e∈E,(U e.1↔U e.2)
theorem c2o {f:Nat→Nat} {e:Nat×Nat} {k:Nat}:nmE f e k≤f k:=by
 unfold nmE
 split
 ·rename_i h;rcases h with rfl|rfl
  ·exact Nat.min_le_left _ _
  ·exact Nat.min_le_right _ _
 ·exact Nat.le_refl _
theorem a0S:∀{E:List (Nat×Nat)} {f:Nat→Nat} {k:Nat},nmR E f k≤f k
 |[],f,k=>Nat.le_refl _
 |e::E,f,k=>Nat.le_trans (a0S (E:=E) (f:=nmE f e)) c2o
theorem b8a {E:List (Nat×Nat)}:∀{t k:Nat},nmT E t k≤k
 |0,k=>Nat.le_refl _
 |t+1,k=>Nat.le_trans a0S (b8a (t:=t))
theorem b7S {E:List (Nat×Nat)} {U:Nat→Prop}:∀{E':List (Nat×Nat)} {f:Nat→Nat},(∀e∈E',(U e.1↔U e.2))→(∀k,U (f k)↔U k)→∀k,U (nmR E' f k)↔U k
 |[],f,_,h,k=>h k
 | e::E',f,hE,h,k=>b7S (E:=E) (E':=E') (f:=nmE f e) (fun e he=>hE e (by simp[he])) (fun k=>by
   have he:=hE e (by simp);unfold nmE
   split
   ·rename_i hk;have hm:min (f e.1) (f e.2)=f e.1∨min (f e.1) (f e.2)=f e.2:=by omega
    have h1:=h e.1;have h2:=h e.2
    rcases hm with hm|hm<;>rw[hm]<;>rcases hk with rfl|rfl
    ·exact h1
    ·exact h1.trans he
    ·exact h2.trans he.symm
    ·exact h2
   ·exact h k) k
theorem b3A {E:List (Nat×Nat)} {U:Nat→Prop} (hU:a0W E U):∀{t:Nat} (k:Nat),U (nmT E t k)↔U k
 |0,k=>Iff.rfl
 |t+1,k=>b7S (E:=E) hU (b3A hU (t:=t)) k
theorem a9P {m:Nat}:∀{E:List (Nat×Nat)} {f:Nat→Nat},(∀e∈E,(f e.1≤m↔f e.2≤m))→∀k,nmR E f k≤m↔f k≤m
 |[],f,_,k=>Iff.rfl
 | e::E,f,h,k=>by
  have h0:=h e (by simp);have h1:∀k,nmE f e k≤m↔f k≤m:=fun k=>by
   unfold nmE
   split
   ·rename_i hk
    rcases hk with rfl|rfl<;>omega
   ·exact Iff.rfl
  have:=a9P (m:=m) (E:=E) (f:=nmE f e) (fun e' he=>by rw[h1,h1];exact h e' (by simp[he])) k;exact this.trans (h1 k)
theorem b6l {m:Nat} {E:List (Nat×Nat)} {f:Nat→Nat} {e:Nat×Nat} (he:e∈E) (h:f e.1≤m∨f e.2≤m):nmR E f e.1≤m∧nmR E f e.2≤m:=by
 obtain⟨u,v,rfl⟩:=List.append_of_mem he;have hc:nmR (u++e::v) f=nmR v (nmE (nmR u f) e):=by simp[nmR,List.foldl_append]
 rw[hc];have h1:nmR u f e.1≤f e.1:=a0S;have h2:nmR u f e.2≤f e.2:=a0S;have h3:nmE (nmR u f) e e.1=min (nmR u f e.1) (nmR u f e.2):=by simp[nmE]
 have h4:nmE (nmR u f) e e.2=min (nmR u f e.1) (nmR u f e.2):=by simp[nmE]
 have h5:=a0S (E:=v) (f:=nmE (nmR u f) e) (k:=e.1);have h6:=a0S (E:=v) (f:=nmE (nmR u f) e) (k:=e.2);rw[h3]at h5;rw[h4]at h6;omega
def b7z (n m:Nat) (f:Nat→Nat):Nat:=((List.range n).filter fun k=>decide (f k≤m)).length
theorem a5Y {n m:Nat} {f g:Nat→Nat} (h:∀k,g k≤f k) {j:Nat} (hj:j<n) (h1:¬f j≤m) (h2:g j≤m):b7z n m f<b7z n m g:=by
 unfold b7z;have:(List.range n).filter (fun k=>decide (f k≤m))=((List.range n).filter fun k=>decide (g k≤m)).filter fun k=>decide (f k≤m):=by
  rw[List.filter_filter];refine List.filter_congr fun k _=>?_;have:=h k
  by_cases hf:f k≤m
  ·have:g k≤m:=by omega
   simp[hf,this]
  ·simp[hf]
 rw[this];exact List.length_filter_lt_length_iff_exists.2 ⟨j,List.mem_filter.2 ⟨List.mem_range.2 hj,by simpa using h2⟩,by simpa using h1⟩
theorem b9M {n m:Nat} {f:Nat→Nat}:b7z n m f≤n:=by
 have:=List.length_filter_le (fun k=>decide (f k≤m)) (List.range n);simpa [b7z]using this
theorem a3U {E:List (Nat×Nat)} {n:Nat} (hE:∀e∈E,e.1<n∧e.2<n) (m:Nat):∀e∈E,(nmT E n e.1≤m↔nmT E n e.2≤m):=by
 have key:∀t,(∀e∈E,(nmT E t e.1≤m↔nmT E t e.2≤m))∨t+1≤b7z n m (nmT E t):=by
  intro t
  induction t with
  | zero=>
   by_cases hn:n=0
   ·left;intro e he;have:=hE e he;omega
   ·right
    have:0∈(List.range n).filter fun k=>decide (nmT E 0 k≤m):=List.mem_filter.2 ⟨List.mem_range.2 (by omega),by simp[nmT]⟩;exact List.length_pos_of_mem this
  | succ t ih=>
   by_cases hc:∀e∈E,(nmT E t e.1≤m↔nmT E t e.2≤m)
   ·left
    intro e he;have:=a9P (m:=m) (E:=E) (f:=nmT E t) hc;rw[nmT,this,this];exact hc e he
   ·right
    have ih:=ih.resolve_left hc;simp only[Classical.not_forall]at hc;obtain⟨e,he,hne⟩:=hc;have hor:nmT E t e.1≤m∨nmT E t e.2≤m:=by omega
    have hm:=b6l (f:=nmT E t) he hor;have hb:=hE e he;have:b7z n m (nmT E t)<b7z n m (nmT E (t+1)):=by
     rcases(by omega:¬nmT E t e.1≤m∨¬nmT E t e.2≤m)with h|h
     ·exact a5Y (fun k=>a0S) hb.1 h hm.1
     ·exact a5Y (fun k=>a0S) hb.2 h hm.2
    omega
 rcases key n with h|h
 ·exact h
 ·have:=b9M (n:=n) (m:=m) (f:=nmT E n);omega
def nm (E:List (Nat×Nat)) (n:Nat):Nat→Nat:=nmT E n
section
variable {E:List (Nat×Nat)} {n:Nat}
theorem b9l {k:Nat}:nm E n k≤k:=b8a
theorem b1h (hE:∀e∈E,e.1<n∧e.2<n) {e:Nat×Nat} (he:e∈E):nm E n e.1=nm E n e.2:=by
 have h1:=(a3U hE (nm E n e.1) e he).1 (Nat.le_refl _);have h2:=(a3U hE (nm E n e.2) e he).2 (Nat.le_refl _);unfold nm at*
 omega
theorem b4U (hE:∀e∈E,e.1<n∧e.2<n) (i:Nat):a0W E fun k=>nm E n k=i:=fun e he=>by
 show nm E n e.1=i↔nm E n e.2=i;rw[b1h hE he]
theorem c1n (hE:∀e∈E,e.1<n∧e.2<n) (k:Nat):nm E n (nm E n k)=nm E n k:=(b3A (t:=n) (b4U hE (nm E n k)) k).2 rfl
theorem c1f {U:Nat→Prop} (hU:a0W E U) (k:Nat):U (nm E n k)↔U k:=b3A hU k
def cp (E:List (Nat×Nat)) (n i:Nat):List Nat:=(List.range n).filter fun k=>decide (nm E n k=i)
theorem B4 {i k:Nat}:k∈cp E n i↔k<n∧nm E n k=i:=by simp[cp]
theorem I4 {i:Nat}:(cp E n i).Nodup:=List.nodup_range.filter _
theorem b4h {i:Nat}:(cp E n i).Pairwise (· < ·):=List.Pairwise.filter _ List.pairwise_lt_range
theorem a2D {U:Nat→Prop} (hU:a0W E U) {i k j:Nat} (hk:k∈cp E n i) (h:U k) (hj:j∈cp E n i):U j:=by
 rw[B4]at hk hj;have h1:=(c1f (n:=n) hU k).2 h;rw[hk.2]at h1;exact(c1f (n:=n) hU j).1 (by rw[hj.2];exact h1)
theorem c1Z (hE:∀e∈E,e.1<n∧e.2<n) {U:List Nat} {i k j:Nat} (hs:∀x∈U,x∈cp E n i) (hk:k∈U) (hj:j∈cp E n i) (hn:j∉U):∃e∈E,(e.1∈U∧e.2∉U∧e.2∈cp E n i)∨(e.2∈U∧e.1∉U∧e.1∈cp E n i):=by
 by_cases hc:a0W E (fun x=>x∈U)
 ·exact absurd (a2D hc (hs k hk) hk hj) hn
 ·simp only[a0W,Classical.not_forall]at hc;obtain⟨e,he,h⟩:=hc;refine⟨e,he,?_⟩;have h1:=b1h hE he;have hb:=hE e he
  by_cases h3:e.1∈U
  ·left
   refine⟨h3,fun h4=>h ⟨fun _=>h4,fun _=>h3⟩,?_⟩;have:=B4.1 (hs _ h3);exact B4.2 ⟨hb.2,by rw[←h1];exact this.2⟩
  ·have h4:e.2∈U:=by
    refine Classical.byContradiction fun h4=>h ⟨fun h5=>absurd h5 h3,fun h5=>absurd h5 h4⟩
   right
   refine⟨h4,h3,?_⟩;have:=B4.1 (hs _ h4);exact B4.2 ⟨hb.1,by rw[h1];exact this.2⟩
def P6 (E:List (Nat×Nat)) (n:Nat):List Nat:=(List.range n).filter fun i=>decide (nm E n i=i)
def b4W (E:List (Nat×Nat)) (n:Nat):List (List Nat):=(P6 E n).map (cp E n)
theorem W8 {i:Nat}:i∈P6 E n↔i<n∧nm E n i=i:=by simp[P6]
theorem a2E {i:Nat} (h:i∈P6 E n):i∈cp E n i:=by
 rw[W8]at h;exact B4.2 h
theorem b4j (hE:∀e∈E,e.1<n∧e.2<n) {k:Nat} (hk:k<n):nm E n k∈P6 E n:=W8.2 ⟨Nat.lt_of_le_of_lt b9l hk,c1n hE k⟩
theorem b6d {i:Nat} {p:List Nat} (hi:i∈P6 E n) (h1:i∈p) (hc:a0W E fun x=>x∈p) {j:Nat} (hj:j∈cp E n i):j∈p:=a2D hc (a2E hi) h1 hj
end
end Go.Cur
end
section
namespace Go.Cur
structure Wn where
 a:Nat
 b:Nat
 s:Int
def Wn.e (w:Wn):Nat×Nat:=(w.a,w.b)
def ew (w:Wn) (i:Nat):Int:=(if i=w.a then 1 else 0)-(if i=w.b then 1 else 0)
def lw:List Wn→Nat→Nat→Int
 |[],_,_=>0
 |w::W,i,k=>w.s*(ew w i*ew w k)+lw W i k
def OkW (W:List Wn) (n:Nat):Prop:=∀w∈W,w.a<n∧w.b<n∧w.a≠w.b∧0<w.s
def T7 (W:List Wn):List (Nat×Nat):=W.map Wn.e
theorem P7 {i k:Nat}:∀{u v:List Wn},lw (u++v) i k=lw u i k+lw v i k
 |[],v=>by simp[lw]
 |w::u,v=>by rw[List.cons_append,lw,lw,P7];omega
theorem b2b {i k:Nat}:∀{W:List Wn},lw W i k=lw W k i
 |[]=>rfl
 |w::W=>by rw[lw,lw,b2b,Int.mul_comm (ew w i)]
theorem b7o {w:Wn}:∀{U:List Nat},U.Nodup→sm (ew w) U=(if w.a∈U then 1 else 0)-(if w.b∈U then 1 else 0)
 |[],_=>by simp[sm]
 | x::U,h=>by
  rw[List.nodup_cons]at h;rw[sm,b7o h.2];unfold ew
  by_cases ha:x=w.a
  ·by_cases hb:x=w.b
   ·have h1:w.a∉U:=ha▸h.1;have h2:w.b∉U:=hb▸h.1;have h3:w.b=w.a:=by omega
    subst ha;simp[h3]
   ·have h1:w.a∉U:=ha▸h.1;have h2:¬w.b=x:=fun e=>hb e.symm;subst ha;simp[h1,hb,h2];omega
  ·have h2:¬w.a=x:=fun e=>ha e.symm
   by_cases hb:x=w.b
   ·have h1:w.b∉U:=hb▸h.1;subst hb;simp[h1,ha,h2];omega
   ·have h3:¬w.b=x:=fun e=>hb e.symm;simp[ha,hb,h2,h3]
def lwU:List Wn→List Nat→Nat→Int
 |[],_,_=>0
 |w::W,U,k=>w.s*(ew w k*((if w.a∈U then 1 else 0)-(if w.b∈U then 1 else 0)))+lwU W U k
theorem a6P {k:Nat} {U:List Nat} (hU:U.Nodup):∀{W:List Wn},sm (fun i=>lw W i k) U=lwU W U k
 |[]=>by simp only[lw,lwU];exact N6 fun _ _=>rfl
 |w::W=>by
  simp only[lw,lwU];rw[a1i,a6P hU,←b7o hU]
  congr 1
  rw[r6]
  congr 1
  rw[←r6];exact n9 fun i _=>Int.mul_comm _ _
theorem c0H {w:Wn} {i k:Nat} (h:i≠k):ew w i*ew w k≤0:=by
 unfold ew
 by_cases h1:i=w.a
 ·have h3:¬k=w.a:=by omega
  by_cases h2:i=w.b
  ·have h4:¬k=w.b:=by omega
   simp[h1,h3,h4]
  ·rw[if_pos h1,if_neg h2,if_neg h3]
   split<;>omega
 ·by_cases h2:i=w.b
  ·have h4:¬k=w.b:=by omega
   rw[if_neg h1,if_pos h2,if_neg h4]
   split<;>omega
  ·rw[if_neg h1,if_neg h2];omega
theorem b7n {n i k:Nat} (h:i≠k):∀{W:List Wn},OkW W n→lw W i k≤0
 |[],_=>Int.le_refl _
 |w::W,hW=>by
  have h1:=b7n h (W:=W) fun w hw=>hW w (by simp[hw]);have h2:=c0H (w:=w) h;have h3:=(hW w (by simp)).2.2.2;have:=Int.mul_nonpos_of_nonneg_of_nonpos (Int.le_of_lt h3) h2;rw[lw];omega
theorem b1s {n k:Nat} {U:List Nat} (hk:k∈U):∀{W:List Wn},OkW W n→0≤lwU W U k
 |[],_=>Int.le_refl _
 | w ::W,hW=>by
  have h1:=b1s hk (W:=W) fun w hw=>hW w (by simp[hw]);have h3:=(hW w (by simp)).2.2.2;have h2:0≤ew w k*((if w.a∈U then 1 else 0)-(if w.b∈U then 1 else 0)):=by
   unfold ew
   by_cases e1:k=w.a
   ·have h5:=(hW w (by simp)).2.2.1;rw[if_pos e1,if_neg (by omega),←e1,if_pos hk]
    split<;>omega
   ·by_cases e2:k=w.b
    ·rw[if_neg e1,if_pos e2,←e2,if_pos hk]
     split<;>omega
    ·rw[if_neg e1,if_neg e2];omega
  have:=Int.mul_nonneg (Int.le_of_lt h3) h2;rw[lwU];omega
theorem a8H {n k:Nat} {U:List Nat} (hk:k∈U):∀{W:List Wn},OkW W n→(∃w∈W,(k=w.a∧w.b∉U)∨(k=w.b∧w.a∉U))→0<lwU W U k
 |[],_,⟨_,h,_⟩=>by simp at h
 | w::W,hW,⟨x,hx,h⟩=>by
  have hW':OkW W n:=fun w hw=>hW w (by simp[hw])
  rcases List.mem_cons.1 hx with rfl|hx
  ·have h1:=b1s hk hW';have h3:=(hW x (by simp)).2.2.2;have h2:ew x k*((if x.a∈U then 1 else 0)-(if x.b∈U then 1 else 0))=1:=by
    have h5:=(hW x (by simp)).2.2.1;unfold ew
    rcases h with⟨e,h⟩|⟨e,h⟩
    ·rw[if_pos e,if_neg (by omega),←e,if_pos hk,if_neg h];rfl
    ·rw[if_neg (by omega),if_pos e,←e,if_pos hk,if_neg h];rfl
   rw[lwU,h2];omega
  ·have h1:=a8H hk hW' ⟨x,hx,h⟩;have h2:=b1s hk (W:=[w]) fun y hy=>hW y (by simp only[List.mem_singleton]at hy;subst hy;simp);simp only[lwU]at h2 ⊢;omega
theorem b1K {n i k:Nat} {E:List (Nat×Nat)} (hE:∀e∈E,e.1<n∧e.2<n):∀{W:List Wn},(∀w∈W,w.e∈E)→lwU W (cp E n i) k=0
 |[],_=>rfl
 | w::W,hW=>by
  have h1:=b1h hE (hW w (by simp));have hb:=hE _ (hW w (by simp));have h2:w.a∈cp E n i↔w.b∈cp E n i:=by
   rw[B4,B4];simp only[Wn.e]at h1 hb;rw[h1];exact⟨fun h=>⟨hb.2,h.2⟩,fun h=>⟨hb.1,h.2⟩⟩
  rw[lwU,b1K hE fun w hw=>hW w (by simp[hw])]
  by_cases h:w.a∈cp E n i
  ·rw[if_pos h,if_pos (h2.1 h)];simp
  ·rw[if_neg h,if_neg fun e=>h (h2.2 e)];simp
theorem a1R {W:List Wn} {n:Nat} (hW:OkW W n):∀e∈T7 W,e.1<n∧e.2<n:=fun e he=>by
 obtain⟨w,hw,rfl⟩:=List.mem_map.1 he;have:=hW w hw;exact⟨this.1,this.2.1⟩
def prt (W:List Wn) (n i:Nat) (u:Nat→Int) (fs:List Nat) (p:Nat→Nat) (s V:Nat→Int):o6:=⟨cp (T7 W) n i,lw W,u,fs,p,s,V⟩
theorem c1r {W:List Wn} {n i:Nat} {u:Nat→Int} {fs:List Nat} {p:Nat→Nat} {s V:Nat→Int} (hW:OkW W n) (hp:∀b∈fs,p b∈cp (T7 W) n i) (hs:∀b∈fs,0<s b):(prt W n i u fs p s V).Ok where
 nd:=I4
 off:=fun i _ k _ h=>b7n h hW
 col:=fun k _=>by
  show sm (fun i=>lw W i k) (cp (T7 W) n i)=0;rw[a6P I4,b1K (a1R hW) fun w hw=>List.mem_map.2 ⟨w,hw,rfl⟩]
 row:=fun k _=>by
  show sm (fun i=>lw W k i) (cp (T7 W) n i)=0;rw[n9 (g:=fun i=>lw W i k) fun i _=>b2b,a6P I4,b1K (a1R hW) fun w hw=>List.mem_map.2 ⟨w,hw,rfl⟩]
 lead:=fun U hU hn hs ⟨j,hj,hjU⟩=>by
  obtain⟨k0,hk0⟩:=List.exists_mem_of_ne_nil U hn;obtain⟨e,he,h⟩:=c1Z (a1R hW) hs hk0 hj hjU;obtain⟨w,hw,rfl⟩:=List.mem_map.1 he
  rcases h with⟨h1,h2,_⟩|⟨h1,h2,_⟩
  ·refine⟨w.a,h1,?_⟩;show 0<sm (fun i=>lw W i w.a) U;rw[a6P hU];exact a8H h1 hW ⟨w,hw, .inl ⟨rfl,h2⟩⟩
  ·refine⟨w.b,h1,?_⟩;show 0<sm (fun i=>lw W i w.b) U;rw[a6P hU];exact a8H h1 hW ⟨w,hw, .inr ⟨rfl,h2⟩⟩
 pin:=hp
 spos:=hs
end Go.Cur
end
section
namespace Go.Cur
theorem b8Q {P:o6} (ho:P.Ok) {S:Nat→Bool} {x:Nat→Int} {i:Nat} (hi:i∈P.ns):sm (fun k=>P.A S i k*x k) P.ns=sm (fun k=>P.L i k*x k) P.ns+P.at_ S P.s i*x i:=by
 have e3:=a8g (f:=fun k=>P.at_ S P.s k*x k) ho.nd hi;rw[←e3,←a1i];refine n9 fun k _=>?_;unfold o6.A
 by_cases h:i=k
 ·subst h;simp only[if_true];rw[Int.add_mul]
 ·simp[h]
theorem b3w {P:o6} (ho:P.Ok) {S:Nat→Bool} (hn:∃b∈P.fs,S b=true) {y z:Nat→Int} {e d:Int} (h:∀i∈P.ns,d*sm (fun k=>P.A S i k*y k) P.ns≤e*sm (fun k=>P.A S i k*z k) P.ns):∀k∈P.ns,d*y k≤e*z k:=by
 intro k hk;have:=Y6 (A:=P.A S) (x:=fun k=>e*z k-d*y k) ho.nd (b9d ho) (fun i hi=>by rw[c0P ho hi];exact b5Y ho) (b3B ho).2 (a7W ho hn) (fun i hi=>by
  have e1:sm (fun k=>P.A S i k*(e*z k-d*y k)) P.ns=e*sm (fun k=>P.A S i k*z k) P.ns-d*sm (fun k=>P.A S i k*y k) P.ns:=by
   rw[←r6,←r6,←a0T];refine n9 fun k _=>?_;rw[Int.mul_sub,Int.mul_left_comm,Int.mul_left_comm _ d]
  rw[e1];have:=h i hi;omega) k hk
 have h2:0≤e*z k-d*y k:=this;omega
def o6.give (P:o6) (x:Nat→Int) (d:Int) (i:Nat):Int:=sm (fun b=>if P.p b=i then P.s b*max 0 (P.V b*d-x i)else 0) P.fs
structure c3r (P:o6) (x:Nat→Int) (d:Int):Prop where
 pos:0<d
 eq:∀i∈P.ns,sm (fun k=>P.L i k*x k) P.ns=P.give x d i-d*P.u i
def o6.withU (P:o6) (u:Nat→Int):o6:={P with u:=u}
theorem a9R {P:o6} {u:Nat→Int} (ho:P.Ok):(P.withU u).Ok:=⟨ho.nd,ho.off,ho.col,ho.row,ho.lead,ho.pin,ho.spos⟩
structure Sol (P:o6) (S:Nat→Bool) (x:Nat→Int) (d:Int):Prop where
 pos:0<d
 eq:∀i∈P.ns,sm (fun k=>P.A S i k*x k) P.ns=d*P.b S i
theorem a5r {P:o6} (ho:P.Ok) {S:Nat→Bool} (hn:∃b∈P.fs,S b=true):Sol P S (P.num S) (P.den S):=⟨J4 ho hn,fun i hi=>a6C ho hi⟩
theorem b8R {P:o6} (ho:P.Ok) {S:Nat→Bool} (hn:∃b∈P.fs,S b=true) {x y:Nat→Int} {d e:Int} (hx:Sol P S x d) (hy:Sol P S y e):∀k∈P.ns,e*x k=d*y k:=by
 intro k hk;have h1:=b3w ho hn (y:=x) (z:=y) (d:=e) (e:=d) (fun i hi=>by rw[hx.eq i hi,hy.eq i hi,Int.mul_left_comm];exact Int.le_refl _) k hk;have h2:=b3w ho hn (y:=y) (z:=x) (d:=d) (e:=e) (fun i hi=>by rw[hx.eq i hi,hy.eq i hi,Int.mul_left_comm];exact Int.le_refl _) k hk;omega
theorem b3h {P:o6} (ho:P.Ok) {u':Nat→Int} (hu:∀i∈P.ns,P.u i≤u' i) {S:Nat→Bool} (hn:∃b∈P.fs,S b=true) {x y:Nat→Int} {d e:Int} (hx:c3r P x d) (hy:Sol (P.withU u') S y e):∀k∈P.ns,d*y k≤e*x k:=by
 refine b3w ho hn fun i hi=>?_;have h1:sm (fun k=>P.A S i k*y k) P.ns=e*(P.withU u').b S i:=hy.eq i hi;rw[h1,b8Q ho hi,hx.eq i hi,Int.mul_left_comm];refine Int.mul_le_mul_of_nonneg_left ?_ (Int.le_of_lt hy.pos);have h2:(P.withU u').b S i=-u' i+P.at_ S (fun b=>P.s b*P.V b) i:=rfl;have h3:d*P.at_ S (fun b=>P.s b*P.V b) i-P.at_ S P.s i*x i≤P.give x d i:=by
  unfold o6.at_ o6.give;rw[Int.mul_comm (sm _ _) (x i),←r6,←r6,←a0T];refine b2d fun b hb=>?_;have hs:=ho.spos b hb
  by_cases hp:P.p b=i
  ·rw[if_pos hp];have hm:P.s b*(P.V b*d-x i)≤P.s b*max 0 (P.V b*d-x i):=Int.mul_le_mul_of_nonneg_left (Int.le_max_right _ _) (Int.le_of_lt hs);have h0:0≤P.s b*max 0 (P.V b*d-x i):=Int.mul_nonneg (Int.le_of_lt hs) (Int.le_max_left _ _)
   by_cases hS:S b=true
   ·rw[if_pos ⟨hS,hp⟩,if_pos ⟨hS,hp⟩];have e1:P.s b*(P.V b*d-x i)=d*(P.s b*P.V b)-x i*P.s b:=by
     rw[Int.mul_sub,Int.mul_comm (x i),←Int.mul_assoc,Int.mul_comm d]
    show d*(P.s b*P.V b)-x i*P.s b≤_;omega
   ·rw[if_neg (fun h=>hS h.1),if_neg (fun h=>hS h.1)];omega
  ·rw[if_neg (fun h=>hp h.2),if_neg (fun h=>hp h.2),if_neg hp];omega
 have h4:=Int.mul_le_mul_of_nonneg_left (hu i hi) (Int.le_of_lt hx.pos);rw[h2,Int.mul_add,Int.mul_neg];omega
theorem b1F {P:o6} (ho:P.Ok) {S:Nat→Bool} {x:Nat→Int} {d:Int} (hx:Sol P S x d) (hf:∀b∈P.fs,(S b=true→x (P.p b)≤P.V b*d)∧(S b=false→P.V b*d≤x (P.p b))):c3r P x d:=by
 refine⟨hx.pos,fun i hi=>?_⟩;have h1:=hx.eq i hi;rw[b8Q ho hi]at h1;have h2:P.b S i=-P.u i+P.at_ S (fun b=>P.s b*P.V b) i:=rfl;have h3:d*P.at_ S (fun b=>P.s b*P.V b) i-P.at_ S P.s i*x i=P.give x d i:=by
  unfold o6.at_ o6.give;rw[Int.mul_comm (sm _ _) (x i),←r6,←r6,←a0T];refine n9 fun b hb=>?_;have hfb:=hf b hb
  by_cases hp:P.p b=i
  ·rw[if_pos hp];rw[hp]at hfb
   by_cases hS:S b=true
   ·rw[if_pos ⟨hS,hp⟩,if_pos ⟨hS,hp⟩,Int.max_eq_right (by have:=hfb.1 hS;omega),Int.mul_sub,Int.mul_comm (x i),←Int.mul_assoc (P.s b),Int.mul_comm d]
   ·rw[if_neg (fun h=>hS h.1),if_neg (fun h=>hS h.1),Int.max_eq_left (by have:=hfb.2 (by simpa using hS);omega)];simp
  ·rw[if_neg (fun h=>hp h.2),if_neg (fun h=>hp h.2),if_neg hp];simp
 rw[h2,Int.mul_add,Int.mul_neg]at h1;omega
theorem a3S {P:o6} (ho:P.Ok) {S:Nat→Bool} (hf:a4G P S):c3r P (P.num S) (P.den S):=b1F ho (a5r ho hf.1) hf.2
theorem b5W {P:o6} (ho:P.Ok) {S S':Nat→Bool} (h:a4G P S) (h':a4G P S'):∀k∈P.ns,P.num S k*P.den S'=P.num S' k*P.den S:=by
 intro k hk;have h1:=b3h ho (u':=P.u) (fun i _=>Int.le_refl _) h'.1 (a3S ho h) (a5r (a9R ho) (P:=P.withU P.u) h'.1) k hk;have h2:=b3h ho (u':=P.u) (fun i _=>Int.le_refl _) h.1 (a3S ho h') (a5r (a9R ho) (P:=P.withU P.u) h.1) k hk;have e1:(P.withU P.u).num S' k=P.num S' k:=rfl;have e2:(P.withU P.u).num S k=P.num S k:=rfl;have e3:(P.withU P.u).den S'=P.den S':=rfl;have e4:(P.withU P.u).den S=P.den S:=rfl;rw[e1,e3]at h1;rw[e2,e4]at h2;rw[Int.mul_comm (P.num S k),Int.mul_comm (P.num S' k)];omega
def D8 (P:o6) (S:Nat→Bool):Nat→Bool:=fun b=>decide (P.num S (P.p b)<P.V b*P.den S)
def b0j (P:o6) (S:Nat→Bool):Prop:=∀b∈P.fs,S b=decide (P.num S (P.p b)<P.V b*P.den S)
theorem a8m {P:o6} {S:Nat→Bool} (hn:∃b∈P.fs,S b=true) (h:b0j P S):a4G P S:=⟨hn,fun b hb=>by
 have:=h b hb;refine⟨fun e=>?_,fun e=>?_⟩
 ·rw[e]at this;have:=of_decide_eq_true this.symm;omega
 ·rw[e]at this;have:=of_decide_eq_false this.symm;omega⟩
theorem a6U {P:o6} {S S':Nat→Bool} (h:∀b∈P.fs,S b=S' b):P.num S=P.num S'∧P.den S=P.den S':=by
 have ha:∀c,P.at_ S c=P.at_ S' c:=fun c=>funext fun i=>n9 fun b hb=>by rw[h b hb]
 have hA:P.A S=P.A S':=by funext i k;unfold o6.A;rw[ha]
 have hb:P.b S=P.b S':=by funext i;unfold o6.b;rw[ha]
 refine⟨?_,?_⟩
 ·funext k;unfold o6.num;rw[hA,hb]
 ·unfold o6.den;rw[hA]
theorem a3u {P:o6} (ho:P.Ok) (hsum:0<sm P.u P.ns) {S:Nat→Bool} (hf:a4G P S):(∃b∈P.fs,D8 P S b=true)∧b0j P (D8 P S):=by
 have hd:=J4 ho hf.1;have hne:∃b∈P.fs,D8 P S b=true:=by
  refine Classical.byContradiction fun hno=>?_;have h1:=a8T ho S;have h2:sm (fun b=>if S b=true then P.s b*(P.V b*P.den S-P.num S (P.p b))else 0) P.fs=0:=N6 fun b hb=>by
   by_cases hS:S b=true
   ·have h3:=(hf.2 b hb).1 hS;have h4:¬P.num S (P.p b)<P.V b*P.den S:=fun hlt=>hno ⟨b,hb,by simpa [D8]using hlt⟩;rw[if_pos hS,show P.V b*P.den S-P.num S (P.p b)=0 by omega,Int.mul_zero]
   ·rw[if_neg hS]
  rw[h2]at h1;have:=Int.mul_pos hd hsum;omega
 refine⟨hne,?_⟩;have hsol:Sol P (D8 P S) (P.num S) (P.den S):=by
  refine⟨hd,fun i hi=>?_⟩;have h1:=a6C ho hi (S:=S);rw[b8Q ho hi]at h1 ⊢;unfold o6.b at h1 ⊢;have h3:P.den S*P.at_ S (fun b=>P.s b*P.V b) i-P.at_ S P.s i*P.num S i=P.den S*P.at_ (D8 P S) (fun b=>P.s b*P.V b) i-P.at_ (D8 P S) P.s i*P.num S i:=by
   unfold o6.at_;rw[Int.mul_comm (sm _ _) (P.num S i),Int.mul_comm (sm _ _) (P.num S i),←r6,←r6,←r6,←r6,←a0T,←a0T];refine n9 fun b hb=>?_
   by_cases hp:P.p b=i
   ·have hfb:=hf.2 b hb;rw[hp]at hfb;have hst:D8 P S b=decide (P.num S i<P.V b*P.den S):=by unfold D8;rw[hp]
    by_cases hS:S b=true
    ·by_cases hlt:P.num S i<P.V b*P.den S
     ·simp[hS,hp,hst,hlt]
     ·have h4:=hfb.1 hS;have h5:P.V b*P.den S=P.num S i:=by omega
      simp[hS,hp,hst,hlt];rw[Int.mul_left_comm,Int.mul_comm (P.den S),h5,Int.mul_comm (P.num S i)];omega
    ·have h4:=hfb.2 (by simpa using hS);have hlt:¬P.num S i<P.V b*P.den S:=by omega
     simp[hS,hst,hlt]
   ·simp[hp]
  rw[Int.mul_add]at h1 ⊢;omega
 have hone:=b8R ho hne hsol (a5r ho hne);have hd':=J4 ho hne;intro b hb;have h1:=hone _ (ho.pin b hb);show decide (P.num S (P.p b)<P.V b*P.den S)=decide (P.num (D8 P S) (P.p b)<P.V b*P.den (D8 P S));refine decide_eq_decide.2 ?_;rw[←Int.mul_lt_mul_left hd',h1,Int.mul_left_comm,Int.mul_comm (P.den (D8 P S)) (P.den S),←Int.mul_left_comm,Int.mul_lt_mul_left hd]
end Go.Cur
end
section
namespace Go.Cur
def ps (t:Nat→Int):Nat→Int
 |0=>0
 |j+1=>ps t j+t j
theorem a1z {t u:Nat→Int}:∀{n:Nat},(∀j,j<n→t j=u j)→ps t n=ps u n
 |0,_=>rfl
 |n+1,h=>by rw[ps,ps,a1z fun j hj=>h j (by omega),h n (by omega)]
theorem a5p {t:Nat→Int}:∀{n:Nat},ps t (n+1)=t 0+ps (fun j=>t (j+1)) n
 |0=>by simp[ps]
 |n+1=>by rw[ps,a5p,ps];omega
theorem b7C {t:Nat→Int}:∀{n:Nat},ps (fun j=>t (n-1-j)) n=ps t n
 |0=>rfl
 |n+1=>by
  rw[a5p,ps,show n+1-1-0=n by omega];rw[a1z (u:=fun j=>t (n-1-j)) fun j hj=>by rw[show n+1-1-(j+1)=n-1-j by omega],b7C];omega
theorem a8F {t:Nat→Int} (a:Int):∀{n:Nat},ps (fun j=>a*t j) n=a*ps t n
 |0=>by simp[ps]
 |n+1=>by rw[ps,ps,a8F,Int.mul_add]
theorem c1L {t:Nat→Int} {n:Nat}:ps (fun j=>-t j) n=-ps t n:=by
 have:=a8F (t:=t) (-1) (n:=n);simpa using this
theorem c3u {α:Type} [Inhabited α]:∀{cs:List α} {f:α→List α→Int},E f cs=ps (fun j=>sg j*f (cs[j]?.getD default) (cs.eraseIdx j)) cs.length
 |[],_=>rfl
 | c::cs,f=>by
  rw[E,c3u,List.length_cons,a5p];have:ps (fun j=>sg (j+1)*f ((c::cs)[j+1]?.getD default) ((c::cs).eraseIdx (j+1))) cs.length=-ps (fun j=>sg j*f (cs[j]?.getD default) (c::cs.eraseIdx j)) cs.length:=by
   rw[←c1L];refine a1z fun j hj=>?_;simp only[sg,List.getElem?_cons_succ,List.eraseIdx_cons_succ,Int.neg_mul]
  rw[this];simp[sg];omega
def minor (a:Nat→Nat→Int) (rows cols:List Nat):Int:=det rows (cols.map fun k i=>a i k)
theorem a4c {a:Nat→Nat→Int} {r:Nat} {rows cols:List Nat}:minor a (r::rows) cols=ps (fun j=>sg j*(a r (cols[j]?.getD 0)*minor a rows (cols.eraseIdx j))) cols.length:=by
 unfold minor;rw[a0g,c3u]
 rfl
theorem a7g:∀{a b:Nat},sg (a+b)=sg a*sg b
 |a,0=>by simp[sg]
 |a,b+1=>by rw[←Nat.add_assoc,sg,sg,a7g,Int.mul_neg]
theorem c1d {a b:Nat} (h:b≤a):sg (a-b)=sg a*sg b:=by
 have h1:=a7g (a:=a-b) (b:=b);rw[Nat.sub_add_cancel h]at h1;rw[h1,Int.mul_assoc,b1B,Int.mul_one]
theorem b0t {a:Nat→Nat→Int} {r:Nat} {rows cols:List Nat} (hl:cols.length=rows.length+1):minor a (rows++[r]) cols=ps (fun j=>sg j*(a r (cols[cols.length-1-j]?.getD 0)*minor a rows (cols.eraseIdx (cols.length-1-j)))) cols.length:=by
 have h1:minor a (rows++[r]) cols=sg rows.length*minor a (r::rows) cols:=by
  have:=N2 (r:=r) (is:=rows) (v:=[]) (cs:=cols.map fun k i=>a i k);rw[List.append_nil]at this;exact this
 rw[h1,a4c,←a8F,←b7C];refine a1z fun j hj=>?_;rw[←Int.mul_assoc]
 congr 1
 rw[←a7g];have h2:=c1d (a:=cols.length-1) (b:=j) (by omega);have h3:rows.length+(cols.length-1-j)=(rows.length-j)+(rows.length-j)+j:=by omega
 rw[h3,a7g,a7g,b1B,Int.one_mul]
theorem a6O {f:Nat→Nat}:∀{is:List Nat} {cs:List (Nat→Int)},det (is.map f) cs=det is (cs.map fun c i=>c (f i))
 |[],[]=>rfl
 |[],_::_=>rfl
 |i::is,cs=>by
  rw[List.map_cons,det,det,b8W];exact H4 fun c l _ _ _=>by rw[a6O]
theorem a2r {a:Nat→Nat→Int} {f g:Nat→Nat} {rows cols:List Nat}:minor a (rows.map f) (cols.map g)=minor (fun i k=>a (f i) (g k)) rows cols:=by
 unfold minor;rw[a6O,List.map_map,List.map_map]
 rfl
theorem V2 {a b:Nat→Nat→Int} {rows cols:List Nat} (h:∀i∈rows,∀k∈cols,a i k=b i k):minor a rows cols=minor b rows cols:=a2u h
theorem J7 {p:List Nat}:p=(List.range p.length).map fun j=>p.getD j 0:=by
 refine List.ext_getElem (by simp) fun j h1 h2=>?_;simp[h1]
theorem b3V {A:Nat→Nat→Int} {p:List Nat}:D A p=minor (fun i k=>A (p.getD i 0) (p.getD k 0)) (List.range p.length) (List.range p.length):=by
 have h:D A p=minor A p p:=rfl;rw[h]
 conv=>lhs;rw[J7 (p:=p)]
 exact a2r
theorem F5 {p:List Nat} (hp:p.Nodup) {i j:Nat} (hi:i<p.length) (hj:j<p.length) (h:p.getD i 0=p.getD j 0):i=j:=by
 simp only[List.getD_eq_getElem?_getD,List.getElem?_eq_getElem hi,List.getElem?_eq_getElem hj,Option.getD_some]at h;exact(List.getElem_inj hp).1 h
theorem a6w {A:Nat→Nat→Int} {b:Nat→Int} {p:List Nat} (hp:p.Nodup) {k:Nat} (hk:k<p.length):num A b p (p.getD k 0)=minor (fun i j=>if j=k then b (p.getD i 0)else A (p.getD i 0) (p.getD j 0)) (List.range p.length) (List.range p.length):=by
 have h:num A b p (p.getD k 0)=minor (fun i j=>if j=p.getD k 0 then b i else A i j) p p:=rfl;rw[h]
 conv=>lhs;rw[J7 (p:=p)]
 rw[a2r];refine V2 fun i hi j hj=>?_;rw[List.mem_range]at hi hj;have e:((List.range p.length).map fun j=>p.getD j 0)=p:=J7.symm;rw[e]
 by_cases h:j=k
 ·subst h;simp
 ·rw[if_neg h,if_neg fun e=>h (F5 hp hj hk e)]
def sa (f:Nat→Nat):List Nat→Nat
 |[]=>0
 |i::is=>f i+sa f is
theorem Q6 {f:Nat→Nat}:∀{u v:List Nat},sa f (u++v)=sa f u+sa f v
 |[],v=>by simp[sa]
 |i::u,v=>by rw[List.cons_append,sa,sa,Q6];omega
theorem a4w {f g:Nat→Nat}:∀{u:List Nat},(∀i∈u,f i≤g i)→sa f u≤sa g u
 |[],_=>Nat.le_refl _
 |i::u,h=>by
  have h1:=h i (by simp);have h2:=a4w (f:=f) (g:=g) (u:=u) fun k hk=>h k (by simp[hk]);rw[sa,sa];omega
theorem b2T {f:Nat→Nat} (a:Nat):∀{u:List Nat},sa (fun i=>f i*a) u=sa f u*a
 |[]=>by simp[sa]
 |i::u=>by rw[sa,sa,b2T,Nat.add_mul]
theorem b8Z:∀{cs:List Nat} {f:Nat→List Nat→Int} {g:Nat→Nat},(∀u c v,cs=u++c::v→(f c (u++v)).natAbs≤g c)→(E f cs).natAbs≤sa g cs
 |[],f,g,_=>by simp[E,sa]
 |c::cs,f,g,h=>by
  have h1:=h [] c cs rfl;have h2:=b8Z (cs:=cs) (f:=fun d l=>f d (c::l)) (g:=g) fun u d v e=>h (c::u) d v (by rw[e];rfl);rw[E,sa];simp only[List.nil_append]at h1;omega
theorem a2d {a:Nat→Nat→Int} {R:Nat}:∀{rows cols:List Nat},(∀i∈rows,sa (fun k=>(a i k).natAbs) cols≤R)→(minor a rows cols).natAbs≤R^rows.length
 |[],cols,_=>by
  unfold minor
  cases cols<;>simp[det]
 |i::rows,cols,h=>by
  have hm:minor a (i::rows) cols=E (fun k l=>a i k*minor a rows l) cols:=a0g;rw[hm];refine Nat.le_trans (b8Z (g:=fun k=>(a i k).natAbs*R^rows.length) fun u c v e=>?_) ?_
  ·rw[Int.natAbs_mul];refine Nat.mul_le_mul_left _ (a2d fun j hj=>?_);have:=h j (by simp[hj]);rw[e,Q6,sa]at this;rw[Q6];omega
  ·rw[b2T,List.length_cons,Nat.pow_succ,Nat.mul_comm];exact Nat.mul_le_mul_left _ (h i (by simp))
def bnd (R B:Nat):Nat→Nat
 |0=>0
 |n+1=>B*R^n+R*bnd R B n
theorem Y3 {f:Nat→Nat} {u v:List Nat} {k:Nat}:sa f (u++k::v)=f k+sa f (u++v):=by
 rw[Q6,Q6,sa];omega
theorem a3P {a:Nat→Nat→Int} {R B k0:Nat}:∀{rows cols:List Nat},cols.Nodup→k0∈cols→(∀i∈rows,(a i k0).natAbs≤B)→(∀i∈rows,sa (fun k=>if k=k0 then 0 else(a i k).natAbs) cols≤R)→(minor a rows cols).natAbs≤bnd R B rows.length
 |[],cols,_,hk,_,_=>by
  unfold minor
  cases cols with
  |nil=>simp at hk
  |cons c cs=>simp[det]
 | i ::rows,cols,hn,hk,hB,hR=>by
  have hm:minor a (i::rows) cols=E (fun k l=>a i k*minor a rows l) cols:=a0g;rw[hm,List.length_cons,bnd];refine Nat.le_trans (b8Z (g:=fun k=>if k=k0 then B*R^rows.length else(a i k).natAbs*bnd R B rows.length) fun u c v e=>?_) ?_
  ·rw[Int.natAbs_mul];subst e;obtain⟨hu,hv,hd⟩:=y4 hn
   by_cases hc:c=k0
   ·rw[if_pos hc];subst hc;refine Nat.mul_le_mul (hB i (by simp)) (a2d fun j hj=>?_);have:=hR j (by simp[hj]);rw[Y3,if_pos rfl,Nat.zero_add]at this;refine Nat.le_trans (Nat.le_of_eq ?_) this;have hne:∀x∈u++v,x≠c:=fun x hx=>by
     rintro rfl
     rcases List.mem_append.1 hx with h|h
     ·exact hu h
     ·exact hv h
    refine Nat.le_antisymm (a4w fun x hx=>by rw[if_neg (hne x hx)];exact Nat.le_refl _) (a4w fun x hx=>by rw[if_neg (hne x hx)];exact Nat.le_refl _)
   ·rw[if_neg hc];refine Nat.mul_le_mul_left _ (a3P hd ?_ (fun j hj=>hB j (by simp[hj])) fun j hj=>?_)
    ·simp only[List.mem_append,List.mem_cons]at hk ⊢
     rcases hk with h|rfl|h
     ·exact .inl h
     ·exact absurd rfl hc
     ·exact .inr h
    ·have:=hR j (by simp[hj]);rw[Y3]at this;omega
  ·obtain⟨u,v,rfl⟩:=List.append_of_mem hk;obtain⟨hu,hv,hd⟩:=y4 hn;have hne:∀x∈u++v,x≠k0:=fun x hx=>by
    rintro rfl
    rcases List.mem_append.1 hx with h|h
    ·exact hu h
    ·exact hv h
   rw[Y3,if_pos rfl];refine Nat.add_le_add_left ?_ _;have h1:=hR i (by simp);rw[Y3,if_pos rfl,Nat.zero_add]at h1;refine Nat.le_trans (Nat.le_of_eq (Nat.le_antisymm (a4w (g:=fun k=>(if k=k0 then 0 else(a i k).natAbs)*bnd R B rows.length) fun x hx=>by rw[if_neg (hne x hx),if_neg (hne x hx)];exact Nat.le_refl _) (a4w fun x hx=>by rw[if_neg (hne x hx),if_neg (hne x hx)];exact Nat.le_refl _))) ?_;rw[b2T];exact Nat.mul_le_mul_right _ h1
end Go.Cur
end
section
namespace Go.Cur
def o6.A0 (P:o6) (i0:Nat):Nat→Nat→Int:=fun i k=>if i=i0 then(if k=i0 then 1 else 0)else P.L i k
def o6.b0 (P:o6) (i0:Nat):Nat→Int:=fun i=>if i=i0 then 0 else-P.u i
def o6.num0 (P:o6) (i0:Nat) (k:Nat):Int:=Cur.num (P.A0 i0) (P.b0 i0) P.ns k
def o6.den0 (P:o6) (i0:Nat):Int:=D (P.A0 i0) P.ns
theorem b6y {P:o6} (ho:P.Ok) {i0:Nat} {tl:List Nat} (hn:P.ns=i0::tl):0<P.den0 i0:=by
 have hnd:=ho.nd;rw[hn,List.nodup_cons]at hnd;have h1:P.den0 i0=D P.L tl:=by
  unfold o6.den0 D;rw[hn,a0g,E,a4g]
  ·have e:(P.A0 i0) i0 i0=1:=by simp[o6.A0]
   rw[e,Int.one_mul,Int.sub_zero];exact a2u fun i hi k hk=>by
    have:¬i=i0:=by rintro rfl;exact hnd.1 hi
    simp[o6.A0,this]
  ·intro c l hc _ _;have:¬c=i0:=by rintro rfl;exact hnd.1 hc
   simp[o6.A0,this]
 rw[h1];have hmem:∀k∈tl,k∈P.ns:=fun k hk=>by rw[hn];simp[hk]
 refine b9u _ rfl hnd.2 ?_ ?_
 ·have hc:b1n P.L P.ns:=⟨ho.off,fun k hk=>by rw[ho.col k hk];exact Int.le_refl _⟩;rw[hn]at hc;exact b1n.minor (u:=[]) hc (by simp) hnd.1
 ·intro U hU hne hs;exact ho.lead U hU hne (fun k hk=>hmem k (hs k hk)) ⟨i0,by rw[hn];simp,fun h=>hnd.1 (hs _ h)⟩
def dg (W:List Wn) (i:Nat):Nat:=(W.filter fun w=>decide (w.a=i)||decide (w.b=i)).length
theorem b3x {i n:Nat}:∀{W:List Wn},OkW W n→(∀w∈W,w.s≤4)→0≤lw W i i∧lw W i i≤4*dg W i
 |[],_,_=>by simp[lw,dg]
 | w ::W,hW,h4=>by
  have ih:=b3x (i:=i) (W:=W) (fun w hw=>hW w (by simp[hw])) fun w hw=>h4 w (by simp[hw]);obtain⟨_,_,hne,hs⟩:=hW w (by simp);have hs4:=h4 w (by simp);rw[lw];unfold dg at ih ⊢;rw[List.filter_cons]
  by_cases ha:w.a=i
  ·have hb:¬w.b=i:=by omega
   have e:ew w i*ew w i=1:=by
    unfold ew;rw[if_pos ha.symm,if_neg fun e=>hb e.symm];rfl
   rw[e,if_pos (by simp[ha]),List.length_cons];omega
  ·by_cases hb:w.b=i
   ·have e:ew w i*ew w i=1:=by
     unfold ew;rw[if_neg fun e=>ha e.symm,if_pos hb.symm];rfl
    rw[e,if_pos (by simp[hb]),List.length_cons];omega
   ·have e:ew w i*ew w i=0:=by
     unfold ew;rw[if_neg fun e=>ha e.symm,if_neg fun e=>hb e.symm];rfl
    rw[e,if_neg (by simp[ha,hb])];omega
theorem c1c {f:Nat→Int}:∀{U:List Nat},(∀k∈U,f k≤0)→(sa (fun k=>(f k).natAbs) U:Int)=-sm f U
 |[],_=>rfl
 |k::U,h=>by
  have h1:=h k (by simp);have h2:=c1c (f:=f) (U:=U) fun k hk=>h k (by simp[hk]);rw[sa,sm];omega
theorem b9c {P:o6} (ho:P.Ok) {i:Nat} (hi:i∈P.ns) (h0:0≤P.L i i):(sa (fun k=>(P.L i k).natAbs) P.ns:Int)=2*P.L i i:=by
 obtain⟨u,v,e⟩:=List.append_of_mem hi;have hnd:=ho.nd;have hr:=ho.row i hi;rw[e]at hnd hr ⊢;obtain⟨hu,hv,_⟩:=y4 hnd;rw[Y3];rw[X0]at hr;have h1:=c1c (f:=fun k=>P.L i k) (U:=u++v) fun k hk=>ho.off i hi k (by
  rw[e];simp only[List.mem_append,List.mem_cons]at hk ⊢;rcases hk with h|h<;>simp[h]) (by
  rintro rfl
  rcases List.mem_append.1 hk with h|h
  ·exact hu h
  ·exact hv h)
 omega
end Go.Cur
end
section
namespace Go.Cur
open Go.AM Go.Proofs
abbrev wr (n:Int):Int:=IntKind.i64.wrap n
theorem b1A (n:Int):wr n=if n % 18446744073709551616≥9223372036854775808 then n % 18446744073709551616-18446744073709551616 else n % 18446744073709551616:=by
 simp[IntKind.wrap,IntKind.bits,IntKind.signed]
theorem b1u (n:Int):wr n % 18446744073709551616=n % 18446744073709551616:=by
 rw[b1A];split<;>omega
theorem c1x {a b:Int} (h:a % 18446744073709551616=b % 18446744073709551616):wr a=wr b:=by rw[b1A,b1A,h]
theorem b4F (a b:Int):wr (wr a+b)=wr (a+b):=c1x (by rw[Int.add_emod,b1u,←Int.add_emod])
theorem b2I (a b:Int):wr (a+wr b)=wr (a+b):=by rw[Int.add_comm,b4F,Int.add_comm]
theorem b3l (a b:Int):wr (wr a*b)=wr (a*b):=c1x (by rw[Int.mul_emod,b1u,←Int.mul_emod])
theorem b3O (a b:Int):wr (a*wr b)=wr (a*b):=by rw[Int.mul_comm,b3l,Int.mul_comm]
theorem a6p {n:Int} (h1:-9223372036854775808≤n) (h2:n≤9223372036854775807):wr n=n:=i7 h1 h2
theorem b8m (x y:Nat) (hx:x<4294967296) (hy:y<4294967296):bits .or .i64 x y=((x|||y:Nat):Int):=by
 have hb:x|||y<4294967296:=Nat.or_lt_two_pow (n:=32) (by omega) (by omega);show IntKind.i64.wrap ((BitVec.ofInt 64 x|||BitVec.ofInt 64 y).toNat:Int)=_;have h:(BitVec.ofInt 64 x|||BitVec.ofInt 64 y).toNat=x|||y:=by
  simp only[BitVec.toNat_or,BitVec.ofInt_natCast,BitVec.toNat_ofNat];rw[Nat.mod_eq_of_lt (by omega),Nat.mod_eq_of_lt (by omega)]
 rw[h];exact i7 (by omega) (by omega)
theorem b3q (x:Nat) (hx:x<4294967296):bits .and .i64 x 1=((x % 2:Nat):Int):=by
 show IntKind.i64.wrap ((BitVec.ofInt 64 x&&&BitVec.ofInt 64 (1:Nat)).toNat:Int)=_;have h:(BitVec.ofInt 64 x&&&BitVec.ofInt 64 (1:Nat)).toNat=x % 2:=by
  simp only[BitVec.toNat_and,BitVec.ofInt_natCast,BitVec.toNat_ofNat];rw[Nat.mod_eq_of_lt (by omega),Nat.mod_eq_of_lt (by omega),Nat.and_one_is_mod]
 rw[h];exact i7 (by omega) (by omega)
theorem V5 (x k:Nat) (hx:x<4294967296):bits .and .i64 ((x:Int)/2^((k:Int).toNat)) 1=if x.testBit k then 1 else 0:=by
 have e:(x:Int)/2^((k:Int).toNat)=((x/2^k:Nat):Int):=by
  rw[Int.toNat_natCast,Int.natCast_ediv];simp
 rw[e,b3q _ (Nat.lt_of_le_of_lt (Nat.div_le_self _ _) hx)];rw[Nat.testBit_eq_decide_div_mod_eq];have:x/2^k % 2=0∨x/2^k % 2=1:=by omega
 rcases this with h|h<;>simp[h]
theorem c0A (k:Nat) (hk:k≤20):IntKind.i64.wrap (1*2^((k:Int).toNat))=((2^k:Nat):Int):=by
 have h1:2^k≤2^20:=Nat.pow_le_pow_right (by omega) hk;have e:(1:Int)*2^((k:Int).toNat)=((2^k:Nat):Int):=by rw[Int.toNat_natCast,Int.one_mul];simp
 rw[e];generalize 2^k=m at h1;exact i7 (by omega) (by omega)
def unu (n used:Nat):List Nat:=(List.range n).filter fun k=> !used.testBit k
theorem a5t (k used:Nat):unu (k+1) used=unu k used++if used.testBit k then []else [k]:=by
 unfold unu;rw[List.range_succ,List.filter_append]
 cases h:used.testBit k<;>simp[h]
theorem b9x {n used k:Nat}:k∈unu n used↔k<n∧used.testBit k=false:=by simp[unu]
theorem b4s {n used:Nat}:(unu n used).Nodup:=List.nodup_range.filter _
theorem a6m {n used k:Nat} (hk:k<n) (h:used.testBit k=false):∃v,unu n used=unu k used++k::v:=by
 have:∀d,∃v,unu (k+1+d) used=unu k used++k::v:=by
  intro d
  induction d with
  |zero=>exact⟨[],by rw[Nat.add_zero,a5t,h];simp⟩
  |succ d ih=>
   obtain⟨v,hv⟩:=ih;refine⟨v++if used.testBit (k+1+d)then []else [k+1+d],?_⟩;rw[←Nat.add_assoc,a5t,hv,List.append_assoc]
   rfl
 have:=this (n-(k+1))
 rwa [show k+1+(n-(k+1))=n by omega]at this
theorem b3T {n used k:Nat} (hk:k<n) (h:used.testBit k=false):unu n (used|||2^k)=(unu n used).eraseIdx (unu k used).length:=by
 obtain⟨v,hv⟩:=a6m hk h;have hnd:=b4s (n:=n) (used:=used);have h1:unu n (used|||2^k)=(unu n used).filter fun x=>decide (x≠k):=by
  unfold unu;rw[List.filter_filter];refine List.filter_congr fun x _=>?_;rw[Nat.testBit_or,Nat.testBit_two_pow]
  by_cases e:x=k
  ·subst e;simp
  ·have e':¬k=x:=fun h=>e h.symm;simp[e,e']
 rw[hv]at hnd;obtain⟨hu,hv',_⟩:=y4 hnd;rw[h1,hv,List.eraseIdx_append_of_length_le (Nat.le_refl _),Nat.sub_self,List.eraseIdx_cons_zero,List.filter_append,List.filter_cons,if_neg (by simp)]
 congr 1
 ·refine List.filter_eq_self.2 fun x hx=>?_;have:x≠k:=by rintro rfl;exact hu hx
  simp[this]
 ·refine List.filter_eq_self.2 fun x hx=>?_;have:x≠k:=by rintro rfl;exact hv' hx
  simp[this]
theorem b7M {n used k:Nat} (hk:k<n) (h:used.testBit k=false):(unu n used)[(unu k used).length]?=some k:=by
 obtain⟨v,hv⟩:=a6m hk h;rw[hv,List.getElem?_append_right (Nat.le_refl _),Nat.sub_self];rfl
theorem a5I {n used k:Nat} (hk:k<n) (h:used.testBit k=false):(unu n (used|||2^k)).length+1=(unu n used).length:=by
 have h1:=(List.getElem?_eq_some_iff.1 (b7M hk h)).1;rw[b3T hk h,List.length_eraseIdx_of_lt h1];omega
theorem b4q {n used k:Nat} (hu:used<2^n) (hk:k<n):used|||2^k<2^n:=Nat.or_lt_two_pow hu (Nat.pow_lt_pow_right (by omega) hk)
abbrev Kvs:=List (List KC×Value)
def J9 (call:Nat→Kvs→Int×Kvs) (a:Nat→Nat→Int) (row used:Nat) (st:Int×Int×Kvs) (k:Nat):Int×Int×Kvs:=
 if used.testBit k then st
 else if a row k=0 then(st.1,wr (-st.2.1),st.2.2)
 else(wr (st.1+wr (wr (st.2.1*a row k)*(call (used|||2^k) st.2.2).1)),wr (-st.2.1),(call (used|||2^k) st.2.2).2)
def C4 (a:Nat→Nat→Int) (n:Nat):Nat→Nat→Nat→Kvs→Int×Kvs
 |0,_,used,s=>(igt s used,s)
 | d+1,row,used,s=>
  if (t7 s (ik used)).isSome then(igt s used,s)
  else(((List.range n).foldl (J9 (C4 a n d (row+1)) a row used) (0,1,s)).1,
   y5 ((List.range n).foldl (J9 (C4 a n d (row+1)) a row used) (0,1,s)).2.2 (ik used) (.int .i64 ((List.range n).foldl (J9 (C4 a n d (row+1)) a row used) (0,1,s)).1))
def b1r (a:Nat→Nat→Int) (n used:Nat):Int:=wr (minor a ((List.range n).drop (n-(unu n used).length)) (unu n used))
structure Kn (a:Nat→Nat→Int) (n:Nat) (s:Kvs):Prop where
 ok:∀(u:Nat) v,t7 s (ik u)=some v→v= .int .i64 (b1r a n u)
 int:a1s s
 full:(t7 s (ik ((2^n-1:Nat):Int))).isSome
theorem Kn.igt {a:Nat→Nat→Int} {n:Nat} {s:Kvs} (h:Kn a n s) {u:Nat} (hu:(t7 s (ik u)).isSome):igt s u=b1r a n u:=by
 obtain⟨v,hv⟩:=Option.isSome_iff_exists.1 hu;have:=h.ok u v hv;unfold Cur.igt;rw[hv,this]
theorem Kn.set {a:Nat→Nat→Int} {n:Nat} {s:Kvs} (h:Kn a n s) (u:Nat):Kn a n (y5 s (ik u) (.int .i64 (b1r a n u))):=by
 refine⟨fun x v hx=>?_,h.int.set _ _,?_⟩
 ·rw[a4b]at hx
  split at hx
  ·rename_i e;have:=P1.1 e;have e2:x=u:=by omega
   simp only[Option.some.injEq]at hx;rw[←hx,e2]
  ·exact h.ok x v hx
 ·rw[a4b]
  split
  ·rfl
  ·exact h.full
theorem b3Z {n used:Nat} (hu:used<2^n) (h:unu n used=[]):used=2^n-1:=by
 refine Nat.eq_of_testBit_eq fun k=>?_;rw[Nat.testBit_two_pow_sub_one]
 by_cases hk:k<n
 ·have:¬k∈unu n used:=by rw[h];simp
  rw[b9x]at this;have:used.testBit k=true:=by
   cases hb:used.testBit k with
   |true=>rfl
   |false=>exact absurd ⟨hk,hb⟩ this
  simp[this,hk]
 ·have:used.testBit k=false:=Nat.testBit_lt_two_pow (Nat.lt_of_lt_of_le hu (Nat.pow_le_pow_right (by omega) (by omega)));simp[this,hk]
theorem c0f (j:Nat):wr (-sg j)=sg (j+1):=by
 have:sg j=1∨sg j=-1:=by
  induction j with
  |zero=>exact Or.inl rfl
  |succ j ih=>rcases ih with h|h<;>simp[sg,h]
 rw[sg]
 rcases this with h|h<;>rw[h]<;>rfl
theorem a5E {a:Nat→Nat→Int} {n:Nat}:∀(d row used:Nat) (s:Kvs),row+d=n→used<2^n→(unu n used).length=d→Kn a n s→(C4 a n d row used s).1=b1r a n used∧Kn a n (C4 a n d row used s).2
 |0,row,used,s,hr,hu,hl,hk=>by
  have:=b3Z hu (List.length_eq_zero_iff.1 hl);subst this;exact⟨hk.igt hk.full,hk⟩
 | d + 1,row,used,s,hr,hu,hl,hk=>by
  rw[C4]
  by_cases hs:(t7 s (ik used)).isSome
  ·rw[if_pos hs];exact⟨hk.igt hs,hk⟩
  ·rw [if_neg hs]
   let t:Nat→Int:=fun j=>sg j*(a row ((unu n used)[j]?.getD 0)*minor a ((List.range n).drop (row+1)) ((unu n used).eraseIdx j))
   have key:∀k,k≤n→((List.range k).foldl (J9 (C4 a n d (row+1)) a row used) (0,1,s)).1=wr (ps t (unu k used).length)∧((List.range k).foldl (J9 (C4 a n d (row+1)) a row used) (0,1,s)).2.1=sg (unu k used).length∧Kn a n ((List.range k).foldl (J9 (C4 a n d (row+1)) a row used) (0,1,s)).2.2:=by
    intro k
    induction k with
    |zero=>intro _;exact⟨rfl,rfl,hk⟩
    | succ k ih=>
     intro hkn;obtain⟨i1,i2,i3⟩:=ih (by omega);rw[List.range_succ,List.foldl_append];simp only[List.foldl_cons,List.foldl_nil];generalize (List.range k).foldl (J9 (C4 a n d (row+1)) a row used) (0,1,s)=st at i1 i2 i3 ⊢;obtain⟨sum,sign,s1⟩:=st;simp only at i1 i2 i3 ⊢;unfold J9;rw[a5t]
     by_cases hb:used.testBit k=true
     ·rw[if_pos hb,if_pos hb,List.append_nil];exact⟨i1,i2,i3⟩
     ·have hb':used.testBit k=false:=by simpa using hb
      rw[if_neg hb,if_neg hb,List.length_append,List.length_singleton];have hat:=b7M (n:=n) (by omega) hb';have ht:t (unu k used).length=sg (unu k used).length*(a row k*minor a ((List.range n).drop (row+1)) (unu n (used|||2^k))):=by
       show sg _*(a row ((unu n used)[(unu k used).length]?.getD 0)*minor a ((List.range n).drop (row+1)) ((unu n used).eraseIdx (unu k used).length))=_;rw[hat,b3T (by omega) hb'];rfl
      by_cases h0:a row k=0
      ·rw[if_pos h0,ps,ht,h0,Int.zero_mul,Int.mul_zero,Int.add_zero,i2];exact⟨i1,c0f _,i3⟩
      ·rw[if_neg h0];obtain⟨c1,c2⟩:=a5E d (row+1) (used|||2^k) s1 (by omega) (b4q hu (by omega)) (by have:=a5I (n:=n) (by omega) hb';omega) i3;refine⟨?_,?_,c2⟩
       ·simp only;rw[c1,i1,i2,ps,ht];have hlen:=a5I (n:=n) (by omega) hb';have hm:b1r a n (used|||2^k)=wr (minor a ((List.range n).drop (row+1)) (unu n (used|||2^k))):=by
         unfold b1r;rw[show n-(unu n (used|||2^k)).length=row+1 by omega]
        rw[hm,b4F,b3l,b3O,b2I,Int.mul_assoc]
       ·simp only;rw[i2];exact c0f _
   obtain⟨k1,k2,k3⟩:=key n (Nat.le_refl _);have hv:wr (ps t (unu n used).length)=b1r a n used:=by
    unfold b1r;have hrow:(List.range n).drop (n-(unu n used).length)=row::(List.range n).drop (row+1):=by
     rw[hl,show n-(d+1)=row by omega,List.drop_eq_getElem_cons (by simp;omega)];simp
    rw[hrow,a4c]
   rw[hv]at k1;rw[k1];exact⟨rfl,k3.set used⟩
end Go.Cur
end
section
namespace Go.Cur
open Go.AM Go.Proofs
def mAt (m:List (List Int)) (i k:Nat):Int:=at0 (I0 m i) k
abbrev mL (m:List (List Int)):AV:= .lst 1 (m.map F7)
structure Sq (m:List (List Int)) (n:Nat):Prop where
 len:m.length=n
 rows:∀r∈m,r.length=n
theorem Sq.row {m:List (List Int)} {n i:Nat} (h:Sq m n) (hi:i<n):m[i]?=some (I0 m i)∧(I0 m i).length=n:=by
 have h1:=b1C (m:=m) (k:=i) (by rw[h.len];exact hi);exact⟨h1,h.rows _ (List.mem_of_getElem? h1)⟩
theorem Sq.get {m:List (List Int)} {n i k:Nat} (h:Sq m n) (hi:i<n) (hk:k<n):(I0 m i)[k]?=some (mAt m i k):=B9 (by rw[(h.row hi).2];exact hk)
def dB (m:List (List Int)):Nat→AV
 |0=> .vptr [.any]
 |d+1=> .vptr [.clo 115 [.ptr 0 0 0, .vptr [mL m],dB m d]]
theorem b4b (m:List (List Int)) (G:List (Option Nat)) (h0:l4 G 0=some 0):∀d k,2*d+1≤k→n0 G k (dB m d)=dB m d
 |0,k,h=>by
  obtain⟨k,rfl⟩:∃m,k=m+1:=⟨k-1,by omega⟩;show AV.vptr [n0 G k .any]=_
  cases k<;>rfl
 | d+1,k,h=>by
  obtain⟨k,rfl⟩:∃m,k=m+2:=⟨k-2,by omega⟩;have ih:=b4b m G h0 d k (by omega);have p0:n0 G k (.ptr 0 0 0)= .ptr 0 0 0:=by
   have e:n0 G k (.ptr 0 0 0)=match l4 G 0 with|some q=> .ptr q 0 0|none=> .any:=by cases k<;>rfl
   rw[e,h0]
  have p1:n0 G k (.vptr [mL m])= .vptr [mL m]:=by
   obtain⟨k,rfl⟩:∃m,k=m+1:=⟨k-1,by omega⟩;show AV.vptr [n0 G k (mL m)]=_
   cases k<;>rfl
  show AV.vptr [.clo 115 [n0 G k (.ptr 0 0 0),n0 G k (.vptr [mL m]),n0 G k (dB m d)]]=_;rw[ih,p0,p1];rfl
abbrev b7e (m:List (List Int)) (row used:Nat) (B:AV):List AV:=[I row,I used, .ptr 0 0 0, .vptr [mL m],B]
abbrev a5w (s:Kvs):Option m5:=some (.map false [.i .i64] s)
theorem b1Y (m:List (List Int)) (row used:Nat) (s:Kvs) (B:AV) (hI:a1s s) (hs:(t7 s (ik used)).isSome=true):
  g6 Try.prog 115 (b7e m row used B) [some (.els 1 [[.mp 1]])] [a5w s] (I (igt s used)) [some (.els 1 [[.mp 1]])] [a5w s]:=by
 refine g6.of_bodyG [2] Try.func115 rfl (by decide) (by simp[Try.ntmps115]) rfl rfl ?_;intro J hJ;simp only[Try.ntmps115,Try.results115];refine gS fun K hK=>?_;simp -dsimp;apply hK;clear hK K;refine b9 fun K1 hK1=>?_;refine gS fun K hK=>?_;simp -dsimp [s9 hI,hs];refine p6 (_) (fun hm=>rfl) ?_;simp -dsimp [s9 hI,hs];apply hK;clear hK K;refine gS fun K hK=>?_;simp -dsimp;apply hK;clear hK K;refine d8 rfl (fun hc0=>?_) (fun hc0=>?_)
 ·refine gS fun K hK=>?_;simp -dsimp;apply hK;clear hK K;exact k7 ⟨[some 0,some 1],rfl,by simp,by simp,by simp,by simp[y8,n5]⟩
 ·simp at hc0
theorem c1B (m:List (List Int)) (n d row used:Nat) (s:Kvs) (hq:Sq m n) (hn:n≤10) (hr:row+(d+1)=n) (hu:used<2^n) (hl:(unu n used).length=d+1) (hk:Kn (mAt m) n s) (hs:(t7 s (ik used)).isSome=false)
  (hb:∀row used s,row+d=n→used<2^n→(unu n used).length=d→Kn (mAt m) n s→g6 Try.prog 115 (b7e m row used (dB m d)) [some (.els 1 [[.mp 1]])] [a5w s] (I (C4 (mAt m) n d row used s).1) [some (.els 1 [[.mp 1]])] [a5w (C4 (mAt m) n d row used s).2]):
  g6 Try.prog 115 (b7e m row used (dB m (d+1))) [some (.els 1 [[.mp 1]])] [a5w s] (I (C4 (mAt m) n (d+1) row used s).1) [some (.els 1 [[.mp 1]])] [a5w (C4 (mAt m) n (d+1) row used s).2]:=by
 have hI:=hk.int;have hdn:d≤10:=by omega
 have hB1:∀k,36≤k→n0 [some 0,some 1] k (dB m d)=dB m d:=fun k hk=>b4b m _ rfl d k (by omega);have hB2:∀k,36≤k→n0 [some 0,some 2] k (dB m d)=dB m d:=fun k hk=>b4b m _ rfl d k (by omega);have hpow:(2:Nat)^n≤2^10:=Nat.pow_le_pow_right (by omega) hn;have hu2:used<4294967296:=by omega
 have hok:=fun s=>a5E (a:=mAt m) (n:=n) d (row+1) s;have e0:C4 (mAt m) n (d+1) row used s=(((List.range n).foldl (J9 (C4 (mAt m) n d (row+1)) (mAt m) row used) (0,1,s)).1,
   y5 ((List.range n).foldl (J9 (C4 (mAt m) n d (row+1)) (mAt m) row used) (0,1,s)).2.2 (ik used) (.int .i64 ((List.range n).foldl (J9 (C4 (mAt m) n d (row+1)) (mAt m) row used) (0,1,s)).1)):=by
  rw[C4,if_neg (by simp[hs])]
 rw[e0];have hml:=hq.len;have gr:=(hq.row (i:=row) (by omega)).1;have wrow:IntKind.i64.wrap ((row:Int)+1)=((row+1:Nat):Int):=by rw[i7 (by omega) (by omega)];omega
 show g6 Try.prog 115 [I row,I used, .ptr 0 0 0, .vptr [mL m], .vptr [.clo 115 [.ptr 0 0 0, .vptr [mL m],dB m d]]] _ _ _ _ _;generalize dB m d=B at hb hB1 hB2 ⊢;refine g6.of_bodyG [2] Try.func115 rfl (by decide) (by simp[Try.ntmps115]) rfl rfl ?_;intro J hJ;simp only[Try.ntmps115,Try.results115];refine gS fun K hK=>?_;simp -dsimp;apply hK;clear hK K;refine b9 fun K1 hK1=>?_;refine gS fun K hK=>?_;simp -dsimp [s9 hI,hs];refine p6 (_) (fun hm=>rfl) ?_;simp -dsimp [s9 hI,hs];apply hK;clear hK K;refine gS fun K hK=>?_;simp -dsimp;apply hK;clear hK K;refine d8 rfl (fun hc0=>?_) (fun hc0=>?_)
 ·simp at hc0
 ·refine e9 ?_;simp only[zT,reduceIte,Nat.reduceEqDiff];refine hK1 _ _ ?_;refine b7 [0,1,2,3,4] (Or.inr (by simp)) ?_;simp only[zP,Nat.reduceEqDiff,reduceIte];refine gS fun K hK=>?_;simp -dsimp;apply hK;clear hK K;refine b9 fun K2 hK2=>?_;refine gS fun K hK=>?_;simp -dsimp;apply hK;clear hK K;refine d7 ?_;refine b7 [0,1,2,3,4,10,11,23,24] (Or.inr (by simp)) ?_;simp only[zP,Nat.reduceEqDiff,reduceIte];refine g8 [0,1,2,3,4,23] (α:=Nat×(Int×Int×Kvs)) (fun x=>[(10,I x.2.1),(11,I x.2.2.1),(24,I x.1)]) (fun x=>[some (.els 1 [[.mp 1]]),a5w x.2.2.2]) (fun x=>x.1≤n∧x.2=(List.range x.1).foldl (J9 (C4 (mAt m) n d (row+1)) (mAt m) row used) (0,1,s)∧Kn (mAt m) n x.2.2.2) (fun x=>n-x.1) (0,0,1,s) ?_ ?_ ?_
  ·exact⟨Nat.zero_le _,rfl,hk⟩
  ·exact m8 (e8 [some 0,some 1] rfl (by simp[hB1]) (by simp)) (by simp)
  rintro⟨k,sum,sign,s1⟩ ⟨k1,k2,k3⟩;simp only at k1 k2 k3 ⊢;simp only[zP,Nat.reduceEqDiff,reduceIte];refine gS fun K hK=>?_;simp -dsimp;apply hK;clear hK K;refine b9 fun K3 hK3=>?_;refine d8 rfl (fun hc1=>?_) (fun hc1=>?_)
  ·have hkn:k<n:=by rw[←hml];simpa using hc1
   have wk:=zW k (by omega);have hbit:bits .and .i64 ((used:Int)/2^k) 1=if used.testBit k then 1 else 0:=by have:=V5 used k hu2;rwa [Int.toNat_natCast]at this
   have hb64:k≤IntKind.i64.bits:=Nat.le_trans (show k≤10 by omega) (by decide);have gk:=hq.get (i:=row) (by omega) hkn;have hst:(List.range (k+1)).foldl (J9 (C4 (mAt m) n d (row+1)) (mAt m) row used) (0,1,s)=J9 (C4 (mAt m) n d (row+1)) (mAt m) row used (sum,sign,s1) k:=by rw[List.range_succ,List.foldl_append,←k2];rfl
   refine e9 ?_;simp only[zT,reduceIte,Nat.reduceEqDiff];refine hK3 _ _ ?_;refine b7 [0,1,2,3,4,10,11,23,24] (Or.inr (by simp)) ?_;simp only[zP,Nat.reduceEqDiff,reduceIte];refine b9 fun K4 hK4=>?_;refine d7 ?_;refine gS fun K hK=>?_;simp -dsimp;apply hK;clear hK K;refine b9 fun K5 hK5=>?_;refine gS fun K hK=>?_;simp -dsimp [hbit,hb64];apply hK;clear hK K;refine d8 rfl (fun hc2=>?_) (fun hc2=>?_)
   ·have hbt:used.testBit k=true:=by
     cases h:used.testBit k with
     |true=>rfl
     |false=>rw[h]at hc2;simp at hc2
    refine i6 ?_;simp only[zT,reduceIte,Nat.reduceEqDiff];refine hK4 _ _ ?_;refine b7 [0,1,2,3,4,10,11,23,24] (Or.inr (by simp)) ?_;simp only[zP,Nat.reduceEqDiff,reduceIte];refine gR fun K hK=>?_;simp -dsimp [wk];apply hK;clear hK K;simp only[zT,reduceIte,Nat.reduceEqDiff];have hf:J9 (C4 (mAt m) n d (row+1)) (mAt m) row used (sum,sign,s1) k=(sum,sign,s1):=by unfold J9;rw[if_pos hbt]
    rw[hf]at hst;exact⟨(k+1,sum,sign,s1),⟨by simp only;omega,hst.symm,k3⟩,by simp only;omega,m8 (e8 [some 0,some 1] rfl (by simp[hB1]) (by simp)) (by simp)⟩
   ·have hbt:used.testBit k=false:=by
     cases h:used.testBit k with
     |false=>rfl
     |true=>rw[h]at hc2;simp at hc2
    refine e9 ?_;simp only[zT,reduceIte,Nat.reduceEqDiff];refine hK5 _ _ ?_;refine b7 [0,1,2,3,4,10,11,12,23,24] (Or.inr (by simp)) ?_;simp only[zP,Nat.reduceEqDiff,reduceIte];refine b9 fun K6 hK6=>?_;refine gS fun K hK=>?_;simp -dsimp [gr,gk];apply hK;clear hK K;refine gS fun K hK=>?_;simp -dsimp;apply hK;clear hK K;refine d8 rfl (fun hc3=>?_) (fun hc3=>?_)
    ·skip
     try simp at hc3
     have hor:bits .or .i64 (used:Int) (2^k)=((used|||2^k:Nat):Int):=by have:=b8m used (2^k) hu2 (Nat.lt_of_le_of_lt (Nat.pow_le_pow_right (by omega) (show k≤10 by omega)) (by decide));rwa [Int.natCast_pow]at this
     have hsh:IntKind.i64.wrap (2^k)=2^k:=by have:=c0A k (by omega);rw[Int.toNat_natCast,Int.one_mul,Int.natCast_pow]at this;exact this
     have hk3:=hok (used|||2^k) s1 (by omega) (b4q hu hkn) (by have:=a5I hkn hbt;omega) k3;have hcall:=hb (row+1) (used|||2^k) s1 (by omega) (b4q hu hkn) (by have:=a5I hkn hbt;omega) k3;refine p9 l6 rfl (by decide) rfl rfl fun K hK=>?_;simp -dsimp [wrow,hor,hsh,hb64];refine k8 [0] [1] [some 0,none,some 1] (hcall) (by decide) rfl (by simp[hB1]) (by simp[hB1]) rfl (by simp) ?_;simp -dsimp [wrow,hor,hsh,hb64];refine hK _ _ _ (by decide+kernel) ?_;clear hK K;simp only[zT,reduceIte,Nat.reduceEqDiff];refine hK6 _ _ ?_;refine b7 [0,1,2,3,4,10,11,23,24] (Or.inr (by simp)) ?_;simp only[zP,Nat.reduceEqDiff,reduceIte];refine gR fun K hK=>?_;simp -dsimp;apply hK;clear hK K;simp only[zT,reduceIte,Nat.reduceEqDiff];refine hK4 _ _ ?_;refine b7 [0,1,2,3,4,10,11,23,24] (Or.inr (by simp)) ?_;simp only[zP,Nat.reduceEqDiff,reduceIte];refine gR fun K hK=>?_;simp -dsimp [wk];apply hK;clear hK K;simp only[zT,reduceIte,Nat.reduceEqDiff];have hf:J9 (C4 (mAt m) n d (row+1)) (mAt m) row used (sum,sign,s1) k=(wr (sum+wr (wr (sign*mAt m row k)*(C4 (mAt m) n d (row+1) (used|||2^k) s1).1)),wr (-sign),(C4 (mAt m) n d (row+1) (used|||2^k) s1).2):=by unfold J9;rw[if_neg (by simp[hbt]),if_neg hc3]
     rw[hf]at hst;exact⟨(k+1,_),⟨by simp only;omega,hst.symm,hk3.2⟩,by simp only;omega,m8 (e8 [some 0,some 2] rfl (by simp[hB2]) (by simp)) (by simp)⟩
    ·skip
     try simp at hc3
     refine e9 ?_;simp only[zT,reduceIte,Nat.reduceEqDiff];refine hK6 _ _ ?_;refine b7 [0,1,2,3,4,10,11,23,24] (Or.inr (by simp)) ?_;simp only[zP,Nat.reduceEqDiff,reduceIte];refine gR fun K hK=>?_;simp -dsimp;apply hK;clear hK K;simp only[zT,reduceIte,Nat.reduceEqDiff];refine hK4 _ _ ?_;refine b7 [0,1,2,3,4,10,11,23,24] (Or.inr (by simp)) ?_;simp only[zP,Nat.reduceEqDiff,reduceIte];refine gR fun K hK=>?_;simp -dsimp [wk];apply hK;clear hK K;simp only[zT,reduceIte,Nat.reduceEqDiff];have hf:J9 (C4 (mAt m) n d (row+1)) (mAt m) row used (sum,sign,s1) k=(sum,wr (-sign),s1):=by unfold J9;rw[if_neg (by simp[hbt]),if_pos hc3]
     rw[hf]at hst;exact⟨(k+1,_),⟨by simp only;omega,hst.symm,k3⟩,by simp only;omega,m8 (e8 [some 0,some 1] rfl (by simp[hB1]) (by simp)) (by simp)⟩
  ·have hkl:¬k<m.length:=by simpa using hc1
   have hkn:k=n:=by omega
   rw[hkn]at k2;refine i6 ?_;simp only[zT,reduceIte,Nat.reduceEqDiff];refine hK2 _ _ ?_;refine b7 [1,2,10] (Or.inr (by simp)) ?_;simp only[zP,Nat.reduceEqDiff,reduceIte];refine gS fun K hK=>?_;simp -dsimp;apply hK;clear hK K;refine gS fun K hK=>?_;simp -dsimp;apply hK;clear hK K;have k4:=k2.symm;exact k7 ⟨[some 0,some 1],rfl,by simp,by simp[k4],by simp,by simp[y8,n5,k4]⟩
theorem b7I (m:List (List Int)) (n:Nat) (hq:Sq m n) (hn:n≤10):∀(d row used:Nat) (s:Kvs),row+d=n→used<2^n→(unu n used).length=d→Kn (mAt m) n s→
  g6 Try.prog 115 (b7e m row used (dB m d)) [some (.els 1 [[.mp 1]])] [a5w s] (I (C4 (mAt m) n d row used s).1) [some (.els 1 [[.mp 1]])] [a5w (C4 (mAt m) n d row used s).2]
 |0,row,used,s,hr,hu,hl,hk=>by
  have:=b3Z hu (List.length_eq_zero_iff.1 hl);subst this;exact b1Y m row _ s _ hk.int hk.full
 | d+1,row,used,s,hr,hu,hl,hk=>by
  cases hs:(t7 s (ik used)).isSome with
  |true=>
   rw[C4,if_pos hs];exact b1Y m row used s _ hk.int hs
  |false=>exact c1B m n d row used s hq hn hr hu hl hk hs (b7I m n hq hn d)
abbrev b5n:Option m5:=some (.els 1 [[.clo 115 [.ptr 0 0 0, .ptr 3 0 0, .ptr 2 0 0]]])
abbrev b3X (m:List (List Int)):Option m5:=some (.els 1 [[mL m]])
theorem b4g (m:List (List Int)) (H:Nat→Option m5) (h3:H 3=b3X m) (k:Nat):U1 H [0,1] (k+1) (.ptr 3 0 0)= .vptr [mL m]:=by
 have e:l4 ([0,1].map some) 3=none:=by decide
 have e2:∀k,U1 H [0,1] k (mL m)=mL m:=fun k=>by cases k<;>rfl
 simp only[U1,e,h3];simp[e2]
theorem b7E (m:List (List Int)) (H:Nat→Option m5) (h2:H 2=b5n) (h3:H 3=b3X m):∀d,U1 H [0,1] (2*d+1) (.ptr 2 0 0)=dB m d
 |0=>by
  have e:l4 ([0,1].map some) 2=none:=by decide
  simp only[U1,e,h2];rfl
 | d+1=>by
  have e:l4 ([0,1].map some) 2=none:=by decide
  have ih:=b7E m H h2 h3 d;have e3:=b4g m H h3 (2*d);have e0:U1 H [0,1] (2*d+1) (.ptr 0 0 0)= .ptr 0 0 0:=rfl;rw[show 2*(d+1)+1=(2*d+1)+1+1 by omega];have:U1 H [0,1] (2*d+1+1+1) (.ptr 2 0 0)= .vptr [.clo 115 [U1 H [0,1] (2*d+1) (.ptr 0 0 0),U1 H [0,1] (2*d+1) (.ptr 3 0 0),U1 H [0,1] (2*d+1) (.ptr 2 0 0)]]:=by
   conv=>lhs;simp only[U1,e,h2]
   rfl
  rw[this,ih,e0,e3];rfl
def a7A (m:List (List Int)):Int:=minor (mAt m) (List.range m.length) (List.range m.length)
theorem a9k (n:Nat):unu n 0=List.range n:=by
 unfold unu;rw[List.filter_eq_self];intro x _;simp
theorem b5F (a:Nat→Nat→Int) (n:Nat):Kn a n (y5 [] (ik ((2^n-1:Nat):Int)) (.int .i64 1)):=by
 have hu:unu n (2^n-1)=[]:=by
  unfold unu;rw[List.filter_eq_nil_iff];intro x hx;rw[List.mem_range]at hx;rw[Nat.testBit_two_pow_sub_one];simp[hx]
 have hv:b1r a n (2^n-1)=1:=by
  unfold b1r;rw[hu];simp only[List.length_nil,Nat.sub_zero];rw[List.drop_of_length_le (by simp)]
  rfl
 refine⟨fun u v h=>?_,a1s.nil.set _ _,by rw[a4b];simp⟩;rw[a4b]at h
 split at h
 ·rename_i e;have:=P1.1 e;have e2:u=2^n-1:=by omega
  simp only[Option.some.injEq]at h;rw[←h,e2,hv]
 ·cases h
theorem b9Q (m:List (List Int)) (n:Nat) (hq:Sq m n) (hn:n≤10) (s:Kvs) (hk:Kn (mAt m) n s):
  g6 Try.prog 115 [I 0,I 0, .ptr 0 0 0, .ptr 3 0 0, .ptr 2 0 0] [some (.els 1 [[.mp 1]])] ([a5w s]++[b5n,b3X m]) (I (wr (a7A m))) [some (.els 1 [[.mp 1]])] [a5w (C4 (mAt m) n n 0 0 s).2]:=by
 have hl:(unu n 0).length=n:=by rw[a9k];simp
 have h:=b7I m n hq hn n 0 0 s (by omega) (Nat.two_pow_pos n) hl hk;have hv:=(a5E (a:=mAt m) (n:=n) n 0 0 s (by omega) (Nat.two_pow_pos n) hl hk).1;have hd:b1r (mAt m) n 0=wr (a7A m):=by
  unfold b1r a7A;rw[hl,a9k,hq.len,Nat.sub_self,List.drop_zero]
 rw[hv,hd]at h;refine g6.eat2 (2*n+1) 2 rfl ?_ ?_ h
 ·simp[List.range,List.range.loop]
 ·have e2:=b7E m (m7 ([some (.els 1 [[.mp 1]])]++([a5w s]++[b5n,b3X m]))) rfl rfl n;have e3:=b4g m (m7 ([some (.els 1 [[.mp 1]])]++([a5w s]++[b5n,b3X m]))) rfl (2*n);show [U1 _ [0,1] (2*n+1) (I 0),U1 _ [0,1] (2*n+1) (I 0),U1 _ [0,1] (2*n+1) (.ptr 0 0 0),U1 _ [0,1] (2*n+1) (.ptr 3 0 0),U1 _ [0,1] (2*n+1) (.ptr 2 0 0)]=_;rw[e2,e3]
  rfl
theorem X6 (m:List (List Int)) (n:Nat) (hq:Sq m n) (hn:n≤10):d5 Try.prog 102 [mL m] (I (wr (a7A m))):=by
 have h:=b9Q m n hq hn _ (b5F (mAt m) n);have hml:=hq.len;have hb64:n≤IntKind.i64.bits:=Nat.le_trans (show n≤10 by omega) (by decide);have hpow:(1:Nat)≤2^n∧(2:Nat)^n≤2^10:=⟨Nat.one_le_two_pow,Nat.pow_le_pow_right (by omega) hn⟩;have hsh:IntKind.i64.wrap (2^n)=2^n:=by have:=c0A n (by omega);rw[Int.toNat_natCast,Int.one_mul,Int.natCast_pow]at this;exact this
 have hw1:IntKind.i64.wrap (2^n-1)=((2^n-1:Nat):Int):=by
  have e:((2:Int)^n)=((2^n:Nat):Int):=by simp
  rw[e];generalize 2^n=q at hpow;rw[i7 (by omega) (by omega)];omega
 refine d5.of_bodyG Try.func102 rfl (by decide) (by simp[Try.ntmps102]) ?_;intro J hJ;simp only[Try.ntmps102,Try.results102];refine gS fun K hK=>?_;simp -dsimp;apply hK;clear hK K;refine gS fun K hK=>?_;simp -dsimp [hml,hb64,hsh,hw1];apply hK;clear hK K;refine gS fun K hK=>?_;simp -dsimp;apply hK;clear hK K;refine gS fun K hK=>?_;simp -dsimp;apply hK;clear hK K;refine gS fun K hK=>?_;simp -dsimp;refine k8 [2] [1,3,0] [none,none,some 0,none,some 1] (h) (by decide) rfl (by simp) (by simp) rfl (by simp) ?_;simp -dsimp;apply hK;clear hK K;exact k7 (by simp[y8,n5])
end Go.Cur
end
section
namespace Go.Cur
open Go.AM Go.Proofs
theorem c2Y (t:List Int) (hne:t≠[]) (hn:t.length≤1000):N9 Try.prog 61 [iL t] 0 t.length 1 (t.map i9):=by
 have f1:C7 t.length 9:=k9 (by omega) (by omega);refine N9.of_body Try.func61 rfl (by decide) (by simp[Try.ntmps61]) (by simp) (by simpa using hne) ?_;simp only[Try.ntmps61,Try.results61];refine aS fun K hK=>?_;simp -dsimp;apply hK;clear hK K;refine d4 fun K1 hK1=>?_;refine aS fun K hK=>?_;simp -dsimp [hne];apply hK;clear hK K;refine d9 rfl (fun hc0=>?_) (fun hc0=>?_)
 ·simp at hc0
 ·refine f6 ?_;simp only[zT,reduceIte,Nat.reduceEqDiff];refine hK1 _ _ ?_;refine b8 [0] ?_;simp only[zP,Nat.reduceEqDiff,reduceIte];refine aS fun K hK=>?_;simp -dsimp [hne,f1];apply hK;clear hK K;exact g7 ⟨2,0,rfl,by simp,by simp⟩
def a7z (m:List (List Int)) (b:List Int) (k:Nat):List (List Int):=(List.range m.length).map fun(i:Nat)=>(I0 m i).set k (at0 b i)
theorem Z0 {m:List (List Int)} {b:List Int} {k:Nat}:(a7z m b k).length=m.length:=by simp[a7z]
theorem a1Q {m:List (List Int)} {b:List Int} {k i:Nat} (hi:i<m.length):(a7z m b k)[i]?=some ((I0 m i).set k (at0 b i)):=by
 unfold a7z;rw[List.getElem?_map,List.getElem?_range hi];rfl
theorem b4G {m:List (List Int)} {b:List Int} {n k:Nat} (h:Sq m n):Sq (a7z m b k) n:=by
 refine⟨by rw[Z0];exact h.len,fun r hr=>?_⟩;obtain⟨i,hi⟩:=List.getElem?_of_mem hr;have hl:=(List.getElem?_eq_some_iff.1 hi).1;rw[Z0]at hl;rw[a1Q hl]at hi;simp only[Option.some.injEq]at hi;rw[←hi,List.length_set];exact(h.row (by rw[←h.len];exact hl)).2
theorem b8D {m:List (List Int)} {b:List Int} {n k i j:Nat} (h:Sq m n) (hi:i<n) (hj:j<n):mAt (a7z m b k) i j=if j=k then at0 b i else mAt m i j:=by
 have h1:I0 (a7z m b k) i=(I0 m i).set k (at0 b i):=a9J (a1Q (by rw[h.len];exact hi));have hl:=(h.row hi).2;unfold mAt;rw[h1]
 by_cases e:j=k
 ·subst e;rw[if_pos rfl];exact a7k (by rw[List.getElem?_set_self (by omega)])
 ·rw[if_neg e];have:((I0 m i).set k (at0 b i))[j]?=some (at0 (I0 m i) j):=by
   rw[List.getElem?_set_ne (fun h=>e h.symm)];exact B9 (by omega)
  exact a7k this
def a1L (m:List (List Int)) (b:List Int):List Int:=(List.range m.length).map fun k=>wr (a7A (a7z m b k))
theorem a9N (m:List (List Int)) (b:List Int) (n:Nat) (hq:Sq m n) (h1:1≤n) (hn:n≤10) (hb:b.length=n):g6 Try.prog 88 [mL m,iL b] [] [] (.tup [.row 0 0 n,I (wr (a7A m))]) [] [some (.els 1 ((a1L m b).map i9))]:=by
 have hml:=hq.len;have hdet:=X6 m n hq hn;refine g6.of_bodyG [] Try.func88 rfl (by decide) (by simp[Try.ntmps88]) rfl rfl ?_;intro J hJ;simp only[Try.ntmps88,Try.results88];refine gS fun K hK=>?_;simp -dsimp;apply hK;clear hK K;refine gS fun K hK=>?_;simp -dsimp;apply hK;clear hK K;refine b9 fun K1 hK1=>?_;refine gS fun K hK=>?_;simp -dsimp;apply hK;clear hK K;refine d7 ?_;refine b7 [0,1,6,12,13] (Or.inr (by simp)) ?_;simp only[zP,Nat.reduceEqDiff,reduceIte];refine g8 [0,1,12] (α:=Nat) (fun k=>[(6, .row 0 0 k),(13,I k)]) (fun k=>[some (.els 1 (((a1L m b).take k).map i9))]) (fun k=>k≤n) (fun k=>n-k) 0 ?_ ?_ ?_
 ·exact Nat.zero_le _
 ·exact m8 ((z8 6 1 (by simp)).trans (j7 (by simp))) (by simp)
 rintro k k1;simp only[zP,Nat.reduceEqDiff,reduceIte];refine gS fun K hK=>?_;simp -dsimp;apply hK;clear hK K;refine b9 fun K2 hK2=>?_;refine d8 rfl (fun hc0=>?_) (fun hc0=>?_)
 ·have hkn:k<n:=by rw[←hml];simpa using hc0
  have wk:=zW k (by omega);have gsk:(a1L m b)[k]?=some (wr (a7A (a7z m b k))):=by
   unfold a1L;rw[List.getElem?_map,List.getElem?_range (by omega)];rfl
  have hsl:min k (a1L m b).length=k:=by simp only[a1L,List.length_map,List.length_range];omega
  have hdk:=X6 (a7z m b k) n (b4G hq) hn;have hrl:=Z0 (m:=m) (b:=b) (k:=k);have hrg:=fun i (hi:i<n)=>a1Q (m:=m) (b:=b) (k:=k) (i:=i) (by omega);generalize a7z m b k=M at gsk hdk hrl hrg;refine e9 ?_;simp only[zT,reduceIte,Nat.reduceEqDiff];refine hK2 _ _ ?_;refine b7 [0,1,6,12,13] (Or.inr (by simp)) ?_;simp only[zP,Nat.reduceEqDiff,reduceIte];refine b9 fun K3 hK3=>?_;refine d7 ?_;refine gS fun K hK=>?_;simp -dsimp;apply hK;clear hK K;refine gS fun K hK=>?_;simp -dsimp;apply hK;clear hK K;refine b9 fun K4 hK4=>?_;refine gS fun K hK=>?_;simp -dsimp;apply hK;clear hK K;refine d7 ?_;refine b7 [0,1,6,7,8,12,13,16,17,18] (Or.inr (by simp)) ?_;simp only[zP,Nat.reduceEqDiff,reduceIte];refine g8 [0,1,6,7,12,13,16,17] (α:=Nat) (fun i=>[(8, .row 1 0 i),(18,I i)]) (fun i=>[some (.els 1 (((a1L m b).take k).map i9)),some (.els 1 ((M.take i).map F7))]) (fun i=>i≤n) (fun i=>n-i) 0 ?_ ?_ ?_
  ·exact Nat.zero_le _
  ·exact m8 ((z8 8 1 (by simp)).trans (e8 [some 0,some 1] rfl (by simp) (by simp))) (by simp)
  rintro i i1;simp only[zP,Nat.reduceEqDiff,reduceIte];refine gS fun K hK=>?_;simp -dsimp;apply hK;clear hK K;refine b9 fun K5 hK5=>?_;refine d8 rfl (fun hc1=>?_) (fun hc1=>?_)
  ·have hin:i<n:=by rw[←hml];simpa using hc1
   have wi:=zW i (by omega);obtain⟨gr,hrn⟩:=hq.row hin;have gb:=B9 (l:=b) (k:=i) (by omega);have hgi:=hrg i hin;have hMt:M.take (i+1)=M.take i++[(I0 m i).set k (at0 b i)]:=by rw[List.take_add_one,hgi];rfl
   have hMl:(M.take i).length=i:=by rw[List.length_take];omega
   have hmin:min i M.length=i:=by omega
   have hne:I0 m i≠[]:=by intro e;rw[e]at hrn;simp at hrn;omega
   have hcl:=c2Y (I0 m i) hne (by omega);generalize I0 m i=r at gr hrn hMt hcl hgi;have f1:C7 (i+1) 25:=k9 (by omega) (by omega);have htr:List.take n ((r.map i9).set k [I (at0 b (i:Int))])=(r.map i9).set k [I (at0 b (i:Int))]:=List.take_of_length_le (by simp;omega);refine e9 ?_;simp only[zT,reduceIte,Nat.reduceEqDiff];refine hK5 _ _ ?_;refine b7 [0,1,6,7,8,12,13,16,17,18] (Or.inr (by simp)) ?_;simp only[zP,Nat.reduceEqDiff,reduceIte];refine b9 fun K6 hK6=>?_;refine d7 ?_;refine gS fun K hK=>?_;simp -dsimp [gr];apply hK;clear hK K;refine gS fun K hK=>?_;simp -dsimp;refine L6 (hcl) ?_;simp -dsimp;apply hK;clear hK K;refine gS fun K hK=>?_;simp -dsimp [gb,hrn,hkn];apply hK;clear hK K;refine gR fun K hK=>?_;simp -dsimp [f1,hmin];apply hK;clear hK K;simp only[zT,reduceIte,Nat.reduceEqDiff];refine hK6 _ _ ?_;refine b7 [0,1,6,7,8,12,13,16,17,18] (Or.inr (by simp)) ?_;simp only[zP,Nat.reduceEqDiff,reduceIte];refine gR fun K hK=>?_;simp -dsimp [wi];apply hK;clear hK K;simp only[zT,reduceIte,Nat.reduceEqDiff];exact⟨i+1,by omega,by omega,m8 (B5 [some 0,some 4] rfl (by simp[hmin,hrn]) (by simp[hmin,hrn,List.take_add_one,hgi,List.map_set,htr])) (by simp)⟩
  ·have hil:¬i<m.length:=by simpa using hc1
   have hin:i=n:=by omega
   have htk:List.take i (M.map F7)=M.map F7:=List.take_of_length_le (by simp;omega);have hmin:min i M.length=i:=by omega
   have hle:i≤M.length:=by omega
   have f2:C7 (k+1) 9:=k9 (by omega) (by omega);refine i6 ?_;simp only[zT,reduceIte,Nat.reduceEqDiff];refine hK4 _ _ ?_;refine b7 [0,1,6,8,12,13] (Or.inr (by simp)) ?_;simp only[zP,Nat.reduceEqDiff,reduceIte];refine gR fun K hK=>?_;simp -dsimp [hmin,hle,htk,hsl,f2];refine d6 _ (hdk) (by simp) ?_;simp -dsimp [hmin,hle,htk,hsl,f2];apply hK;clear hK K;simp only[zT,reduceIte,Nat.reduceEqDiff];refine hK3 _ _ ?_;refine b7 [0,1,6,12,13] (Or.inr (by simp)) ?_;simp only[zP,Nat.reduceEqDiff,reduceIte];refine gR fun K hK=>?_;simp -dsimp [wk];apply hK;clear hK K;simp only[zT,reduceIte,Nat.reduceEqDiff];exact⟨k+1,by omega,by omega,m8 (e8 [some 2] rfl (by simp[hsl]) (by simp[hsl,List.take_add_one,gsk])) (by simp)⟩
 ·have hkl:¬k<m.length:=by simpa using hc0
  have hkn:k=n:=by omega
  refine i6 ?_;simp only[zT,reduceIte,Nat.reduceEqDiff];refine hK1 _ _ ?_;refine b7 [0,6] (Or.inr (by simp)) ?_;simp only[zP,Nat.reduceEqDiff,reduceIte];refine gS fun K hK=>?_;simp -dsimp;refine d6 _ (hdet) (by simp) ?_;simp -dsimp;apply hK;clear hK K;have hsn:k=(a1L m b).length:=by simp[a1L];omega
  have htk:List.take k ((a1L m b).map i9)=(a1L m b).map i9:=List.take_of_length_le (by simp;omega);exact k7 ⟨[some 0],rfl,by simp,by simp[htk],by simp,by simp[y8,n5,hkn]⟩
end Go.Cur
end
section
namespace Go.Cur
open Go.AM Go.Proofs
theorem a7Z (x c:Nat) (hx:x<4294967296) (hc:c≤20) (hb:x.testBit c=true):bits .andNot .i64 (x:Int) ((2^c:Nat):Int)=((x^^^2^c:Nat):Int):=by
 have h2:2^c≤2^20:=Nat.pow_le_pow_right (by omega) hc;have hlt:x^^^2^c<2^32:=Nat.xor_lt_two_pow (by omega) (by omega);show IntKind.i64.wrap ((BitVec.ofInt 64 x&&& ~~~ BitVec.ofInt 64 ((2^c:Nat):Int)).toNat:Int)=_;have h:(BitVec.ofInt 64 x&&& ~~~ BitVec.ofInt 64 ((2^c:Nat):Int)).toNat=x^^^2^c:=by
  simp only[BitVec.toNat_and,BitVec.toNat_not,BitVec.ofInt_natCast,BitVec.toNat_ofNat];rw[Nat.mod_eq_of_lt (show x<2^64 by omega),Nat.mod_eq_of_lt (show 2^c<2^64 by omega)];refine Nat.eq_of_testBit_eq fun j=>?_;rw[Nat.testBit_and,show 2^64-1-2^c=2^64-(2^c+1)by omega,Nat.testBit_two_pow_sub_succ (by omega),Nat.testBit_xor,Nat.testBit_two_pow]
  by_cases hj:c=j
  ·subst hj;simp[hb]
  ·by_cases hj64:j<64
   ·simp[hj,hj64]
   ·have:x.testBit j=false:=Nat.testBit_lt_two_pow (Nat.lt_of_lt_of_le hx (Nat.le_trans (show 4294967296≤2^32 by decide) (Nat.pow_le_pow_right (by omega) (by omega))));simp[this,hj]
 rw[h];exact i7 (by omega) (by omega)
theorem b6f {x c:Nat} (hb:x.testBit c=true):x^^^2^c<x:=by
 have e:x^^^2^c=x&&& (x^^^2^c):=by
  refine Nat.eq_of_testBit_eq fun j=>?_;rw[Nat.testBit_and,Nat.testBit_xor,Nat.testBit_two_pow]
  by_cases h:c=j
  ·subst h;simp[hb]
  ·simp[h]
 have h1:x^^^2^c≤x:=by rw[e];exact Nat.and_le_left
 have h2:x^^^2^c≠x:=fun h=>by
  have:=congrArg (fun y=>Nat.testBit y c) h;simp only[Nat.testBit_xor,Nat.testBit_two_pow,hb]at this;simp at this
 omega
def usd (n u:Nat):List Nat:=(List.range n).filter fun k=>u.testBit k
theorem S7 (k u:Nat):usd (k+1) u=usd k u++if u.testBit k then [k]else []:=by
 unfold usd;rw[List.range_succ,List.filter_append]
 cases h:u.testBit k<;>simp[h]
theorem b8M {n u k:Nat}:k∈usd n u↔k<n∧u.testBit k=true:=by simp[usd]
theorem b2n {n u:Nat}:(usd n u).Nodup:=List.nodup_range.filter _
theorem b7A {n u:Nat}:(usd n u).length≤n:=by
 have:=List.length_filter_le (fun k=>u.testBit k) (List.range n);simpa [usd]using this
theorem b5K {k n u:Nat} (h:k≤n):(usd k u).length≤(usd n u).length:=by
 obtain⟨d,rfl⟩:∃d,n=k+d:=⟨n-k,by omega⟩;clear h
 induction d with
 |zero=>exact Nat.le_refl _
 |succ d ih=>
  rw[←Nat.add_assoc,S7,List.length_append];omega
theorem a7r {n u k:Nat} (hk:k<n) (h:u.testBit k=true):∃v,usd n u=usd k u++k::v:=by
 have:∀d,∃v,usd (k+1+d) u=usd k u++k::v:=by
  intro d
  induction d with
  |zero=>exact⟨[],by rw[Nat.add_zero,S7,h];simp⟩
  |succ d ih=>
   obtain⟨v,hv⟩:=ih;refine⟨v++if u.testBit (k+1+d)then [k+1+d]else [],?_⟩;rw[←Nat.add_assoc,S7,hv,List.append_assoc]
   rfl
 have:=this (n-(k+1))
 rwa [show k+1+(n-(k+1))=n by omega]at this
theorem b7W {n u k:Nat} (hk:k<n) (h:u.testBit k=true):(usd n u)[(usd k u).length]?=some k:=by
 obtain⟨v,hv⟩:=a7r hk h;rw[hv,List.getElem?_append_right (Nat.le_refl _),Nat.sub_self];rfl
theorem a8U {n u k:Nat} (hk:k<n) (h:u.testBit k=true):usd n (u^^^2^k)=(usd n u).eraseIdx (usd k u).length:=by
 obtain⟨v,hv⟩:=a7r hk h;have hnd:=b2n (n:=n) (u:=u);have h1:usd n (u^^^2^k)=(usd n u).filter fun x=>decide (x≠k):=by
  unfold usd;rw[List.filter_filter];refine List.filter_congr fun x _=>?_;rw[Nat.testBit_xor,Nat.testBit_two_pow]
  by_cases e:x=k
  ·subst e;simp[h]
  ·have e':¬k=x:=fun h=>e h.symm;simp[e,e']
 rw[hv]at hnd;obtain⟨hu,hv',_⟩:=y4 hnd;rw[h1,hv,List.eraseIdx_append_of_length_le (Nat.le_refl _),Nat.sub_self,List.eraseIdx_cons_zero,List.filter_append,List.filter_cons,if_neg (by simp)]
 congr 1
 ·refine List.filter_eq_self.2 fun x hx=>?_;have:x≠k:=by rintro rfl;exact hu hx
  simp[this]
 ·refine List.filter_eq_self.2 fun x hx=>?_;have:x≠k:=by rintro rfl;exact hv' hx
  simp[this]
theorem b8r {n u:Nat} (hu:u<2^n) (h0:1≤u):1≤(usd n u).length:=by
 obtain⟨b,hb⟩:=Nat.exists_testBit_of_ne_zero (x:=u) (by omega);have hbn:b<n:=by
  rcases Nat.lt_or_ge b n with h|h
  ·exact h
  ·rw[Nat.testBit_lt_two_pow (Nat.lt_of_lt_of_le hu (Nat.pow_le_pow_right (by omega) h))]at hb
   cases hb
 exact List.length_pos_iff.2 (List.ne_nil_of_mem (b8M.2 ⟨hbn,hb⟩))
theorem b6J (n:Nat):usd n (2^n-1)=List.range n:=by
 unfold usd;rw[List.filter_eq_self];intro x hx;rw[List.mem_range]at hx;rw[Nat.testBit_two_pow_sub_one];simp[hx]
def dvl (a:Nat→Nat→Int) (n u:Nat):Int:=wr (minor a (List.range (usd n u).length) (usd n u))
theorem b6j (a:Nat→Nat→Int) (n:Nat):dvl a n 0=1:=by
 have:usd n 0=[]:=by unfold usd;simp
 unfold dvl;rw[this];rfl
def trm (a:Nat→Nat→Int) (n u j:Nat):Int:=sg j*(a ((usd n u).length-1) ((usd n u)[(usd n u).length-1-j]?.getD 0)*minor a (List.range ((usd n u).length-1)) ((usd n u).eraseIdx ((usd n u).length-1-j)))
theorem b8q {a:Nat→Nat→Int} {n u:Nat} (h:1≤(usd n u).length):dvl a n u=wr (ps (trm a n u) (usd n u).length):=by
 unfold dvl;have e:List.range (usd n u).length=List.range ((usd n u).length-1)++[(usd n u).length-1]:=by
  conv=>lhs;rw[show(usd n u).length=((usd n u).length-1)+1 by omega]
  rw[List.range_succ]
 rw[e,b0t (by rw[List.length_range];omega)]
 rfl
def jn (n u k:Nat):Nat:=(usd n u).length-(usd (n-k) u).length
theorem b8N {a:Nat→Nat→Int} {n u k:Nat} (hk:k<n) (hb:u.testBit (n-1-k)=true):jn n u (k+1)=jn n u k+1∧
  wr (wr (ps (trm a n u) (jn n u k))+wr (wr (sg (jn n u k)*a ((usd n u).length-1) (n-1-k))*dvl a n (u^^^2^(n-1-k))))=wr (ps (trm a n u) (jn n u (k+1))):=by
 have h1:usd (n-k) u=usd (n-1-k) u++[n-1-k]:=by
  rw[show n-k=(n-1-k)+1 by omega,S7,hb];rfl
 have hl:(usd (n-k) u).length=(usd (n-1-k) u).length+1:=by rw[h1];simp
 have hle:(usd (n-k) u).length≤(usd n u).length:=b5K (by omega);have e1:jn n u (k+1)=jn n u k+1:=by
  unfold jn;rw[show n-(k+1)=n-1-k by omega];omega
 refine⟨e1,?_⟩;have hj:(usd n u).length-1-jn n u k=(usd (n-1-k) u).length:=by unfold jn;omega
 have ht:trm a n u (jn n u k)=sg (jn n u k)*(a ((usd n u).length-1) (n-1-k)*minor a (List.range ((usd n u).length-1)) (usd n (u^^^2^(n-1-k)))):=by
  unfold trm;rw[hj,b7W (by omega) hb,a8U (by omega) hb];rfl
 have hm:dvl a n (u^^^2^(n-1-k))=wr (minor a (List.range ((usd n u).length-1)) (usd n (u^^^2^(n-1-k)))):=by
  unfold dvl;have:(usd n (u^^^2^(n-1-k))).length=(usd n u).length-1:=by
   have h2:=(List.getElem?_eq_some_iff.1 (b7W (n:=n) (by omega) hb)).1;rw[a8U (by omega) hb,List.length_eraseIdx_of_lt h2]
  rw[this]
 rw[e1,ps,ht,hm,b4F,b3l,b3O,b2I,Int.mul_assoc]
theorem b9R {n u k:Nat} (hk:k<n) (hb:u.testBit (n-1-k)=false):jn n u (k+1)=jn n u k:=by
 have h1:usd (n-k) u=usd (n-1-k) u:=by
  rw[show n-k=(n-1-k)+1 by omega,S7,hb];simp
 unfold jn;rw[h1,show n-(k+1)=n-1-k by omega]
theorem b1y (n u:Nat):jn n u 0=0:=by unfold jn;simp
theorem c1Y (n u:Nat):jn n u n=(usd n u).length:=by unfold jn;simp[usd]
def knL (a:Nat→Nat→Int) (n set:Nat):List Int:=(List.range (2^n)).map fun u=>if u<set then dvl a n u else 0
theorem a0i (a:Nat→Nat→Int) (n set:Nat):(knL a n set).length=2^n:=by simp[knL]
theorem a2v {a:Nat→Nat→Int} {n set u:Nat} (h:u<2^n):(knL a n set)[u]?=some (if u<set then dvl a n u else 0):=by
 unfold knL;rw[List.getElem?_map,List.getElem?_range h];rfl
theorem c0l {a:Nat→Nat→Int} {n set:Nat}:(knL a n set).set set (dvl a n set)=knL a n (set+1):=by
 refine List.ext_getElem? fun i=>?_
 by_cases hi:i<2^n
 ·rw[a2v hi]
  by_cases h:set=i
  ·subst h;rw[List.getElem?_set_self (by rw[a0i];exact hi),if_pos (by omega)]
  ·rw[List.getElem?_set_ne h,a2v hi]
   by_cases h2:i<set
   ·rw[if_pos h2,if_pos (by omega)]
   ·rw[if_neg h2,if_neg (by omega)]
 ·rw[List.getElem?_eq_none (by rw[List.length_set,a0i];omega),List.getElem?_eq_none (by rw[a0i];omega)]
theorem b9V (a:Nat→Nat→Int) (n:Nat):(List.replicate (2^n) (0:Int)).set 0 1=knL a n 1:=by
 refine List.ext_getElem? fun i=>?_
 by_cases hi:i<2^n
 ·rw[a2v hi]
  by_cases h:0=i
  ·subst h;rw[List.getElem?_set_self (by simpa using hi),if_pos (by omega),b6j]
  ·rw[List.getElem?_set_ne h,List.getElem?_replicate,if_pos hi,if_neg (by omega)]
 ·rw[List.getElem?_eq_none (by simp;omega),List.getElem?_eq_none (by rw[a0i];omega)]
theorem b5s {a:Nat→Nat→Int} {n set:Nat} (h:set<2^n):(knL a n set).set set (wr (ps (trm a n set) 0))=knL a n set:=by
 refine List.ext_getElem? fun i=>?_
 by_cases h2:set=i
 ·subst h2;rw[List.getElem?_set_self (by rw[a0i];exact h),a2v h,if_neg (by omega)];rfl
 ·rw[List.getElem?_set_ne h2]
theorem b7T (m:List (List Int)) (n:Nat) (hq:Sq m n) (h1:1≤n) (hn:n≤10):d5 Try.prog 93 [mL m] (I (wr (a7A m))):=by
 have hml:=hq.len;have hb64:n≤IntKind.i64.bits:=Nat.le_trans (show n≤10 by omega) (by decide);have hpow:(1:Nat)≤2^n∧(2:Nat)^n≤2^10:=⟨Nat.one_le_two_pow,Nat.pow_le_pow_right (by omega) hn⟩;have hsh:IntKind.i64.wrap (2^n)=((2^n:Nat):Int):=by have:=c0A n (by omega);rwa [Int.toNat_natCast,Int.one_mul]at this
 have hd:wr (a7A m)=dvl (mAt m) n (2^n-1):=by unfold dvl a7A;rw[b6J,List.length_range,hml]
 rw[hd];have ff:C7 (2^n) 9:=k9 (by omega) (by omega);obtain⟨N,hN⟩:∃N,N=2^n:=⟨_,rfl⟩;have hrep:(List.replicate N [AV.v (Value.int IntKind.i64 0)]).set 0 [AV.v (Value.int IntKind.i64 1)]=(knL (mAt m) n 1).map i9:=by rw[←b9V,←hN];simp[List.map_set]
 have hN1:1≤N:=by omega
 have hN0:0<N:=hN1;have hg0:(List.replicate N [AV.v (Value.int IntKind.i64 0)])[0]?=some [AV.v (Value.int IntKind.i64 0)]:=by rw[List.getElem?_replicate,if_pos hN0]
 have hkl:=fun set=>a0i (mAt m) n set;have hkg:=fun set u (h:u<2^n)=>a2v (a:=mAt m) (n:=n) (set:=set) h;have hks:=fun set=>c0l (a:=mAt m) (n:=n) (set:=set);have hk0:=fun set (h:set<2^n)=>b5s (a:=mAt m) (n:=n) (set:=set) h;rw[←hN]at hsh hpow ff hkl hkg hk0 ⊢;generalize hKn:knL (mAt m) n=kn at hrep hkl hkg hks hk0;refine d5.of_body Try.func93 rfl (by decide) (by simp[Try.ntmps93]) ?_;simp only[Try.ntmps93,Try.results93];refine aS fun K hK=>?_;simp -dsimp;apply hK;clear hK K;refine aS fun K hK=>?_;simp -dsimp [hml];apply hK;clear hK K;refine aS fun K hK=>?_;simp -dsimp [hsh,hb64,ff,←hN];apply hK;clear hK K;refine aS fun K hK=>?_;simp -dsimp [hN0,hg0,hrep];apply hK;clear hK K;refine d4 fun K1 hK1=>?_;refine aS fun K hK=>?_;simp -dsimp;apply hK;clear hK K;refine e7 ?_;refine b8 [0,3,4,5] ?_;simp only[zP,Nat.reduceEqDiff,reduceIte];refine g9 [0,3,4] (α:=Nat) (fun k=>[(5,I k)]) (fun k=>[some (.els 1 ((kn k).map i9))]) (fun k=>1≤k∧k≤N) (fun k=>N-k) 1 ?_ ?_ ?_
 ·exact⟨Nat.le_refl _,hN1⟩
 ·exact e8 [some 0] rfl (by simp) (by simp[hrep])
 rintro k ⟨k1,k2⟩;simp only[zP,Nat.reduceEqDiff,reduceIte];refine d4 fun K2 hK2=>?_;refine aS fun K hK=>?_;simp -dsimp [hsh,hb64,←hN];apply hK;clear hK K;refine d9 rfl (fun hc0=>?_) (fun hc0=>?_)
 ·have hkN:k<N:=by simpa using hc0
  have wk:=zW k (by omega);have hu:=b8r (n:=n) (u:=k) (by omega) k1;have hk32:k<4294967296:=by omega
  refine f6 ?_;simp only[zT,reduceIte,Nat.reduceEqDiff];refine hK2 _ _ ?_;refine b8 [0,3,4,5] ?_;simp only[zP,Nat.reduceEqDiff,reduceIte];refine d4 fun K3 hK3=>?_;refine e7 ?_;refine aS fun K hK=>?_;simp -dsimp;apply hK;clear hK K;refine d4 fun K4 hK4=>?_;refine aS fun K hK=>?_;simp -dsimp;apply hK;clear hK K;refine e7 ?_;refine b8 [0,3,4,5,6,7] ?_;simp only[zP,Nat.reduceEqDiff,reduceIte];refine g9 [0,3,4,5] (α:=Nat) (fun c=>[(6,I (((usd c k).length:Int)-1)),(7,I c)]) (fun c=>[some (.els 1 ((kn k).map i9))]) (fun c=>c≤n) (fun c=>n-c) 0 ?_ ?_ ?_
  ·exact Nat.zero_le _
  ·exact e8 [some 0] rfl (by simp[usd]) (by simp)
  rintro c c1;simp only[zP,Nat.reduceEqDiff,reduceIte];refine d4 fun K5 hK5=>?_;refine aS fun K hK=>?_;simp -dsimp;apply hK;clear hK K;refine d9 rfl (fun hc1=>?_) (fun hc1=>?_)
  ·have hcn:c<n:=by simpa using hc1
   have wc:=zW c (by omega);have hbit:bits .and .i64 ((k:Int)/2^c) 1=if k.testBit c then 1 else 0:=by have:=V5 k c hk32;rwa [Int.toNat_natCast]at this
   have hc64:c≤IntKind.i64.bits:=Nat.le_trans (show c≤10 by omega) (by decide);have hul:=b7A (n:=c) (u:=k);have hus:((usd (c+1) k).length:Int)-1=(usd c k).length-1+if k.testBit c then 1 else 0:=by rw[S7];split<;>simp<;>omega
   obtain⟨q,hqq⟩:∃q:Int,q=if k.testBit c then 1 else 0:=⟨_,rfl⟩;have hq01:q=0∨q=1:=by rw[hqq];split<;>simp
   rw[←hqq]at hbit hus;have wq:IntKind.i64.wrap (((usd c k).length:Int)-1+q)=((usd c k).length:Int)-1+q:=i7 (by omega) (by omega);refine f6 ?_;simp only[zT,reduceIte,Nat.reduceEqDiff];refine hK5 _ _ ?_;refine b8 [0,3,4,5,6,7] ?_;simp only[zP,Nat.reduceEqDiff,reduceIte];refine d4 fun K6 hK6=>?_;refine e7 ?_;refine aR fun K hK=>?_;simp -dsimp [hbit,hc64,wq];apply hK;clear hK K;simp only[zT,reduceIte,Nat.reduceEqDiff];refine hK6 _ _ ?_;refine b8 [0,3,4,5,6,7] ?_;simp only[zP,Nat.reduceEqDiff,reduceIte];refine aR fun K hK=>?_;simp -dsimp [wc];apply hK;clear hK K;simp only[zT,reduceIte,Nat.reduceEqDiff];exact⟨c+1,by omega,by omega,e8 [some 0] rfl (by simp[hus]) (by simp)⟩
  ·have hce:c=n:=by have hx:¬c<n:=(by simpa using hc1);omega
   obtain⟨r,hr⟩:∃r,(usd n k).length=r+1:=⟨(usd n k).length-1,by omega⟩;have hr1:((usd c k).length:Int)-1=(r:Int):=by rw[hce];omega
   have hrn:=b7A (n:=n) (u:=k);rw[hr1];refine j9 ?_;simp only[zT,reduceIte,Nat.reduceEqDiff];refine hK4 _ _ ?_;refine b8 [0,3,4,5,6] ?_;simp only[zP,Nat.reduceEqDiff,reduceIte];refine aS fun K hK=>?_;simp -dsimp;apply hK;clear hK K;refine aS fun K hK=>?_;simp -dsimp;apply hK;clear hK K;refine e7 ?_;refine b8 [0,3,4,5,6,8,9] ?_;simp only[zP,Nat.reduceEqDiff,reduceIte];refine g9 [0,3,4,5,6] (α:=Nat) (fun y=>[(8,I (sg (jn n k y))),(9,I ((n:Int)-1-y))]) (fun y=>[some (.els 1 (((kn k).set k (wr (ps (trm (mAt m) n k) (jn n k y)))).map i9))]) (fun y=>y≤n) (fun y=>n-y) 0 ?_ ?_ ?_
   ·exact Nat.zero_le _
   ·exact e8 [some 0] rfl (by simp[b1y,sg,i7 (n:=(n:Int)-1) (by omega) (by omega)]) (by simp[b1y,hk0 k hkN])
   rintro y y1;obtain⟨L,hL⟩:∃L,L=(kn k).set k (wr (ps (trm (mAt m) n k) (jn n k y))):=⟨_,rfl⟩;rw[←hL];simp only[zP,Nat.reduceEqDiff,reduceIte];refine d4 fun K7 hK7=>?_;refine aS fun K hK=>?_;simp -dsimp;apply hK;clear hK K;refine d9 rfl (fun hc2=>?_) (fun hc2=>?_)
   ·have hyn:y<n:=by have:=(by simpa using hc2:(0:Int)≤(n:Int)-1-y);omega
    obtain⟨d,hd⟩:∃d,d=n-1-y:=⟨_,rfl⟩;have hdi:(n:Int)-1-y=(d:Int):=by omega
    have wd:IntKind.i64.wrap ((d:Int)-1)=(n:Int)-1-((y+1:Nat):Int):=by rw[i7 (by omega) (by omega)];omega
    rw[hdi];have hbit:bits .and .i64 ((k:Int)/2^d) 1=if k.testBit d then 1 else 0:=by have:=V5 k d hk32;rwa [Int.toNat_natCast]at this
    have hd64:d≤IntKind.i64.bits:=Nat.le_trans (show d≤10 by omega) (by decide);refine f6 ?_;simp only[zT,reduceIte,Nat.reduceEqDiff];refine hK7 _ _ ?_;refine b8 [0,3,4,5,6,8,9] ?_;simp only[zP,Nat.reduceEqDiff,reduceIte];refine d4 fun K8 hK8=>?_;refine e7 ?_;refine aS fun K hK=>?_;simp -dsimp [hbit,hd64];apply hK;clear hK K;refine d9 rfl (fun hc3=>?_) (fun hc3=>?_)
    ·have hbt:k.testBit d=true:=by
      cases h:k.testBit d with
      |true=>rfl
      |false=>rw[h]at hc3;simp at hc3
     obtain⟨s1,s2⟩:=b8N (a:=mAt m) (n:=n) (u:=k) (k:=y) hyn (by rw[←hd];exact hbt);rw[hr,Nat.add_sub_cancel,←hd]at s2;have hul:=b6f hbt;have hand:bits .andNot .i64 (k:Int) (2^d)=((k^^^2^d:Nat):Int):=by have:=a7Z k d hk32 (by omega) hbt;rwa [Int.natCast_pow]at this
     have hsd:IntKind.i64.wrap (2^d)=2^d:=by have:=c0A d (by omega);rw[Int.toNat_natCast,Int.one_mul,Int.natCast_pow]at this;exact this
     obtain⟨u,hu'⟩:∃u,u=k^^^2^d:=⟨_,rfl⟩;rw[←hu']at s2 hul hand;have hLl:L.length=N:=by rw[hL,List.length_set];exact hkl k
     have gk:L[k]?=some (wr (ps (trm (mAt m) n k) (jn n k y))):=by rw[hL,List.getElem?_set_self (by rw[hkl];exact hkN)]
     have gu:L[u]?=some (dvl (mAt m) n u):=by rw[hL,List.getElem?_set_ne (by omega),hkg k u (by omega),if_pos hul]
     have hLs:∀v,L.set k v=(kn k).set k v:=fun v=>by rw[hL,List.set_set]
     have gr:=(hq.row (i:=r) (by omega)).1;have ga:=hq.get (i:=r) (k:=d) (by omega) (by omega);have hrm:r<m.length:=by omega
     have huN:u<N:=by omega
     have sgn:=c0f (jn n k y);refine v5 l6 rfl fun K hK=>?_;simp -dsimp [gr,ga,gk,gu,hand,hsd,hd64,hkN,huN];refine hK _ _ _ (by decide+kernel) ?_;clear hK K;refine aR fun K hK=>?_;simp -dsimp [sgn];apply hK;clear hK K;simp only[zT,reduceIte,Nat.reduceEqDiff];refine hK8 _ _ ?_;refine b8 [0,3,4,5,6,8,9] ?_;simp only[zP,Nat.reduceEqDiff,reduceIte];refine aR fun K hK=>?_;simp -dsimp [wd];apply hK;clear hK K;simp only[zT,reduceIte,Nat.reduceEqDiff];rw[s1]at s2;exact⟨y+1,by omega,by omega,e8 [some 0] rfl (by simp[s1]) (by simp[←hLs,s1,s2,List.map_set])⟩
    ·refine f6 ?_;simp only[zT,reduceIte,Nat.reduceEqDiff];refine hK8 _ _ ?_;refine b8 [0,3,4,5,6,8,9] ?_;simp only[zP,Nat.reduceEqDiff,reduceIte];refine aR fun K hK=>?_;simp -dsimp [wd];apply hK;clear hK K;simp only[zT,reduceIte,Nat.reduceEqDiff];have hbf:k.testBit d=false:=by
      cases h:k.testBit d with
      |false=>rfl
      |true=>rw[h]at hc3;simp at hc3
     have s1:=b9R (n:=n) (u:=k) (k:=y) hyn (by rw[←hd];exact hbf);exact⟨y+1,by omega,by omega,e8 [some 0] rfl (by simp[s1]) (by simp[s1,hL])⟩
   ·have hye:y=n:=by have:=(by simpa using hc2:¬(0:Int)≤(n:Int)-1-y);omega
    have hkk:(kn k).set k (wr (ps (trm (mAt m) n k) (jn n k y)))=kn (k+1):=by rw[hye,c1Y,←b8q hu];exact hks k
    rw[hL,hkk];refine j9 ?_;simp only[zT,reduceIte,Nat.reduceEqDiff];refine hK3 _ _ ?_;refine b8 [0,3,4,5] ?_;simp only[zP,Nat.reduceEqDiff,reduceIte];refine aR fun K hK=>?_;simp -dsimp [wk];apply hK;clear hK K;simp only[zT,reduceIte,Nat.reduceEqDiff];exact⟨k+1,by omega,by omega,e8 [some 0] rfl (by simp) (by simp)⟩
 ·have hke:k=N:=by have hx:¬k<N:=(by simpa using hc0);omega
  have hlast:(kn k)[N-1]?=some (dvl (mAt m) n (N-1)):=by rw[hkg k (N-1) (by omega),if_pos (by omega)]
  have wN:IntKind.i64.wrap ((N:Int)-1)=((N-1:Nat):Int):=by rw[i7 (by omega) (by omega)];omega
  have hNN:N-1<N:=by omega
  refine j9 ?_;simp only[zT,reduceIte,Nat.reduceEqDiff];refine hK1 _ _ ?_;refine b8 [3,4] ?_;simp only[zP,Nat.reduceEqDiff,reduceIte];refine aS fun K hK=>?_;simp -dsimp [hsh,hb64,wN,hlast,hNN];apply hK;clear hK K;exact g7 (by simp)
end Go.Cur
end
section
namespace Go.AM
def b8i (l:List Oper):List (Nat×Nat):=(List.range l.length).flatMap fun k=>((List.range k).filter fun j=> !((b1m l []).getD k 0).testBit j).map fun j=>(j,k)
theorem r8 {l:List Oper} {tr:List Tr} (ps:List (Nat×Nat)) (hb:b4D l 0=true) (hu:b8i l=ps) (hp:∀p∈ps,J0 (tr.getD p.1 ([],[])) (tr.getD p.2 ([],[]))=false):a3w l tr=true:=by
 subst hu;unfold a3w;rw[hb,Bool.true_and,List.all_eq_true];intro k hk;rw[List.all_eq_true];intro j hj
 cases hq:((b1m l []).getD k 0).testBit j with
 |true=>simp
 | false=>
  have:=hp (j,k) (by
   unfold b8i;rw[List.mem_flatMap];exact⟨k,hk,List.mem_map.2 ⟨j,List.mem_filter.2 ⟨hj,by rw[hq];rfl⟩,rfl⟩⟩)
  simp only at this;rw[this];rfl
def X8 (f:Nat→Nat→Int) (n i:Nat):Option m5:=some (.els 1 ((List.range n).map fun j=>[I (f i j)]))
def n6 (f:Nat→Nat→Int) (m n:Nat):Hp:=(List.range m).map (X8 f n)
def D0 (c m n:Nat):List (List AV):=(List.range m).map fun i=>[.row (i+c) 0 n]
def L2 (f:Nat→Nat→Int) (i j:Nat) (v:Int):Nat→Nat→Int:=fun i' j'=>if i'=i∧j'=j then v else f i' j'
@[simp] theorem a0V (f:Nat→Nat→Int) (m n:Nat):(n6 f m n).length=m:=by simp[n6]
@[simp] theorem c0o (c m n:Nat):(D0 c m n).length=m:=by simp[D0]
@[simp] theorem c1y (c m n:Nat):List.take m (D0 c m n)=D0 c m n:=List.take_of_length_le (by simp)
theorem a3f (c m n:Nat):D0 c (m+1) n=D0 c m n++[[.row (m+c) 0 n]]:=by simp[D0,List.range_succ]
theorem x3 {c m n i:Nat} (h:i<m):(D0 c m n)[i]?=some [.row (i+c) 0 n]:=by
 unfold D0;rw[List.getElem?_map,List.getElem?_range h];rfl
@[simp] theorem c1F {c m n i:Nat} (h:i<(D0 c m n).length):(D0 c m n)[i]=[.row (i+c) 0 n]:=by simp[D0]
theorem C3 {f:Nat→Nat→Int} {n i j:Nat} (h:j<n):((List.range n).map fun j=>[I (f i j)])[j]?=some [I (f i j)]:=by
 rw[List.getElem?_map,List.getElem?_range h];rfl
theorem A7 {f g:Nat→Nat→Int} {m n:Nat} (h:∀i,i<m→∀j,j<n→f i j=g i j):n6 f m n=n6 g m n:=by
 unfold n6 X8;refine List.map_congr_left fun i hi=>?_;rw[List.mem_range]at hi
 congr 2
 refine List.map_congr_left fun j hj=>?_;rw[List.mem_range]at hj;rw[h i hi j hj]
theorem a4m:∀{M X:Hp} {i:Nat},i<M.length→m7 (M++X) i=m7 M i
 |[],X,i,h=>by simp at h
 |x::M,X,0,h=>rfl
 |x::M,X,i+1,h=>a4m (M:=M) (by simpa using h)
theorem a3R:∀{M X:Hp} {q:Nat},m7 (M++X) (M.length+q)=m7 X q
 |[],X,q=>by simp
 |x::M,X,q=>by
  rw[List.cons_append,List.length_cons,show M.length+1+q=(M.length+q)+1 by omega];exact a3R (M:=M)
theorem a3W:∀{M X:Hp} {i:Nat} {o:Option m5},i<M.length→B2 (M++X) i o=B2 M i o++X
 |[],X,i,o,h=>by simp at h
 |x::M,X,0,o,h=>rfl
 |x::M,X,i+1,o,h=>by
  show x::B2 (M++X) i o=x::(B2 M i o++X);rw[a3W (M:=M) (by simpa using h)]
theorem a4e:∀{M X:Hp} {q:Nat} {o:Option m5},B2 (M++X) (M.length+q) o=M++B2 X q o
 |[],X,q,o=>by simp
 |x::M,X,q,o=>by
  rw[List.cons_append,List.length_cons,show M.length+1+q=(M.length+q)+1 by omega];show x::B2 (M++X) (M.length+q) o=_;rw[a4e (M:=M)];rfl
theorem a9l:∀{M:Hp} {i:Nat} {o:Option m5},i<M.length→B2 M i o=M.set i o
 |[],i,o,h=>by simp at h
 |x::M,0,o,h=>rfl
 |x::M,i+1,o,h=>by
  show x::B2 M i o=x::M.set i o;rw[a9l (M:=M) (by simpa using h)]
theorem o4 {f:Nat→Nat→Int} {m n i:Nat} (h:i<m):m7 (n6 f m n) i=X8 f n i:=by
 unfold n6;rw[A1,List.getElem?_range h]
theorem l9 {f:Nat→Nat→Int} {m n i:Nat} {X:Hp} (h:i<m):m7 (n6 f m n++X) i=X8 f n i:=by
 rw[a4m (by simpa using h),o4 h]
@[simp] theorem b0L {f:Nat→Nat→Int} {m n q:Nat} {X:Hp}:m7 (n6 f m n++X) (m+q)=m7 X q:=by
 have:=a3R (M:=n6 f m n) (X:=X) (q:=q)
 rwa [a0V]at this
@[simp] theorem U6 {f:Nat→Nat→Int} {m n:Nat} {X:Hp}:m7 (n6 f m n++X) m=m7 X 0:=b0L (q:=0)
@[simp] theorem b1j {f:Nat→Nat→Int} {m n q:Nat} {X:Hp} {o:Option m5}:B2 (n6 f m n++X) (m+q) o=n6 f m n++B2 X q o:=by
 have:=a4e (M:=n6 f m n) (X:=X) (q:=q) (o:=o)
 rwa [a0V]at this
@[simp] theorem a7V {f:Nat→Nat→Int} {m n:Nat} {X:Hp} {o:Option m5}:B2 (n6 f m n++X) m o=n6 f m n++B2 X 0 o:=b1j (q:=0)
@[simp] theorem c1j {f:Nat→Nat→Int} {m n:Nat} {o:Option m5}:B2 (n6 f m n) m o=n6 f m n++[o]:=by
 have:=a7V (f:=f) (m:=m) (n:=n) (X:=[]) (o:=o);rw[List.append_nil]at this;exact this
theorem b8w {f:Nat→Int} {n j:Nat} {v:Int}:((List.range n).map fun j=>[I (f j)]).set j [I v]=(List.range n).map fun j'=>[I (if j'=j then v else f j')]:=by
 refine List.ext_getElem? fun j'=>?_
 by_cases hn:j'<n
 ·rw[List.getElem?_map,List.getElem?_range hn]
  by_cases hj:j'=j
  ·subst hj;rw[List.getElem?_set_self (by simpa using hn)];simp
  ·rw[List.getElem?_set_ne (fun e=>hj e.symm),List.getElem?_map,List.getElem?_range hn];simp[hj]
 ·rw[List.getElem?_eq_none (by simp;omega),List.getElem?_eq_none (by simp;omega)]
theorem b1W {f:Nat→Nat→Int} {m n i j:Nat} {v:Int} (hi:i<m):(n6 f m n).set i (some (.els 1 (((List.range n).map fun j=>[I (f i j)]).set j [I v])))=n6 (L2 f i j v) m n:=by
 rw[b8w (f:=f i)];refine List.ext_getElem? fun i'=>?_
 by_cases hm:i'<m
 ·unfold n6;rw[List.getElem?_map,List.getElem?_range hm]
  by_cases h:i'=i
  ·subst h;rw[List.getElem?_set_self (by simpa using hm)];simp[X8,L2]
  ·rw[List.getElem?_set_ne (fun e=>h e.symm),List.getElem?_map,List.getElem?_range hm];simp[X8,L2,h]
 ·rw[List.getElem?_eq_none (by simp;omega),List.getElem?_eq_none (by simp;omega)]
theorem a2b {f:Nat→Nat→Int} {m n i j:Nat} {v:Int} (hi:i<m):B2 (n6 f m n) i (some (.els 1 (((List.range n).map fun j=>[I (f i j)]).set j [I v])))=n6 (L2 f i j v) m n:=by
 rw[a9l (by simpa using hi),b1W hi]
theorem x5 {f:Nat→Nat→Int} {m n i j:Nat} {v:Int} {X:Hp} (hi:i<m):B2 (n6 f m n++X) i (some (.els 1 (((List.range n).map fun j=>[I (f i j)]).set j [I v])))=n6 (L2 f i j v) m n++X:=by
 rw[a3W (by simpa using hi),a2b hi]
theorem p8 {gf:List (Option Nat)} {m c i:Nat} (hi:i<m) (hout:some (i+c)∉gf):l4 (gf++(List.range m).map fun i=>some (i+c)) (i+c)=some (i+gf.length):=by
 unfold l4;rw[List.findIdx?_append];have h1:gf.findIdx? (fun x=>x==some (i+c))=none:=by
  rw[List.findIdx?_eq_none_iff];intro x hx;simp only[beq_eq_false_iff_ne,ne_eq];rintro rfl;exact hout hx
 have h2:((List.range m).map fun i=>some (i+c)).findIdx? (fun x=>x==some (i+c))=some i:=by
  rw[List.findIdx?_eq_some_iff_getElem];refine⟨by simpa using hi,by simp,fun j hj=>?_⟩;simp;omega
 rw[h1,h2];rfl
theorem y3 {g:List (Option Nat)} {c c' m n:Nat} (hg:∀i,i<m→l4 g (i+c)=some (i+c')):((D0 c m n).map fun e=>e.map (n0 g 3))=D0 c' m n:=by
 unfold D0;rw[List.map_map];refine List.map_congr_left fun i hi=>?_;rw[List.mem_range]at hi;show [n0 g 3 (.row (i+c) 0 n)]=_;have e:n0 g 3 (.row (i+c) 0 n)=match l4 g (i+c)with|some q=> .row q 0 n|none=> .any:=rfl
 rw[e,hg i hi]
theorem a5G {g:List (Option Nat)} {f:Nat→Nat→Int} {n i:Nat}:(X8 f n i).map (v6 g)=X8 f n i:=by
 unfold X8;simp only[Option.map_some,v6,List.map_map]
 congr 2
theorem a3V {gf:List (Option Nat)} {m c:Nat} (h:u6 gf=true) (hout:∀i,i<m→some (i+c)∉gf):∀(i j q:Nat),(gf++(List.range m).map fun i=>some (i+c))[i]?=some (some q)→(gf++(List.range m).map fun i=>some (i+c))[j]?=some (some q)→i=j:=by
 intro i j q h1 h2;have hr:∀k,gf.length≤k→(gf++(List.range m).map fun i=>some (i+c))[k]?=some (some q)→k-gf.length<m∧q=k-gf.length+c:=by
  intro k hk hq;rw[List.getElem?_append_right hk,List.getElem?_map]at hq
  by_cases hkm:k-gf.length<m
  ·rw[List.getElem?_range hkm]at hq;simp only[Option.map_some,Option.some.injEq]at hq;exact⟨hkm,hq.symm⟩
  ·rw[List.getElem?_eq_none (by simp;omega)]at hq;cases hq
 by_cases hi:i<gf.length
 ·rw[List.getElem?_append_left hi]at h1
  by_cases hj:j<gf.length
  ·rw[List.getElem?_append_left hj]at h2;exact O0 gf h i j q h1 h2
  ·obtain⟨a,b⟩:=hr j (by omega) h2;subst b;exact absurd (List.mem_of_getElem? h1) (hout _ a)
 ·obtain⟨a,b⟩:=hr i (by omega) h1
  by_cases hj:j<gf.length
  ·rw[List.getElem?_append_left hj]at h2;subst b;exact absurd (List.mem_of_getElem? h2) (hout _ a)
  ·obtain⟨a',b'⟩:=hr j (by omega) h2;omega
def c2A (H:Hp) (g:List (Option Nat)):Option Nat→Option m5
 |some r=>(m7 H r).map (v6 g)
 |none=>none
theorem b6u (H:Hp) (g:List (Option Nat)):b5d H g=g.map (c2A H g):=rfl
attribute [simp] c2A
theorem a3k:∀(g:List (Option Nat)),(∀(i j q:Nat),g[i]?=some (some q)→g[j]?=some (some q)→i=j)→u6 g=true
 |[],_=>rfl
 | x::g,h=>by
  have hg:=a3k g fun i j q h1 h2=>by
   have:=h (i+1) (j+1) q (by simpa using h1) (by simpa using h2);omega
  cases x with
  |none=>exact hg
  |some q=>
   simp only[u6,Bool.and_eq_true,Bool.not_eq_true',List.contains_eq_mem,decide_eq_false_iff_not];refine⟨fun hm=>?_,hg⟩;obtain⟨j,hj⟩:=List.getElem?_of_mem hm;have:=h 0 (j+1) q (by simp) (by simpa using hj);omega
theorem a2C {gf:List (Option Nat)} {m c:Nat} (h:u6 gf=true) (hout:∀i,i<m→some (i+c)∉gf):u6 (gf++(List.range m).map fun i=>some (i+c))=true:=a3k _ (a3V h hout)
theorem a5L {H F':Hp} (gf:List (Option Nat)) (f:Nat→Nat→Int) (m n c:Nat) (hM:∀i,i<m→m7 H (i+c)=X8 f n i) (hF:gf.map (c2A H (gf++(List.range m).map fun i=>some (i+c)))=F'):
  b5d H (gf++(List.range m).map fun i=>some (i+c))=F'++n6 f m n:=by
 rw[b6u,List.map_append,hF]
 congr 1
 unfold n6;rw[List.map_map];refine List.map_congr_left fun i hi=>?_;rw[List.mem_range]at hi;show(m7 H (i+c)).map (v6 _)=_;rw[hM i hi,a5G]
theorem D7 {nt:Nat} {T T':Tm} {H F':Hp} (gf:List (Option Nat)) (f:Nat→Nat→Int) (m n c:Nat) (hn:u6 gf=true) (hout:∀i,i<m→some (i+c)∉gf) (hM:∀i,i<m→m7 H (i+c)=X8 f n i)
  (hT:c0h (gf++(List.range m).map fun i=>some (i+c)) T T') (hF:gf.map (c2A H (gf++(List.range m).map fun i=>some (i+c)))=F'):Sub nt T H T' (F'++n6 f m n):=
 b4M _ (a3V hn hout) hT (a5L gf f m n c hM hF)
def t8:Nat→Hp→List (Nat×Option m5)
 |_,[]=>[]
 |N,x::L=>(N,x)::t8 (N+1) L
theorem U8 (bg:List (Option Nat)):∀(N:Nat) (L:Hp),y9 bg N L=t8 N (L.map (Option.map (v6 bg)))
 |N,[]=>rfl
 |N,x::L=>by simp only[y9,t8,List.map_cons,U8 bg (N+1) L]
theorem a9G:∀(H:Hp) (x:Option m5),B2 H H.length x=H++[x]
 |[],x=>rfl
 |y::H,x=>by show y::B2 H H.length x=_;rw[a9G H x];rfl
theorem a4P:∀(L H:Hp),V1 H (t8 H.length L)∧a3t H (t8 H.length L)=H++L
 |[],H=>⟨trivial,by simp[t8,a3t]⟩
 |x::L,H=>by
  have ih:=a4P L (H++[x]);simp only[List.length_append,List.length_cons,List.length_nil,Nat.zero_add]at ih;simp only[t8,V1,a3t];rw[a9G];exact⟨⟨Nat.le_refl _,ih.1⟩,by rw[ih.2];simp⟩
theorem a6J:∀(L:Hp) (N:Nat),D3 (t8 N L)=true∧∀q∈t8 N L,N≤q.1
 |[],N=>⟨rfl,by simp[t8]⟩
 | x::L,N=>by
  obtain⟨h1,h2⟩:=a6J L (N+1);refine⟨?_,fun q hq=>?_⟩
  ·simp only[t8,D3,Bool.and_eq_true,List.all_eq_true,bne_iff_ne,ne_eq];exact⟨fun q hq e=>by have:=h2 q hq;omega,h1⟩
  ·simp only[t8,List.mem_cons]at hq
   rcases hq with rfl|hq
   ·exact Nat.le_refl _
   ·have:=h2 q hq;omega
@[simp] theorem c0G {H L:Hp} {N:Nat} (h:H.length=N):V1 H (t8 N L):=h▸(a4P L H).1
@[simp] theorem c2n {H L:Hp} {N:Nat} (h:H.length=N):a3t H (t8 N L)=H++L:=h▸(a4P L H).2
@[simp] theorem b7J {L:Hp} {N:Nat}:D3 (t8 N L)=true:=(a6J L N).1
theorem E7 {N n q:Nat} (hq:q<n):l4 (u0 [] N n) q=some (N+q):=by
 unfold l4 u0;rw[List.findIdx?_append];have h1:((List.range N).map fun r=>List.findIdx? (fun x=>x==r) ([]:List Nat)).findIdx? (fun x=>x==some q)=none:=by
  rw[List.findIdx?_eq_none_iff];intro x hx;obtain⟨r,_,rfl⟩:=List.mem_map.1 hx
  rfl
 have h2:((List.range n).map fun j=>some (([]:List Nat).length+j)).findIdx? (fun x=>x==some q)=some q:=by
  rw[List.findIdx?_eq_some_iff_getElem];refine⟨by simpa using hq,by simp,fun j hj=>?_⟩;simp;omega
 rw[h1,h2];simp[Nat.add_comm]
theorem a6V {P:Program} {m:List Bool} {f:FuncId} {args:List AV} {fl:Bool} {rd rd0:List Nat} {raw:List AV} {H:Nat→Option m5} {N:Nat} {K:Eff→Prop} {args':List AV} {n:Nat} {R:List (List AV)} {F:Nat→Nat→Int}
  (h:g6 P f args' [] [] (.tup [.row 0 0 n, .row 1 0 n]) [] ([some (.els 1 (D0 2 n n)),some (.els 1 R)]++n6 F n n)) (ha:raw.map (n0 [] 40)=args') (hR:∀g,R.map (fun e=>e.map (n0 g 3))=R)
  (hk:K ⟨.tup [.row N 0 n, .row (N+1) 0 n],t8 N ([some (.els 1 (D0 (N+2) n n)),some (.els 1 R)]++n6 F n n),rd0⟩):a0O P m f args fl rd rd0 raw H N K:=by
 refine k8 [] [] (u0 [] N (n+2)) h (by simp[b7O]) (congrArg (u0 [] N) (by simp<;>omega)) ha rfl rfl rfl ?_;have hM:(n6 F n n).map (Option.map (v6 (u0 [] N (n+2))))=n6 F n n:=by
  unfold n6;rw[List.map_map];exact List.map_congr_left fun i _=>a5G
 have ho:((D0 2 n n).map fun e=>e.map (n0 (u0 [] N (n+2)) 3))=D0 (N+2) n n:=by
  unfold D0;rw[List.map_map];refine List.map_congr_left fun i hi=>?_;rw[List.mem_range]at hi;show [n0 (u0 [] N (n+2)) 3 (.row (i+2) 0 n)]=_;have e:n0 (u0 [] N (n+2)) 3 (.row (i+2) 0 n)=match l4 (u0 [] N (n+2)) (i+2)with|some q=> .row q 0 n|none=> .any:=rfl
  rw[e,E7 (by omega),show N+(i+2)=i+(N+2)by omega]
 have hr:n0 (u0 [] N (n+2)) 3 (.tup [.row 0 0 n, .row 1 0 n])= .tup [.row N 0 n, .row (N+1) 0 n]:=by
  have e0:n0 (u0 [] N (n+2)) 2 (.row 0 0 n)=match l4 (u0 [] N (n+2)) 0 with|some q=> .row q 0 n|none=> .any:=rfl
  have e1:n0 (u0 [] N (n+2)) 2 (.row 1 0 n)=match l4 (u0 [] N (n+2)) 1 with|some q=> .row q 0 n|none=> .any:=rfl
  show AV.tup [n0 (u0 [] N (n+2)) 2 (.row 0 0 n),n0 (u0 [] N (n+2)) 2 (.row 1 0 n)]=_;rw[e0,e1,E7 (by omega),E7 (by omega)];rfl
 have hu:y9 (u0 [] N (n+2)) N ([some (.els 1 (D0 2 n n)),some (.els 1 R)]++n6 F n n)=t8 N ([some (.els 1 (D0 (N+2) n n)),some (.els 1 R)]++n6 F n n):=by
  rw[U8,List.map_append,hM];simp only[List.map_cons,List.map_nil,Option.map_some,v6,ho,hR]
 rw[hr,hu];simpa [t4,x4]using hk
def b5j (f:Nat→Nat→Int) (m n:Nat):List (List Int):=(List.range m).map fun i=>(List.range n).map fun j=>f i j
theorem a1J {f:Nat→Nat→Int} {m n i:Nat} (h:i<m):(b5j f m n)[i]?=some ((List.range n).map fun j=>f i j):=by
 unfold b5j;rw[List.getElem?_map,List.getElem?_range h];rfl
theorem a9p {H:Nat→Option m5} {r n:Nat} {es:List (List AV)} {M:List (List Int)} (h1:1≤n) (hr:H r=some (.els 1 es)) (he:es.length=n) (hm:M.length=n)
  (hM:∀i,i<n→∃nm l,es[i]?=some [.row nm 0 n]∧M[i]?=some l∧H nm=some (.els 1 (l.map fun x=>[I x]))∧l.length=n):frz H 3 (.row r 0 n)= .lst 1 (M.map fun l=>[.lst 1 (l.map fun x=>[I x])]):=by
 have hp:y7 es=false:=by
  obtain⟨nm,l,g1,_⟩:=hM 0 (by omega);unfold y7;rw[List.all_eq_false];exact⟨_,List.mem_of_getElem? g1,by simp[AV.noRef]⟩
 have hf:(es.map fun e=>e.map (frz H 2))=M.map fun l=>[.lst 1 (l.map fun x=>[I x])]:=by
  refine List.ext_getElem? fun i=>?_
  by_cases hi:i<n
  ·obtain⟨nm,l,g1,g2,g3,g4⟩:=hM i hi;rw[List.getElem?_map,List.getElem?_map,g1,g2];simp only[Option.map_some,List.map_cons,List.map_nil,Option.some.injEq,List.cons.injEq,and_true];have hpl:y7 (l.map fun x=>[I x])=true:=by simp[y7,AV.noRef]
   have ht:List.take n (l.map fun x=>[I x])=l.map fun x=>[I x]:=List.take_of_length_le (by simp;omega);simp only[frz,g3];rw[if_pos (by simp;omega),if_pos hpl,List.drop_zero,ht]
  ·rw[List.getElem?_eq_none (by simp;omega),List.getElem?_eq_none (by simp;omega)]
 have ht:List.take n (es.map fun e=>e.map (frz H 2))=es.map fun e=>e.map (frz H 2):=List.take_of_length_le (by simp;omega);simp only[frz,hr];rw[if_pos (by simp;omega),hp];simp only[Bool.false_eq_true,if_false,List.drop_zero];rw[List.take_of_length_le (by omega),hf]
end Go.AM
end
section
namespace Go.Cur
open Go.AM Go.Proofs
def upN (p:List Nat):List Int:=p.map fun(k:Nat)=>(k:Int)
theorem r9 (p:List Nat):(upN p).length=p.length:=by simp[upN]
theorem F1 {p:List Nat} {k x:Nat} (h:p[k]?=some x):(upN p)[k]?=some (x:Int):=by simp[upN,h]
theorem W4 {p:List Nat} {x:Int}:x∈upN p↔0≤x∧x.toNat∈p:=by
 simp only[upN,List.mem_map];constructor
 ·rintro⟨k,hk,rfl⟩;exact⟨by omega,by simpa using hk⟩
 ·rintro⟨h0,h1⟩;exact⟨x.toNat,h1,by omega⟩
def a5X:List Nat→Nat→Kvs
 |[],_=>[]
 |x::p,n=>(ik x, .int .i64 n)::a5X p (n+1)
theorem a2x {x:Nat}:∀{p:List Nat} {n:Nat},x∉p→t7 (a5X p n) (ik x)=none
 |[],_,_=>rfl
 |y::p,n,h=>by
  simp only[List.mem_cons,not_or]at h;simp only[a5X,t7];rw[if_neg (fun e=>h.1 (by have:=P1.1 e;omega)),a2x h.2]
theorem Z6 {x:Nat}:∀{p:List Nat} {n:Nat},x∈p→t7 (a5X p n) (ik x)=some (.int .i64 ((p.idxOf x+n:Nat):Int))
 |[],_,h=>by simp at h
 | y::p,n,h=>by
  simp only[a5X,t7]
  by_cases e:x=y
  ·subst e;rw[if_pos rfl];simp
  ·rw[if_neg (fun h=>e (by have:=P1.1 h;omega)),Z6 ((List.mem_cons.1 h).resolve_left e)];rw[List.idxOf_cons];have:(y==x)=false:=by simp;exact fun h=>e h.symm
   rw[this];simp only[cond_false]
   congr 3;omega
theorem a6G {x:Nat}:∀{p:List Nat} {n:Nat},x∉p→y5 (a5X p n) (ik x) (.int .i64 ((n+p.length:Nat):Int))=a5X (p++[x]) n
 |[],n,_=>by simp[a5X,y5]
 |y::p,n,h=>by
  simp only[List.mem_cons,not_or]at h;have ih:=a6G (n:=n+1) h.2;simp only[List.cons_append,a5X,y5,List.length_cons];rw[if_neg (fun e=>h.1 (by have:=P1.1 e;omega)),show n+(p.length+1)=n+1+p.length by omega,ih]
theorem x8 {x:Nat}:∀{p:List Nat},x∈p→p[p.idxOf x]?=some x
 |[],h=>by simp at h
 | y::p,h=>by
  rw[List.idxOf_cons]
  by_cases e:y=x
  ·subst e;simp
  ·have:(y==x)=false:=by simpa using e
   rw[this];simp only[cond_false,List.getElem?_cons_succ];exact x8 ((List.mem_cons.1 h).resolve_left (fun h=>e h.symm))
def onW (l:List Wr) (b:List Bool):List Wn:=(l.zip b).filterMap fun q=>if q.2 then some ⟨q.1.A.toNat,q.1.B.toNat,q.1.Siem⟩else none
theorem a5q {l:List Wr} {b:List Bool} {k:Nat} {w:Wr} {x:Bool} (hl:l[k]?=some w) (hb:b[k]?=some x):onW (l.take (k+1)) (b.take (k+1))=onW (l.take k) (b.take k)++if x then [⟨w.A.toNat,w.B.toNat,w.Siem⟩]else []:=by
 have hk:=(List.getElem?_eq_some_iff.1 hl).1;have hk2:=(List.getElem?_eq_some_iff.1 hb).1;unfold onW;rw[List.take_add_one,List.take_add_one,hl,hb,List.zip_append (by simp;omega),List.filterMap_append]
 cases x<;>simp
def rgt (us:Kvs) (p:List Nat):List Int:=p.map fun(k:Nat)=>-igt us k
def Lf (W:List Wn) (p:List Nat):Nat→Nat→Int:=fun i j=>lw W (p.getD i 0) (p.getD j 0)
theorem c1v (n i:Nat):some (m5.els 1 (List.replicate n [I 0]))=X8 (fun _ _=>0) n i:=by
 unfold X8;rw[List.map_const'];simp
theorem b7U (w:Wn) (i:Nat):(ew w i).natAbs≤1:=by
 unfold ew
 split<;>split<;>omega
theorem a7t {i k:Nat}:∀{W:List Wn},(∀w∈W,w.s.natAbs≤4)→(lw W i k).natAbs≤4*W.length
 |[],_=>by simp[lw]
 | w::W,h=>by
  have ih:=a7t (i:=i) (k:=k) (W:=W) fun w hw=>h w (by simp[hw]);have h1:(w.s*(ew w i*ew w k)).natAbs≤4*(1*1):=by
   rw[Int.natAbs_mul,Int.natAbs_mul];exact Nat.mul_le_mul (h w (by simp)) (Nat.mul_le_mul (b7U w i) (b7U w k))
  rw[lw,List.length_cons];omega
theorem a5e (l:List Wr) (b:List Bool):(onW l b).length≤l.length:=by
 refine Nat.le_trans (List.length_filterMap_le _ _) ?_;rw[List.length_zip];exact Nat.min_le_left _ _
theorem a0f {l:List Wr} {b:List Bool} {x:Wn} (h:x∈onW l b):∃w∈l,x=⟨w.A.toNat,w.B.toNat,w.Siem⟩:=by
 unfold onW at h;rw[List.mem_filterMap]at h;obtain⟨q,hq,h⟩:=h
 split at h
 ·simp only[Option.some.injEq]at h;exact⟨q.1,(List.of_mem_zip hq).1,h.symm⟩
 ·cases h
theorem N8 {l:List Wr} {b:List Bool} {x:Wn} {k:Nat} (h:x∈onW (l.take k) (b.take k)):x∈onW l b:=by
 unfold onW at h ⊢;rw[List.mem_filterMap]at h ⊢;obtain⟨q,hq,h⟩:=h;refine⟨q,?_,h⟩;rw[List.zip_eq_zipWith,←List.take_zipWith]at hq;exact List.mem_of_mem_take hq
theorem a7U (g:Gr) (s:Sta) (p:List Nat) (us:Kvs) (n:Nat) (hpn:p.length=n) (h1:1≤n) (h10:n≤10) (hnd:p.Nodup) (hI:a1s us) (hus:∀x,-40≤igt us x∧igt us x≤40)
  (hsw:s.Wires.length=g.Wires.length) (hwl:g.Wires.length≤80) (hw:∀w∈g.Wires,wrB g w=true) (hcl:∀w∈onW g.Wires s.Wires,w.a∈p↔w.b∈p):
  g6 Try.prog 87 [net g s,iL (upN p), .mpc false [.i .i64] us] [] [] (.tup [.row 0 0 n, .row 1 0 n]) [] ([some (.els 1 (D0 2 n n)),some (.els 1 ((rgt us p).map i9))]++n6 (Lf (onW g.Wires s.Wires) p) n n):=by
 have hpl:=r9 p;have wneg:∀x,IntKind.i64.wrap (-igt us x)=-igt us x:=fun x=>i7 (by have:=hus x;omega) (by have:=hus x;omega);refine g6.of_bodyG [] Try.func87 rfl (by decide) (by simp[Try.ntmps87]) rfl rfl ?_;intro J hJ;simp only[Try.ntmps87,Try.results87];refine gS fun K hK=>?_;simp -dsimp;apply hK;clear hK K;refine gS fun K hK=>?_;simp -dsimp;apply hK;clear hK K;refine b9 fun K1 hK1=>?_;refine gS fun K hK=>?_;simp -dsimp;apply hK;clear hK K;refine d7 ?_;refine b7 [0,1,2,8,21,22,23] (Or.inr (by simp)) ?_;simp only[zP,Nat.reduceEqDiff,reduceIte];refine g8 [0,1,2,8,21,22] (α:=Nat) (fun k=>[(23,I k)]) (fun k=>[a5w (a5X (p.take k) 0)]) (fun k=>k≤n) (fun k=>n-k) 0 ?_ ?_ ?_
 ·exact Nat.zero_le _
 ·exact m8 (j7 (by simp)) (by simp)
 rintro k k1;simp only[zP,Nat.reduceEqDiff,reduceIte];refine gS fun K hK=>?_;simp -dsimp;apply hK;clear hK K;refine b9 fun K2 hK2=>?_;refine d8 rfl (fun hc0=>?_) (fun hc0=>?_)
 ·skip
  try simp at hc0
  have hkn:k<p.length:=by rw[←hpl];simpa using hc0
  obtain⟨x,hx⟩:∃x,p[k]?=some x:=⟨_,List.getElem?_eq_getElem hkn⟩;have gx:=F1 hx;have hsn:=a6G (p:=p.take k) (n:=0) (x:=x) (by
   intro hm;obtain⟨j,hj⟩:=List.getElem?_of_mem hm;have hjl:=(List.getElem?_eq_some_iff.1 hj).1;rw[List.length_take]at hjl;rw[List.getElem?_take,if_pos (by omega)]at hj;have:=(List.getElem?_inj (by omega) hnd).1 (hj.trans hx.symm);omega)
  have htl:(p.take k).length=k:=by rw[List.length_take];omega
  rw[htl,Nat.zero_add]at hsn;have hts:p.take (k+1)=p.take k++[x]:=by rw[List.take_add_one,hx];rfl
  have wk:=zW k (by omega);refine e9 ?_;simp only[zT,reduceIte,Nat.reduceEqDiff];refine hK2 _ _ ?_;refine b7 [0,1,2,8,21,22,23] (Or.inr (by simp)) ?_;simp only[zP,Nat.reduceEqDiff,reduceIte];refine b9 fun K3 hK3=>?_;refine d7 ?_;refine gS fun K hK=>?_;simp -dsimp [gx];apply hK;clear hK K;refine gR fun K hK=>?_;simp -dsimp [hsn];apply hK;clear hK K;simp only[zT,reduceIte,Nat.reduceEqDiff];refine hK3 _ _ ?_;refine b7 [0,1,2,8,21,22,23] (Or.inr (by simp)) ?_;simp only[zP,Nat.reduceEqDiff,reduceIte];refine gR fun K hK=>?_;simp -dsimp [wk];apply hK;clear hK K;simp only[zT,reduceIte,Nat.reduceEqDiff];exact⟨k+1,by omega,by omega,m8 (e8 [some 0] rfl (by simp) (by simp[hsn,hts])) (by simp)⟩
 ·skip
  try simp at hc0
  have hkp:¬k<p.length:=by rw[←hpl];simpa using hc0
  have htp:p.take k=p:=List.take_of_length_le (by omega);refine i6 ?_;simp only[zT,reduceIte,Nat.reduceEqDiff];refine hK1 _ _ ?_;refine b7 [0,1,2,8] (Or.inr (by simp)) ?_;simp only[zP,Nat.reduceEqDiff,reduceIte];refine gS fun K hK=>?_;simp -dsimp;apply hK;clear hK K;refine gS fun K hK=>?_;simp -dsimp;apply hK;clear hK K;refine b9 fun K4 hK4=>?_;refine gS fun K hK=>?_;simp -dsimp;apply hK;clear hK K;refine d7 ?_;refine b7 [0,1,2,8,11,12,32,33,34] (Or.inr (by simp)) ?_;simp only[zP,Nat.reduceEqDiff,reduceIte];refine g8 [0,1,2,8,32,33] (α:=Nat) (fun k=>[(11, .row 1 0 k),(12, .row 2 0 k),(34,I k)]) (fun k=>[a5w (a5X p 0),some (.els 1 (D0 3 k n)),some (.els 1 (((rgt us p).take k).map i9))]++n6 (fun _ _=>0) k n) (fun k=>k≤n) (fun k=>n-k) 0 ?_ ?_ ?_
  ·exact Nat.zero_le _
  ·refine m8 ((z8 11 1 (by simp)).trans ((z8 12 1 (by simp)).trans (e8 [some 0,some 1,some 2] rfl (by simp) (by simp[htp,D0,n6])))) (by simp)
  rintro k k1;simp only[zP,Nat.reduceEqDiff,reduceIte];refine gS fun K hK=>?_;simp -dsimp;apply hK;clear hK K;refine b9 fun K5 hK5=>?_;refine d8 rfl (fun hc1=>?_) (fun hc1=>?_)
  ·skip
   try simp at hc1
   have hkn:k<p.length:=by rw[←hpl];simpa using hc1
   obtain⟨x,hx⟩:∃x,p[k]?=some x:=⟨_,List.getElem?_eq_getElem hkn⟩;have gx:=F1 hx;have wk:=zW k (by omega);have hrl:min k (rgt us p).length=k:=by simp only[rgt,List.length_map];omega
   have gr:(rgt us p)[k]?=some (-igt us x):=by simp[rgt,hx]
   have f1:C7 (k+1) 25:=k9 (by omega) (by omega);have f2:C7 (k+1) 9:=k9 (by omega) (by omega);have f0:C7 n 9:=k9 (by omega) (by omega);refine e9 ?_;simp only[zT,reduceIte,Nat.reduceEqDiff];refine hK5 _ _ ?_;refine b7 [0,1,2,8,11,12,32,33,34] (Or.inr (by simp)) ?_;simp only[zP,Nat.reduceEqDiff,reduceIte];refine b9 fun K6 hK6=>?_;refine d7 ?_;refine gS fun K hK=>?_;simp -dsimp [gx];apply hK;clear hK K;refine gS fun K hK=>?_;simp -dsimp [f0,f1,hpl,hpn,Nat.add_assoc];apply hK;clear hK K;refine gR fun K hK=>?_;simp -dsimp [s9 hI,wneg,f2,hrl,Nat.add_assoc];refine p6 (_) (fun hm=>rfl) ?_;simp -dsimp [s9 hI,wneg,f2,hrl,Nat.add_assoc];apply hK;clear hK K;simp only[zT,reduceIte,Nat.reduceEqDiff];refine hK6 _ _ ?_;refine b7 [0,1,2,8,11,12,32,33,34] (Or.inr (by simp)) ?_;simp only[zP,Nat.reduceEqDiff,reduceIte];refine gR fun K hK=>?_;simp -dsimp [wk];apply hK;clear hK K;simp only[zT,reduceIte,Nat.reduceEqDiff];have hout:∀i,i<k+1→some (i+3)∉ [some 0,some (k+5),some (k+6)]:=fun i hi=>by simp;omega
   have hM:∀i,i<k+1→m7 (n6 (fun _ _=>0) k n++[some (.els 1 (List.replicate n [I 0])),some (.els 1 [[.row (k+3) 0 n]]),some (.els 1 (D0 3 k n++[[.row (k+3) 0 n]])),some (.els 1 (List.take k ((rgt us p).map i9)++[[I (-igt us x)]]))]) i=X8 (fun _ _=>0) n i:=fun i hi=>by
    rcases Nat.lt_succ_iff_lt_or_eq.1 hi with h|h
    ·exact l9 h
    ·subst h;rw[U6];exact c1v _ _
   have hro:=y3 (g:=some 0::some (k+5)::some (k+6)::(List.range (k+1)).map fun i=>some (i+3)) (c:=3) (c':=3) (m:=k+1) (n:=n) (fun i hi=>p8 (gf:=[some 0,some (k+5),some (k+6)]) hi (hout i hi));rw[a3f]at hro;refine⟨k+1,by omega,by omega,m8 (D7 (F':=[a5w (a5X p 0),some (.els 1 (D0 3 (k+1) n)),some (.els 1 (((rgt us p).take (k+1)).map i9))]) [some 0,some (k+5),some (k+6)] (fun _ _=>0) (k+1) n 3 (by simp[u6]) hout hM (by simp[hpl,hpn]) ?_) (by simp)⟩;simp[hro,a3f,List.take_add_one,gr]
  ·skip
   try simp at hc1
   have hkp:¬k<p.length:=by rw[←hpl];simpa using hc1
   have hkn:k=n:=by omega
   subst hkn;have hrt:List.take k ((rgt us p).map i9)=(rgt us p).map i9:=List.take_of_length_le (by simp[rgt];omega);rw[hrt];refine i6 ?_;simp only[zT,reduceIte,Nat.reduceEqDiff];refine hK4 _ _ ?_;refine b7 [0,8,11,12] (Or.inr (by simp)) ?_;simp only[zP,Nat.reduceEqDiff,reduceIte];refine b9 fun K7 hK7=>?_;refine gS fun K hK=>?_;simp -dsimp;apply hK;clear hK K;refine d7 ?_;refine b7 [0,8,11,12,56,57,58] (Or.inr (by simp)) ?_;simp only[zP,Nat.reduceEqDiff,reduceIte];refine g8 [0,8,11,12,56,57] (α:=Nat) (fun q=>[(58,I q)]) (fun q=>[a5w (a5X p 0),some (.els 1 (D0 3 k k)),some (.els 1 ((rgt us p).map i9))]++n6 (Lf (onW (g.Wires.take q) (s.Wires.take q)) p) k k) (fun q=>q≤g.Wires.length) (fun q=>g.Wires.length-q) 0 ?_ ?_ ?_
   ·exact Nat.zero_le _
   ·have hm0:n6 (Lf (onW (g.Wires.take 0) (s.Wires.take 0)) p) k k=n6 (fun _ _=>0) k k:=A7 fun i _ j _=>rfl;rw[hm0];exact m8 (j7 (by simp)) (by simp)
   rintro q q1;simp only[zP,Nat.reduceEqDiff,reduceIte];refine gS fun K hK=>?_;simp -dsimp;apply hK;clear hK K;refine b9 fun K8 hK8=>?_;refine d8 rfl (fun hc2=>?_) (fun hc2=>?_)
   ·skip
    try simp at hc2
    obtain⟨w,hq⟩:∃w,g.Wires[q]?=some w:=⟨_,List.getElem?_eq_getElem hc2⟩;have wq:=zW q (by omega);have hwb:=hw w (List.mem_of_getElem? hq);simp only[wrB,Bool.and_eq_true,v9,Bool.not_eq_true',decide_eq_false_iff_not]at hwb;obtain⟨⟨⟨hwA,hwB⟩,hAB⟩,hwS⟩:=hwb;have gsw:=s7 (l:=s.Wires) (k:=q) (by omega);have hsn:=a5q hq gsw;obtain⟨a,ha⟩:∃a:Nat,w.A=a:=⟨w.A.toNat,by omega⟩;obtain⟨b,hb⟩:∃b:Nat,w.B=b:=⟨w.B.toNat,by omega⟩;have hab:a≠b:=by omega
    obtain⟨wA,wB,wS,wSw⟩:=w;simp only at ha hb hwS hsn;subst ha hb;simp only[Int.toNat_natCast]at hsn;obtain⟨ia,hia⟩:∃ia:Nat,ia=if a∈p then p.idxOf a else 0:=⟨_,rfl⟩;have hA1:(t7 (a5X p 0) (ik (a:Int))).getD (.int .i64 0)= .int .i64 (ia:Int):=by
     by_cases h:a∈p
     ·rw[Z6 h,hia,if_pos h];rfl
     ·rw[a2x h,hia,if_neg h];rfl
    have hA2:(t7 (a5X p 0) (ik (a:Int))).isSome=decide (a∈p):=by
     by_cases h:a∈p
     ·rw[Z6 h];simp[h]
     ·rw[a2x h];simp[h]
    have hfb:∀i j,(Lf (onW (g.Wires.take q) (s.Wires.take q)) p i j).natAbs≤320:=fun i j=>by
     refine Nat.le_trans (a7t fun x hx=>?_) ?_
     ·obtain⟨w',hw',e⟩:=a0f (N8 hx);have:=hw w' hw';simp only[wrB,Bool.and_eq_true,v9]at this;rw[e];simp only;omega
     ·have:=a5e (g.Wires.take q) (s.Wires.take q);rw[List.length_take]at this;omega
    refine e9 ?_;simp only[zT,reduceIte,Nat.reduceEqDiff];refine hK8 _ _ ?_;refine b7 [0,8,11,12,56,57,58] (Or.inr (by simp)) ?_;simp only[zP,Nat.reduceEqDiff,reduceIte];refine b9 fun K9 hK9=>?_;refine d7 ?_;refine gS fun K hK=>?_;simp -dsimp [hq];apply hK;clear hK K;refine gS fun K hK=>?_;simp -dsimp [hA1,hA2,Nat.add_assoc];refine p6 (_) (fun hm=>rfl) ?_;simp -dsimp [hA1,hA2,Nat.add_assoc];apply hK;clear hK K;refine b9 fun K10 hK10=>?_;refine gS fun K hK=>?_;simp -dsimp [gsw];refine j8 (i8 (bAt s.Wires q)) (fun _=>by simp[gsw]) ?_;simp -dsimp [gsw];apply hK;clear hK K;refine d8 rfl (fun hc3=>?_) (fun hc3=>?_)
    ·have hfe:n6 (Lf (onW (g.Wires.take (q+1)) (s.Wires.take (q+1))) p) k k=n6 (Lf (onW (g.Wires.take q) (s.Wires.take q)) p) k k:=by
      rw[hsn]
      cases hx:bAt s.Wires q with
      |false=>simp
      | true=>
       have hna:a∉p:=by simpa [hx]using hc3
       refine A7 fun i hi j hj=>?_;have hxi:p.getD i 0∈p:=by rw[List.getD_eq_getElem?_getD,List.getElem?_eq_getElem (by omega)];simp
       have hmem:(⟨a,b,wS⟩:Wn)∈onW g.Wires s.Wires:=N8 (k:=q+1) (by rw[hsn,hx];simp);have hnb:b∉p:=fun h=>hna ((hcl _ hmem).2 h);have e0:ew ⟨a,b,wS⟩ (p.getD i 0)=0:=by
        have n1:p.getD i 0≠a:=fun e=>hna (by rw[←e];exact hxi);have n2:p.getD i 0≠b:=fun e=>hnb (by rw[←e];exact hxi);unfold ew;rw[if_neg n1,if_neg n2];rfl
       unfold Lf;rw[if_pos rfl,P7];show _+(wS*(ew ⟨a,b,wS⟩ (p.getD i 0)*ew ⟨a,b,wS⟩ (p.getD j 0))+0)=_;rw[e0,Int.zero_mul,Int.mul_zero];omega
     refine i6 ?_;simp only[zT,reduceIte,Nat.reduceEqDiff];refine hK9 _ _ ?_;refine b7 [0,8,11,12,56,57,58] (Or.inr (by simp)) ?_;simp only[zP,Nat.reduceEqDiff,reduceIte];refine gR fun K hK=>?_;simp -dsimp [wq];apply hK;clear hK K;simp only[zT,reduceIte,Nat.reduceEqDiff];refine⟨q+1,by omega,by omega,m8 (D7 (F':=[a5w (a5X p 0),some (.els 1 (D0 3 k k)),some (.els 1 ((rgt us p).map i9))]) [some 0,some 1,some 2] (Lf (onW (g.Wires.take (q+1)) (s.Wires.take (q+1))) p) k k 3 (by simp[u6]) (fun i hi=>by simp) ?_ (by simp) ?_) (by simp)⟩
     ·intro i hi;show m7 (n6 _ k k++_) i=_;rw[l9 hi];rw[←o4 (m:=k) hi,←o4 (m:=k) hi,hfe]
     ·have hro:=y3 (g:=some 0::some 1::some 2::(List.range k).map fun i=>some (i+3)) (c:=3) (c':=3) (m:=k) (n:=k) (fun i hi=>p8 (gf:=[some 0,some 1,some 2]) hi (by simp));simp[hro]
    ·have hap:a∈p∧bAt s.Wires q=true:=by simpa using hc3
     have hmem:(⟨a,b,wS⟩:Wn)∈onW g.Wires s.Wires:=N8 (k:=q+1) (by rw[hsn,hap.2];simp);have hbp:b∈p:=(hcl _ hmem).1 hap.1;rw[if_pos hap.1]at hia;obtain⟨ib,hib⟩:∃ib:Nat,ib=p.idxOf b:=⟨_,rfl⟩;have hB1:(t7 (a5X p 0) (ik (b:Int))).getD (.int .i64 0)= .int .i64 (ib:Int):=by rw[Z6 hbp,hib];rfl
     have hik:ia<k:=by rw[hia,←hpn];exact List.idxOf_lt_length_of_mem hap.1
     have hjk:ib<k:=by rw[hib,←hpn];exact List.idxOf_lt_length_of_mem hbp
     have gA:p[ia]?=some a:=by rw[hia];exact x8 hap.1
     have gB:p[ib]?=some b:=by rw[hib];exact x8 hbp
     have lia:ia≤k+1:=by omega
     have lib:ib≤k+1:=by omega
     have hij:ia≠ib:=by rintro rfl;rw[gA]at gB;simp only[Option.some.injEq]at gB;exact hab gB
     have hji:ib≠ia:=fun e=>hij e.symm;have hfe:∀i,i<k→∀j,j<k→Lf (onW (g.Wires.take (q+1)) (s.Wires.take (q+1))) p i j=L2 (L2 (L2 (L2 (Lf (onW (g.Wires.take q) (s.Wires.take q)) p) ia ia (Lf (onW (g.Wires.take q) (s.Wires.take q)) p ia ia+wS)) ib ib (Lf (onW (g.Wires.take q) (s.Wires.take q)) p ib ib+wS)) ia ib (Lf (onW (g.Wires.take q) (s.Wires.take q)) p ia ib-wS)) ib ia (Lf (onW (g.Wires.take q) (s.Wires.take q)) p ib ia-wS) i j:=by
      intro i hi j hj;have hE:∀i,i<k→ew ⟨a,b,wS⟩ (p.getD i 0)=(if i=ia then 1 else 0)-(if i=ib then 1 else 0):=by
       intro i hi;have hgi:p[i]?=some (p.getD i 0):=by rw[List.getD_eq_getElem?_getD,List.getElem?_eq_getElem (by omega)];rfl
       have q1:(p.getD i 0=a)↔i=ia:=by
        constructor
        ·intro e;rw[e]at hgi;exact(List.getElem?_inj (by omega) hnd).1 (hgi.trans gA.symm)
        ·rintro rfl;rw[gA]at hgi;simp only[Option.some.injEq]at hgi;exact hgi.symm
       have q2:(p.getD i 0=b)↔i=ib:=by
        constructor
        ·intro e;rw[e]at hgi;exact(List.getElem?_inj (by omega) hnd).1 (hgi.trans gB.symm)
        ·rintro rfl;rw[gB]at hgi;simp only[Option.some.injEq]at hgi;exact hgi.symm
       unfold ew;simp only[q1,q2]
      rw[hsn,hap.2];have hL:Lf (onW (g.Wires.take q) (s.Wires.take q)++[⟨a,b,wS⟩]) p i j=Lf (onW (g.Wires.take q) (s.Wires.take q)) p i j+wS*(((if i=ia then 1 else 0)-(if i=ib then 1 else 0))*((if j=ia then 1 else 0)-(if j=ib then 1 else 0))):=by
       unfold Lf;rw[P7,←hE i hi,←hE j hj];simp[lw]
      rw[if_pos rfl,hL];unfold L2
      by_cases e1:i=ia
      ·subst e1
       by_cases e2:j=i
       ·subst e2;simp[hij,hji]
       ·by_cases e3:j=ib
        ·subst e3;simp[hij,hji,e2];omega
        ·simp[hij,hji,e2,e3]
      ·by_cases e2:i=ib
       ·subst e2
        by_cases e3:j=i
        ·subst e3;simp[hij,hji]
        ·by_cases e4:j=ia
         ·subst e4;simp[hij,hji,e3];omega
         ·simp[hij,hji,e3,e4]
       ·simp[e1,e2]
     generalize Lf (onW (g.Wires.take q) (s.Wires.take q)) p=f at hfe hfb ⊢;have w1:IntKind.i64.wrap (f ia ia+wS)=f ia ia+wS:=i7 (by have:=hfb ia ia;omega) (by have:=hfb ia ia;omega);have w2:IntKind.i64.wrap (f ib ib+wS)=f ib ib+wS:=i7 (by have:=hfb ib ib;omega) (by have:=hfb ib ib;omega);have w3:IntKind.i64.wrap (f ia ib-wS)=f ia ib-wS:=i7 (by have:=hfb ia ib;omega) (by have:=hfb ia ib;omega);have w4:IntKind.i64.wrap (f ib ia-wS)=f ib ia-wS:=i7 (by have:=hfb ib ia;omega) (by have:=hfb ib ia;omega);have e2:L2 f ia ia (f ia ia+wS) ib ib=f ib ib:=by simp[L2,hji]
     have e3:L2 (L2 f ia ia (f ia ia+wS)) ib ib (f ib ib+wS) ia ib=f ia ib:=by simp[L2,hij,hji]
     have e4:L2 (L2 (L2 f ia ia (f ia ia+wS)) ib ib (f ib ib+wS)) ia ib (f ia ib-wS) ib ia=f ib ia:=by simp[L2,hij,hji]
     refine e9 ?_;simp only[zT,reduceIte,Nat.reduceEqDiff];refine hK10 _ _ ?_;refine b7 [0,8,11,12,16,17,56,57,58] (Or.inr (by simp)) ?_;simp only[zP,Nat.reduceEqDiff,reduceIte];refine gS fun K hK=>?_;simp -dsimp [hB1,Nat.add_assoc];refine p6 (_) (fun hm=>rfl) ?_;simp -dsimp [hB1,Nat.add_assoc];apply hK;clear hK K;refine s4 l6 rfl (by decide) rfl rfl fun K hK=>?_;simp -dsimp [lia,lib,Nat.add_assoc,x3 hik,hik,l9 hik,X8,C3 hik,x5 hik,w1];refine hK _ _ _ (by exact r8 [(0,1),(0,4),(1,4),(2,4),(3,4),(0,7),(1,7),(2,7),(3,7),(4,7),(5,7),(6,7),(0,8),(1,8),(2,8),(3,8),(4,8),(5,8),(6,8)] (by decide+kernel) (by decide+kernel) (by simp[J0]<;>omega)) ?_;clear hK K;refine s4 l6 rfl (by decide) rfl rfl fun K hK=>?_;simp -dsimp [lia,lib,Nat.add_assoc,x3 hjk,hjk,l9 hjk,X8,C3 hjk,x5 hjk,e2,w2];refine hK _ _ _ (by exact r8 [(0,1),(0,4),(1,4),(2,4),(3,4),(0,7),(1,7),(2,7),(3,7),(4,7),(5,7),(6,7),(0,8),(1,8),(2,8),(3,8),(4,8),(5,8),(6,8)] (by decide+kernel) (by decide+kernel) (by simp[J0]<;>omega)) ?_;clear hK K;refine s4 l6 rfl (by decide) rfl rfl fun K hK=>?_;simp -dsimp [lia,lib,Nat.add_assoc,x3 hik,hik,l9 hik,X8,hjk,C3 hjk,x5 hik,e3,w3];refine hK _ _ _ (by exact r8 [(0,1),(0,4),(1,4),(2,4),(3,4),(0,7),(1,7),(2,7),(3,7),(4,7),(5,7),(6,7),(0,8),(1,8),(2,8),(3,8),(4,8),(5,8),(6,8)] (by decide+kernel) (by decide+kernel) (by simp[J0]<;>omega)) ?_;clear hK K;refine p9 l6 rfl (by decide) rfl rfl fun K hK=>?_;simp -dsimp [lia,lib,Nat.add_assoc,x3 hjk,hjk,l9 hjk,X8,hik,C3 hik,x5 hjk,e4,w4];refine hK _ _ _ (by exact r8 [(0,1),(0,4),(1,4),(2,4),(3,4),(0,7),(1,7),(2,7),(3,7),(4,7),(5,7),(6,7),(0,8),(1,8),(2,8),(3,8),(4,8),(5,8),(6,8)] (by decide+kernel) (by decide+kernel) (by simp[J0]<;>omega)) ?_;clear hK K;simp only[zT,reduceIte,Nat.reduceEqDiff];refine hK9 _ _ ?_;refine b7 [0,8,11,12,56,57,58] (Or.inr (by simp)) ?_;simp only[zP,Nat.reduceEqDiff,reduceIte];refine gR fun K hK=>?_;simp -dsimp [wq];apply hK;clear hK K;simp only[zT,reduceIte,Nat.reduceEqDiff];refine⟨q+1,by omega,by omega,m8 (D7 (F':=[a5w (a5X p 0),some (.els 1 (D0 3 k k)),some (.els 1 ((rgt us p).map i9))]) [some 0,some 1,some 2] (Lf (onW (g.Wires.take (q+1)) (s.Wires.take (q+1))) p) k k 3 (by simp[u6]) (fun i hi=>by simp) ?_ (by simp) ?_) (by simp)⟩
     ·intro i hi;show m7 (n6 _ k k++_) i=_;rw[l9 hi];rw[←o4 (m:=k) hi,←o4 (m:=k) hi,A7 hfe]
     ·have hro:=y3 (g:=some 0::some 1::some 2::(List.range k).map fun i=>some (i+3)) (c:=3) (c':=3) (m:=k) (n:=k) (fun i hi=>p8 (gf:=[some 0,some 1,some 2]) hi (by simp));simp[hro]
   ·skip
    try simp at hc2
    have hqe:q=g.Wires.length:=by omega
    have ht1:g.Wires.take q=g.Wires:=List.take_of_length_le (by omega);have ht2:s.Wires.take q=s.Wires:=List.take_of_length_le (by omega);rw[ht1,ht2];refine i6 ?_;simp only[zT,reduceIte,Nat.reduceEqDiff];refine hK7 _ _ ?_;refine b7 [11,12] (Or.inr (by simp)) ?_;simp only[zP,Nat.reduceEqDiff,reduceIte];refine gS fun K hK=>?_;simp -dsimp;apply hK;clear hK K;have hout:∀i,i<k→some (i+3)∉ [some 1,some 2]:=fun i hi=>by simp
    have hro:=y3 (g:=some 1::some 2::(List.range k).map fun i=>some (i+3)) (c:=3) (c':=2) (m:=k) (n:=k) (fun i hi=>p8 (gf:=[some 1,some 2]) hi (hout i hi));refine k7 ⟨[some 1,some 2]++(List.range k).map fun i=>some (i+3),a2C rfl hout,by simp,?_,by simp,by simp[y8,n5]⟩;refine a5L (F':=[some (.els 1 (D0 2 k k)),some (.els 1 ((rgt us p).map i9))]) [some 1,some 2] _ k k 3 (fun i hi=>?_) ?_
    ·show m7 (n6 _ k k) i=_;exact o4 hi
    ·simp[hro]
end Go.Cur
end
section
namespace Go.Cur
open Go.AM Go.Proofs
theorem F4 {p:List Nat} {i:Nat} (h:i<p.length):p[i]?=some (p.getD i 0):=by
 rw[List.getD_eq_getElem?_getD,List.getElem?_eq_getElem h];rfl
theorem I6 (f:Nat→Nat→Int) (n:Nat):Sq (b5j f n n) n:=by
 refine⟨by simp[b5j],fun r hr=>?_⟩;obtain⟨i,_,rfl⟩:=List.mem_map.1 hr;simp
theorem b2S {f:Nat→Nat→Int} {n i j:Nat} (hi:i<n) (hj:j<n):mAt (b5j f n n) i j=f i j:=by
 unfold mAt;rw[a9J (a1J hi)];exact a7k (by rw[List.getElem?_map,List.getElem?_range hj];rfl)
theorem a2B {α:Type} (p:List Nat) (f:Nat→α):p.map f=(List.range p.length).map fun i=>f (p.getD i 0):=by
 conv=>lhs;rw[J7 (p:=p)]
 rw[List.map_map];rfl
abbrev eqM (A:Nat→Nat→Int) (p:List Nat):List (List Int):=b5j (fun i j=>A (p.getD i 0) (p.getD j 0)) p.length p.length
theorem a5i (A:Nat→Nat→Int) (p:List Nat):a7A (eqM A p)=D A p:=by
 unfold a7A;rw[(I6 _ _).len,b3V];exact V2 fun i hi k hk=>b2S (List.mem_range.1 hi) (List.mem_range.1 hk)
theorem a5F (A:Nat→Nat→Int) (b:Nat→Int) (p:List Nat) (hp:p.Nodup):a1L (eqM A p) (p.map b)=p.map fun k=>wr (num A b p k):=by
 unfold a1L;rw[(I6 _ _).len,a2B p (fun k=>wr (num A b p k))];refine List.map_congr_left fun k hk=>?_;rw[List.mem_range]at hk;have h1:(a7z (eqM A p) (p.map b) k).length=p.length:=by rw[Z0,(I6 _ _).len]
 have h2:a7A (a7z (eqM A p) (p.map b) k)=num A b p (p.getD k 0):=by
  unfold a7A;rw[h1,a6w hp hk];refine V2 fun i hi j hj=>?_;rw[List.mem_range]at hi hj;rw[b8D (I6 _ _) hi hj,b2S hi hj];have:at0 (p.map b) i=b (p.getD i 0):=a7k (by rw[List.getElem?_map,F4 hi];rfl);rw[this]
 rw[h2]
def V6 (g:Gr) (fs:List Int) (b:Nat):Fd:=fdI g (at0 fs b)
def Pt (g:Gr) (W:List Wn) (us:Kvs) (p:List Nat) (fs:List Int) (t:Nat):o6:=
 ⟨p,lw W,fun x=>igt us x,List.range t,fun b=>(V6 g fs b).At.toNat,fun b=>(V6 g fs b).Siem,fun b=>(V6 g fs b).Volts⟩
def u5 (a:Nat):Nat→Bool:=fun b=>a.testBit b
section
variable (g:Gr) (W:List Wn) (us:Kvs) (p:List Nat) (fs:List Int)
theorem a5f (t a:Nat) (c:Nat→Int) (i:Nat):(Pt g W us p fs (t+1)).at_ (u5 a) c i=(Pt g W us p fs t).at_ (u5 a) c i+if a.testBit t=true∧(V6 g fs t).At.toNat=i then c t else 0:=by
 unfold o6.at_;show sm _ (List.range (t+1))=sm _ (List.range t)+_;rw[List.range_succ,P5];show _+((if u5 a t=true∧(Pt g W us p fs (t+1)).p t=i then c t else 0)+0)=_;rw[Int.add_zero];rfl
def Af (t a:Nat):Nat→Nat→Int:=fun i j=>(Pt g W us p fs t).A (u5 a) (p.getD i 0) (p.getD j 0)
def Rf (t a:Nat):Nat→Int:=fun i=>(Pt g W us p fs t).b (u5 a) (p.getD i 0)
def RfL (t a:Nat):List Int:=(List.range p.length).map (Rf g W us p fs t a)
theorem b3C (t a:Nat):(RfL g W us p fs t a).length=p.length:=by simp[RfL]
theorem b2s {t a k:Nat} (h:k<p.length):(RfL g W us p fs t a)[k]?=some (Rf g W us p fs t a k):=by
 unfold RfL;rw[List.getElem?_map,List.getElem?_range h];rfl
theorem b8j (t a:Nat):RfL g W us p fs t a=p.map ((Pt g W us p fs t).b (u5 a)):=by
 rw[a2B p];rfl
theorem b4P (a:Nat):Af g W us p fs 0 a=Lf W p:=by
 funext i j
 unfold Af o6.A Lf;have:(Pt g W us p fs 0).at_ (u5 a) (Pt g W us p fs 0).s (p.getD i 0)=0:=rfl;rw[this];show lw W _ _+_=_
 split<;>omega
theorem b1x (a:Nat):RfL g W us p fs 0 a=rgt us p:=by
 unfold RfL rgt;rw[a2B p fun(k:Nat)=>-igt us k];refine List.map_congr_left fun i _=>?_;unfold Rf o6.b;have:(Pt g W us p fs 0).at_ (u5 a) (fun b=>(Pt g W us p fs 0).s b*(Pt g W us p fs 0).V b) (p.getD i 0)=0:=rfl;rw[this];show-igt us _+0=_;omega
theorem b7t {t a:Nat} (h:a.testBit t=false):Af g W us p fs (t+1) a=Af g W us p fs t a:=by
 funext i j
 unfold Af o6.A;rw[show(Pt g W us p fs (t+1)).s=(Pt g W us p fs t).s from rfl,a5f];simp[h];rfl
theorem b7G {t a:Nat} (h:a.testBit t=false):RfL g W us p fs (t+1) a=RfL g W us p fs t a:=by
 unfold RfL
 congr 1
 funext i
 unfold Rf o6.b;rw[show(fun b=>(Pt g W us p fs (t+1)).s b*(Pt g W us p fs (t+1)).V b)=fun b=>(Pt g W us p fs t).s b*(Pt g W us p fs t).V b from rfl,a5f];simp[h];rfl
theorem c1s {t a k:Nat} (hp:p.Nodup) (h:a.testBit t=true) (hk:k<p.length) (hat:p.getD k 0=(V6 g fs t).At.toNat):∀i,i<p.length→∀j,j<p.length→L2 (Af g W us p fs t a) k k (Af g W us p fs t a k k+(V6 g fs t).Siem) i j=Af g W us p fs (t+1) a i j:=by
 intro i hi j hj;unfold L2;have e:∀i j,(Pt g W us p fs (t+1)).A (u5 a) i j=(Pt g W us p fs t).A (u5 a) i j+if i=j∧(V6 g fs t).At.toNat=i then(V6 g fs t).Siem else 0:=by
  intro i j;unfold o6.A;rw[show(Pt g W us p fs (t+1)).s=(Pt g W us p fs t).s from rfl,a5f];show lw W i j+_=lw W i j+_+_
  by_cases hij:i=j
  ·subst hij
   by_cases hx:(V6 g fs t).At.toNat=i
   ·simp[h,hx];rw[Int.add_assoc];rfl
   ·simp[h,hx]
  ·simp[hij]
 show _=(Pt g W us p fs (t+1)).A (u5 a) (p.getD i 0) (p.getD j 0);rw[e];show(if i=k∧j=k then(Pt g W us p fs t).A (u5 a) (p.getD k 0) (p.getD k 0)+_ else(Pt g W us p fs t).A (u5 a) (p.getD i 0) (p.getD j 0))=_
 by_cases h1:i=k
 ·subst h1
  by_cases h2:j=i
  ·subst h2;rw[if_pos ⟨rfl,rfl⟩,if_pos ⟨rfl,hat.symm⟩]
  ·rw[if_neg (fun e=>h2 e.2),if_neg (fun e=>h2 (F5 hp hj hi e.1.symm)),Int.add_zero]
 ·rw[if_neg (fun e=>h1 e.1),if_neg (fun e=>h1 (F5 hp hi hk (by rw[←e.2,hat]))),Int.add_zero]
theorem c1z {t a k:Nat} (hp:p.Nodup) (h:a.testBit t=true) (hk:k<p.length) (hat:p.getD k 0=(V6 g fs t).At.toNat):(RfL g W us p fs t a).set k (Rf g W us p fs t a k+(V6 g fs t).Siem*(V6 g fs t).Volts)=RfL g W us p fs (t+1) a:=by
 unfold RfL;refine List.ext_getElem? fun i=>?_;have e:∀i,(Pt g W us p fs (t+1)).b (u5 a) i=(Pt g W us p fs t).b (u5 a) i+if (V6 g fs t).At.toNat=i then(V6 g fs t).Siem*(V6 g fs t).Volts else 0:=by
  intro i;unfold o6.b;rw[show(fun b=>(Pt g W us p fs (t+1)).s b*(Pt g W us p fs (t+1)).V b)=fun b=>(Pt g W us p fs t).s b*(Pt g W us p fs t).V b from rfl,a5f];simp only[h,true_and];rw[←Int.add_assoc];rfl
 by_cases hi:i<p.length
 ·rw[List.getElem?_map,List.getElem?_range hi]
  by_cases h1:i=k
  ·subst h1;rw[List.getElem?_set_self (by simpa using hi)];show some (_+_)=some ((Pt g W us p fs (t+1)).b (u5 a) (p.getD i 0));rw[e,if_pos hat.symm];rfl
  ·rw[List.getElem?_set_ne (fun e=>h1 e.symm),List.getElem?_map,List.getElem?_range hi];show some _=some ((Pt g W us p fs (t+1)).b (u5 a) (p.getD i 0));rw[e,if_neg (fun e=>h1 (F5 hp hi hk (by rw[←e,hat]))),Int.add_zero];rfl
 ·rw[List.getElem?_eq_none (by simp;omega),List.getElem?_eq_none (by simp;omega)]
end
end Go.Cur
end
section
namespace Go.Cur
open Go.AM Go.Proofs
theorem b8z (p:List Nat) (k:Nat) (x:Int) (h0:0≤x):((upN p).take k).any (fun y=>decide (x=y))=(p.take k).any fun y=>decide (x.toNat=y):=by
 unfold upN;rw[←List.map_take,List.any_map]
 congr 1
 funext y
 exact decide_eq_decide.2 (by simp;omega)
theorem J5 {p:List Nat} {x:Int} (h0:0≤x) (hx:x.toNat∈p):K0 (upN p) (fun y=>decide (x=y))=((p.idxOf x.toNat:Nat):Int):=by
 have hg:=x8 hx;refine a0y (x:=x) (by have:=F1 hg;rwa [Int.toNat_of_nonneg h0]at this) (by simp) ?_;rw[b8z _ _ _ h0];rw[List.any_eq_false];intro y hy;obtain⟨j,hj⟩:=List.getElem?_of_mem hy;have hjl:=(List.getElem?_eq_some_iff.1 hj).1;rw[List.length_take]at hjl;rw[List.getElem?_take,if_pos (by omega)]at hj;have hlt:j<p.idxOf x.toNat:=by omega
 have hn:=List.not_of_lt_findIdx (p:=(· ==x.toNat)) (xs:=p) hlt
 have hy2:p[j]'(by omega)=y:=(List.getElem?_eq_some_iff.1 hj).2;simp only[decide_eq_true_eq];rintro e;rw[hy2,←e]at hn;simp at hn
theorem b1E (g:Gr) (s:Sta) (p:List Nat) (f:Int) (hp:p.length≤1000) (h0:0≤f) (h1:f<g.Feeds.length) (hA:0≤(fdI g f).At) (hm:(fdI g f).At.toNat∈p):
  d5 Try.prog 86 [I f, .iptr [iL (upN p)], .iptr [net g s]] (I ((p.idxOf (fdI g f).At.toNat:Nat):Int)):=by
 have gf:=M7 h0 h1;have hi:=a9F (upN p) (fdI g f).At (by rw[r9];omega);rw[J5 hA hm]at hi;refine d5.of_body Try.func86 rfl (by decide) (by simp[Try.ntmps86]) ?_;simp only[Try.ntmps86,Try.results86];refine aS fun K hK=>?_;simp -dsimp;apply hK;clear hK K;refine v5 l6 rfl fun K hK=>?_;simp -dsimp [gf,h0];refine d6 _ (hi) (by simp) ?_;simp -dsimp [gf,h0];refine hK _ _ _ (by decide+kernel) ?_;clear hK K;exact g7 (by simp)
def b5g (P:o6) (m a:Nat):Bool:=(List.range m).all fun b=>if a.testBit b then decide (0≤P.V b*P.den (u5 a)-P.num (u5 a) (P.p b))else decide (P.V b*P.den (u5 a)-P.num (u5 a) (P.p b)≤0)
def c2P (V:Nat→Int) (q:Nat→Nat) (nu:Nat→Int) (de:Int) (a b:Nat):Bool:=if a.testBit b then decide (0≤V b*de-nu (q b))else decide (V b*de-nu (q b)≤0)
theorem b9q (P:o6) (m a:Nat):b5g P m a=(List.range m).all (c2P P.V P.p (P.num (u5 a)) (P.den (u5 a)) a):=rfl
theorem a9A (f:Nat→Bool) (b:Nat):(List.range (b+1)).all f=((List.range b).all f&&f b):=by rw[List.range_succ,List.all_append];simp
def a0Y (n:Nat):List Int:=List.replicate n 0
def B3 (us:Kvs) (p:List Nat):Int:=sm (fun x=>igt us x) p
def T6 (us:Kvs) (p:List Nat):Bool:=p.all fun(x:Nat)=>igt us x==0
theorem X2 {us:Kvs} {p:List Nat} {k x:Nat} (h:p[k]?=some x):B3 us (p.take (k+1))=B3 us (p.take k)+igt us x:=by
 unfold B3;rw[List.take_add_one,h,P5];show _+(igt us x+0)=_;omega
theorem a4d {us:Kvs} {p:List Nat} {k x:Nat} (h:p[k]?=some x):T6 us (p.take (k+1))=(T6 us (p.take k)&&(igt us x==0)):=by
 unfold T6;rw[List.take_add_one,h,List.all_append];simp
theorem a2V {us:Kvs} (hus:∀x,-40≤igt us x∧igt us x≤40):∀p:List Nat,-40*(p.length:Int)≤B3 us p∧B3 us p≤40*(p.length:Int)
 |[]=>by simp[B3,sm]
 |x::p=>by
  have h1:=hus x;have h2:=a2V hus p;unfold B3 at h2 ⊢;rw[sm,List.length_cons];omega
def F2 (x0:Int) (xs:List Int):Int:=xs.foldl a9D x0
structure o8 (g:Gr) (s:Sta):Prop where
 gr:grB g=true
 sf:s.Feeds.length=g.Feeds.length
 sw:s.Wires.length=g.Wires.length
structure b2P (g:Gr) (s:Sta) (p:List Nat):Prop where
 n1:1≤p.length
 n10:p.length≤10
 nd:p.Nodup
 cl:∀w∈onW g.Wires s.Wires,w.a∈p↔w.b∈p
theorem o8.wires {g:Gr} {s:Sta} (h:o8 g s):∀w∈g.Wires,wrB g w=true:=by
 have h1:=h.gr;simp only[grB,Bool.and_eq_true]at h1;have key:∀k,a7X g k=true→∀i,i<k→∀w,g.Wires[i]?=some w→wrB g w=true:=by
  intro k
  induction k with
  |zero=>intro _ i hi;omega
  |succ k ih=>
   intro hk i hi w hw;simp only[a7X,Bool.and_eq_true]at hk
   rcases Nat.lt_succ_iff_lt_or_eq.1 hi with h|h
   ·exact ih hk.1 i h w hw
   ·subst h;have:=hk.2;rw[hw]at this;simp only[Bool.and_eq_true]at this;exact this.1
 intro w hw;obtain⟨i,hi⟩:=List.getElem?_of_mem hw;exact key _ h1.1.2 i (List.getElem?_eq_some_iff.1 hi).1 w hi
theorem o8.feeds {g:Gr} {s:Sta} (h:o8 g s):∀f∈g.Feeds,0≤f.At∧f.At<g.Nodes∧1≤f.Volts∧f.Volts≤1000∧1≤f.Siem∧f.Siem≤4∧0≤f.Limit∧f.Limit≤2000:=by
 have h1:=h.gr;simp only[grB,Bool.and_eq_true]at h1;have key:∀k,a8O g k=true→∀i,i<k→∀f,g.Feeds[i]?=some f→inr f.At 0 (g.Nodes-1)=true∧inr f.Volts 1 1000=true∧inr f.Siem 1 4=true∧inr f.Limit 0 2000=true:=by
  intro k
  induction k with
  |zero=>intro _ i hi;omega
  |succ k ih=>
   intro hk i hi w hw;simp only[a8O,Bool.and_eq_true]at hk
   rcases Nat.lt_succ_iff_lt_or_eq.1 hi with h|h
   ·exact ih hk.1 i h w hw
   ·subst h;have:=hk.2;rw[hw]at this;simp only[fdB,Bool.and_eq_true]at this;exact⟨this.1.1.1.1,this.1.1.1.2,this.1.1.2,this.1.2⟩
 intro f hf;obtain⟨i,hi⟩:=List.getElem?_of_mem hf;have:=key _ h1.2 i (List.getElem?_eq_some_iff.1 hi).1 f hi;simp only[v9]at this;omega
theorem a2A {g:Gr} {s:Sta} {p:List Nat} {f:Int} (h:f∈n8 g s (upN p)):0≤f∧f<g.Feeds.length∧(fdI g f).At.toNat∈p∧bAt s.Feeds f.toNat=true:=by
 unfold n8 at h;rw[List.mem_filter,a5D]at h;obtain⟨⟨h0,h1⟩,h2⟩:=h;simp only[a1K,Bool.and_eq_true,decide_eq_true_eq]at h2;exact⟨h0,h1,(W4.1 h2.2).2,h2.1⟩
theorem H6 {g:Gr} {s:Sta} {p:List Nat} {fs:List Int} (hnt:o8 g s) (hfs:fs=n8 g s (upN p)) {b:Nat} (hb:b<fs.length):
  fs[b]?=some (at0 fs b)∧0≤at0 fs b∧at0 fs b<g.Feeds.length∧g.Feeds[(at0 fs b).toNat]?=some (fdI g (at0 fs b))∧0≤(fdI g (at0 fs b)).At∧(fdI g (at0 fs b)).At.toNat∈p∧1≤(fdI g (at0 fs b)).Volts∧(fdI g (at0 fs b)).Volts≤1000∧1≤(fdI g (at0 fs b)).Siem∧(fdI g (at0 fs b)).Siem≤4:=by
 have h1:=B9 hb;have hm:=a2A (by rw[←hfs];exact List.mem_of_getElem? h1);have h2:=M7 hm.1 hm.2.1;have h3:=hnt.feeds _ (List.mem_of_getElem? h2);exact⟨h1,hm.1,hm.2.1,h2,h3.1,hm.2.2.1,h3.2.2.1,h3.2.2.2.1,h3.2.2.2.2.1,h3.2.2.2.2.2.1⟩
theorem U7 {x0:Int} {xs:List Int} {b:Nat} {x:Int} (h:xs[b]?=some x):F2 x0 (xs.take (b+1))=a9D (F2 x0 (xs.take b)) x:=by
 unfold F2;rw[List.take_add_one,h,List.foldl_append];rfl
theorem b9G {x y B:Int} (h1:-B≤x∧x≤B) (h2:-B≤y∧y≤B):-B≤a9D x y∧a9D x y≤B:=by
 unfold a9D;split<;>omega
theorem P8 {B:Int}:∀(xs:List Int) (x0:Int),(-B≤x0∧x0≤B)→(∀x∈xs,-B≤x∧x≤B)→ -B≤F2 x0 xs∧F2 x0 xs≤B
 |[],x0,h,_=>h
 |x::xs,x0,h,hx=>by
  unfold F2;rw[List.foldl_cons];exact P8 xs _ (b9G h (hx x (by simp))) fun y hy=>hx y (by simp[hy])
def shl (nl:List Int) (sh:Int) (i:Nat):List Int:=(nl.take i).map (fun x=>x+sh)++nl.drop i
theorem b4S (nl:List Int) (sh:Int) (i:Nat):(shl nl sh i).length=nl.length:=by
 unfold shl;simp only[List.length_append,List.length_map,List.length_take,List.length_drop];omega
theorem b3n {nl:List Int} {sh:Int} {i:Nat} {x:Int} (h:nl[i]?=some x):(shl nl sh i)[i]?=some x:=by
 have hi:=(List.getElem?_eq_some_iff.1 h).1;unfold shl;rw[List.getElem?_append_right (by simp;omega)];simp only[List.length_map,List.length_take,Nat.min_eq_left (Nat.le_of_lt hi),Nat.sub_self,List.getElem?_drop,Nat.add_zero];exact h
theorem b2y {nl:List Int} {sh:Int} {i:Nat} {x:Int} (h:nl[i]?=some x):(shl nl sh i).set i (x+sh)=shl nl sh (i+1):=by
 obtain⟨hi,hx⟩:=List.getElem?_eq_some_iff.1 h;have hl:((nl.take i).map fun x=>x+sh).length=i:=by simp;omega
 have hd:nl.drop i=x::nl.drop (i+1):=by rw[List.drop_eq_getElem_cons hi,hx]
 unfold shl;rw[List.set_append,if_neg (by omega),hl,Nat.sub_self,hd,List.set_cons_zero,List.take_add_one,h];simp
theorem a9n (nl:List Int) (sh:Int):shl nl sh 0=nl:=by simp[shl]
theorem b4f {nl:List Int} {sh:Int} {n:Nat} (h:nl.length=n):shl nl sh n=nl.map fun x=>x+sh:=by
 unfold shl;rw[List.take_of_length_le (by omega),List.drop_of_length_le (by omega),List.append_nil]
def Sml (P:o6) (S:Nat→Bool):Prop:=(∀k,-1000000000000000≤P.num S k∧P.num S k≤1000000000000000)∧0<P.den S∧P.den S≤100000000000000
def c1J (P:o6) (i0:Nat):Prop:=(∀k,-1000000000000000≤P.num0 i0 k∧P.num0 i0 k≤1000000000000000)∧0<P.den0 i0∧P.den0 i0≤100000000000000
theorem a7G (H:Nat→Option m5) {r:Nat} (hr:2≤r):Hxn H [some 0,some 1] r=H r:=by
 unfold Hxn;have:l4 [some 0,some 1] r=none:=by
  unfold l4;rw[List.findIdx?_eq_none_iff];intro x hx;simp only[List.mem_cons,List.not_mem_nil,or_false]at hx
  rcases hx with rfl|rfl<;>simp<;>omega
 rw[this]
theorem b4n {H:Nat→Option m5} {r n:Nat} {l:List Int} (hr:H r=some (.els 1 (l.map i9))) (hl:l.length=n) (h1:1≤n):frz H 3 (.row r 0 n)=iL l:=by
 have hp:y7 (l.map i9)=true:=by simp
 simp only[frz,hr];rw[if_pos (by simp;omega),if_pos hp,List.drop_zero,List.take_of_length_le (by simp;omega)]
theorem b8d (x y z:Option m5) (M:Hp) (l bl:List Int) {n:Nat} (h:l.set 0 0=bl) (hl:bl.length=n) (h1:1≤n):frz (Hxn (m7 (x::y::z::some (.els 1 ((l.map i9).set 0 [I 0]))::M)) [some 0,some 1]) 3 (.row 3 0 n)=iL bl:=by
 refine b4n (l:=bl) ?_ hl h1;rw[a7G _ (by omega)];show some (m5.els 1 ((l.map i9).set 0 [I 0]))=_;rw[←h,List.map_set];rfl
theorem b9B (W:List Wn) (u:Nat→Int) (p:List Nat) (fs:List Nat) (q:Nat→Nat) (s V:Nat→Int) (x y R:Option m5) (i0:Nat) (hi0:p.getD 0 0=i0) (h1:1≤p.length) (hnd:p.Nodup):
  frz (Hxn (m7 (x::y::some (.els 1 ((D0 4 p.length p.length).set 0 [.row (p.length+4) 0 p.length]))::R::(n6 (Lf W p) p.length p.length++[some (.els 1 ((List.replicate p.length [I 0]).set 0 [I 1]))]))) [some 0,some 1]) 3 (.row 2 0 p.length)
   =mL (eqM ((⟨p,lw W,u,fs,q,s,V⟩:o6).A0 i0) p):=by
 refine a9p (es:=(D0 4 p.length p.length).set 0 [.row (p.length+4) 0 p.length]) h1 ?_ (by simp) (I6 _ _).len fun i hi=>?_
 ·rw[a7G _ (by omega)];rfl
 ·by_cases h0:i=0
  ·subst h0;refine⟨p.length+4,_,by rw[List.getElem?_set_self (by simpa using hi)],a1J hi,?_,by simp⟩;rw[a7G _ (by omega)];show m7 (n6 (Lf W p) p.length p.length++_) p.length=_;rw[U6];show some (m5.els 1 _)=some (m5.els 1 _)
   congr 2
   refine List.ext_getElem? fun j=>?_
   by_cases hj:j<p.length
   ·rw[List.getElem?_map,List.getElem?_map,List.getElem?_range hj]
    by_cases hj0:j=0
    ·subst hj0;rw[List.getElem?_set_self (by simpa using hj)];have hA:(⟨p,lw W,u,fs,q,s,V⟩:o6).A0 i0 (p.getD 0 0) (p.getD 0 0)=1:=by
      unfold o6.A0;rw[if_pos hi0,if_pos hi0]
     simp only[Option.map_some,hA]
    ·have hne:p.getD j 0≠p.getD 0 0:=fun e=>hj0 (F5 hnd hj hi e);have hA:(⟨p,lw W,u,fs,q,s,V⟩:o6).A0 i0 (p.getD 0 0) (p.getD j 0)=0:=by
      unfold o6.A0;rw[if_pos hi0,if_neg (by rw[←hi0];exact hne)]
     rw[List.getElem?_set_ne (fun e=>hj0 e.symm),List.getElem?_replicate,if_pos hj];simp only[Option.map_some,hA]
   ·rw[List.getElem?_eq_none (by simp;omega),List.getElem?_eq_none (by simp;omega)]
  ·refine⟨i+4,_,by rw[List.getElem?_set_ne (fun e=>h0 e.symm),x3 hi],a1J hi,?_,by simp⟩;rw[a7G _ (by omega)];show m7 (n6 (Lf W p) p.length p.length++_) i=_;rw[l9 hi];unfold X8;rw[List.map_map]
   congr 2
   refine List.map_congr_left fun j _=>?_;have hne:p.getD i 0≠i0:=fun e=>h0 (F5 hnd hi (by omega) (e.trans hi0.symm));show [I (lw W (p.getD i 0) (p.getD j 0))]=[I _];have hA:(⟨p,lw W,u,fs,q,s,V⟩:o6).A0 i0 (p.getD i 0) (p.getD j 0)=lw W (p.getD i 0) (p.getD j 0):=by
    unfold o6.A0;rw[if_neg hne]
   simp only[hA]
theorem b8f (us:Kvs) (p:List Nat) (L:Nat→Nat→Int) (fs:List Nat) (q:Nat→Nat) (s V:Nat→Int) (i0:Nat) (hi0:p.getD 0 0=i0) (h1:1≤p.length) (hnd:p.Nodup):
  (rgt us p).set 0 0=p.map ((⟨p,L,fun x=>igt us x,fs,q,s,V⟩:o6).b0 i0):=by
 refine List.ext_getElem? fun i=>?_
 by_cases hi:i<p.length
 ·rw[List.getElem?_map,F4 hi]
  by_cases h0:i=0
  ·subst h0;rw[List.getElem?_set_self (by simpa [rgt]using hi)];simp only[Option.map_some];unfold o6.b0;rw[if_pos hi0]
  ·have hne:p.getD i 0≠i0:=fun e=>h0 (F5 hnd hi (by omega) (e.trans hi0.symm));rw[List.getElem?_set_ne (fun e=>h0 e.symm)];unfold rgt;rw[List.getElem?_map,F4 hi];simp only[Option.map_some];unfold o6.b0;rw[if_neg hne]
 ·rw[List.getElem?_eq_none (by simp[rgt];omega),List.getElem?_eq_none (by simp;omega)]
theorem b2l {P:o6} {S:Nat→Bool} {c:Nat→Int} {C:Int} {i:Nat} (hC:0≤C) (h:∀b∈P.fs,0≤c b∧c b≤C):0≤P.at_ S c i∧P.at_ S c i≤C*P.fs.length:=by
 unfold o6.at_;generalize P.fs=l at h ⊢
 induction l with
 |nil=>simp[sm]
 |cons b l ih=>
  have h1:=h b (by simp);have h2:=ih fun b hb=>h b (by simp[hb]);rw[sm,List.length_cons,Int.natCast_add,Int.mul_add]
  split<;>omega
theorem b2j (f:Nat→Nat→Int) (x y R:Option m5) {n:Nat} (h1:1≤n):frz (Hxn (m7 (x::y::some (.els 1 (D0 4 n n))::R::n6 f n n)) [some 0,some 1]) 3 (.row 2 0 n)=mL (b5j f n n):=by
 refine a9p (es:=D0 4 n n) h1 ?_ (by simp) (I6 _ _).len fun i hi=>?_
 ·rw[a7G _ (by omega)];rfl
 ·refine⟨i+4,_,x3 hi,a1J hi,?_,by simp⟩;rw[a7G _ (by omega)];show m7 (n6 f n n) i=_;rw[o4 hi];unfold X8;rw[List.map_map];rfl
theorem c0X (x y z:Option m5) (M:Hp) (bl:List Int) {n:Nat} (hl:bl.length=n) (h1:1≤n):frz (Hxn (m7 (x::y::z::some (.els 1 (bl.map i9))::M)) [some 0,some 1]) 3 (.row 3 0 n)=iL bl:=by
 refine b4n (l:=bl) ?_ hl h1;rw[a7G _ (by omega)];rfl
theorem b9k (g:Gr) (s:Sta) (p:List Nat) (us:Kvs) (fs:List Int) (hfs:fs=n8 g s (upN p)) (hnt:o8 g s) (hpt:b2P g s p) (hI:a1s us) (hus:∀x,-40≤igt us x∧igt us x≤40) (v:List Int) (d:Int) (ok:Bool) (i0:Nat) (hi0:p.getD 0 0=i0)
  (q0:fs=[]→v=a0Y p.length∧d=1∧ok=T6 us p)
  (q1:fs≠[]→B3 us p<0→v=[]∧d=0∧ok=false)
  (q2:fs≠[]→B3 us p=0→c1J (Pt g (onW g.Wires s.Wires) us p fs fs.length) i0∧d=(Pt g (onW g.Wires s.Wires) us p fs fs.length).den0 i0∧ok=true∧
   v=p.map fun k=>(Pt g (onW g.Wires s.Wires) us p fs fs.length).num0 i0 k+F2 ((Pt g (onW g.Wires s.Wires) us p fs fs.length).V 0*(Pt g (onW g.Wires s.Wires) us p fs fs.length).den0 i0-(Pt g (onW g.Wires s.Wires) us p fs fs.length).num0 i0 ((Pt g (onW g.Wires s.Wires) us p fs fs.length).p 0)) ((List.range fs.length).map fun b=>(Pt g (onW g.Wires s.Wires) us p fs fs.length).V b*(Pt g (onW g.Wires s.Wires) us p fs fs.length).den0 i0-(Pt g (onW g.Wires s.Wires) us p fs fs.length).num0 i0 ((Pt g (onW g.Wires s.Wires) us p fs fs.length).p b)))
  (q3:fs≠[]→0<B3 us p→(∀a,1≤a→a<2^fs.length→Sml (Pt g (onW g.Wires s.Wires) us p fs fs.length) (u5 a))∧ok=true∧∃a0,1≤a0∧a0<2^fs.length∧b5g (Pt g (onW g.Wires s.Wires) us p fs fs.length) fs.length a0=true∧(∀a,1≤a→a<a0→b5g (Pt g (onW g.Wires s.Wires) us p fs fs.length) fs.length a=false)∧
   d=(Pt g (onW g.Wires s.Wires) us p fs fs.length).den (u5 a0)∧v=p.map fun k=>(Pt g (onW g.Wires s.Wires) us p fs fs.length).num (u5 a0) k):
  d5 Try.prog 69 [net g s,iL (upN p), .mpc false [.i .i64] us] (.tup [iL v,I d,Bo ok]):=by
 have hpl:=r9 p;have hb:=r7 hnt.gr;have hn10:=hpt.n10;have hfd:=a8t g s (upN p) hnt.sf (by omega) (by omega);rw[←hfs]at hfd;have hfm:∀f∈fs,0≤f∧f<g.Feeds.length∧(fdI g f).At.toNat∈p∧bAt s.Feeds f.toNat=true:=fun f hf=>a2A (by rw[←hfs];exact hf);have hfl:fs.length≤12:=by
  have:=List.length_filter_le (a1K g s (upN p)) (upI g.Feeds.length);rw[J3]at this;rw[hfs];unfold n8;omega
 have heq:=a7U g s p us p.length rfl hpt.n1 hpt.n10 hpt.nd hI hus hnt.sw hb.2.2.1 hnt.wires hpt.cl;refine d5.of_bodyG Try.func69 rfl (by decide) (by simp[Try.ntmps69]) ?_;intro J hJ;simp only[Try.ntmps69,Try.results69];refine gS fun K hK=>?_;simp -dsimp;apply hK;clear hK K;refine gS fun K hK=>?_;simp -dsimp;apply hK;clear hK K;refine b9 fun K1 hK1=>?_;refine gS fun K hK=>?_;simp -dsimp;apply hK;clear hK K;refine d7 ?_;refine b7 [2,3,4,9,10,36,37,38] (Or.inr (by simp)) ?_;simp only[zP,Nat.reduceEqDiff,reduceIte];refine g8 [2,3,4,36,37] (α:=Nat) (fun k=>[(9,I (B3 us (p.take k))),(10,Bo (T6 us (p.take k))),(38,I k)]) (fun k=>[some (.els 1 [[net g s]]),some (.els 1 [[iL (upN p)]])]) (fun k=>k≤p.length) (fun k=>p.length-k) 0 ?_ ?_ ?_
 ·exact Nat.zero_le _
 ·exact m8 (j7 (by simp[B3,T6,sm])) (by simp)
 rintro k k1;simp only[zP,Nat.reduceEqDiff,reduceIte];refine gS fun K hK=>?_;simp -dsimp;apply hK;clear hK K;refine b9 fun K2 hK2=>?_;refine d8 rfl (fun hc0=>?_) (fun hc0=>?_)
 ·skip
  try simp at hc0
  have hkn:k<p.length:=by rw[←hpl];simpa using hc0
  obtain⟨x,hx⟩:∃x,p[k]?=some x:=⟨_,List.getElem?_eq_getElem hkn⟩;have gx:=F1 hx;have wk:=zW k (by omega);have hbd:=a2V hus (p.take k);have htl:(p.take k).length=k:=by rw[List.length_take];omega
  rw[htl]at hbd;have ws:IntKind.i64.wrap (B3 us (p.take k)+igt us x)=B3 us (p.take k)+igt us x:=i7 (by have:=hus x;omega) (by have:=hus x;omega);refine e9 ?_;simp only[zT,reduceIte,Nat.reduceEqDiff];refine hK2 _ _ ?_;refine b7 [2,3,4,9,10,36,37,38] (Or.inr (by simp)) ?_;simp only[zP,Nat.reduceEqDiff,reduceIte];refine b9 fun K3 hK3=>?_;refine d7 ?_;refine gS fun K hK=>?_;simp -dsimp [gx];apply hK;clear hK K;refine gS fun K hK=>?_;simp -dsimp [s9 hI,ws];refine p6 (_) (fun hm=>rfl) ?_;simp -dsimp [s9 hI,ws];apply hK;clear hK K;refine gR fun K hK=>?_;simp -dsimp [s9 hI];refine p6 (_) (fun hm=>rfl) ?_;simp -dsimp [s9 hI];apply hK;clear hK K;simp only[zT,reduceIte,Nat.reduceEqDiff];refine hK3 _ _ ?_;refine b7 [2,3,4,9,10,36,37,38] (Or.inr (by simp)) ?_;simp only[zP,Nat.reduceEqDiff,reduceIte];refine gR fun K hK=>?_;simp -dsimp [wk];apply hK;clear hK K;simp only[zT,reduceIte,Nat.reduceEqDiff];exact⟨k+1,by omega,by omega,m8 (e8 [some 0,some 1] rfl (by simp[X2 hx,a4d hx]) (by simp)) (by simp)⟩
 ·skip
  try simp at hc0
  have hkp:¬k<p.length:=by rw[←hpl];simpa using hc0
  have htp:p.take k=p:=List.take_of_length_le (by omega);rw[htp];refine i6 ?_;simp only[zT,reduceIte,Nat.reduceEqDiff];refine hK1 _ _ ?_;refine b7 [2,3,4,9,10] (Or.inr (by simp)) ?_;simp only[zP,Nat.reduceEqDiff,reduceIte];refine gS fun K hK=>?_;simp -dsimp;refine b0T _ (fun hm=>hfd) ?_;simp -dsimp;apply hK;clear hK K;refine gS fun K hK=>?_;simp -dsimp;apply hK;clear hK K;refine b9 fun K4 hK4=>?_;refine d7 ?_;refine gS fun K hK=>?_;simp -dsimp;apply hK;clear hK K;refine d8 rfl (fun hc1=>?_) (fun hc1=>?_)
  ·skip
   try simp at hc1
   have hf0:fs=[]:=hc1;have f9:C7 (upN p).length 9:=k9 (by omega) (by omega);obtain⟨e1,e2,e3⟩:=q0 hf0;refine gS fun K hK=>?_;simp -dsimp [f9];apply hK;clear hK K;exact k7 (by simp[e1,e2,e3,a0Y,hpl,y8,n5])
  ·skip
   try simp at hc1
   have hf0:fs≠[]:=by rintro rfl;simp at hc1
   have hml:1≤fs.length:=by cases fs with|nil=>exact absurd rfl hf0|cons a l=>simp
   refine gS fun K hK=>?_;simp -dsimp;apply hK;clear hK K;refine d8 rfl (fun hc2=>?_) (fun hc2=>?_)
   ·skip
    try simp at hc2
    obtain⟨e1,e2,e3⟩:=q1 hf0 hc2;refine gS fun K hK=>?_;simp -dsimp;apply hK;clear hK K;refine o9 (m8 (z8 6 1 (by simp)) (by simp)) ?_;exact k7 (by simp[e1,e2,e3,y8,n5])
   ·skip
    try simp at hc2
    refine gS fun K hK=>?_;simp -dsimp;apply hK;clear hK K;refine d8 rfl (fun hc3=>?_) (fun hc3=>?_)
    ·skip
     try simp at hc3
     obtain⟨⟨z1,z2,z3⟩,e2,e3,e1⟩:=q2 hf0 (by simpa using hc3);have hp0:0<p.length:=by have:=hpt.n1;omega
     have f9:C7 p.length 9:=k9 (by omega) (by omega);have gr0:(rgt us p)[0]?=some (-igt us (p.getD 0 0)):=by unfold rgt;rw[List.getElem?_map,F4 hp0];rfl
     have hsol:=a9N (eqM ((Pt g (onW g.Wires s.Wires) us p fs fs.length).A0 i0) p) (p.map ((Pt g (onW g.Wires s.Wires) us p fs fs.length).b0 i0)) p.length (I6 _ _) hpt.n1 hpt.n10 (by simp);have hv0:(p.map fun k=>wr (num ((Pt g (onW g.Wires s.Wires) us p fs fs.length).A0 i0) ((Pt g (onW g.Wires s.Wires) us p fs fs.length).b0 i0) p k))=p.map fun k=>(Pt g (onW g.Wires s.Wires) us p fs fs.length).num0 i0 k:=List.map_congr_left fun k _=>a6p (by have:=z1 k;unfold o6.num0 at this;show _≤Cur.num _ _ (Pt g (onW g.Wires s.Wires) us p fs fs.length).ns k;omega) (by have:=z1 k;unfold o6.num0 at this;show Cur.num _ _ (Pt g (onW g.Wires s.Wires) us p fs fs.length).ns k≤_;omega);have hd0:wr (D ((Pt g (onW g.Wires s.Wires) us p fs fs.length).A0 i0) p)=(Pt g (onW g.Wires s.Wires) us p fs fs.length).den0 i0:=a6p (by unfold o6.den0 at z2;show _≤D _ (Pt g (onW g.Wires s.Wires) us p fs fs.length).ns;omega) (by unfold o6.den0 at z3;show D _ (Pt g (onW g.Wires s.Wires) us p fs fs.length).ns≤_;omega);rw[a5F _ _ _ hpt.nd,a5i,hv0,hd0]at hsol;have hbl:=b8f us p (lw (onW g.Wires s.Wires)) (List.range fs.length) (fun b=>(V6 g fs b).At.toNat) (fun b=>(V6 g fs b).Siem) (fun b=>(V6 g fs b).Volts) i0 hi0 hpt.n1 hpt.nd;obtain⟨bl,hbl2⟩:∃bl,bl=p.map ((Pt g (onW g.Wires s.Wires) us p fs fs.length).b0 i0):=⟨_,rfl⟩;obtain⟨M,hM⟩:∃M,M=eqM ((Pt g (onW g.Wires s.Wires) us p fs fs.length).A0 i0) p:=⟨_,rfl⟩;have hbl3:(rgt us p).set 0 0=bl:=by rw[hbl2];exact hbl
     rw[←hbl2,←hM]at hsol;have hzl:∀k x,p[k]?=some x→(p.map fun k=>(Pt g (onW g.Wires s.Wires) us p fs fs.length).num0 i0 k)[k]?=some ((Pt g (onW g.Wires s.Wires) us p fs fs.length).num0 i0 x):=fun k x h=>by rw[List.getElem?_map,h];rfl
     obtain⟨nu,hnu⟩:∃nu,nu=fun k=>(Pt g (onW g.Wires s.Wires) us p fs fs.length).num0 i0 k:=⟨_,rfl⟩;rw[←hnu]at hsol hzl;obtain⟨nl,hnl⟩:∃nl,nl=p.map nu:=⟨_,rfl⟩;rw[←hnl]at hsol hzl;have hfa:=fun b (hb:b<fs.length)=>H6 hnt hfs hb;obtain⟨d0,hd00⟩:∃d0,d0=(Pt g (onW g.Wires s.Wires) us p fs fs.length).den0 i0:=⟨_,rfl⟩;rw[←hd00]at hsol z2 z3 e2 e1;have hnk:∀k,(Pt g (onW g.Wires s.Wires) us p fs fs.length).num0 i0 k=nu k:=fun k=>by rw[hnu]
     simp only[hnk]at e1 z1 hzl;have hnb:∀k,-1000000000000000≤nu k∧nu k≤1000000000000000:=z1;have hPV:∀(b:Nat),(Pt g (onW g.Wires s.Wires) us p fs fs.length).V b=(fdI g (at0 fs b)).Volts:=fun b=>rfl;have hPp:∀(b:Nat),(Pt g (onW g.Wires s.Wires) us p fs fs.length).p b=(fdI g (at0 fs b)).At.toNat:=fun b=>rfl;simp only[hPV,hPp]at e1;have hvd:∀(b:Nat),b<fs.length→ -100000000000000000≤(fdI g (at0 fs b)).Volts*d0∧(fdI g (at0 fs b)).Volts*d0≤100000000000000000:=fun b hb=>by
      have h:=hfa b hb;have h1:=Int.mul_nonneg (show 0≤(fdI g (at0 fs b)).Volts by omega) (show 0≤d0 by omega);have h2:=Int.mul_le_mul h.2.2.2.2.2.2.2.1 z3 (by omega) (by omega);omega
     have hw1:∀(b:Nat),b<fs.length→IntKind.i64.wrap ((fdI g (at0 fs b)).Volts*d0)=(fdI g (at0 fs b)).Volts*d0:=fun b hb=>i7 (by have:=hvd b hb;omega) (by have:=hvd b hb;omega);have hw2:∀(b:Nat),b<fs.length→IntKind.i64.wrap ((fdI g (at0 fs b)).Volts*d0-nu (fdI g (at0 fs b)).At.toNat)=(fdI g (at0 fs b)).Volts*d0-nu (fdI g (at0 fs b)).At.toNat:=fun b hb=>i7 (by have:=hvd b hb;have:=hnb (fdI g (at0 fs b)).At.toNat;omega) (by have:=hvd b hb;have:=hnb (fdI g (at0 fs b)).At.toNat;omega);have hwh:=fun b (hb:b<fs.length)=>b1E g s p (at0 fs b) (by omega) (hfa b hb).2.1 (hfa b hb).2.2.1 (hfa b hb).2.2.2.2.1 (hfa b hb).2.2.2.2.2.1;have hzp:=fun b (hb:b<fs.length)=>hzl _ _ (x8 (hfa b hb).2.2.2.2.2.1);have hpi:=fun b (hb:b<fs.length)=>List.idxOf_lt_length_of_mem (hfa b hb).2.2.2.2.2.1;have hnll:nl.length=p.length:=by rw[hnl];simp
     clear hnk hnu hd00;have a0:=hfa 0 hml;have a1:=hw1 0 hml;have a2:=hw2 0 hml;have a3:=hpi 0 hml;have a4:=hzp 0 hml;have a5:=hwh 0 hml;simp only[Int.natCast_zero]at a0 a1 a2 a3 a4 a5;obtain⟨xs,hxs⟩:∃xs:List Int,xs=(List.range fs.length).map fun(b:Nat)=>(fdI g (at0 fs b)).Volts*d0-nu (fdI g (at0 fs b)).At.toNat:=⟨_,rfl⟩;obtain⟨x0,hx0⟩:∃x0,x0=(fdI g (at0 fs 0)).Volts*d0-nu (fdI g (at0 fs 0)).At.toNat:=⟨_,rfl⟩;rw[←hxs]at e1;have hx0':(fdI g (at0 fs ((0:Nat):Int))).Volts*d0-nu (fdI g (at0 fs ((0:Nat):Int))).At.toNat=x0:=hx0.symm;have hxg:∀(b:Nat),b<fs.length→xs[b]?=some ((fdI g (at0 fs b)).Volts*d0-nu (fdI g (at0 fs b)).At.toNat):=fun b hb=>by rw[hxs,List.getElem?_map,List.getElem?_range hb];rfl
     have hxb:∀x∈xs,-200000000000000000≤x∧x≤200000000000000000:=fun x hx=>by
      rw[hxs]at hx;obtain⟨b,hb,rfl⟩:=List.mem_map.1 hx;have:=hvd b (List.mem_range.1 hb);have:=hnb (fdI g (at0 fs b)).At.toNat;omega
     have hx0b:-200000000000000000≤x0∧x0≤200000000000000000:=by rw[hx0];have:=hvd 0 hml;have:=hnb (fdI g (at0 fs 0)).At.toNat;simp only[Int.natCast_zero]at*;omega
     have hxl:xs.length=fs.length:=by rw[hxs];simp
     refine gS fun K hK=>?_;simp -dsimp;refine a6V heq (by simp) (fun g=>by simp) ?_;simp -dsimp;apply hK;clear hK K;refine gS fun K hK=>?_;simp -dsimp [f9,hp0,x3 hp0,gr0,hpl,Nat.add_assoc];apply hK;clear hK K;refine gS fun K hK=>?_;simp -dsimp [hp0,x3 hp0,gr0,hpl,Nat.add_assoc];apply hK;clear hK K;refine o9 (m8 (B5 (T':=[(3, .ptr 0 0 0),(4, .ptr 1 0 0),(13,iL fs),(14, .clo 86 [.ptr 1 0 0, .ptr 0 0 0]),(15,mL M),(16,iL bl)]) (H':=[some (.els 1 [[net g s]]),some (.els 1 [[iL (upN p)]])]) [some 0,some 1] rfl ⟨.inr (by simp), .inr (by simp), .inr (by simp), .inr (by simp), .inr ?_, .inr ?_,trivial⟩ (by simp)) (by simp)) ?_
     ·rw[hM];exact b9B _ _ p _ _ _ _ _ _ _ i0 hi0 hpt.n1 hpt.nd
     ·exact b8d _ _ _ _ (rgt us p) bl hbl3 (by rw[←hbl3];simp[rgt]) hpt.n1
     ·refine gS fun K hK=>?_;simp -dsimp;refine k8 [] [] [none,none,some 0] (hsol) (by decide) rfl (by simp) (by simp) rfl (by simp) ?_;simp -dsimp;apply hK;clear hK K;refine s4 l6 rfl (by decide) rfl rfl fun K hK=>?_;simp -dsimp [a0.1,a0.2.1,a0.2.2.2.1,a1,a2,a3,a4];refine d6 _ (a5) (by simp) ?_;simp -dsimp [a0.1,a0.2.1,a0.2.2.2.1,a1,a2,a3,a4];refine hK _ _ _ (by decide+kernel) ?_;clear hK K;refine b9 fun K5 hK5=>?_;refine gS fun K hK=>?_;simp -dsimp;apply hK;clear hK K;refine d7 ?_;refine b7 [3,14,17,18,19,119,120,121] (Or.inr (by simp)) ?_;simp only[zP,Nat.reduceEqDiff,reduceIte];refine g8 [3,14,17,18,119,120] (α:=Nat) (fun b=>[(19,I (F2 x0 (xs.take b))),(121,I b)]) (fun b=>[some (.els 1 [[net g s]]),some (.els 1 [[iL (upN p)]]),some (.els 1 (nl.map i9))]) (fun b=>b≤fs.length) (fun b=>fs.length-b) 0 ?_ ?_ ?_
      ·exact Nat.zero_le _
      ·refine m8 (e8 [some 0,some 1,some 2] rfl ?_ (by simp)) (by simp);simp[F2,hx0]
      rintro b b1;simp only[zP,Nat.reduceEqDiff,reduceIte];refine gS fun K hK=>?_;simp -dsimp;apply hK;clear hK K;refine b9 fun K6 hK6=>?_;refine d8 rfl (fun hc4=>?_) (fun hc4=>?_)
      ·have hbl:b<fs.length:=by simpa using hc4
       have wb:=zW b (by omega);refine e9 ?_;simp only[zT,reduceIte,Nat.reduceEqDiff];refine hK6 _ _ ?_;refine b7 [3,14,17,18,19,119,120,121] (Or.inr (by simp)) ?_;simp only[zP,Nat.reduceEqDiff,reduceIte];refine b9 fun K7 hK7=>?_;refine d7 ?_;refine gS fun K hK=>?_;simp -dsimp [(hfa b hbl).1];apply hK;clear hK K;refine p9 l6 rfl (by decide) rfl rfl fun K hK=>?_;simp -dsimp [(hfa b hbl).1,(hfa b hbl).2.1,(hfa b hbl).2.2.2.1,hw1 b hbl,hw2 b hbl,hpi b hbl,hzp b hbl];refine d6 _ (hwh b hbl) (by simp) ?_;simp -dsimp [(hfa b hbl).1,(hfa b hbl).2.1,(hfa b hbl).2.2.2.1,hw1 b hbl,hw2 b hbl,hpi b hbl,hzp b hbl];refine hK _ _ _ (by decide+kernel) ?_;clear hK K;simp only[zT,reduceIte,Nat.reduceEqDiff];refine hK7 _ _ ?_;refine b7 [3,14,17,18,19,119,120,121] (Or.inr (by simp)) ?_;simp only[zP,Nat.reduceEqDiff,reduceIte];refine gR fun K hK=>?_;simp -dsimp [wb];apply hK;clear hK K;simp only[zT,reduceIte,Nat.reduceEqDiff];exact⟨b+1,by omega,by omega,m8 (e8 [some 0,some 1,some 2] rfl (by simp[U7 (hxg b hbl),a9D]) (by simp)) (by simp)⟩
      ·have hbl:¬b<fs.length:=by simpa using hc4
       have htx:xs.take b=xs:=List.take_of_length_le (by omega);rw[htx];have hsb:=P8 xs x0 hx0b hxb;generalize hsh:F2 x0 xs=sh at hsb ⊢;refine i6 ?_;simp only[zT,reduceIte,Nat.reduceEqDiff];refine hK5 _ _ ?_;refine b7 [17,18,19] (Or.inr (by simp)) ?_;simp only[zP,Nat.reduceEqDiff,reduceIte];refine b9 fun K8 hK8=>?_;refine gS fun K hK=>?_;simp -dsimp;apply hK;clear hK K;refine d7 ?_;refine b7 [17,18,19,147,148] (Or.inr (by simp)) ?_;simp only[zP,Nat.reduceEqDiff,reduceIte];refine g8 [17,18,19,147] (α:=Nat) (fun i=>[(148,I i)]) (fun i=>[some (.els 1 [[net g s]]),some (.els 1 [[iL (upN p)]]),some (.els 1 ((shl nl sh i).map i9))]) (fun i=>i≤p.length) (fun i=>p.length-i) 0 ?_ ?_ ?_
       ·exact Nat.zero_le _
       ·refine m8 (e8 [some 0,some 1,some 2] rfl (by simp) (by simp[a9n])) (by simp)
       rintro i i1;simp only[zP,Nat.reduceEqDiff,reduceIte];refine gS fun K hK=>?_;simp -dsimp;apply hK;clear hK K;refine b9 fun K9 hK9=>?_;refine d8 rfl (fun hc5=>?_) (fun hc5=>?_)
       ·have hin:i<p.length:=by simpa using hc5
        have wi:=zW i (by omega);obtain⟨x,hx⟩:∃x,nl[i]?=some x:=⟨_,List.getElem?_eq_getElem (by omega)⟩;have hxn:-1000000000000000≤x∧x≤1000000000000000:=by
         rw[hnl,List.getElem?_map]at hx;obtain⟨y,_,rfl⟩:=Option.map_eq_some_iff.1 hx;exact hnb y
        have gsh:=b3n (sh:=sh) hx;have wx:IntKind.i64.wrap (x+sh)=x+sh:=i7 (by omega) (by omega);have hst:=b2y (sh:=sh) hx;refine e9 ?_;simp only[zT,reduceIte,Nat.reduceEqDiff];refine hK9 _ _ ?_;refine b7 [17,18,19,147,148] (Or.inr (by simp)) ?_;simp only[zP,Nat.reduceEqDiff,reduceIte];refine b9 fun K10 hK10=>?_;refine d7 ?_;refine gS fun K hK=>?_;simp -dsimp;apply hK;clear hK K;refine gR fun K hK=>?_;simp -dsimp [hin,gsh,wx];apply hK;clear hK K;simp only[zT,reduceIte,Nat.reduceEqDiff];refine hK10 _ _ ?_;refine b7 [17,18,19,147,148] (Or.inr (by simp)) ?_;simp only[zP,Nat.reduceEqDiff,reduceIte];refine gR fun K hK=>?_;simp -dsimp [wi];apply hK;clear hK K;simp only[zT,reduceIte,Nat.reduceEqDiff];exact⟨i+1,by omega,by omega,m8 (e8 [some 0,some 1,some 2] rfl (by simp) (by simp[←hst,List.map_set])) (by simp)⟩
       ·have hin0:¬i<p.length:=by simpa using hc5
        have hin:i=p.length:=by omega
        refine i6 ?_;simp only[zT,reduceIte,Nat.reduceEqDiff];refine hK8 _ _ ?_;refine b7 [17,18] (Or.inr (by simp)) ?_;simp only[zP,Nat.reduceEqDiff,reduceIte];refine gS fun K hK=>?_;simp -dsimp;apply hK;clear hK K;have hsl:shl nl sh p.length=v:=by
         rw[b4f hnll,e1,hnl,List.map_map,hx0',hsh];rfl
        have hvl:v.length=p.length:=by rw[←hsl,b4S,hnll]
        rw[hin,hsl];exact k7 (by simp[e2,e3,y8,n5,←hvl])
    ·skip
     try simp at hc3
     have hsp:0<B3 us p:=by omega
     obtain⟨hsm,e3,a0,ha1,ha2,haf,hal,e2,e1⟩:=q3 hf0 hsp;have hfa:=fun b (hb:b<fs.length)=>H6 hnt hfs hb;have hwh:=fun b (hb:b<fs.length)=>b1E g s p (at0 fs b) (by omega) (hfa b hb).2.1 (hfa b hb).2.2.1 (hfa b hb).2.2.2.2.1 (hfa b hb).2.2.2.2.2.1;have hpi:=fun b (hb:b<fs.length)=>List.idxOf_lt_length_of_mem (hfa b hb).2.2.2.2.2.1;have hm64:fs.length≤IntKind.i64.bits:=Nat.le_trans (show fs.length≤12 by omega) (by decide);have hsh:IntKind.i64.wrap (2^fs.length)=2^fs.length:=by have:=c0A fs.length (by omega);rw[Int.toNat_natCast,Int.one_mul,Int.natCast_pow]at this;exact this
     have hpow:2^fs.length≤2^12:=Nat.pow_le_pow_right (by omega) hfl;refine e9 ?_;simp only[zT,reduceIte,Nat.reduceEqDiff];refine hK4 _ _ ?_;refine b7 [2,3,4,13,14] (Or.inr (by simp)) ?_;simp only[zP,Nat.reduceEqDiff,reduceIte];refine b9 fun K11 hK11=>?_;refine gS fun K hK=>?_;simp -dsimp [hm64,hsh];apply hK;clear hK K;refine d7 ?_;refine b7 [2,3,4,13,14,163,164] (Or.inr (by simp)) ?_;simp only[zP,Nat.reduceEqDiff,reduceIte];refine g8 [2,3,4,13,14,163] (α:=Nat) (fun a=>[(164,I a)]) (fun a=>[some (.els 1 [[net g s]]),some (.els 1 [[iL (upN p)]])]) (fun a=>a≤a0) (fun a=>2^fs.length-a) 0 ?_ ?_ ?_
     ·exact Nat.zero_le _
     ·exact m8 (j7 (by simp)) (by simp)
     rintro a a1;simp only[zP,Nat.reduceEqDiff,reduceIte];refine gS fun K hK=>?_;simp -dsimp;apply hK;clear hK K;refine b9 fun K12 hK12=>?_;refine d8 rfl (fun hc6=>?_) (fun hc6=>?_)
     ·have hal2:a<2^fs.length:=by omega
      have wa:=zW a (by omega);refine e9 ?_;simp only[zT,reduceIte,Nat.reduceEqDiff];refine hK12 _ _ ?_;refine b7 [2,3,4,13,14,163,164] (Or.inr (by simp)) ?_;simp only[zP,Nat.reduceEqDiff,reduceIte];refine b9 fun K13 hK13=>?_;refine d7 ?_;refine gS fun K hK=>?_;simp -dsimp;apply hK;clear hK K;refine b9 fun K14 hK14=>?_;refine gS fun K hK=>?_;simp -dsimp;apply hK;clear hK K;refine d8 rfl (fun hc7=>?_) (fun hc7=>?_)
      ·skip
       try simp at hc7
       refine i6 ?_;simp only[zT,reduceIte,Nat.reduceEqDiff];refine hK13 _ _ ?_;refine b7 [2,3,4,13,14,163,164] (Or.inr (by simp)) ?_;simp only[zP,Nat.reduceEqDiff,reduceIte];refine gR fun K hK=>?_;simp -dsimp [wa];apply hK;clear hK K;simp only[zT,reduceIte,Nat.reduceEqDiff];exact⟨a+1,by omega,by omega,m8 (e8 [some 0,some 1] rfl (by simp) (by simp)) (by simp)⟩
      ·skip
       try simp at hc7
       refine e9 ?_;simp only[zT,reduceIte,Nat.reduceEqDiff];refine hK14 _ _ ?_;refine b7 [2,3,4,13,14,23,163,164] (Or.inr (by simp)) ?_;simp only[zP,Nat.reduceEqDiff,reduceIte];refine gS fun K hK=>?_;simp -dsimp;refine a6V heq (by simp) (fun g=>by simp) ?_;simp -dsimp;apply hK;clear hK K;refine b9 fun K15 hK15=>?_;refine gS fun K hK=>?_;simp -dsimp;apply hK;clear hK K;refine d7 ?_;refine b7 [2,3,4,13,14,23,24,25,163,164,176,177,178] (Or.inr (by simp)) ?_;simp only[zP,Nat.reduceEqDiff,reduceIte];refine g8 [2,3,4,13,14,23,24,25,163,164,176,177] (α:=Nat) (fun t=>[(178,I t)]) (fun t=>[some (.els 1 [[net g s]]),some (.els 1 [[iL (upN p)]]),some (.els 1 (D0 4 p.length p.length)),some (.els 1 ((RfL g (onW g.Wires s.Wires) us p fs t a).map i9))]++n6 (Af g (onW g.Wires s.Wires) us p fs t a) p.length p.length) (fun t=>t≤fs.length) (fun t=>fs.length-t) 0 ?_ ?_ ?_
       ·exact Nat.zero_le _
       ·rw[b4P,b1x];exact m8 (j7 (by simp)) (by simp)
       rintro t t1;simp only[zP,Nat.reduceEqDiff,reduceIte];refine gS fun K hK=>?_;simp -dsimp;apply hK;clear hK K;refine b9 fun K16 hK16=>?_;refine d8 rfl (fun hc8=>?_) (fun hc8=>?_)
       ·have htl:t<fs.length:=by simpa using hc8
        have wt:=zW t (by omega);have hbit:bits .and .i64 ((a:Int)/2^t) 1=if a.testBit t then 1 else 0:=by have:=V5 a t (by omega);rwa [Int.toNat_natCast]at this
        have ht64:t≤IntKind.i64.bits:=Nat.le_trans (show t≤12 by omega) (by decide);refine e9 ?_;simp only[zT,reduceIte,Nat.reduceEqDiff];refine hK16 _ _ ?_;refine b7 [2,3,4,13,14,23,24,25,163,164,176,177,178] (Or.inr (by simp)) ?_;simp only[zP,Nat.reduceEqDiff,reduceIte];refine b9 fun K17 hK17=>?_;refine d7 ?_;refine gS fun K hK=>?_;simp -dsimp [(hfa t htl).1];apply hK;clear hK K;refine gS fun K hK=>?_;simp -dsimp [hbit,ht64];apply hK;clear hK K;refine d8 rfl (fun hc9=>?_) (fun hc9=>?_)
        ·have hbt:a.testBit t=true:=by cases h:a.testBit t with|true=>rfl|false=>rw[h]at hc9;simp at hc9
         obtain⟨k,hk⟩:∃k,k=p.idxOf (fdI g (at0 fs t)).At.toNat:=⟨_,rfl⟩;have hkl:k<p.length:=by rw[hk];exact hpi t htl
         have hkl1:k≤p.length+1:=by omega
         have hkg:p[k]?=some (fdI g (at0 fs t)).At.toNat:=by rw[hk];exact x8 (hfa t htl).2.2.2.2.2.1
         have hat:p.getD k 0=(V6 g fs t).At.toNat:=by rw[F4 hkl]at hkg;exact Option.some.inj hkg
         have hAe:=c1s g (onW g.Wires s.Wires) us p fs hpt.nd hbt hkl hat;have hRe:=c1z g (onW g.Wires s.Wires) us p fs hpt.nd hbt hkl hat;have hfdo:V6 g fs t=fdI g (at0 fs t):=rfl;rw[hfdo]at hAe hRe;have hab:(Af g (onW g.Wires s.Wires) us p fs t a k k).natAbs≤400:=by
          have hb1:=b2l (P:=Pt g (onW g.Wires s.Wires) us p fs t) (S:=u5 a) (c:=(Pt g (onW g.Wires s.Wires) us p fs t).s) (C:=4) (i:=p.getD k 0) (by omega) (fun b hb=>by
           have:=hfa b (by have:=List.mem_range.1 hb;omega);show 0≤(fdI g (at0 fs b)).Siem∧(fdI g (at0 fs b)).Siem≤4;omega)
          have hb2:(Pt g (onW g.Wires s.Wires) us p fs t).fs.length=t:=List.length_range;rw[hb2]at hb1;have hb3:(lw (onW g.Wires s.Wires) (p.getD k 0) (p.getD k 0)).natAbs≤320:=Nat.le_trans (a7t fun x hx=>by
           obtain⟨w',hw',e⟩:=a0f hx;have:=hnt.wires w' hw';simp only[wrB,Bool.and_eq_true,v9]at this;rw[e];simp only;omega) (by have:=a5e g.Wires s.Wires;omega)
          unfold Af o6.A;rw[if_pos rfl];show(lw _ _ _+_).natAbs≤400;omega
         have hrb:(Rf g (onW g.Wires s.Wires) us p fs t a k).natAbs≤50000:=by
          have hb1:=b2l (P:=Pt g (onW g.Wires s.Wires) us p fs t) (S:=u5 a) (c:=fun b=>(Pt g (onW g.Wires s.Wires) us p fs t).s b*(Pt g (onW g.Wires s.Wires) us p fs t).V b) (C:=4000) (i:=p.getD k 0) (by omega) (fun b hb=>by
           have h:=hfa b (by have:=List.mem_range.1 hb;omega);show 0≤(fdI g (at0 fs b)).Siem*(fdI g (at0 fs b)).Volts∧(fdI g (at0 fs b)).Siem*(fdI g (at0 fs b)).Volts≤4000;exact⟨Int.mul_nonneg (by omega) (by omega),Int.mul_le_mul h.2.2.2.2.2.2.2.2.2 h.2.2.2.2.2.2.2.1 (by omega) (by omega)⟩)
          have hb2:(Pt g (onW g.Wires s.Wires) us p fs t).fs.length=t:=List.length_range;rw[hb2]at hb1;have hb3:=hus (p.getD k 0);unfold Rf o6.b;show(-igt us _+_).natAbs≤50000;omega
         have hsv:0≤(fdI g (at0 fs t)).Siem*(fdI g (at0 fs t)).Volts∧(fdI g (at0 fs t)).Siem*(fdI g (at0 fs t)).Volts≤4000:=by
          have h:=hfa t htl;exact⟨Int.mul_nonneg (by omega) (by omega),Int.mul_le_mul h.2.2.2.2.2.2.2.2.2 h.2.2.2.2.2.2.2.1 (by omega) (by omega)⟩
         have w1:IntKind.i64.wrap (Af g (onW g.Wires s.Wires) us p fs t a k k+(fdI g (at0 fs t)).Siem)=Af g (onW g.Wires s.Wires) us p fs t a k k+(fdI g (at0 fs t)).Siem:=i7 (by have:=hfa t htl;omega) (by have:=hfa t htl;omega);have w2:IntKind.i64.wrap ((fdI g (at0 fs t)).Siem*(fdI g (at0 fs t)).Volts)=(fdI g (at0 fs t)).Siem*(fdI g (at0 fs t)).Volts:=i7 (by omega) (by omega);have w3:IntKind.i64.wrap (Rf g (onW g.Wires s.Wires) us p fs t a k+(fdI g (at0 fs t)).Siem*(fdI g (at0 fs t)).Volts)=Rf g (onW g.Wires s.Wires) us p fs t a k+(fdI g (at0 fs t)).Siem*(fdI g (at0 fs t)).Volts:=i7 (by omega) (by omega);have grk:=b2s g (onW g.Wires s.Wires) us p fs (t:=t) (a:=a) hkl;have hwk:=hwh t htl;rw[←hk]at hwk;generalize Af g (onW g.Wires s.Wires) us p fs t a=f at w1 hAe ⊢;generalize Rf g (onW g.Wires s.Wires) us p fs t a k=rk at w3 grk hRe;generalize RfL g (onW g.Wires s.Wires) us p fs t a=rl at grk hRe ⊢;refine s4 l6 rfl (by decide) rfl rfl fun K hK=>?_;simp -dsimp [(hfa t htl).1,(hfa t htl).2.1,(hfa t htl).2.2.2.1,Nat.add_assoc];refine d6 _ (hwk) (by simp) ?_;simp -dsimp [(hfa t htl).1,(hfa t htl).2.1,(hfa t htl).2.2.2.1,Nat.add_assoc];refine hK _ _ _ (by exact r8 [(0,5),(1,5),(2,5),(3,5),(4,5),(0,8),(1,8),(2,8),(3,8),(4,8),(5,8),(6,8),(7,8),(0,9),(1,9),(2,9),(3,9),(4,9),(5,9),(6,9),(7,9),(8,9),(0,10),(1,10),(2,10),(3,10),(4,10),(5,10),(6,10),(7,10),(0,11),(1,11),(2,11),(3,11),(4,11),(5,11),(6,11),(7,11),(8,11),(9,11),(10,11)] (by decide+kernel) (by decide+kernel) (by simp[J0]<;>omega)) ?_;clear hK K;refine s4 l6 rfl (by decide) rfl rfl fun K hK=>?_;simp -dsimp [hkl1,Nat.add_assoc,x3 hkl,hkl,l9 hkl,X8,C3 hkl,x5 hkl,w1];refine hK _ _ _ (by exact r8 [(0,1),(0,4),(1,4),(2,4),(3,4),(0,7),(1,7),(2,7),(3,7),(4,7),(5,7),(6,7),(0,8),(1,8),(2,8),(3,8),(4,8),(5,8),(6,8)] (by decide+kernel) (by decide+kernel) (by simp[J0]<;>omega)) ?_;clear hK K;refine p9 l6 rfl (by decide) rfl rfl fun K hK=>?_;simp -dsimp [hkl1,Nat.add_assoc,grk,hkl,w2,w3];refine hK _ _ _ (by exact r8 [(0,1),(0,4),(1,4),(2,4),(3,4),(0,5),(1,5),(2,5),(3,5),(0,6),(1,6),(2,6),(3,6),(4,6),(5,6),(0,7),(1,7),(2,7),(3,7),(4,7),(5,7),(0,8),(1,8),(2,8),(3,8)] (by decide+kernel) (by decide+kernel) (by simp[J0]<;>omega)) ?_;clear hK K;simp only[zT,reduceIte,Nat.reduceEqDiff];refine hK17 _ _ ?_;refine b7 [2,3,4,13,14,23,24,25,163,164,176,177,178] (Or.inr (by simp)) ?_;simp only[zP,Nat.reduceEqDiff,reduceIte];refine gR fun K hK=>?_;simp -dsimp [wt];apply hK;clear hK K;simp only[zT,reduceIte,Nat.reduceEqDiff];refine⟨t+1,by omega,by omega,m8 (D7 (F':=[some (.els 1 [[net g s]]),some (.els 1 [[iL (upN p)]]),some (.els 1 (D0 4 p.length p.length)),some (.els 1 ((RfL g (onW g.Wires s.Wires) us p fs (t+1) a).map i9))]) [some 0,some 1,some 2,some 3] (Af g (onW g.Wires s.Wires) us p fs (t+1) a) p.length p.length 4 (by simp[u6]) (fun i hi=>by simp) ?_ (by simp) ?_) (by simp)⟩
         ·intro i hi;show m7 (n6 _ p.length p.length++_) i=_;rw[l9 hi];rw[←o4 (m:=p.length) hi,←o4 (m:=p.length) hi,A7 hAe]
         ·have hro:=y3 (g:=some 0::some 1::some 2::some 3::(List.range p.length).map fun i=>some (i+4)) (c:=4) (c':=4) (m:=p.length) (n:=p.length) (fun i hi=>p8 (gf:=[some 0,some 1,some 2,some 3]) hi (by simp));rw[←hRe,List.map_set];simp[hro]
        ·refine e9 ?_;simp only[zT,reduceIte,Nat.reduceEqDiff];refine hK17 _ _ ?_;refine b7 [2,3,4,13,14,23,24,25,163,164,176,177,178] (Or.inr (by simp)) ?_;simp only[zP,Nat.reduceEqDiff,reduceIte];refine gR fun K hK=>?_;simp -dsimp [wt];apply hK;clear hK K;simp only[zT,reduceIte,Nat.reduceEqDiff];have hbt:a.testBit t=false:=by cases h:a.testBit t with|false=>rfl|true=>rw[h]at hc9;simp at hc9
         refine⟨t+1,by omega,by omega,?_⟩;rw[b7t _ _ _ _ _ hbt,b7G _ _ _ _ _ hbt];exact m8 (j7 (by simp)) (by simp)
       ·have htl:¬t<fs.length:=by simpa using hc8
        have hte:t=fs.length:=by omega
        rw[hte];have hsol:=a9N (eqM ((Pt g (onW g.Wires s.Wires) us p fs fs.length).A (u5 a)) p) (p.map ((Pt g (onW g.Wires s.Wires) us p fs fs.length).b (u5 a))) p.length (I6 _ _) hpt.n1 hpt.n10 (by simp);obtain⟨z1,z2,z3⟩:=hsm a (by omega) hal2;have hv0:(p.map fun k=>wr (Cur.num ((Pt g (onW g.Wires s.Wires) us p fs fs.length).A (u5 a)) ((Pt g (onW g.Wires s.Wires) us p fs fs.length).b (u5 a)) p k))=p.map fun k=>(Pt g (onW g.Wires s.Wires) us p fs fs.length).num (u5 a) k:=List.map_congr_left fun k _=>a6p (by have:=z1 k;unfold o6.num at this;show _≤Cur.num _ _ (Pt g (onW g.Wires s.Wires) us p fs fs.length).ns k;omega) (by have:=z1 k;unfold o6.num at this;show Cur.num _ _ (Pt g (onW g.Wires s.Wires) us p fs fs.length).ns k≤_;omega);have hd0:wr (D ((Pt g (onW g.Wires s.Wires) us p fs fs.length).A (u5 a)) p)=(Pt g (onW g.Wires s.Wires) us p fs fs.length).den (u5 a):=a6p (by unfold o6.den at z2;show _≤D _ (Pt g (onW g.Wires s.Wires) us p fs fs.length).ns;omega) (by unfold o6.den at z3;show D _ (Pt g (onW g.Wires s.Wires) us p fs fs.length).ns≤_;omega);rw[a5F _ _ _ hpt.nd,a5i,hv0,hd0,←b8j]at hsol;have hfit:=b9q (Pt g (onW g.Wires s.Wires) us p fs fs.length) fs.length a;obtain⟨nl,hnl⟩:∃nl,nl=p.map fun k=>(Pt g (onW g.Wires s.Wires) us p fs fs.length).num (u5 a) k:=⟨_,rfl⟩;have hzl:∀k x,p[k]?=some x→nl[k]?=some ((Pt g (onW g.Wires s.Wires) us p fs fs.length).num (u5 a) x):=fun k x h=>by rw[hnl,List.getElem?_map,h];rfl
        have hnle:∀a',a'=a→(p.map fun k=>(Pt g (onW g.Wires s.Wires) us p fs fs.length).num (u5 a') k)=nl∧(Pt g (onW g.Wires s.Wires) us p fs fs.length).den (u5 a')=(Pt g (onW g.Wires s.Wires) us p fs fs.length).den (u5 a):=by rintro a' rfl;exact⟨hnl.symm,rfl⟩
        rw[←hnl]at hsol;obtain⟨M,hM⟩:∃M,M=eqM ((Pt g (onW g.Wires s.Wires) us p fs fs.length).A (u5 a)) p:=⟨_,rfl⟩;rw[←hM]at hsol;obtain⟨de,hde⟩:∃de,de=(Pt g (onW g.Wires s.Wires) us p fs fs.length).den (u5 a):=⟨_,rfl⟩;rw[←hde]at hsol z2 z3 hnle hfit;obtain⟨nu,hnu⟩:∃nu,nu=(Pt g (onW g.Wires s.Wires) us p fs fs.length).num (u5 a):=⟨_,rfl⟩;rw[←hnu]at z1 hzl hfit;have hnll:nl.length=p.length:=by rw[hnl];simp
        have hVe:(Pt g (onW g.Wires s.Wires) us p fs fs.length).V=fun(b:Nat)=>(fdI g (at0 fs b)).Volts:=rfl;have hpe:(Pt g (onW g.Wires s.Wires) us p fs fs.length).p=fun(b:Nat)=>(fdI g (at0 fs b)).At.toNat:=rfl;rw[hVe,hpe]at hfit;clear hnu hde hVe hpe;refine i6 ?_;simp only[zT,reduceIte,Nat.reduceEqDiff];refine hK15 _ _ ?_;refine b7 [2,3,4,13,14,23,24,25,163,164] (Or.inr (by simp)) ?_;simp only[zP,Nat.reduceEqDiff,reduceIte];refine o9 (m8 (B5 (T':=[(2, .mpc false [.i .i64] us),(3, .ptr 0 0 0),(4, .ptr 1 0 0),(13,iL fs),(14, .clo 86 [.ptr 1 0 0, .ptr 0 0 0]),(23,I a),(24,mL M),(25,iL (RfL g (onW g.Wires s.Wires) us p fs fs.length a)),(163,I (2^fs.length)),(164,I a)]) (H':=[some (.els 1 [[net g s]]),some (.els 1 [[iL (upN p)]])]) [some 0,some 1] rfl ⟨.inr (by simp), .inr (by simp), .inr (by simp), .inr (by simp), .inr (by simp), .inr (by simp), .inr ?_, .inr ?_, .inr (by simp), .inr (by simp),trivial⟩ (by simp)) (by simp)) ?_
        ·rw[hM];exact b2j _ _ _ _ hpt.n1
        ·exact c0X _ _ _ _ _ (b3C _ _ _ _ _ _ _) hpt.n1
        ·refine gS fun K hK=>?_;simp -dsimp;refine k8 [] [] [none,none,some 0] (hsol) (by decide) rfl (by simp) (by simp) rfl (by simp) ?_;simp -dsimp;apply hK;clear hK K;refine gS fun K hK=>?_;simp -dsimp;apply hK;clear hK K;refine b9 fun K18 hK18=>?_;refine gS fun K hK=>?_;simp -dsimp;apply hK;clear hK K;refine d7 ?_;refine b7 [2,3,4,13,14,23,30,31,32,163,164,228,229,230] (Or.inr (by simp)) ?_;simp only[zP,Nat.reduceEqDiff,reduceIte];refine g8 [2,3,4,13,14,23,30,31,163,164,228,229] (α:=Nat) (fun b=>[(32,Bo ((List.range b).all (c2P (fun(b:Nat)=>(fdI g (at0 fs b)).Volts) (fun(b:Nat)=>(fdI g (at0 fs b)).At.toNat) nu de a))),(230,I b)]) (fun b=>[some (.els 1 [[net g s]]),some (.els 1 [[iL (upN p)]]),some (.els 1 (nl.map i9))]) (fun b=>b≤fs.length) (fun b=>fs.length-b) 0 ?_ ?_ ?_
         ·exact Nat.zero_le _
         ·exact m8 (e8 [some 0,some 1,some 2] rfl (by simp) (by simp)) (by simp)
         rintro b b1;simp only[zP,Nat.reduceEqDiff,reduceIte];refine gS fun K hK=>?_;simp -dsimp;apply hK;clear hK K;refine b9 fun K19 hK19=>?_;refine d8 rfl (fun hc10=>?_) (fun hc10=>?_)
         ·have hbl:b<fs.length:=by simpa using hc10
          have wb:=zW b (by omega);have hbit:bits .and .i64 ((a:Int)/2^b) 1=if a.testBit b then 1 else 0:=by have:=V5 a b (by omega);rwa [Int.toNat_natCast]at this
          have hb64:b≤IntKind.i64.bits:=Nat.le_trans (show b≤12 by omega) (by decide);have hvd:-100000000000000000≤(fdI g (at0 fs b)).Volts*de∧(fdI g (at0 fs b)).Volts*de≤100000000000000000:=by
           have h:=hfa b hbl;have h1:=Int.mul_nonneg (show 0≤(fdI g (at0 fs b)).Volts by omega) (show 0≤de by omega);have h2:=Int.mul_le_mul h.2.2.2.2.2.2.2.1 z3 (by omega) (by omega);omega
          have w1:IntKind.i64.wrap ((fdI g (at0 fs b)).Volts*de)=(fdI g (at0 fs b)).Volts*de:=i7 (by omega) (by omega);have w2:IntKind.i64.wrap ((fdI g (at0 fs b)).Volts*de-nu (fdI g (at0 fs b)).At.toNat)=(fdI g (at0 fs b)).Volts*de-nu (fdI g (at0 fs b)).At.toNat:=i7 (by have:=z1 (fdI g (at0 fs b)).At.toNat;omega) (by have:=z1 (fdI g (at0 fs b)).At.toNat;omega);have hzp:=hzl _ _ (x8 (hfa b hbl).2.2.2.2.2.1);refine e9 ?_;simp only[zT,reduceIte,Nat.reduceEqDiff];refine hK19 _ _ ?_;refine b7 [2,3,4,13,14,23,30,31,32,163,164,228,229,230] (Or.inr (by simp)) ?_;simp only[zP,Nat.reduceEqDiff,reduceIte];refine b9 fun K20 hK20=>?_;refine d7 ?_;refine gS fun K hK=>?_;simp -dsimp [(hfa b hbl).1];apply hK;clear hK K;refine s4 l6 rfl (by decide) rfl rfl fun K hK=>?_;simp -dsimp [(hfa b hbl).1,(hfa b hbl).2.1,(hfa b hbl).2.2.2.1,w1,w2,hpi b hbl,hzp];refine d6 _ (hwh b hbl) (by simp) ?_;simp -dsimp [(hfa b hbl).1,(hfa b hbl).2.1,(hfa b hbl).2.2.2.1,w1,w2,hpi b hbl,hzp];refine hK _ _ _ (by decide+kernel) ?_;clear hK K;refine gR fun K hK=>?_;simp -dsimp [hbit,hb64];apply hK;clear hK K;simp only[zT,reduceIte,Nat.reduceEqDiff];refine hK20 _ _ ?_;refine b7 [2,3,4,13,14,23,30,31,32,163,164,228,229,230] (Or.inr (by simp)) ?_;simp only[zP,Nat.reduceEqDiff,reduceIte];refine gR fun K hK=>?_;simp -dsimp [wb];apply hK;clear hK K;simp only[zT,reduceIte,Nat.reduceEqDiff];refine⟨b+1,by omega,by omega,m8 (e8 [some 0,some 1,some 2] rfl ?_ (by simp)) (by simp)⟩;rw[a9A];unfold c2P
          cases hbb:a.testBit b<;>simp[hbb]
         ·have hbl:¬b<fs.length:=by simpa using hc10
          have hbe:b=fs.length:=by omega
          rw[hbe,←hfit];refine i6 ?_;simp only[zT,reduceIte,Nat.reduceEqDiff];refine hK18 _ _ ?_;refine b7 [2,3,4,13,14,30,31,32,163,164] (Or.inr (by simp)) ?_;simp only[zP,Nat.reduceEqDiff,reduceIte];refine gS fun K hK=>?_;simp -dsimp;apply hK;clear hK K;refine d8 rfl (fun hc11=>?_) (fun hc11=>?_)
          ·refine gS fun K hK=>?_;simp -dsimp;apply hK;clear hK K;have hae:a0=a:=by
            rcases Nat.lt_or_ge a a0 with h|h
            ·have:=hal a (by omega) h;rw[this]at hc11;cases hc11
            ·omega
           obtain⟨g1,g2⟩:=hnle a0 hae;have htk:List.take p.length (nl.map i9)=nl.map i9:=List.take_of_length_le (by simp;omega);exact k7 (by simp[e1,e2,e3,g1,g2,hnll,htk,y8,n5])
          ·refine e9 ?_;simp only[zT,reduceIte,Nat.reduceEqDiff];refine hK13 _ _ ?_;refine b7 [2,3,4,13,14,163,164] (Or.inr (by simp)) ?_;simp only[zP,Nat.reduceEqDiff,reduceIte];refine gR fun K hK=>?_;simp -dsimp [wa];apply hK;clear hK K;simp only[zT,reduceIte,Nat.reduceEqDiff];have hae:a0≠a:=by
            rintro rfl;rw[haf]at hc11;cases hc11
           exact⟨a+1,by omega,by omega,m8 (e8 [some 0,some 1] rfl (by simp) (by simp)) (by simp)⟩
     ·exfalso;have h:((a:Nat):Int)<2^fs.length:=by have:=Int.ofNat_lt.2 (show a<2^fs.length by omega);rwa [Int.natCast_pow]at this
      exact absurd h (of_decide_eq_false hc6)
end Go.Cur
end
