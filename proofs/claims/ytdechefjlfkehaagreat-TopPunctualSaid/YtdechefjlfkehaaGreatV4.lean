import Derived.Test.YtdechefjlfkehaaGreatV3
import Derived.Laws.Bits64b
import Derived.Laws.FloatArith
import GoSem.Extern.MathSqrt
set_option maxRecDepth 100000
set_option maxHeartbeats 8000000
set_option linter.unusedVariables false
set_option linter.unusedSimpArgs false
section
namespace Go.Tram
open Go.AM
structure Spot where
 X:Int
 Y:Int
 deriving DecidableEq,Inhabited
structure REnd where
 Rail:Int
 Last:Bool
 deriving DecidableEq,Inhabited
structure Node where
 Spot:Spot
 Kind:Int
 Ends:List REnd
 Normal:Int
 deriving Inhabited
structure Rail where
 From:Int
 To:Int
 Shape:List Spot
 Limit:Int
 Slope:Int
 deriving Inhabited
structure Plan where
 Nodes:List Node
 Rails:List Rail
 deriving Inhabited
structure Strip where
 Rail:Int
 Segment:Int
 deriving DecidableEq,Inhabited
structure Profile where
 Half:Int
 Swing:Int
 deriving DecidableEq,Inhabited
structure Cover where
 Rail:Int
 From:Int
 To:Int
 deriving DecidableEq,Inhabited
structure Foul where
 RailA:Int
 ProfileA:Int
 RailB:Int
 ProfileB:Int
 deriving DecidableEq,Inhabited
@[simp] def Spot.cells (s:Spot):List AV:=[I s.X,I s.Y]
@[simp] def REnd.cells (s:REnd):List AV:=[I s.Rail,Bo s.Last]
@[simp] def Node.cells (n:Node):List AV:=[I n.Spot.X,I n.Spot.Y,I n.Kind, .lst 2 (n.Ends.map REnd.cells),I n.Normal]
@[simp] def Rail.cells (r:Rail):List AV:=[I r.From,I r.To, .lst 2 (r.Shape.map Spot.cells),I r.Limit,I r.Slope]
@[simp] def Plan.cells (p:Plan):List AV:=[.lst 5 (p.Nodes.map Node.cells), .lst 5 (p.Rails.map Rail.cells)]
@[simp] def Strip.cells (s:Strip):List AV:=[I s.Rail,I s.Segment]
@[simp] def Profile.cells (s:Profile):List AV:=[I s.Half,I s.Swing]
@[simp] def Cover.cells (s:Cover):List AV:=[I s.Rail,I s.From,I s.To]
@[simp] def Foul.cells (s:Foul):List AV:=[I s.RailA,I s.ProfileA,I s.RailB,I s.ProfileB]
abbrev Spot.av (s:Spot):AV:= .agg s.cells
abbrev Plan.av (s:Plan):AV:= .agg s.cells
abbrev Strip.av (s:Strip):AV:= .agg s.cells
abbrev Profile.av (s:Profile):AV:= .agg s.cells
abbrev Node.av (s:Node):AV:= .agg s.cells
abbrev Rail.av (s:Rail):AV:= .agg s.cells
abbrev REnd.av (s:REnd):AV:= .agg s.cells
abbrev Cover.av (s:Cover):AV:= .agg s.cells
abbrev Foul.av (s:Foul):AV:= .agg s.cells
theorem wrap_in {n:Int} (h1:-9223372036854775808≤n) (h2:n≤9223372036854775807):IntKind.i64.wrap n=n:=IntWalk.i64_in n ⟨h1,h2⟩
theorem mul_bd {a b A B:Int} (ha:-A≤a) (ha':a≤A) (hb:-B≤b) (hb':b≤B):-(A*B)≤a*b∧a*b≤A*B:=by
 have hA:0≤A:=by omega
 have hB:0≤B:=by omega
 have h1:(a*b).natAbs≤(A*B).natAbs:=by
  rw[Int.natAbs_mul,Int.natAbs_mul];exact Nat.mul_le_mul (by omega) (by omega)
 have h2:0≤A*B:=Int.mul_nonneg hA hB;omega
theorem sq_nn (a:Int):0≤a*a:=by
 rcases Int.le_total 0 a with h|h
 ·exact Int.mul_nonneg h h
 ·have:=Int.mul_nonneg (show 0≤-a by omega) (show 0≤-a by omega)
  rwa [Int.neg_mul_neg]at this
def inr (x lo hi:Int):Bool:=decide (lo≤x)&&decide (x≤hi)
theorem inr_iff {x lo hi:Int}:inr x lo hi=true↔lo≤x∧x≤hi:=by simp[inr]
def IsSq (n r:Int):Prop:=0≤r∧r*r≤n∧n<(r+1)*(r+1)
def isqN:Nat→Nat
 |0=>0
 |n+1=>if (isqN n+1)*(isqN n+1)≤n+1 then isqN n+1 else isqN n
@[irreducible] def isq (n:Int):Int:=(isqN n.toNat:Int)
theorem isqN_spec:∀n:Nat,isqN n*isqN n≤n∧n<(isqN n+1)*(isqN n+1)
 |0=>by simp[isqN]
 |n+1=>by
  obtain⟨h1,h2⟩:=isqN_spec n;simp only[isqN]
  split
  ·rename_i h;refine⟨h,?_⟩;have:(isqN n+1)*(isqN n+1)<(isqN n+1+1)*(isqN n+1+1):=Nat.mul_lt_mul'' (by omega) (by omega);omega
  ·exact⟨by omega,by omega⟩
theorem isq_spec {n:Int} (h:0≤n):IsSq n (isq n):=by
 obtain⟨h1,h2⟩:=isqN_spec n.toNat;refine⟨by simp[isq],?_,?_⟩
 ·have:((isqN n.toNat*isqN n.toNat:Nat):Int)≤n:=by omega
  simpa [isq]using this
 ·have:n<(((isqN n.toNat+1)*(isqN n.toNat+1):Nat):Int):=by omega
  simpa [isq]using this
theorem isSq_unique {n r s:Int} (h:IsSq n r) (k:IsSq n s):r=s:=by
 obtain⟨h1,h2,h3⟩:=h;obtain⟨k1,k2,k3⟩:=k
 rcases Int.lt_trichotomy r s with h|h|h
 ·have:(r+1)*(r+1)≤s*s:=Int.mul_le_mul (by omega) (by omega) (by omega) (by omega);omega
 ·exact h
 ·have:(s+1)*(s+1)≤r*r:=Int.mul_le_mul (by omega) (by omega) (by omega) (by omega);omega
theorem isq_of {n r:Int} (h:IsSq n r):isq n=r:=by
 have h0:0≤n:=Int.le_trans (Int.mul_nonneg h.1 h.1) h.2.1;exact isSq_unique (isq_spec h0) h
def spotB (s:Spot):Bool:=inr s.X (-10000000) 10000000&&inr s.Y (-10000000) 10000000
def sqd (a b:Spot):Int:=(a.X-b.X)*(a.X-b.X)+(a.Y-b.Y)*(a.Y-b.Y)
def far (a b:Spot):Int:=isq (sqd a b)
theorem spotB_iff {s:Spot}:spotB s=true↔(-10000000≤s.X∧s.X≤10000000)∧-10000000≤s.Y∧s.Y≤10000000:=by simp[spotB,inr_iff]
theorem sqd_bd {a b:Spot} (ha:spotB a=true) (hb:spotB b=true):0≤sqd a b∧sqd a b≤800000000000000:=by
 rw[spotB_iff]at ha hb;have h1:=mul_bd (a:=a.X-b.X) (b:=a.X-b.X) (A:=20000000) (B:=20000000) (by omega) (by omega) (by omega) (by omega);have h2:=mul_bd (a:=a.Y-b.Y) (b:=a.Y-b.Y) (A:=20000000) (B:=20000000) (by omega) (by omega) (by omega) (by omega);have h3:=sq_nn (a.X-b.X);have h4:=sq_nn (a.Y-b.Y);unfold sqd;omega
theorem far_bd {a b:Spot} (ha:spotB a=true) (hb:spotB b=true):0≤far a b∧far a b<30000000:=by
 obtain⟨h1,h2⟩:=sqd_bd ha hb;obtain⟨k1,k2,k3⟩:=isq_spec h1;refine⟨k1,?_⟩;unfold far
 rcases Int.lt_or_le (isq (sqd a b)) 30000000 with h|h
 ·exact h
 ·have:(30000000:Int)*30000000≤isq (sqd a b)*isq (sqd a b):=Int.mul_le_mul h h (by omega) (by omega);omega
@[irreducible] def Plan.node (p:Plan) (i:Int):Node:=p.Nodes[i.toNat]?.getD default
@[irreducible] def Plan.rail (p:Plan) (i:Int):Rail:=p.Rails[i.toNat]?.getD default
theorem get_of {α:Type} [Inhabited α] {l:List α} {i:Int} (h0:0≤i) (h1:i<l.length):l[i.toNat]?=some (l[i.toNat]?.getD default):=by
 have:i.toNat<l.length:=by omega
 simp[this]
theorem Plan.node_get {p:Plan} {i:Int} (h0:0≤i) (h1:i<p.Nodes.length):p.Nodes[i.toNat]?=some (p.node i):=by unfold Plan.node;exact get_of h0 h1
theorem Plan.rail_get {p:Plan} {i:Int} (h0:0≤i) (h1:i<p.Rails.length):p.Rails[i.toNat]?=some (p.rail i):=by unfold Plan.rail;exact get_of h0 h1
def endsN (k:Int):Int:=if k=1 then 1 else if k=2 then 2 else if k=3 then 4 else if k=4∨k=5∨k=6 then 3 else 0
def lineOf (p:Plan) (r:Rail):List Spot:=(p.node r.From).Spot::(r.Shape++[(p.node r.To).Spot])
def Plan.line (p:Plan) (i:Int):List Spot:=lineOf p (p.rail i)
def Plan.at (p:Plan) (e:REnd):Int:=if e.Last then(p.rail e.Rail).To else(p.rail e.Rail).From
def nth (l:List Spot) (k:Nat):Spot:=l[k]?.getD default
@[irreducible] def segLen (l:List Spot) (k:Nat):Int:=far (nth l k) (nth l (k+1))
def sumTo (l:List Spot):Nat→Int
 |0=>0
 |k+1=>sumTo l k+segLen l k
@[irreducible] def Plan.len (p:Plan) (i:Int):Int:=sumTo (p.line i) ((p.rail i).Shape.length+1)
theorem nth_get {l:List Spot} {k:Nat} (h:k<l.length):l[k]?=some (nth l k):=by simp[nth,h]
theorem line_len (p:Plan) (i:Int):(p.line i).length=(p.rail i).Shape.length+2:=by simp[Plan.line,lineOf]
def nodeB (n:Node):Bool:=(if n.Kind=5∨n.Kind=6 then inr n.Normal 1 2 else decide (n.Normal=0))&&(spotB n.Spot&&(decide (endsN n.Kind≠0)&&decide ((n.Ends.length:Int)=endsN n.Kind)))
def segB (l:List Spot) (k:Nat):Bool:=inr (segLen l k) 1 1000000
def railA (p:Plan) (r:Rail):Bool:=inr r.From 0 (p.Nodes.length-1)&&(inr r.To 0 (p.Nodes.length-1)&&(decide (r.Shape.length≤30)&&(inr r.Limit 1 50000&&inr r.Slope (-120) 120)))
def railB (p:Plan) (r:Rail):Bool:=railA p r&&(r.Shape.all spotB&&(List.range (r.Shape.length+1)).all (segB (lineOf p r)))
def endsOf (p:Plan):Nat→List (Nat×REnd)
 |0=>[]
 |k+1=>endsOf p k++(p.node k).Ends.map fun e=>(k,e)
def endB (p:Plan) (x:Nat×REnd):Bool:=inr x.2.Rail 0 (p.Rails.length-1)&&decide (p.at x.2=(x.1:Int))
def validA (p:Plan):Bool:=inr p.Nodes.length 1 300&&inr p.Rails.length 1 400&&p.Nodes.all nodeB&&p.Rails.all (railB p)
def validE (p:Plan):Bool:=(endsOf p p.Nodes.length).all (endB p)&&(decide ((endsOf p p.Nodes.length).map (·.2)).Nodup&&decide ((endsOf p p.Nodes.length).length=2*p.Rails.length))
def validB (p:Plan):Bool:=validA p&&validE p
theorem take_all' {α:Type} {l:List α} {f:α→Bool} {k:Nat} {x:α} (h:l[k]?=some x):(l.take (k+1)).all f=((l.take k).all f&&f x):=by
 rw[List.take_add_one,List.all_append,h];simp
theorem all_of_take {α:Type} {l:List α} {f:α→Bool} {k:Nat} (hk:l.length≤k) (h:(l.take k).all f=true):l.all f=true:=by rwa [List.take_of_length_le hk]at h
theorem all_ff {α:Type} {l:List α} {f:α→Bool} {k:Nat} {x:α} (h:l[k]?=some x) (hf:f x=false):l.all f=false:=by
 rw[List.all_eq_false];exact⟨x,List.mem_of_getElem? h,by simp[hf]⟩
theorem valid_ff_node {p:Plan} {k:Nat} {n:Node} (h:p.Nodes[k]?=some n) (hf:nodeB n=false):validB p=false:=by simp[validB,validA,all_ff h hf]
theorem valid_ff_rail {p:Plan} {k:Nat} {r:Rail} (h:p.Rails[k]?=some r) (hf:railB p r=false):validB p=false:=by simp[validB,validA,all_ff h hf]
def curE (p:Plan) (i j:Nat):List (Nat×REnd):=endsOf p i++((p.node i).Ends.take j).map fun e=>(i,e)
@[simp] def eCells (l:List (Nat×REnd)):List (List AV):=l.map fun x=>x.2.cells
theorem curE_zero (p:Plan) (i:Nat):curE p i 0=endsOf p i:=by simp[curE]
theorem curE_succ {p:Plan} {i j:Nat} {e:REnd} (he:(p.node i).Ends[j]?=some e):curE p i (j+1)=curE p i j++[(i,e)]:=by
 simp[curE,List.take_add_one,he]
theorem curE_all {p:Plan} {i j:Nat} (h:(p.node i).Ends.length≤j):curE p i j=endsOf p (i+1):=by
 simp[curE,endsOf,List.take_of_length_le h]
theorem endsOf_prefix (p:Plan) (i:Nat):∀d,∃rest,endsOf p (i+d)=endsOf p i++rest
 |0=>⟨[],by simp⟩
 |d+1=>by
  obtain⟨r,hr⟩:=endsOf_prefix p i d;exact⟨r++(p.node ((i+d:Nat):Int)).Ends.map fun e=>(i+d,e),by rw[←Nat.add_assoc];simp only[endsOf];rw[hr,List.append_assoc]⟩
theorem E_prefix {p:Plan} {i j:Nat} (hi:i<p.Nodes.length) {e:REnd} (he:(p.node i).Ends[j]?=some e):∃rest,endsOf p p.Nodes.length=curE p i j++(i,e)::rest:=by
 obtain⟨r,hr⟩:=endsOf_prefix p (i+1) (p.Nodes.length-(i+1));rw[show i+1+(p.Nodes.length-(i+1))=p.Nodes.length by omega]at hr;refine⟨((p.node i).Ends.drop (j+1)).map (fun e=>(i,e))++r,?_⟩;rw[hr];have hj:j<(p.node i).Ends.length:=(List.getElem?_eq_some_iff.1 he).1;have he':(p.node i).Ends[j]=e:=(List.getElem?_eq_some_iff.1 he).2;have:(p.node i).Ends=(p.node i).Ends.take j++e::(p.node i).Ends.drop (j+1):=by
  rw[←he',List.getElem_cons_drop,List.take_append_drop]
 simp only[endsOf,curE]
 conv=>lhs;rw[this]
 simp
theorem valid_ff_end {p:Plan} {i j:Nat} (hi:i<p.Nodes.length) {e:REnd} (he:(p.node i).Ends[j]?=some e) (hf:endB p (i,e)=false):validB p=false:=by
 obtain⟨r,hr⟩:=E_prefix hi he;simp[validB,validE,hr,hf]
theorem valid_ff_dup {p:Plan} {i j m:Nat} (hi:i<p.Nodes.length) {e:REnd} (he:(p.node i).Ends[j]?=some e) {x:Nat×REnd} (hx:(curE p i j)[m]?=some x) (hxe:x.2=e):validB p=false:=by
 obtain⟨r,hr⟩:=E_prefix hi he;have hm:e∈(curE p i j).map (·.2):=by rw[←hxe];exact List.mem_map_of_mem (List.mem_of_getElem? hx)
 have:¬((endsOf p p.Nodes.length).map (·.2)).Nodup:=by
  rw[hr,List.map_append,List.map_cons,List.nodup_append];rintro⟨_,_,h⟩;exact h _ hm _ (by simp) rfl
 simp[validB,validE,this]
theorem node_ends {p:Plan} (h:p.Nodes.all nodeB=true) {i:Int} (h0:0≤i) (h1:i<p.Nodes.length):nodeB (p.node i)=true:=List.all_eq_true.1 h _ (List.mem_of_getElem? (p.node_get h0 h1))
theorem nodeB_spot {n:Node} (h:nodeB n=true):spotB n.Spot=true:=by simp[nodeB]at h;exact h.2.1
theorem nodeB_len {n:Node} (h:nodeB n=true):n.Ends.length≤4:=by
 simp only[nodeB,Bool.and_eq_true,decide_eq_true_eq]at h;have h2:=h.2.2.2;unfold endsN at h2
 repeat (split at h2;omega)
 omega
theorem endsOf_len {p:Plan} (h:p.Nodes.all nodeB=true):∀i,i≤p.Nodes.length→(endsOf p i).length≤4*i
 |0,_=>by simp[endsOf]
 |i+1,hi=>by
  have:=endsOf_len h i (by omega);have h2:=nodeB_len (node_ends h (i:=(i:Int)) (by omega) (by omega));simp only[endsOf,List.length_append,List.length_map];omega
theorem curE_len {p:Plan} (h:p.Nodes.all nodeB=true) {i j:Nat} (hi:i<p.Nodes.length):(curE p i j).length≤4*i+4:=by
 have h1:=endsOf_len h i (by omega);have h2:=nodeB_len (node_ends h (i:=(i:Int)) (by omega) (by omega));simp only[curE,List.length_append,List.length_map,List.length_take];omega
theorem line_spots {p:Plan} {i:Int} (hf:spotB (p.node (p.rail i).From).Spot=true) (ht:spotB (p.node (p.rail i).To).Spot=true) (hs:(p.rail i).Shape.all spotB=true):(p.line i).all spotB=true:=by
 simp only[Plan.line,lineOf,List.all_cons,List.all_append,List.all_nil,hf,ht,hs,Bool.and_self]
end Go.Tram
end
section
namespace Go.Tram
open Go.AM Go.Proofs
theorem c_in (x lo hi:Int):PureCall Tryz.prog 59 [I x,I lo,I hi] (Bo (inr x lo hi)):=by
 refine PureCall.of_body Tryz.func59 rfl (by decide) (by simp[Tryz.ntmps59]) ?_;simp only[Tryz.ntmps59,Tryz.results59];refine aS fun K hK=>?_;simp -dsimp;apply hK;clear hK K;refine aS fun K hK=>?_;simp -dsimp;apply hK;clear hK K;exact awp_ret (by simp[inr])
theorem c_within (x lo hi:Int):PureCall Tryz.prog 44 [I x,I lo,I hi] (Bo (inr x lo hi)):=by
 refine PureCall.of_body Tryz.func44 rfl (by decide) (by simp[Tryz.ntmps44]) ?_;simp only[Tryz.ntmps44,Tryz.results44];refine aS fun K hK=>?_;simp -dsimp;apply hK;clear hK K;refine aS fun K hK=>?_;simp -dsimp;apply hK;clear hK K;exact awp_ret (by simp[inr])
theorem c_Root (n:Int) (h0:0≤n) (h1:n<900000000000000):PureCall Tryz.prog 110 [I n] (I (isq n)):=by
 refine PureCall.of_body Tryz.func110 rfl (by decide) (by simp[Tryz.ntmps110]) ?_;simp only[Tryz.ntmps110,Tryz.results110];refine aS fun K hK=>?_;simp -dsimp;apply hK;clear hK K;refine aS fun K hK=>?_;simp -dsimp;apply hK;clear hK K;refine awp_seq_k fun K1 hK1=>?_;refine awp_block ?_;refine awp_prune [0,3,4] ?_;simp only[zP,Nat.reduceEqDiff,reduceIte];refine awp_loop_l [0] (α:=Int×Int) (fun x=>[(3,I x.1),(4,I x.2)]) (fun _=>[]) (fun x=>0≤x.1∧x.1<x.2∧x.2≤30000000∧x.1*x.1≤n∧n<x.2*x.2) (fun x=>(x.2-x.1).toNat) (0,30000000) ?_ ?_ ?_
 ·simp;omega
 ·exact sub_same (by simp)
 rintro⟨lo,hi⟩ ⟨i1,i2,i3,i4,i5⟩;simp only[]at i1 i2 i3 i4 i5;have w1:IntKind.i64.wrap (hi-lo)=hi-lo:=wrap_in (by omega) (by omega);have w2:IntKind.i64.wrap (lo+hi)=lo+hi:=wrap_in (by omega) (by omega);have w3:(lo+hi).tdiv 2=(lo+hi)/2:=Int.tdiv_eq_ediv_of_nonneg (by omega);have w4:IntKind.i64.wrap ((lo+hi)/2)=(lo+hi)/2:=wrap_in (by omega) (by omega);have b1:=mul_bd (a:=(lo+hi)/2) (b:=(lo+hi)/2) (A:=30000000) (B:=30000000) (by omega) (by omega) (by omega) (by omega);have w5:IntKind.i64.wrap ((lo+hi)/2*((lo+hi)/2))=(lo+hi)/2*((lo+hi)/2):=wrap_in (by omega) (by omega);simp only[zP,Nat.reduceEqDiff,reduceIte];refine awp_seq_k fun K2 hK2=>?_;refine aS fun K hK=>?_;simp -dsimp;apply hK;clear hK K;refine awp_cond rfl (fun hc0=>?_) (fun hc0=>?_)
 ·skip
  try simp at hc0
  refine awp_skip ?_;simp only[zT,reduceIte,Nat.reduceEqDiff];refine hK2 _ _ ?_;refine awp_prune [0,3,4] ?_;simp only[zP,Nat.reduceEqDiff,reduceIte];refine awp_block ?_;refine aS fun K hK=>?_;simp -dsimp [w1];apply hK;clear hK K;refine aS fun K hK=>?_;simp -dsimp [w2,w3,w4];apply hK;clear hK K;refine awp_cond rfl (fun hc1=>?_) (fun hc1=>?_)
  ·skip
   try simp at hc1
   refine aR fun K hK=>?_;simp -dsimp [w5];apply hK;clear hK K;simp only[zT,reduceIte,Nat.reduceEqDiff];refine⟨((lo+hi)/2,hi),?_,?_,sub_same (by simp)⟩<;>simp<;>omega
  ·skip
   try simp at hc1
   refine aR fun K hK=>?_;simp -dsimp;apply hK;clear hK K;simp only[zT,reduceIte,Nat.reduceEqDiff];refine⟨(lo,(lo+hi)/2),?_,?_,sub_same (by simp)⟩<;>simp<;>omega
 ·skip
  try simp at hc0
  refine awp_exit ?_;simp only[zT,reduceIte,Nat.reduceEqDiff];refine hK1 _ _ ?_;refine awp_prune [3] ?_;simp only[zP,Nat.reduceEqDiff,reduceIte];refine aS fun K hK=>?_;simp -dsimp;apply hK;clear hK K;refine awp_ret ?_;have:hi=lo+1:=by omega
  subst this;simp[isq_of (n:=n) (r:=lo) ⟨i1,i4,i5⟩]
theorem c_spot (s:Spot):PureCall Tryz.prog 60 [s.av] (Bo (spotB s)):=by
 refine PureCall.of_body Tryz.func60 rfl (by decide) (by simp[Tryz.ntmps60]) ?_;simp only[Tryz.ntmps60,Tryz.results60];refine aS fun K hK=>?_;simp -dsimp;apply hK;clear hK K;refine aS fun K hK=>?_;simp -dsimp;refine callK_intro _ (c_in _ _ _) (by simp) ?_;simp -dsimp;refine callK_may _ (fun hm=>c_in _ _ _) (by simp) ?_;simp -dsimp;apply hK;clear hK K;exact awp_ret (by simp[spotB])
theorem c_Far (a b:Spot) (ha:spotB a=true) (hb:spotB b=true):PureCall Tryz.prog 63 [a.av,b.av] (I (far a b)):=by
 have hs:=sqd_bd ha hb;have ha':=spotB_iff.1 ha;have hb':=spotB_iff.1 hb;have w1:IntKind.i64.wrap (a.X-b.X)=a.X-b.X:=wrap_in (by omega) (by omega);have w2:IntKind.i64.wrap (a.Y-b.Y)=a.Y-b.Y:=wrap_in (by omega) (by omega);have h1:=mul_bd (a:=a.X-b.X) (b:=a.X-b.X) (A:=20000000) (B:=20000000) (by omega) (by omega) (by omega) (by omega);have h2:=mul_bd (a:=a.Y-b.Y) (b:=a.Y-b.Y) (A:=20000000) (B:=20000000) (by omega) (by omega) (by omega) (by omega);have w3:IntKind.i64.wrap ((a.X-b.X)*(a.X-b.X))=(a.X-b.X)*(a.X-b.X):=wrap_in (by omega) (by omega);have w4:IntKind.i64.wrap ((a.Y-b.Y)*(a.Y-b.Y))=(a.Y-b.Y)*(a.Y-b.Y):=wrap_in (by omega) (by omega);have w5:IntKind.i64.wrap ((a.X-b.X)*(a.X-b.X)+(a.Y-b.Y)*(a.Y-b.Y))=sqd a b:=wrap_in (by unfold sqd at hs;omega) (by unfold sqd at hs;omega);refine PureCall.of_body Tryz.func63 rfl (by decide) (by simp[Tryz.ntmps63]) ?_;simp only[Tryz.ntmps63,Tryz.results63];refine aS fun K hK=>?_;simp -dsimp [w1,w2,w3,w4,w5];apply hK;clear hK K;refine awp_sd mixed rfl fun K hK=>?_;simp -dsimp [w1,w2,w3,w4,w5];refine hK _ _ _ (by decide+kernel) ?_;clear hK K;refine aS fun K hK=>?_;simp -dsimp [w1,w2,w3,w4,w5];refine callK_intro _ (c_Root _ hs.1 (by omega)) (by simp) ?_;simp -dsimp [w1,w2,w3,w4,w5];apply hK;clear hK K;exact awp_ret (by simp[far])
theorem c_ends (k:Int):PureCall Tryz.prog 61 [I k] (I (endsN k)):=by
 refine PureCall.of_body Tryz.func61 rfl (by decide) (by simp[Tryz.ntmps61]) ?_;simp only[Tryz.ntmps61,Tryz.results61];refine aS fun K hK=>?_;simp -dsimp;apply hK;clear hK K;refine awp_seq_k fun K1 hK1=>?_;refine aS fun K hK=>?_;simp -dsimp;apply hK;clear hK K;refine awp_block ?_;refine aS fun K hK=>?_;simp -dsimp;apply hK;clear hK K;refine awp_cond rfl (fun hc0=>?_) (fun hc0=>?_)
 ·skip
  try simp at hc0
  refine aS fun K hK=>?_;simp -dsimp;apply hK;clear hK K;exact awp_ret (by simp_all [endsN])
 ·skip
  try simp at hc0
  refine aS fun K hK=>?_;simp -dsimp;apply hK;clear hK K;refine awp_cond rfl (fun hc1=>?_) (fun hc1=>?_)
  ·skip
   try simp at hc1
   refine aS fun K hK=>?_;simp -dsimp;apply hK;clear hK K;exact awp_ret (by simp_all [endsN])
  ·skip
   try simp at hc1
   refine aS fun K hK=>?_;simp -dsimp;apply hK;clear hK K;refine awp_cond rfl (fun hc2=>?_) (fun hc2=>?_)
   ·skip
    try simp at hc2
    refine aS fun K hK=>?_;simp -dsimp;apply hK;clear hK K;exact awp_ret (by simp_all [endsN])
   ·skip
    try simp at hc2
    refine awp_seq_k fun K2 hK2=>?_;refine aS fun K hK=>?_;simp -dsimp;apply hK;clear hK K;refine awp_cond rfl (fun hc3=>?_) (fun hc3=>?_)
    ·skip
     try simp at hc3
     refine awp_skip ?_;simp only[zT,reduceIte,Nat.reduceEqDiff];refine hK2 _ _ ?_;refine awp_prune [10] ?_;simp only[zP,Nat.reduceEqDiff,reduceIte];refine awp_cond rfl (fun hc5=>?_) (fun hc5=>?_)
     ·skip
      try simp at hc5
      refine aS fun K hK=>?_;simp -dsimp;apply hK;clear hK K;exact awp_ret (by simp_all [endsN])
     ·skip
      try simp at hc5
      refine awp_skip ?_;simp only[zT,reduceIte,Nat.reduceEqDiff];refine hK1 _ _ ?_;refine awp_prune [] ?_;simp only[zP,Nat.reduceEqDiff,reduceIte];refine aS fun K hK=>?_;simp -dsimp;apply hK;clear hK K;exact awp_ret (by simp_all [endsN])
    ·skip
     try simp at hc3
     refine aS fun K hK=>?_;simp -dsimp;apply hK;clear hK K;refine awp_cond rfl (fun hc4=>?_) (fun hc4=>?_)
     ·skip
      try simp at hc4
      refine awp_skip ?_;simp only[zT,reduceIte,Nat.reduceEqDiff];refine hK2 _ _ ?_;refine awp_prune [10] ?_;simp only[zP,Nat.reduceEqDiff,reduceIte];refine awp_cond rfl (fun hc5=>?_) (fun hc5=>?_)
      ·skip
       try simp at hc5
       refine aS fun K hK=>?_;simp -dsimp;apply hK;clear hK K;exact awp_ret (by simp_all [endsN])
      ·skip
       try simp at hc5
       refine awp_skip ?_;simp only[zT,reduceIte,Nat.reduceEqDiff];refine hK1 _ _ ?_;refine awp_prune [] ?_;simp only[zP,Nat.reduceEqDiff,reduceIte];refine aS fun K hK=>?_;simp -dsimp;apply hK;clear hK K;exact awp_ret (by simp_all [endsN])
     ·skip
      try simp at hc4
      refine aR fun K hK=>?_;simp -dsimp;apply hK;clear hK K;simp only[zT,reduceIte,Nat.reduceEqDiff];refine hK2 _ _ ?_;refine awp_prune [10] ?_;simp only[zP,Nat.reduceEqDiff,reduceIte];refine awp_cond rfl (fun hc5=>?_) (fun hc5=>?_)
      ·skip
       try simp at hc5
       refine aS fun K hK=>?_;simp -dsimp;apply hK;clear hK K;exact awp_ret (by simp_all [endsN])
      ·skip
       try simp at hc5
       refine awp_skip ?_;simp only[zT,reduceIte,Nat.reduceEqDiff];refine hK1 _ _ ?_;refine awp_prune [] ?_;simp only[zP,Nat.reduceEqDiff,reduceIte];refine aS fun K hK=>?_;simp -dsimp;apply hK;clear hK K;exact awp_ret (by simp_all [endsN])
end Go.Tram
end
section
namespace Go.Tram
open Go.AM Go.Proofs
theorem c_Line (p:Plan) (i:Int) (h0:0≤i) (h1:i<p.Rails.length) (hf:0≤(p.rail i).From∧(p.rail i).From<p.Nodes.length) (ht:0≤(p.rail i).To∧(p.rail i).To<p.Nodes.length) (hs:(p.rail i).Shape.length≤1000):
  PureCall Tryz.prog 62 [p.av,I i] (.lst 2 ((p.line i).map Spot.cells)):=by
 have e1:p.Rails[i.toNat]?=some (p.rail i):=Plan.rail_get h0 h1;have e2:p.Nodes[(p.rail i).From.toNat]?=some (p.node (p.rail i).From):=Plan.node_get hf.1 hf.2;have e3:p.Nodes[(p.rail i).To.toNat]?=some (p.node (p.rail i).To):=Plan.node_get ht.1 ht.2;have b0:Fits (1+1) 17:=fits_of (by omega) (by omega);have b1:Fits ((p.rail i).Shape.length+1) 17:=fits_of (by omega) (by omega);have b2:Fits (1+(p.rail i).Shape.length) 17:=fits_of (by omega) (by omega);have b3:Fits (1+(p.rail i).Shape.length+1) 17:=fits_of (by omega) (by omega);have b4:Fits (1+(1+(p.rail i).Shape.length)) 17:=fits_of (by omega) (by omega);have b5:Fits 2 17:=fits_of (by omega) (by omega)
 by_cases hsh:(p.rail i).Shape=[]
 ·refine PureCall.of_body Tryz.func62 rfl (by decide) (by simp[Tryz.ntmps62]) ?_;simp only[Tryz.ntmps62,Tryz.results62];refine aS fun K hK=>?_;simp -dsimp;apply hK;clear hK K;refine aS fun K hK=>?_;simp -dsimp [e1,h0];apply hK;clear hK K;refine aS fun K hK=>?_;simp -dsimp [e2,hf.1];apply hK;clear hK K;refine aS fun K hK=>?_;simp -dsimp [hsh];apply hK;clear hK K;refine aS fun K hK=>?_;simp -dsimp [e3,ht.1,b0,b5];apply hK;clear hK K;exact awp_ret (by simp[Plan.line,lineOf,hsh])
 ·refine PureCall.of_body Tryz.func62 rfl (by decide) (by simp[Tryz.ntmps62]) ?_;simp only[Tryz.ntmps62,Tryz.results62];refine aS fun K hK=>?_;simp -dsimp;apply hK;clear hK K;refine aS fun K hK=>?_;simp -dsimp [e1,h0];apply hK;clear hK K;refine aS fun K hK=>?_;simp -dsimp [e2,hf.1];apply hK;clear hK K;refine aS fun K hK=>?_;simp -dsimp [hsh,b1,b2];apply hK;clear hK K;refine aS fun K hK=>?_;simp -dsimp [e3,ht.1,b1,b2,b3,b4,Nat.add_comm,List.take_succ_cons,List.take_of_length_le];apply hK;clear hK K;exact awp_ret (by simp[Plan.line,lineOf,Nat.add_comm,List.take_of_length_le,Function.comp_def])
theorem c_at (p:Plan) (e:REnd) (h0:0≤e.Rail) (h1:e.Rail<p.Rails.length):PureCall Tryz.prog 64 [p.av,e.av] (I (p.at e)):=by
 have e1:p.Rails[e.Rail.toNat]?=some (p.rail e.Rail):=Plan.rail_get h0 h1;refine PureCall.of_body Tryz.func64 rfl (by decide) (by simp[Tryz.ntmps64]) ?_;simp only[Tryz.ntmps64,Tryz.results64];refine aS fun K hK=>?_;simp -dsimp;apply hK;clear hK K;refine awp_seq_k fun K1 hK1=>?_;refine aS fun K hK=>?_;simp -dsimp;apply hK;clear hK K;refine awp_cond rfl (fun hc0=>?_) (fun hc0=>?_)
 ·skip
  try simp at hc0
  refine aS fun K hK=>?_;simp -dsimp [e1,h0];apply hK;clear hK K;exact awp_ret (by simp[Plan.at,hc0])
 ·skip
  try simp at hc0
  refine awp_skip ?_;simp only[zT,reduceIte,Nat.reduceEqDiff];refine hK1 _ _ ?_;refine awp_prune [2,3] ?_;simp only[zP,Nat.reduceEqDiff,reduceIte];refine aS fun K hK=>?_;simp -dsimp [e1,h0];apply hK;clear hK K;exact awp_ret (by simp[Plan.at,hc0])
theorem c_Length (p:Plan) (i:Int) (h0:0≤i) (h1:i<p.Rails.length) (hf:0≤(p.rail i).From∧(p.rail i).From<p.Nodes.length) (ht:0≤(p.rail i).To∧(p.rail i).To<p.Nodes.length) (hs:(p.rail i).Shape.length≤1000)
  (hsp:(p.line i).all spotB=true):PureCall Tryz.prog 21 [p.av,I i] (I (p.len i)):=by
 have hl:=line_len p i;have hb:∀k,k<(p.line i).length→spotB (nth (p.line i) k)=true:=fun k hk=>List.all_eq_true.1 hsp _ (List.mem_of_getElem? (nth_get hk));have hsum:∀k,k+1<(p.line i).length→0≤sumTo (p.line i) k∧sumTo (p.line i) k≤k*30000000:=by
  intro k
  induction k with
  |zero=>intro _;simp[sumTo]
  |succ k ih=>
   intro hk;have:=ih (by omega);have h2:=far_bd (hb k (by omega)) (hb (k+1) (by omega));simp only[sumTo,segLen];omega
 refine PureCall.of_body Tryz.func21 rfl (by decide) (by simp[Tryz.ntmps21]) ?_;simp only[Tryz.ntmps21,Tryz.results21];refine aS fun K hK=>?_;simp -dsimp;apply hK;clear hK K;refine aS fun K hK=>?_;simp -dsimp;refine callK_intro _ (c_Line p i h0 h1 hf ht hs) (by simp) ?_;simp -dsimp;apply hK;clear hK K;refine aS fun K hK=>?_;simp -dsimp;apply hK;clear hK K;refine awp_seq_k fun K1 hK1=>?_;refine aS fun K hK=>?_;simp -dsimp;apply hK;clear hK K;refine awp_block ?_;refine awp_prune [5,6,7] ?_;simp only[zP,Nat.reduceEqDiff,reduceIte];refine awp_loop_l [5] (α:=Nat) (fun k=>[(6,I (sumTo (p.line i) (k-1))),(7,I k)]) (fun _=>[some (.els 2 [p.cells])]) (fun k=>1≤k∧k≤(p.line i).length) (fun k=>(p.line i).length-k) 1 ?_ ?_ ?_
 ·simp[hl]
 ·exact sub_same (by simp[sumTo])
 rintro k ⟨k1,k2⟩;simp only[zP,Nat.reduceEqDiff,reduceIte];refine awp_seq_k fun K2 hK2=>?_;refine aS fun K hK=>?_;simp -dsimp;apply hK;clear hK K;refine awp_cond rfl (fun hc0=>?_) (fun hc0=>?_)
 ·skip
  try simp at hc0
  have wk:IntKind.i64.wrap ((k:Int)-1)=((k-1:Nat):Int):=by rw[wrap_in (by omega) (by omega)];omega
  have g1:=nth_get (l:=p.line i) (k:=k-1) (by omega);have g2:=nth_get (l:=p.line i) (k:=k) (by omega);have q1:=hsum (k-1) (by omega);have q2:=far_bd (hb (k-1) (by omega)) (hb k (by omega));have wa:IntKind.i64.wrap (sumTo (p.line i) (k-1)+far (nth (p.line i) (k-1)) (nth (p.line i) k))=sumTo (p.line i) (k-1)+far (nth (p.line i) (k-1)) (nth (p.line i) k):=wrap_in (by omega) (by omega);have wi:=zW k (by omega);refine awp_skip ?_;simp only[zT,reduceIte,Nat.reduceEqDiff];refine hK2 _ _ ?_;refine awp_prune [5,6,7] ?_;simp only[zP,Nat.reduceEqDiff,reduceIte];refine awp_seq_k fun K3 hK3=>?_;refine awp_block ?_;refine awp_draw mixed rfl fun K hK=>?_;simp -dsimp [wk,g1,g2,wa];refine callK_intro _ (c_Far (nth (p.line i) (k-1)) (nth (p.line i) k) (hb _ (by omega)) (hb _ (by omega))) (by simp) ?_;simp -dsimp [wk,g1,g2,wa];refine hK _ _ _ (by decide+kernel) ?_;clear hK K;simp only[zT,reduceIte,Nat.reduceEqDiff];refine hK3 _ _ ?_;refine awp_prune [5,6,7] ?_;simp only[zP,Nat.reduceEqDiff,reduceIte];refine aR fun K hK=>?_;simp -dsimp [wi];apply hK;clear hK K;simp only[zT,reduceIte,Nat.reduceEqDiff];obtain⟨j,rfl⟩:∃j,k=j+1:=⟨k-1,by omega⟩;exact⟨j+2,⟨by omega,by omega⟩,by omega,sub_same (by simp[sumTo,segLen]<;>omega)⟩
 ·skip
  try simp at hc0
  refine awp_exit ?_;simp only[zT,reduceIte,Nat.reduceEqDiff];refine hK1 _ _ ?_;refine awp_prune [6] ?_;simp only[zP,Nat.reduceEqDiff,reduceIte];refine aS fun K hK=>?_;simp -dsimp;apply hK;clear hK K;refine awp_ret ?_;have:k=(p.rail i).Shape.length+2:=by omega
  subst this;simp[Plan.len]
end Go.Tram
end
section
namespace Go.Sq
open Ieee
theorem read_big {q r:Nat} (hq:1≤q) (hq2:q<2047) (hr:r<4503599627370496):double.read (q*4503599627370496+r)= .number false (4503599627370496+r) (double.leastPlace+(q-1:Nat)):=by
 have hb:double.binade=4503599627370496:=by decide
 have hs:double.signWeight=9223372036854775808:=by decide
 have hi:double.infRung=2047*4503599627370496:=by decide
 unfold Format.read;rw[hb,hs,hi];have h1:q*4503599627370496+r<9223372036854775808:=by omega
 rw[Nat.mod_eq_of_lt h1,Nat.div_eq_of_lt h1];have h2:¬q*4503599627370496+r<4503599627370496:=by omega
 have h3:q*4503599627370496+r<2047*4503599627370496:=by omega
 have h4:(q*4503599627370496+r)/4503599627370496=q:=by omega
 have h5:(q*4503599627370496+r) % 4503599627370496=r:=by omega
 simp only[h2,h3,if_true,if_false,h4,h5];simp
theorem cut_le {n drop:Nat} (h:n<2^(53+drop)):Toward.even.cut false n drop≤2^53:=by
 unfold Toward.cut;simp only[Nat.shiftLeft_eq,Nat.one_mul]
 by_cases hd:drop≤n.log2+2
 ·rw[Nat.min_eq_left hd];have hlow:n/2^drop<2^53:=by rw[Nat.div_lt_iff_lt_mul (Nat.two_pow_pos _),←Nat.pow_add];exact h
  have:∀b:Bool,b.toNat≤1:=by intro b;cases b<;>simp
  refine Nat.le_trans (Nat.add_le_add_left (this _) _) hlow
 ·rw[Nat.min_eq_right (by omega)];have hlt:n<2^(n.log2+2):=Nat.lt_of_lt_of_le (Nat.lt_log2_self) (Nat.pow_le_pow_right (by omega) (by omega));rw[Nat.div_eq_of_lt hlt];have:∀b:Bool,b.toNat≤1:=by intro b;cases b<;>simp
  exact Nat.le_trans (Nat.add_le_add_left (this _) _) (by decide)
theorem cut_none (n:Nat):Toward.even.cut false n 0=n:=by
 unfold Toward.cut;simp[Nat.mod_one]
theorem cut_zero_le (n drop:Nat):Toward.zero.cut false n drop≤n/2^drop:=by
 unfold Toward.cut;simp only[Nat.shiftLeft_eq,Nat.one_mul,Bool.toNat_false,Nat.add_zero]
 by_cases hd:drop≤n.log2+2
 ·rw[Nat.min_eq_left hd];exact Nat.le_refl _
 ·rw[Nat.min_eq_right (by omega)];have hlt:n<2^(n.log2+2):=Nat.lt_of_lt_of_le (Nat.lt_log2_self) (Nat.pow_le_pow_right (by omega) (by omega));rw[Nat.div_eq_of_lt hlt];exact Nat.zero_le _
theorem rootFrom_sq (n:Nat):∀todo root,root*root≤n→Datum.rootFrom n todo root*Datum.rootFrom n todo root≤n
 |0,root,h=>by simpa [Datum.rootFrom]using h
 |todo+1,root,h=>by
  simp only[Datum.rootFrom];refine rootFrom_sq n todo _ ?_
  split
  ·assumption
  ·exact h
theorem read_nat {n:Nat} (h1:1≤n) (h2:n<2^53):∃m:Nat,∃e:Int,double.read (double.write (.number false n 0))= .number false m e∧2^52≤m∧m<2^53∧e=(n.log2:Int)-52:=by
 have hn:n≠0:=by omega
 have hL:n.log2<53:=(Nat.log2_lt hn).2 h2;have hlo:=Nat.log2_self_le hn;have hhi:= @Nat.lt_log2_self n;have hlp:double.leastPlace=-1074:=by decide
 have hb:double.binade=4503599627370496:=by decide
 have hi:double.infRung=2047*4503599627370496:=by decide
 have hf:double.fractionBits=52:=rfl;refine⟨n*2^(52-n.log2),(n.log2:Int)-52,?_,?_,?_,rfl⟩
 ·simp only[Format.write,Format.nearest,hn,if_false,hf,hlp,hi,hb];have hmax:max ((0:Int)+(n.log2:Int)-(52:Nat)) (-1074)=(n.log2:Int)-52:=by omega
  rw[hmax];have e1:((0:Int)-((n.log2:Int)-52)).toNat=52-n.log2:=by omega
  have e2:(((n.log2:Int)-52)-0).toNat=0:=by omega
  have e3:(((n.log2:Int)-52)- -1074).toNat=n.log2+1022:=by omega
  rw[e1,e2,e3,cut_none,Nat.shiftLeft_eq];have hk1:2^52≤n*2^(52-n.log2):=by
   have:=Nat.mul_le_mul_right (2^(52-n.log2)) hlo;rw[←Nat.pow_add]at this
   rwa [show n.log2+(52-n.log2)=52 by omega]at this
  have hk2:n*2^(52-n.log2)<2^53:=by
   have:=Nat.mul_lt_mul_of_pos_right hhi (Nat.two_pow_pos (52-n.log2));rw[←Nat.pow_add]at this
   rwa [show n.log2+1+(52-n.log2)=53 by omega]at this
  generalize n*2^(52-n.log2)=k at hk1 hk2 ⊢;rw[Nat.min_eq_left (by omega)];have hq:(n.log2+1022)*4503599627370496+k=(n.log2+1023)*4503599627370496+(k-4503599627370496):=by omega
  simp only[Format.word,Bool.false_eq_true,if_false];rw[hq,read_big (by omega) (by omega) (by omega),hlp];rw[show 4503599627370496+(k-4503599627370496)=k by omega,show(-1074:Int)+((n.log2+1023-1:Nat):Int)=(n.log2:Int)-52 by omega]
 ·have:=Nat.mul_le_mul_right (2^(52-n.log2)) hlo;rw[←Nat.pow_add]at this
  rwa [show n.log2+(52-n.log2)=52 by omega]at this
 ·have:=Nat.mul_lt_mul_of_pos_right hhi (Nat.two_pow_pos (52-n.log2));rw[←Nat.pow_add]at this
  rwa [show n.log2+1+(52-n.log2)=53 by omega]at this
theorem read_write {m:Nat} {e:Int} (h1:1≤m) (hm:m<2^60) (he:-100≤e) (he2:e≤100):∃(k:Nat) (d:Int),double.read (double.write (.number false m e))= .number false k d∧k≤2^53∧d≤e+(m.log2:Int)-51∧-1000≤d:=by
 have hn:m≠0:=by omega
 have hL:m.log2<60:=(Nat.log2_lt hn).2 hm;have hhi:= @Nat.lt_log2_self m;have hlp:double.leastPlace=-1074:=by decide
 have hb:double.binade=4503599627370496:=by decide
 have hi:double.infRung=2047*4503599627370496:=by decide
 have hf:double.fractionBits=52:=rfl;simp only[Format.write,Format.nearest,hn,if_false,hf,hlp,hi,hb];have hmax:max (e+(m.log2:Int)-(52:Nat)) (-1074)=e+(m.log2:Int)-52:=by omega
 rw[hmax];have hkept:Toward.even.cut false (m<<< (e-(e+(m.log2:Int)-52)).toNat) ((e+(m.log2:Int)-52)-e).toNat≤2^53:=by
  refine cut_le ?_;rw[Nat.shiftLeft_eq];have:=Nat.mul_lt_mul_of_pos_right hhi (Nat.two_pow_pos (e-(e+(m.log2:Int)-52)).toNat);rw[←Nat.pow_add]at this;refine Nat.lt_of_lt_of_le this (Nat.pow_le_pow_right (by omega) ?_);omega
 generalize Toward.even.cut false (m<<< (e-(e+(m.log2:Int)-52)).toNat) ((e+(m.log2:Int)-52)-e).toNat=k at hkept;obtain⟨q,hq⟩:∃q:Nat,(e+(m.log2:Int)-52- -1074).toNat=q:=⟨_,rfl⟩;rw[hq];have hq1:(q:Int)=e+(m.log2:Int)+1022:=by omega
 rw[Nat.min_eq_left (by omega)];simp only[Format.word,Bool.false_eq_true,if_false];have hkq:q*4503599627370496+k=(q+k/4503599627370496)*4503599627370496+k % 4503599627370496:=by omega
 rw[hkq,read_big (by omega) (by omega) (by omega),hlp];refine⟨_,_,rfl,by omega,by omega,by omega⟩
theorem sqrt_bd {n:Nat} (h:n<2^50):∃r x:Nat,FloatKind.f64.format.sqrt (FloatKind.f64.nearest n)=some r∧floatToIntVal .f64 r .i64=some (x:Int)∧x≤2^30:=by
 have hfm:FloatKind.f64.format=double:=rfl
 by_cases h0:n=0
 ·subst h0;exact⟨0,0,by decide,by decide,by decide⟩
 have hne:FloatKind.f64.nearest (n:Int)=double.write (.number false n 0):=by
  simp only[FloatKind.nearest,FloatKind.encode,hfm,Int.natAbs_natCast]
  congr 1
 obtain⟨m,e,hr,hm1,hm2,he⟩:=read_nat (n:=n) (by omega) (Nat.lt_trans h (by decide));have hL:n.log2<50:=(Nat.log2_lt h0).2 h;have hmne:m≠0:=by omega
 have hml:m.log2=52:=by
  have a1:m.log2<53:=(Nat.log2_lt hmne).2 hm2;have a2:52≤m.log2:=(Nat.le_log2 hmne).2 hm1;omega
 have hf:double.fractionBits=52:=rfl;rw[hne,hfm];simp only[Format.sqrt,hr,hf,Datum.root,hmne,if_false,hml,Bool.false_eq_true];obtain⟨t,ht⟩:∃t:Nat,2*(52+2)-52+((e-((2*(52+2)-52:Nat):Int)) % 2).toNat=t:=⟨_,rfl⟩;rw[ht];have ht1:56≤t∧t≤57:=by omega
 obtain⟨w,hw⟩:∃w,Datum.rootFrom (m<<<t) ((m<<<t).log2/2+1) 0=w:=⟨_,rfl⟩;have hws:w*w≤m<<<t:=by rw[←hw];exact rootFrom_sq _ _ _ (Nat.zero_le _)
 rw[hw];have hN:m<<<t<2^110:=by
  rw[Nat.shiftLeft_eq];have:=Nat.mul_lt_mul_of_pos_right hm2 (Nat.two_pow_pos t);rw[←Nat.pow_add]at this;exact Nat.lt_of_lt_of_le this (Nat.pow_le_pow_right (by omega) (by omega))
 have hw55:w<2^55:=by
  rcases Nat.lt_or_ge w (2^55)with h|h
  ·exact h
  ·have:=Nat.mul_le_mul h h;rw[←Nat.pow_add]at this;omega
 have hNpos:0<m<<<t:=by rw[Nat.shiftLeft_eq];exact Nat.mul_pos (by omega) (Nat.two_pow_pos _)
 obtain⟨g,hg⟩:∃g,2*w+(w*w !=m<<<t).toNat=g:=⟨_,rfl⟩;have hbt:∀b:Bool,b.toNat≤1:=by intro b;cases b<;>simp
 have hg1:1≤g:=by
  rw[←hg]
  by_cases hw0:w=0
  ·subst hw0;have:(0*0 !=m<<<t)=true:=by simp;omega
   rw[this];decide
  ·omega
 have hg2:g<2^56:=by rw[←hg];have:=hbt (w*w !=m<<<t);omega
 rw[hg];simp only[Option.map_some];obtain⟨k,d,hk,hk1,hd1,hd2⟩:=read_write (m:=g) (e:=(e-(t:Int))/2-1) hg1 (Nat.lt_trans hg2 (by decide)) (by omega) (by omega);have hgl:g.log2<56:=(Nat.log2_lt (by omega)).2 hg2;refine⟨_,Toward.zero.cut false k (-d).toNat,rfl,?_,?_⟩
 ·have hd0:d.toNat=0:=by omega
  have hx:Toward.zero.cut false k (-d).toNat≤k:=Nat.le_trans (cut_zero_le _ _) (Nat.div_le_self _ _);have hI:(FloatKind.f64.decode (double.write (.number false g ((e-(t:Int))/2-1)))).toInt .zero=some ((Toward.zero.cut false k (-d).toNat:Nat):Int):=by
   simp only[FloatKind.decode,hfm,hk,Datum.toInt,Datum.integral,hd0,signed,Nat.shiftLeft_zero,Bool.false_eq_true,if_false]
  unfold floatToIntVal;rw[hI];have hmin:IntKind.i64.min=-9223372036854775808:=by decide
  have hmax:IntKind.i64.max=9223372036854775807:=by decide
  simp only[hmin,hmax];rw[if_pos (by omega)]
 ·refine Nat.le_trans (cut_zero_le _ _) ?_;have h27:27≤(-d).toNat:=by omega
  have:k/2^(-d).toNat≤k/2^27:=Nat.div_le_div_left (Nat.pow_le_pow_right (by omega) h27) (by decide);refine Nat.le_trans this ?_;omega
end Go.Sq
end
section
namespace Go.Tram
open Go.AM
def cmpI (a b:Int):Int:=if a<b then-1 else if b<a then 1 else 0
def dotS (a b c d:Spot):Int:=(b.X-a.X)*(d.X-c.X)+(b.Y-a.Y)*(d.Y-c.Y)
def crossS (a b c d:Spot):Int:=(b.X-a.X)*(d.Y-c.Y)-(b.Y-a.Y)*(d.X-c.X)
def spotted (a b p:Spot) (d:Int):Int:=
 if dotS a b a p≤0 then cmpI (dotS a p a p) (d*d)
 else if dotS a b a b≤dotS a b a p then cmpI (dotS b p b p) (d*d)
 else cmpI (crossS a b a p*crossS a b a p) (d*d*dotS a b a b)
def sideS (a b p:Spot):Int:=cmpI (crossS a b a p) 0
def crossing (a b c d:Spot):Bool:=decide (sideS a b c*sideS a b d<0)&&decide (sideS c d a*sideS c d b<0)
def min4 (a b c d:Int):Int:=min (min (min a b) c) d
def apart (a b c d:Spot) (r:Int):Int:=if crossing a b c d=true then cmpI 0 r else min4 (spotted a b c r) (spotted a b d r) (spotted c d a r) (spotted c d b r)
def bis (f:Int→Bool):Nat→Int→Int→Int
 |0,lo,_=>lo
 |n+1,lo,hi=>if hi-lo>1 then(if f ((lo+hi)/2)then bis f n ((lo+hi)/2) hi else bis f n lo ((lo+hi)/2))else lo
def gap (a b c d:Spot):Int:=bis (fun r=>decide (0≤apart a b c d r)) 5000 0 5001
end Go.Tram
namespace Go.Tram
open Go.AM
structure SS where
 Rail:Int
 Segment:Int
 a:Spot
 b:Spot
 bends:List Spot
 From:Int
 To:Int
 deriving Inhabited
@[simp] def SS.cells (s:SS):List AV:=[I s.Rail,I s.Segment,I s.a.X,I s.a.Y,I s.b.X,I s.b.Y, .lst 2 (s.bends.map Spot.cells),I s.From,I s.To]
abbrev SS.av (s:SS):AV:= .agg s.cells
def straightB (l:List Spot) (k:Nat):Bool:=decide (crossS (nth l (k-1)) (nth l k) (nth l k) (nth l (k+1))=0)&&decide (0<dotS (nth l (k-1)) (nth l k) (nth l k) (nth l (k+1)))
def bendB (l:List Spot) (k:Nat):Bool:=decide (0<k)&&(decide (k+1<l.length)&& !straightB l k)
def bendL (l:List Spot) (k:Nat):List Spot:=if bendB l k then [nth l k]else []
def stripOf (l:List Spot) (r:Int) (k:Nat):SS:=⟨r,k,nth l k,nth l (k+1),bendL l k++bendL l (k+1),sumTo l k,sumTo l (k+1)⟩
def Plan.strip (p:Plan) (s:Strip):SS:=stripOf (p.line s.Rail) s.Rail s.Segment.toNat
theorem valid_parts {p:Plan} (h:validB p=true):(1≤p.Nodes.length∧p.Nodes.length≤300)∧(1≤p.Rails.length∧p.Rails.length≤400)∧p.Nodes.all nodeB=true∧p.Rails.all (railB p)=true∧validE p=true:=by
 simp only[validB,validA,Bool.and_eq_true,inr_iff]at h;obtain⟨⟨⟨⟨h1,h2⟩,h3⟩,h4⟩,h5⟩:=h;exact⟨by omega,by omega,h3,h4,h5⟩
structure RailOk (p:Plan) (r:Int):Prop where
 f:0≤(p.rail r).From∧(p.rail r).From<p.Nodes.length
 t:0≤(p.rail r).To∧(p.rail r).To<p.Nodes.length
 s:(p.rail r).Shape.length≤30
 spots:(p.line r).all spotB=true
 spot:∀k,k<(p.line r).length→spotB (nth (p.line r) k)=true
 seg:∀k,k+1<(p.line r).length→1≤segLen (p.line r) k∧segLen (p.line r) k≤1000000
 len:(p.line r).length=(p.rail r).Shape.length+2
theorem rail_ok {p:Plan} (h:validB p=true) {r:Int} (h0:0≤r) (h1:r<p.Rails.length):RailOk p r:=by
 obtain⟨_,_,hA,hR,_⟩:=valid_parts h;have hb:railB p (p.rail r)=true:=List.all_eq_true.1 hR _ (List.mem_of_getElem? (p.rail_get h0 h1));simp only[railB,railA,Bool.and_eq_true,inr_iff,decide_eq_true_eq]at hb;obtain⟨⟨b1,b2,b3,b4,b5⟩,b6,b7⟩:=hb;have sF:=nodeB_spot (node_ends hA (i:=(p.rail r).From) (by omega) (by omega));have sT:=nodeB_spot (node_ends hA (i:=(p.rail r).To) (by omega) (by omega));have hl:=line_len p r;have hsp:=line_spots (p:=p) (i:=r) sF sT b6;refine⟨by omega,by omega,b3,hsp,fun k hk=>List.all_eq_true.1 hsp _ (List.mem_of_getElem? (nth_get hk)),fun k hk=>?_,hl⟩;have:=List.all_eq_true.1 b7 k (by simp;omega);simp only[segB,inr_iff]at this;exact this
theorem sumTo_bd {p:Plan} {r:Int} (h:RailOk p r):∀k,k+1≤(p.line r).length→(k:Int)≤sumTo (p.line r) k∧sumTo (p.line r) k≤1000000*k
 |0,_=>by simp[sumTo]
 |k+1,hk=>by
  have h1:=sumTo_bd h k (by omega);have h2:=h.seg k (by omega);simp only[sumTo];omega
end Go.Tram
namespace Go.Tram
open Go.AM
structure Pair where
 a:Strip
 b:Strip
 gap:Int
 deriving Inhabited
@[simp] def Pair.cells (q:Pair):List AV:=[I q.a.Rail,I q.a.Segment,I q.b.Rail,I q.b.Segment,I q.gap]
end Go.Tram
namespace Go.Tram
open Go.AM
section
variable {m:Spot→Spot}
structure Mv (m:Spot→Spot) (s s':SS):Prop where
 a:s'.a=m s.a
 b:s'.b=m s.b
 bends:s'.bends=s.bends.map m
end
end Go.Tram
end
section
namespace Go.Tram
open Go.AM Go.Proofs
theorem c_Grow (n:Int) (h0:1≤n) (h1:n≤1000):OwnCall Tryz.prog 164 [.v (.slice none 0 0),I n] 0 0 2 (List.replicate n.toNat [I 0,I 0]):=by
 have w1:IntKind.i64.wrap 0=0:=by decide
 have w2:IntKind.i64.wrap n=n:=wrap_in (by omega) (by omega);have f1:Fits n.toNat 17:=fits_of (by omega) (by omega);have n1:¬n<0:=by omega
 have n2:0<n:=by omega
 have n3:¬n≤0:=by omega
 refine OwnCall.of_body Tryz.func164 rfl (by decide) (by simp[Tryz.ntmps164]) (by simp) (by simp;omega) ?_;simp only[Tryz.ntmps164,Tryz.results164];refine aS fun K hK=>?_;simp -dsimp [w1,w2,f1,n1,n2,n3,h0];apply hK;clear hK K;refine awp_seq_k fun K1 hK1=>?_;refine aS fun K hK=>?_;simp -dsimp [w1,w2,f1,n1,n2,n3,h0];apply hK;clear hK K;refine awp_cond rfl (fun hc0=>?_) (fun hc0=>?_)
 ·simp at hc0
 ·refine awp_skip ?_;simp only[zT,reduceIte,Nat.reduceEqDiff];refine hK1 _ _ ?_;refine awp_prune [0,1] ?_;simp only[zP,Nat.reduceEqDiff,reduceIte];refine awp_seq_k fun K2 hK2=>?_;refine aS fun K hK=>?_;simp -dsimp [w1,w2,f1,n1,n2,n3,h0];apply hK;clear hK K;refine aS fun K hK=>?_;simp -dsimp [w1,w2,f1,n1,n2,n3,h0];apply hK;clear hK K;refine awp_cond rfl (fun hc1=>?_) (fun hc1=>?_)
  ·refine aR fun K hK=>?_;simp -dsimp [w1,w2,f1,n1,n2,n3,h0];apply hK;clear hK K;simp only[zT,reduceIte,Nat.reduceEqDiff];refine hK2 _ _ ?_;refine awp_prune [0] ?_;simp only[zP,Nat.reduceEqDiff,reduceIte];refine aS fun K hK=>?_;simp -dsimp [w1,w2,f1,n1,n2,n3,h0];apply hK;clear hK K;exact awp_ret ⟨4,0,rfl,by simp,by simp⟩
  ·simp at hc1
theorem c_isNaN (n:Int):PureCall Tryz.prog 194 [I n] (Bo false):=by
 refine PureCall.of_body Tryz.func194 rfl (by decide) (by simp[Tryz.ntmps194]) ?_;simp only[Tryz.ntmps194,Tryz.results194];refine aS fun K hK=>?_;simp -dsimp;apply hK;clear hK K;refine aS fun K hK=>?_;simp -dsimp;apply hK;clear hK K;exact awp_ret (by simp)
def partsAV (parts:List (List Spot)):AV:= .lst 1 (parts.map fun q=>[.lst 2 (q.map Spot.cells)])
@[irreducible] def tot (parts:List (List Spot)) (k:Nat):Nat:=(parts.take k).flatten.length
theorem tot_zero (parts:List (List Spot)):tot parts 0=0:=by unfold tot;simp
theorem tot_succ {parts:List (List Spot)} {k:Nat} {q:List Spot} (h:parts[k]?=some q):tot parts (k+1)=tot parts k+q.length:=by
 unfold tot;rw[List.take_add_one,h];simp
theorem tot_all {parts:List (List Spot)} {k:Nat} (h:parts.length≤k):tot parts k=parts.flatten.length:=by unfold tot;rw[List.take_of_length_le h]
theorem tot_le (parts:List (List Spot)) (k:Nat):tot parts k≤parts.flatten.length:=by
 unfold tot;have:=congrArg (fun l=>l.flatten.length) (List.take_append_drop k parts);simp only[List.flatten_append,List.length_append]at this;omega
def cat (parts:List (List Spot)) (k:Nat):List (List AV):=(parts.take k).flatten.map Spot.cells
theorem cat_succ {parts:List (List Spot)} {k:Nat} {q:List Spot} (h:parts[k]?=some q):cat parts (k+1)=cat parts k++q.map Spot.cells:=by
 unfold cat;rw[List.take_add_one,h];simp
theorem cat_len (parts:List (List Spot)) (k:Nat):(cat parts k).length=tot parts k:=by unfold cat tot;rw[List.length_map]
theorem cat_ren (parts:List (List Spot)) (k:Nat) (g:List (Option Nat)):(cat parts k).map (fun e=>e.map (renAV g 3))=cat parts k:=by unfold cat;rw[List.map_map];exact List.map_congr_left fun s _=>rfl
theorem cat_frz (parts:List (List Spot)) (k:Nat) (H:Hp):(cat parts k).map (fun e=>e.map (frzP H 5))=cat parts k:=by unfold cat;rw[List.map_map];exact List.map_congr_left fun s _=>rfl
theorem cat_all {parts:List (List Spot)} {k:Nat} (h:parts.length≤k):cat parts k=parts.flatten.map Spot.cells:=by unfold cat;rw[List.take_of_length_le h]
theorem c_Concat (parts:List (List Spot)) (h1:1≤parts.flatten.length) (h2:parts.flatten.length≤1000) (h3:parts.length≤1000):PureCall Tryz.prog 125 [partsAV parts] (.lst 2 (parts.flatten.map Spot.cells)):=by
 unfold partsAV;refine PureCall.of_body Tryz.func125 rfl (by decide) (by simp[Tryz.ntmps125]) ?_;simp only[Tryz.ntmps125,Tryz.results125];refine aS fun K hK=>?_;simp -dsimp;apply hK;clear hK K;refine aS fun K hK=>?_;simp -dsimp;apply hK;clear hK K;refine awp_seq_k fun K1 hK1=>?_;refine aS fun K hK=>?_;simp -dsimp;apply hK;clear hK K;refine awp_block ?_;refine awp_prune [0,3,9,10,11] ?_;simp only[zP,Nat.reduceEqDiff,reduceIte];refine awp_loop_l [0,9,10] (α:=Nat) (fun k=>[(3,I (tot parts k:Nat)),(11,I k)]) (fun _=>[]) (fun k=>k≤parts.length) (fun k=>parts.length-k) 0 ?_ ?_ ?_
 ·simp
 ·exact sub_same (by simp[tot_zero])
 rintro k k1;simp only[zP,Nat.reduceEqDiff,reduceIte];refine aS fun K hK=>?_;simp -dsimp;apply hK;clear hK K;refine awp_seq_k fun K2 hK2=>?_;refine awp_cond rfl (fun hc0=>?_) (fun hc0=>?_)
 ·skip
  try simp at hc0
  obtain⟨q,hq⟩:∃q,parts[k]?=some q:=⟨_,List.getElem?_eq_getElem hc0⟩;have hs:=tot_succ hq;have hle:=tot_le parts (k+1);have w1:IntKind.i64.wrap ((tot parts k:Int)+(q.length:Int))=(tot parts (k+1):Nat):=by rw[wrap_in (by omega) (by omega)];omega
  have wk:=zW k (by omega);have wn:¬((tot parts (k+1):Nat):Int)<0:=by omega
  refine awp_skip ?_;simp only[zT,reduceIte,Nat.reduceEqDiff];refine hK2 _ _ ?_;refine awp_prune [0,3,9,10,11] ?_;simp only[zP,Nat.reduceEqDiff,reduceIte];refine awp_seq_k fun K3 hK3=>?_;refine awp_block ?_;refine aS fun K hK=>?_;simp -dsimp [hq];apply hK;clear hK K;refine aS fun K hK=>?_;simp -dsimp [w1];apply hK;clear hK K;refine aS fun K hK=>?_;simp -dsimp [wn];apply hK;clear hK K;refine awp_cond rfl (fun hc1=>?_) (fun hc1=>?_)
  ·simp at hc1
  ·refine awp_skip ?_;simp only[zT,reduceIte,Nat.reduceEqDiff];refine hK3 _ _ ?_;refine awp_prune [0,3,9,10,11] ?_;simp only[zP,Nat.reduceEqDiff,reduceIte];refine aR fun K hK=>?_;simp -dsimp [wk];apply hK;clear hK K;simp only[zT,reduceIte,Nat.reduceEqDiff];exact⟨k+1,by omega,by omega,sub_same (by simp)⟩
 ·skip
  try simp at hc0
  have hk:tot parts k=parts.flatten.length:=tot_all (by omega);refine awp_exit ?_;simp only[zT,reduceIte,Nat.reduceEqDiff];refine hK1 _ _ ?_;refine awp_prune [0,3] ?_;simp only[zP,Nat.reduceEqDiff,reduceIte];refine aS fun K hK=>?_;simp -dsimp;refine callK_own (c_Grow (tot parts k:Nat) (by omega) (by omega)) ?_;simp -dsimp;apply hK;clear hK K;refine awp_seq_k fun K4 hK4=>?_;refine aS fun K hK=>?_;simp -dsimp;apply hK;clear hK K;refine awp_block ?_;refine awp_prune [6,25,26,27] ?_;simp only[zP,Nat.reduceEqDiff,reduceIte];refine awp_loop_l [25,26] (α:=Nat×List (List AV)) (fun x=>[(6, .row 0 0 (tot parts x.1)),(27,I x.1)]) (fun x=>[some (.els 2 x.2)]) (fun x=>x.1≤parts.length∧x.2.take (tot parts x.1)=cat parts x.1∧tot parts x.1≤x.2.length) (fun x=>parts.length-x.1) (0,List.replicate (tot parts k) [I 0,I 0]) ?_ ?_ ?_
  ·simp[tot_zero,cat]
  ·exact sub_same (by simp[tot_zero])
  rintro⟨k,es⟩ ⟨k1,k2,k3⟩;simp only at k1 k2 k3;simp only[zP,Nat.reduceEqDiff,reduceIte];refine aS fun K hK=>?_;simp -dsimp;apply hK;clear hK K;refine awp_seq_k fun K5 hK5=>?_;refine awp_cond rfl (fun hc2=>?_) (fun hc2=>?_)
  ·skip
   try simp at hc2
   obtain⟨q,hq⟩:∃q,parts[k]?=some q:=⟨_,List.getElem?_eq_getElem hc2⟩;have hs:=tot_succ hq;have hle:=tot_le parts (k+1);have hcl:=cat_len parts k;have wk:=zW k (by omega);have f1:Fits (tot parts k+q.length) 17:=fits_of (by omega) (by omega);refine awp_skip ?_;simp only[zT,reduceIte,Nat.reduceEqDiff];refine hK5 _ _ ?_;refine awp_prune [6,25,26,27] ?_;simp only[zP,Nat.reduceEqDiff,reduceIte];refine awp_seq_k fun K6 hK6=>?_;refine awp_block ?_;refine aS fun K hK=>?_;simp -dsimp [hq];apply hK;clear hK K;refine aR fun K hK=>?_;simp -dsimp [k2,k3,hcl,f1];apply hK;clear hK K;simp only[zT,reduceIte,Nat.reduceEqDiff];refine hK6 _ _ ?_;refine awp_prune [6,25,26,27] ?_;simp only[zP,Nat.reduceEqDiff,reduceIte];refine aR fun K hK=>?_;simp -dsimp [wk];apply hK;clear hK K;simp only[zT,reduceIte,Nat.reduceEqDiff];exact⟨(k+1,cat parts (k+1)),⟨by omega,by rw[List.take_of_length_le (by rw[cat_len];exact Nat.le_refl _)],by rw[cat_len];exact Nat.le_refl _⟩,by simp;omega,sub_rb [some 1] rfl (by simp[hs]) (by simp[cat_succ hq,cat_ren,Function.comp_def])⟩
  ·skip
   try simp at hc2
   refine awp_exit ?_;simp only[zT,reduceIte,Nat.reduceEqDiff];refine hK4 _ _ ?_;refine awp_prune [6] ?_;simp only[zP,Nat.reduceEqDiff,reduceIte];refine aS fun K hK=>?_;simp -dsimp;apply hK;clear hK K;exact awp_ret (by simp[k2,k3,cat_frz];rw[cat_all hc2,List.map_flatten])
end Go.Tram
end
section
namespace Go.Tram
open Go.AM Go.Proofs
theorem c_tline (p:Plan) (r:Rail) (hf:0≤r.From∧r.From<p.Nodes.length) (ht:0≤r.To∧r.To<p.Nodes.length) (hs:r.Shape.length≤900):
  PureCall Tryz.prog 83 [p.av,r.av] (.lst 2 ((lineOf p r).map Spot.cells)):=by
 have e2:p.Nodes[r.From.toNat]?=some (p.node r.From):=Plan.node_get hf.1 hf.2;have e3:p.Nodes[r.To.toNat]?=some (p.node r.To):=Plan.node_get ht.1 ht.2;have hc:=(c_Concat [[(p.node r.From).Spot],r.Shape,[(p.node r.To).Spot]] (by simp) (by simp;omega) (by simp)).wk (args:=[.full 1 [[.full 2 [[I (p.node r.From).Spot.X,I (p.node r.From).Spot.Y]]],[.lst 2 (r.Shape.map Spot.cells)],[.full 2 [[I (p.node r.To).Spot.X,I (p.node r.To).Spot.Y]]]]]) (by simp[AM.wk,partsAV,Function.comp_def]);refine PureCall.of_body Tryz.func83 rfl (by decide) (by simp[Tryz.ntmps83]) ?_;simp only[Tryz.ntmps83,Tryz.results83];refine aS fun K hK=>?_;simp -dsimp;apply hK;clear hK K;refine awp_sd mixed rfl fun K hK=>?_;simp -dsimp [e2,e3,hf.1,ht.1];refine callK_intro _ (hc) (by simp) ?_;simp -dsimp [e2,e3,hf.1,ht.1];refine hK _ _ _ (by decide+kernel) ?_;clear hK K;exact awp_ret (by simp[lineOf])
theorem c_tspot (s:Spot):PureCall Tryz.prog 161 [s.av] (Bo (spotB s)):=by
 refine PureCall.of_body Tryz.func161 rfl (by decide) (by simp[Tryz.ntmps161]) ?_;simp only[Tryz.ntmps161,Tryz.results161];refine aS fun K hK=>?_;simp -dsimp;apply hK;clear hK K;refine aS fun K hK=>?_;simp -dsimp;refine callK_intro _ (c_within _ _ _) (by simp) ?_;simp -dsimp;refine callK_may _ (fun hm=>c_within _ _ _) (by simp) ?_;simp -dsimp;apply hK;clear hK K;exact awp_ret (by simp[spotB])
theorem c_sizes:PureCall Tryz.prog 162 [] (.agg [I 0,I 1,I 2,I 4,I 3,I 3,I 3]):=by
 refine PureCall.of_body Tryz.func162 rfl (by decide) (by simp[Tryz.ntmps162]) ?_;simp only[Tryz.ntmps162,Tryz.results162];refine aS fun K hK=>?_;simp -dsimp;apply hK;clear hK K;refine aS fun K hK=>?_;simp -dsimp [Value.oneCell'];apply hK;clear hK K;exact awp_ret (by simp)
theorem c_ending (p:Plan) (e:REnd) (h0:0≤e.Rail) (h1:e.Rail<p.Rails.length):PureCall Tryz.prog 87 [p.av,e.av] (I (p.at e)):=by
 have e1:p.Rails[e.Rail.toNat]?=some (p.rail e.Rail):=Plan.rail_get h0 h1;refine PureCall.of_body Tryz.func87 rfl (by decide) (by simp[Tryz.ntmps87]) ?_;simp only[Tryz.ntmps87,Tryz.results87];refine aS fun K hK=>?_;simp -dsimp;apply hK;clear hK K;refine awp_seq_k fun K1 hK1=>?_;refine aS fun K hK=>?_;simp -dsimp;apply hK;clear hK K;refine awp_cond rfl (fun hc0=>?_) (fun hc0=>?_)
 ·skip
  try simp at hc0
  refine aS fun K hK=>?_;simp -dsimp [e1,h0];apply hK;clear hK K;exact awp_ret (by simp[Plan.at,hc0])
 ·skip
  try simp at hc0
  refine awp_skip ?_;simp only[zT,reduceIte,Nat.reduceEqDiff];refine hK1 _ _ ?_;refine awp_prune [2,3] ?_;simp only[zP,Nat.reduceEqDiff,reduceIte];refine aS fun K hK=>?_;simp -dsimp [e1,h0];apply hK;clear hK K;exact awp_ret (by simp[Plan.at,hc0])
theorem c_Sqrt (n:Nat) (h:n<2^50):∃r x:Nat,PureCall Tryz.prog 165 [.v (.float .f64 (FloatKind.f64.nearest n))] (.v (.float .f64 r))∧floatToIntVal .f64 r .i64=some (x:Int)∧x≤2^30:=by
 obtain⟨r,x,h1,h2,h3⟩:=Sq.sqrt_bd h;have hs:PureCall Tryz.prog 205 [.v (.float .f64 (FloatKind.f64.nearest n))] (.v (.float .f64 r)):=by
  refine PureCall.of_ext (us:=[.float .f64 (FloatKind.f64.nearest n)]) (e:=Extern.MathSqrt.sqrt) Tryz.func205 (by rfl) (by rfl) (by rfl) (by rfl) (fun w=>?_);have e:Extern.MathSqrt.sqrt #[.float .f64 (FloatKind.f64.nearest n)]=(match FloatKind.f64.format.sqrt (FloatKind.f64.nearest n)with
   |some r=>pure (.float .f64 r)
   |none=>do pure (.float .f64 (←choose (.nanBits .f64 (FloatKind.f64.nearest n) (FloatKind.f64.nearest n))))):=rfl
  rw[h1]at e;show(Extern.MathSqrt.sqrt #[.float .f64 (FloatKind.f64.nearest n)]).run _ w=_;rw[e]
  rfl
 refine⟨r,x,?_,h2,h3⟩;refine PureCall.of_body Tryz.func165 rfl (by decide) (by simp[Tryz.ntmps165]) ?_;simp only[Tryz.ntmps165,Tryz.results165];refine aS fun K hK=>?_;simp -dsimp;apply hK;clear hK K;refine aS fun K hK=>?_;simp -dsimp;refine callK_intro _ (hs) (by simp) ?_;simp -dsimp;apply hK;clear hK K;exact awp_ret (by simp)
theorem und_int:(Tryz.prog).underlying 3=some (.int .i64):=by kernel_rfl
theorem und_f64:(Tryz.prog).underlying 292=some (.float .f64):=by kernel_rfl
theorem conv_if (n:Int) (w:World):(convert 3 292 (.int .i64 n)).run Tryz.prog w= .ok (.float .f64 (FloatKind.f64.nearest n)) w:=by
 simp[convert,run_underlying und_int,run_underlying und_f64,Conv.intToFloat]
theorem sq_le {a b:Int} (h0:0≤a) (h:a≤b):a*a≤b*b:=Int.mul_le_mul h h h0 (by omega)
theorem c_troot (n:Int) (h0:0≤n) (h1:n<1000000000000000):PureCall Tryz.prog 126 [I n] (I (isq n)):=by
 obtain⟨m,rfl⟩:∃m:Nat,n=m:=⟨n.toNat,by omega⟩;obtain⟨r,x,hs,hx,hxb⟩:=c_Sqrt m (by omega);have hsq:=isq_spec h0;obtain⟨s1,s2,s3⟩:=hsq;generalize hq:isq (m:Int)=q at s1 s2 s3;have hqb:q≤40000000:=by
  rcases Int.lt_or_le 40000000 q with h|h
  ·have:=sq_le (by omega) (Int.le_of_lt h);omega
  ·exact h
 refine PureCall.of_body Tryz.func126 rfl (by decide) (by simp[Tryz.ntmps126]) ?_;simp only[Tryz.ntmps126,Tryz.results126];refine aS fun K hK=>?_;simp -dsimp;apply hK;clear hK K;refine aS fun K hK=>?_;simp -dsimp;refine⟨_,conv_if m,?_⟩;simp;refine callK_intro _ (hs) (by simp) ?_;simp -dsimp;refine⟨_,fun w=>run_convert_float_int w _ _ .f64 .i64 r x (by rw[und_f64];rfl) und_int hx,?_⟩
 try simp
 apply hK;clear hK K;refine awp_seq_k fun K1 hK1=>?_;refine awp_block ?_;refine awp_prune [0,3] ?_;simp only[zP,Nat.reduceEqDiff,reduceIte];refine awp_loop_l [0] (α:=Int) (fun x=>[(3,I x)]) (fun _=>[]) (fun x=>0≤x∧x≤1100000000) (fun x=>x.toNat) (x:Int) ?_ ?_ ?_
 ·omega
 ·exact sub_same (by simp)
 rintro y ⟨y1,y2⟩;have b1:=mul_bd (a:=y) (b:=y) (A:=1100000000) (B:=1100000000) (by omega) (by omega) (by omega) (by omega);have w1:IntKind.i64.wrap (y*y)=y*y:=wrap_in (by omega) (by omega);have w2:IntKind.i64.wrap (y-1)=y-1:=wrap_in (by omega) (by omega);simp only[zP,Nat.reduceEqDiff,reduceIte];refine awp_seq_k fun K2 hK2=>?_;refine aS fun K hK=>?_;simp -dsimp [w1];apply hK;clear hK K;refine awp_cond rfl (fun hc0=>?_) (fun hc0=>?_)
 ·skip
  try simp at hc0
  have y0:y≠0:=by rintro rfl;simp at hc0;omega
  refine awp_skip ?_;simp only[zT,reduceIte,Nat.reduceEqDiff];refine hK2 _ _ ?_;refine awp_prune [0,3] ?_;simp only[zP,Nat.reduceEqDiff,reduceIte];refine awp_block ?_;refine aR fun K hK=>?_;simp -dsimp [w2];apply hK;clear hK K;simp only[zT,reduceIte,Nat.reduceEqDiff];exact⟨y-1,⟨by omega,by omega⟩,by omega,sub_same (by simp)⟩
 ·skip
  try simp at hc0
  have hyq:y≤q:=by
   rcases Int.lt_or_le q y with h|h
   ·have:=sq_le (a:=q+1) (b:=y) (by omega) (by omega);omega
   ·exact h
  refine awp_exit ?_;simp only[zT,reduceIte,Nat.reduceEqDiff];refine hK1 _ _ ?_;refine awp_prune [0,3] ?_;simp only[zP,Nat.reduceEqDiff,reduceIte];refine awp_seq_k fun K3 hK3=>?_;refine awp_block ?_;refine awp_prune [0,3] ?_;simp only[zP,Nat.reduceEqDiff,reduceIte];refine awp_loop_l [0] (α:=Int) (fun x=>[(3,I x)]) (fun _=>[]) (fun x=>0≤x∧x≤q) (fun x=>(q-x).toNat) y ?_ ?_ ?_
  ·omega
  ·exact sub_same (by simp)
  rintro z ⟨z1,z2⟩;have b2:=mul_bd (a:=z+1) (b:=z+1) (A:=1100000000) (B:=1100000000) (by omega) (by omega) (by omega) (by omega);have w3:IntKind.i64.wrap (z+1)=z+1:=wrap_in (by omega) (by omega);have w4:IntKind.i64.wrap ((z+1)*(z+1))=(z+1)*(z+1):=wrap_in (by omega) (by omega);simp only[zP,Nat.reduceEqDiff,reduceIte];refine awp_seq_k fun K4 hK4=>?_;refine aS fun K hK=>?_;simp -dsimp [w3,w4];apply hK;clear hK K;refine awp_cond rfl (fun hc1=>?_) (fun hc1=>?_)
  ·skip
   try simp at hc1
   have hzq:z+1≤q:=by
    rcases Int.lt_or_le q (z+1)with h|h
    ·have:=sq_le (a:=q+1) (b:=z+1) (by omega) (by omega);omega
    ·exact h
   refine awp_skip ?_;simp only[zT,reduceIte,Nat.reduceEqDiff];refine hK4 _ _ ?_;refine awp_prune [0,3] ?_;simp only[zP,Nat.reduceEqDiff,reduceIte];refine awp_block ?_;refine aR fun K hK=>?_;simp -dsimp [w3];apply hK;clear hK K;simp only[zT,reduceIte,Nat.reduceEqDiff];exact⟨z+1,⟨by omega,by omega⟩,by omega,sub_same (by simp)⟩
  ·skip
   try simp at hc1
   have hzq:z=q:=by
    rcases Int.lt_or_le z q with h|h
    ·have:=sq_le (a:=z+1) (b:=q) (by omega) (by omega);omega
    ·omega
   refine awp_exit ?_;simp only[zT,reduceIte,Nat.reduceEqDiff];refine hK3 _ _ ?_;refine awp_prune [3] ?_;simp only[zP,Nat.reduceEqDiff,reduceIte];refine aS fun K hK=>?_;simp -dsimp;apply hK;clear hK K;exact awp_ret (by simp[hq,hzq])
end Go.Tram
end
section
namespace Go.Tram
open Go.AM Go.Proofs
theorem c_span (a b:Spot) (ha:spotB a=true) (hb:spotB b=true):PureCall Tryz.prog 84 [a.av,b.av] (I (far a b)):=by
 have hs:=sqd_bd ha hb;have ha':=spotB_iff.1 ha;have hb':=spotB_iff.1 hb;have w1:IntKind.i64.wrap (a.X-b.X)=a.X-b.X:=wrap_in (by omega) (by omega);have w2:IntKind.i64.wrap (a.Y-b.Y)=a.Y-b.Y:=wrap_in (by omega) (by omega);have h1:=mul_bd (a:=a.X-b.X) (b:=a.X-b.X) (A:=20000000) (B:=20000000) (by omega) (by omega) (by omega) (by omega);have h2:=mul_bd (a:=a.Y-b.Y) (b:=a.Y-b.Y) (A:=20000000) (B:=20000000) (by omega) (by omega) (by omega) (by omega);have w3:IntKind.i64.wrap ((a.X-b.X)*(a.X-b.X))=(a.X-b.X)*(a.X-b.X):=wrap_in (by omega) (by omega);have w4:IntKind.i64.wrap ((a.Y-b.Y)*(a.Y-b.Y))=(a.Y-b.Y)*(a.Y-b.Y):=wrap_in (by omega) (by omega);have w5:IntKind.i64.wrap ((a.X-b.X)*(a.X-b.X)+(a.Y-b.Y)*(a.Y-b.Y))=sqd a b:=wrap_in (by unfold sqd at hs;omega) (by unfold sqd at hs;omega);refine PureCall.of_body Tryz.func84 rfl (by decide) (by simp[Tryz.ntmps84]) ?_;simp only[Tryz.ntmps84,Tryz.results84];refine aS fun K hK=>?_;simp -dsimp [w1,w2,w3,w4,w5];apply hK;clear hK K;refine awp_sd mixed rfl fun K hK=>?_;simp -dsimp [w1,w2,w3,w4,w5];refine hK _ _ _ (by decide+kernel) ?_;clear hK K;refine aS fun K hK=>?_;simp -dsimp [w1,w2,w3,w4,w5];refine callK_intro _ (c_troot _ hs.1 (by omega)) (by simp) ?_;simp -dsimp [w1,w2,w3,w4,w5];apply hK;clear hK K;exact awp_ret (by simp[far])
theorem sizes_get {k:Int} (h1:1≤k) (h6:k≤6):(List.take 1 (List.drop k.toNat [I 0,I 1,I 2,I 4,I 3,I 3,I 3])).head?.getD AV.any=I (endsN k):=by
 have:k=1∨k=2∨k=3∨k=4∨k=5∨k=6:=by omega
 rcases this with rfl|rfl|rfl|rfl|rfl|rfl<;>rfl
theorem c_tnode (n:Node):PureCall Tryz.prog 119 [n.av] (Bo (nodeB n)):=by
 refine PureCall.of_body Tryz.func119 rfl (by decide) (by simp[Tryz.ntmps119]) ?_;simp only[Tryz.ntmps119,Tryz.results119];refine aS fun K hK=>?_;simp -dsimp;apply hK;clear hK K;refine awp_seq_k fun K1 hK1=>?_;refine awp_sd mixed rfl fun K hK=>?_;simp -dsimp;refine callK_may _ (fun hm=>c_tspot n.Spot) (by simp) ?_;simp -dsimp;refine callK_may _ (fun hm=>c_sizes) (by simp) ?_;simp -dsimp;refine⟨by omega,valK_intro (I (endsN n.Kind)) (fun hm=>by simp at hm;exact sizes_get (by omega) (by omega)) ?_⟩;simp;refine hK _ _ _ (by decide+kernel) ?_;clear hK K;refine awp_cond rfl (fun hc0=>?_) (fun hc0=>?_)
 ·skip
  try simp at hc0
  refine aS fun K hK=>?_;simp -dsimp;apply hK;clear hK K;refine awp_ret ?_;have:nodeB n=false:=by
   cases hq:nodeB n with
   |false=>rfl
   |true=>
    simp[nodeB]at hq;have hk:1≤n.Kind∧n.Kind≤6:=by have:=hq.2.2.1;unfold endsN at this;repeat (split at this;omega);omega
    simp[hq]at hc0;omega
  simp[this]
 ·skip
  try simp at hc0
  have he:endsN n.Kind≠0:=by have:=hc0.1.1;unfold endsN;repeat (split;omega);omega
  refine awp_skip ?_;simp only[zT,reduceIte,Nat.reduceEqDiff];refine hK1 _ _ ?_;refine awp_prune [1] ?_;simp only[zP,Nat.reduceEqDiff,reduceIte];refine awp_seq_k fun K2 hK2=>?_;refine aS fun K hK=>?_;simp -dsimp;apply hK;clear hK K;refine awp_cond rfl (fun hc1=>?_) (fun hc1=>?_)
  ·skip
   try simp at hc1
   refine aS fun K hK=>?_;simp -dsimp;refine callK_intro _ (c_within _ _ _) (by simp) ?_;simp -dsimp;apply hK;clear hK K;refine awp_ret ?_;simp[nodeB,hc0,hc1,he]
  ·skip
   try simp at hc1
   refine awp_skip ?_;simp only[zT,reduceIte,Nat.reduceEqDiff];refine hK2 _ _ ?_;refine awp_prune [1] ?_;simp only[zP,Nat.reduceEqDiff,reduceIte];refine aS fun K hK=>?_;simp -dsimp;apply hK;clear hK K;refine awp_ret ?_;simp[nodeB,hc0,hc1,he];exact Bool.eq_iff_iff.2 (by simp)
theorem railA_iff {p:Plan} {r:Rail} (h:railA p r=true):(0≤r.From∧r.From<p.Nodes.length)∧(0≤r.To∧r.To<p.Nodes.length)∧r.Shape.length≤30:=by
 simp only[railA,Bool.and_eq_true,inr_iff,decide_eq_true_eq]at h;omega
theorem railB_line {p:Plan} {r:Rail} (hA:p.Nodes.all nodeB=true):railB p r=(railA p r&&((lineOf p r).all spotB&&(List.range (r.Shape.length+1)).all (segB (lineOf p r)))):=by
 cases h:railA p r with
 |false=>simp[railB,h]
 |true=>
  obtain⟨h1,h2,_⟩:=railA_iff h;have sF:=nodeB_spot (node_ends hA (i:=r.From) h1.1 h1.2);have sT:=nodeB_spot (node_ends hA (i:=r.To) h2.1 h2.2);simp only[railB,h,lineOf,List.all_cons,List.all_append,List.all_nil,sF,sT,Bool.true_and,Bool.and_true]
theorem lineOf_len (p:Plan) (r:Rail):(lineOf p r).length=r.Shape.length+2:=by simp[lineOf]
theorem c_trail (p:Plan) (r:Rail) (hA:p.Nodes.all nodeB=true) (hN:p.Nodes.length≤300):PureCall Tryz.prog 122 [p.av,r.av] (Bo (railB p r)):=by
 have wn:IntKind.i64.wrap ((p.Nodes.length:Int)-1)=(p.Nodes.length:Int)-1:=wrap_in (by omega) (by omega);have hl:=lineOf_len p r;refine PureCall.of_body Tryz.func122 rfl (by decide) (by simp[Tryz.ntmps122]) ?_;simp only[Tryz.ntmps122,Tryz.results122];refine aS fun K hK=>?_;simp -dsimp;apply hK;clear hK K;refine awp_seq_k fun K1 hK1=>?_;refine aS fun K hK=>?_;simp -dsimp [wn];refine callK_intro _ (c_within _ _ _) (by simp) ?_;simp -dsimp [wn];refine callK_may _ (fun hm=>c_within _ _ _) (by simp) ?_;simp -dsimp [wn];refine callK_may _ (fun hm=>c_within _ _ _) (by simp) ?_;simp -dsimp [wn];refine callK_may _ (fun hm=>c_within _ _ _) (by simp) ?_;simp -dsimp [wn];apply hK;clear hK K;refine awp_cond rfl (fun hc0=>?_) (fun hc0=>?_)
 ·skip
  try simp at hc0
  refine aS fun K hK=>?_;simp -dsimp;apply hK;clear hK K;refine awp_ret ?_;have hra:railA p r=false:=by
   cases hq:railA p r with
   |false=>rfl
   |true=>simp[railA]at hq;simp[hq,wn]at hc0;omega
  simp[railB,hra]
 ·skip
  try simp at hc0
  have hra:railA p r=true:=by simp[railA,hc0];omega
  obtain⟨hF,hT,hsl⟩:=railA_iff hra;refine awp_skip ?_;simp only[zT,reduceIte,Nat.reduceEqDiff];refine hK1 _ _ ?_;refine awp_prune [2,3] ?_;simp only[zP,Nat.reduceEqDiff,reduceIte];refine aS fun K hK=>?_;simp -dsimp;refine callK_intro _ (c_tline p r hF hT (by omega)) (by simp) ?_;simp -dsimp;apply hK;clear hK K;refine awp_seq_k fun K2 hK2=>?_;refine aS fun K hK=>?_;simp -dsimp;apply hK;clear hK K;refine awp_block ?_;refine awp_prune [5,47,48,49] ?_;simp only[zP,Nat.reduceEqDiff,reduceIte];refine awp_loop_l [5,47,48] (α:=Nat) (fun k=>[(49,I k)]) (fun _=>[some (.els 2 [p.cells]),some (.els 5 [r.cells])]) (fun k=>k≤(lineOf p r).length∧∀m,m<k→spotB (nth (lineOf p r) m)=true∧(0<m→segB (lineOf p r) (m-1)=true)) (fun k=>(lineOf p r).length-k) 0 ?_ ?_ ?_
  ·exact⟨by omega,fun m hm=>by omega⟩
  ·exact sub_same (by simp)
  rintro k ⟨k1,k2⟩;simp only[zP,Nat.reduceEqDiff,reduceIte];refine aS fun K hK=>?_;simp -dsimp;apply hK;clear hK K;refine awp_seq_k fun K3 hK3=>?_;refine awp_cond rfl (fun hc1=>?_) (fun hc1=>?_)
  ·skip
   try simp at hc1
   have g0:=nth_get (l:=lineOf p r) (k:=k) (by omega);have wk:=zW k (by omega);have wm:0<k→IntKind.i64.wrap ((k:Int)-1)=((k-1:Nat):Int):=fun h=>by rw[wrap_in (by omega) (by omega)];omega
   refine awp_skip ?_;simp only[zT,reduceIte,Nat.reduceEqDiff];refine hK3 _ _ ?_;refine awp_prune [5,47,48,49] ?_;simp only[zP,Nat.reduceEqDiff,reduceIte];refine awp_seq_k fun K4 hK4=>?_;refine awp_block ?_;refine aS fun K hK=>?_;simp -dsimp [g0];apply hK;clear hK K;refine awp_sd mixed rfl fun K hK=>?_;simp -dsimp;refine callK_intro _ (c_tspot (nth (lineOf p r) k)) (by simp) ?_;simp -dsimp;refine⟨fun _ h=>by rw[wm h];omega,idxK_intro (Spot.cells (nth (lineOf p r) (k-1))) (fun hm=>by simp at hm;rw[wm hm.2];simp[nth_get (l:=lineOf p r) (k:=k-1) (by omega)]) ?_⟩;simp;refine callK_may _ (fun hm=>c_span (nth (lineOf p r) (k-1)) (nth (lineOf p r) k) (by simp at hm;exact(k2 (k-1) (by omega)).1) (by simp at hm;exact hm.1)) (by simp) ?_;simp -dsimp;refine callK_may _ (fun hm=>c_within _ _ _) (by simp) ?_;simp -dsimp;refine hK _ _ _ (by decide+kernel) ?_;clear hK K;refine awp_cond rfl (fun hc2=>?_) (fun hc2=>?_)
   ·skip
    try simp at hc2
    have hB:railB p r=false:=by
     rw[railB_line hA]
     by_cases hs:spotB (nth (lineOf p r) k)=true
     ·have h3:0<k∧inr (far (nth (lineOf p r) (k-1)) (nth (lineOf p r) k)) 1 1000000=false:=by simp[hs]at hc2;exact hc2
      have hseg:segB (lineOf p r) (k-1)=false:=by simp only[segB,segLen];rw[show k-1+1=k by omega];exact h3.2
      have:(List.range (r.Shape.length+1)).all (segB (lineOf p r))=false:=by rw[List.all_eq_false];exact⟨k-1,by simp;omega,by simp[hseg]⟩
      simp[this]
     ·have:(lineOf p r).all spotB=false:=all_ff g0 (by simpa using hs);simp only[this,Bool.false_and,Bool.and_false]
    refine aS fun K hK=>?_;simp -dsimp;apply hK;clear hK K;exact awp_ret (by simp[hB])
   ·skip
    try simp at hc2
    refine awp_skip ?_;simp only[zT,reduceIte,Nat.reduceEqDiff];refine hK4 _ _ ?_;refine awp_prune [5,47,48,49] ?_;simp only[zP,Nat.reduceEqDiff,reduceIte];refine aR fun K hK=>?_;simp -dsimp [wk];apply hK;clear hK K;simp only[zT,reduceIte,Nat.reduceEqDiff];refine⟨k+1,⟨by omega,fun m hm=>?_⟩,by omega,sub_rb [some 0,some 1] rfl (by simp) (by simp[Function.comp_def])⟩
    by_cases hmk:m<k
    ·exact k2 m hmk
    ·obtain rfl:m=k:=by omega
     refine⟨hc2.1,fun h=>?_⟩;simp only[segB,segLen];rw[show m-1+1=m by omega];exact hc2.2 h
  ·skip
   try simp at hc1
   have hB:railB p r=true:=by
    rw[railB_line hA,hra];simp only[Bool.true_and,Bool.and_eq_true,List.all_eq_true,List.mem_range];refine⟨fun s hs=>?_,fun m hm=>?_⟩
    ·obtain⟨m,hm⟩:=List.getElem?_of_mem hs;have hml:=(List.getElem?_eq_some_iff.1 hm).1;have:=(k2 m (by omega)).1;rw[nth_get hml]at hm;simp only[Option.some.injEq]at hm
     rwa [hm]at this
    ·exact(k2 (m+1) (by omega)).2 (by omega)
   refine awp_exit ?_;simp only[zT,reduceIte,Nat.reduceEqDiff];refine hK2 _ _ ?_;refine awp_prune [] ?_;simp only[zP,Nat.reduceEqDiff,reduceIte];refine aS fun K hK=>?_;simp -dsimp;apply hK;clear hK K;exact awp_ret (by simp[hB])
end Go.Tram
end
section
namespace Go.Tram
open Go.AM Go.Proofs
def ipts:List (List AV)→List AV
 |[]=>[]
 |c::cs=> .iptr c::ipts cs
@[simp] theorem ipts_frz (H:Nat→Option ARow) (n:Nat):∀cl:List (List AV),(ipts cl).map (frz H n)=ipts cl
 |[]=>rfl
 |c::cs=>by simp only[ipts,List.map_cons,ipts_frz H n cs,List.cons.injEq,and_true];cases n<;>rfl
@[simp] theorem ipts_noRef (n:Nat):∀cl:List (List AV),(ipts cl).all (AV.noRef n)=true
 |[]=>rfl
 |c::cs=>by simp only[ipts,List.all_cons,ipts_noRef n cs,Bool.and_true];cases n<;>rfl
@[simp] theorem ipts_rd (H:Nat→Option ARow) (n:Nat):∀cl:List (List AV),(ipts cl).flatMap (frzRd H n)=[]
 |[]=>rfl
 |c::cs=>by simp only[ipts,List.flatMap_cons,ipts_rd H n cs,List.append_nil];cases n<;>rfl
def firstI {α:Type} (l:List α) (q:α→Bool):Int:=match l.findIdx? q with|some i=>i|none=>-1
theorem firstI_none {α:Type} {l:List α} {q:α→Bool} (h:l.any q=false):firstI l q=-1:=by
 have:l.findIdx? q=none:=by
  rw[List.findIdx?_eq_none_iff];intro x hx;rw[List.any_eq_false]at h;simpa using h x hx
 unfold firstI;rw[this]
theorem firstI_hit {α:Type} {l:List α} {q:α→Bool} {k:Nat} {x:α} (hx:l[k]?=some x) (hq:q x=true) (hn:(l.take k).any q=false):firstI l q=k:=by
 obtain⟨hk,he⟩:=List.getElem?_eq_some_iff.1 hx;have:l.findIdx? q=some k:=by
  rw[List.findIdx?_eq_some_iff_getElem];refine⟨hk,by rw[he];exact hq,fun j hj=>?_⟩;rw[List.any_eq_false]at hn;have:=hn l[j] (by rw[List.mem_take_iff_getElem];exact⟨j,by omega,rfl⟩);simpa using this
 unfold firstI;rw[this]
theorem firstI_nn {α:Type} (l:List α) (q:α→Bool):decide (0≤firstI l q)=l.any q:=by
 cases h:l.any q with
 |false=>rw[firstI_none h];rfl
 |true=>
  rw[List.any_eq_true]at h;obtain⟨x,hx,hq⟩:=h;unfold firstI
  cases hi:l.findIdx? q with
  |none=>rw[List.findIdx?_eq_none_iff]at hi;exact absurd hq (by simp[hi x hx])
  |some i=>simp
theorem any_take {α:Type} {l:List α} {q:α→Bool} {k:Nat} {x:α} (h:l[k]?=some x):(l.take (k+1)).any q=((l.take k).any q||q x):=by
 rw[List.take_add_one,List.any_append,h];simp
theorem any_of_take {α:Type} {l:List α} {q:α→Bool} {k:Nat} (hk:l.length≤k) (h:(l.take k).any q=false):l.any q=false:=by rwa [List.take_of_length_le hk]at h
theorem c_Index_Node (l:List Node) (f:FuncId) (cl:List (List AV)) (q:Node→Bool) (h:∀x∈l,PureCall Tryz.prog f (.agg x.cells::ipts cl) (Bo (q x))) (hn:l.length≤100000):
  PureCall Tryz.prog 160 [.lst 5 (l.map Node.cells), .clo f (ipts cl)] (I (firstI l q)):=by
 refine PureCall.of_body Tryz.func160 rfl (by decide) (by simp[Tryz.ntmps160]) ?_;simp only[Tryz.ntmps160,Tryz.results160];refine aS fun K hK=>?_;simp -dsimp;apply hK;clear hK K;refine awp_seq_k fun K1 hK1=>?_;refine aS fun K hK=>?_;simp -dsimp;apply hK;clear hK K;refine awp_block ?_;refine awp_prune [0,1,7,8] ?_;simp only[zP,Nat.reduceEqDiff,reduceIte];refine awp_loop_l [0,1,7] (α:=Nat) (fun k=>[(8,I k)]) (fun _=>[]) (fun k=>k≤l.length∧(l.take k).any q=false) (fun k=>l.length-k) 0 ?_ ?_ ?_
 ·simp
 ·exact sub_same (by simp)
 rintro k ⟨k1,k2⟩;simp only[zP,Nat.reduceEqDiff,reduceIte];refine aS fun K hK=>?_;simp -dsimp;apply hK;clear hK K;refine awp_seq_k fun K2 hK2=>?_;refine awp_cond rfl (fun hc0=>?_) (fun hc0=>?_)
 ·skip
  try simp at hc0
  obtain⟨x,hx⟩:∃x,l[k]?=some x:=⟨_,List.getElem?_eq_getElem hc0⟩;have wk:=zW k (by omega);refine awp_skip ?_;simp only[zT,reduceIte,Nat.reduceEqDiff];refine hK2 _ _ ?_;refine awp_prune [0,1,7,8] ?_;simp only[zP,Nat.reduceEqDiff,reduceIte];refine awp_seq_k fun K3 hK3=>?_;refine awp_block ?_;refine aS fun K hK=>?_;simp -dsimp;apply hK;clear hK K;refine aS fun K hK=>?_;simp -dsimp [hx];refine callK_intro _ (h x (List.mem_of_getElem? hx)) (by simp) ?_;simp -dsimp [hx];apply hK;clear hK K;refine awp_cond rfl (fun hc1=>?_) (fun hc1=>?_)
  ·skip
   try simp at hc1
   refine aS fun K hK=>?_;simp -dsimp;apply hK;clear hK K;exact awp_ret (by simp[firstI_hit hx hc1 k2])
  ·skip
   try simp at hc1
   refine awp_skip ?_;simp only[zT,reduceIte,Nat.reduceEqDiff];refine hK3 _ _ ?_;refine awp_prune [0,1,7,8] ?_;simp only[zP,Nat.reduceEqDiff,reduceIte];refine aR fun K hK=>?_;simp -dsimp [wk];apply hK;clear hK K;simp only[zT,reduceIte,Nat.reduceEqDiff];exact⟨k+1,⟨by omega,by rw[any_take hx,k2,hc1];rfl⟩,by omega,sub_same (by simp)⟩
 ·skip
  try simp at hc0
  have hall:=any_of_take (by omega) k2;refine awp_exit ?_;simp only[zT,reduceIte,Nat.reduceEqDiff];refine hK1 _ _ ?_;refine awp_prune [] ?_;simp only[zP,Nat.reduceEqDiff,reduceIte];refine aS fun K hK=>?_;simp -dsimp;apply hK;clear hK K;exact awp_ret (by simp[firstI_none hall])
theorem c_Cont_Node (l:List Node) (f:FuncId) (cl:List (List AV)) (q:Node→Bool) (h:∀x∈l,PureCall Tryz.prog f (.agg x.cells::ipts cl) (Bo (q x))) (hn:l.length≤100000):
  PureCall Tryz.prog 117 [.lst 5 (l.map Node.cells), .clo f (ipts cl)] (Bo (l.any q)):=by
 refine PureCall.of_body Tryz.func117 rfl (by decide) (by simp[Tryz.ntmps117]) ?_;simp only[Tryz.ntmps117,Tryz.results117];refine aS fun K hK=>?_;simp -dsimp;apply hK;clear hK K;refine aS fun K hK=>?_;simp -dsimp;refine callK_intro _ (c_Index_Node l f cl q h hn) (by simp) ?_;simp -dsimp;apply hK;clear hK K;exact awp_ret (by simp[firstI_nn])
theorem c_Index_Rail (l:List Rail) (f:FuncId) (cl:List (List AV)) (q:Rail→Bool) (h:∀x∈l,PureCall Tryz.prog f (.agg x.cells::ipts cl) (Bo (q x))) (hn:l.length≤100000):
  PureCall Tryz.prog 163 [.lst 5 (l.map Rail.cells), .clo f (ipts cl)] (I (firstI l q)):=by
 refine PureCall.of_body Tryz.func163 rfl (by decide) (by simp[Tryz.ntmps163]) ?_;simp only[Tryz.ntmps163,Tryz.results163];refine aS fun K hK=>?_;simp -dsimp;apply hK;clear hK K;refine awp_seq_k fun K1 hK1=>?_;refine aS fun K hK=>?_;simp -dsimp;apply hK;clear hK K;refine awp_block ?_;refine awp_prune [0,1,7,8] ?_;simp only[zP,Nat.reduceEqDiff,reduceIte];refine awp_loop_l [0,1,7] (α:=Nat) (fun k=>[(8,I k)]) (fun _=>[]) (fun k=>k≤l.length∧(l.take k).any q=false) (fun k=>l.length-k) 0 ?_ ?_ ?_
 ·simp
 ·exact sub_same (by simp)
 rintro k ⟨k1,k2⟩;simp only[zP,Nat.reduceEqDiff,reduceIte];refine aS fun K hK=>?_;simp -dsimp;apply hK;clear hK K;refine awp_seq_k fun K2 hK2=>?_;refine awp_cond rfl (fun hc0=>?_) (fun hc0=>?_)
 ·skip
  try simp at hc0
  obtain⟨x,hx⟩:∃x,l[k]?=some x:=⟨_,List.getElem?_eq_getElem hc0⟩;have wk:=zW k (by omega);refine awp_skip ?_;simp only[zT,reduceIte,Nat.reduceEqDiff];refine hK2 _ _ ?_;refine awp_prune [0,1,7,8] ?_;simp only[zP,Nat.reduceEqDiff,reduceIte];refine awp_seq_k fun K3 hK3=>?_;refine awp_block ?_;refine aS fun K hK=>?_;simp -dsimp;apply hK;clear hK K;refine aS fun K hK=>?_;simp -dsimp [hx];refine callK_intro _ (h x (List.mem_of_getElem? hx)) (by simp) ?_;simp -dsimp [hx];apply hK;clear hK K;refine awp_cond rfl (fun hc1=>?_) (fun hc1=>?_)
  ·skip
   try simp at hc1
   refine aS fun K hK=>?_;simp -dsimp;apply hK;clear hK K;exact awp_ret (by simp[firstI_hit hx hc1 k2])
  ·skip
   try simp at hc1
   refine awp_skip ?_;simp only[zT,reduceIte,Nat.reduceEqDiff];refine hK3 _ _ ?_;refine awp_prune [0,1,7,8] ?_;simp only[zP,Nat.reduceEqDiff,reduceIte];refine aR fun K hK=>?_;simp -dsimp [wk];apply hK;clear hK K;simp only[zT,reduceIte,Nat.reduceEqDiff];exact⟨k+1,⟨by omega,by rw[any_take hx,k2,hc1];rfl⟩,by omega,sub_same (by simp)⟩
 ·skip
  try simp at hc0
  have hall:=any_of_take (by omega) k2;refine awp_exit ?_;simp only[zT,reduceIte,Nat.reduceEqDiff];refine hK1 _ _ ?_;refine awp_prune [] ?_;simp only[zP,Nat.reduceEqDiff,reduceIte];refine aS fun K hK=>?_;simp -dsimp;apply hK;clear hK K;exact awp_ret (by simp[firstI_none hall])
theorem c_Cont_Rail (l:List Rail) (f:FuncId) (cl:List (List AV)) (q:Rail→Bool) (h:∀x∈l,PureCall Tryz.prog f (.agg x.cells::ipts cl) (Bo (q x))) (hn:l.length≤100000):
  PureCall Tryz.prog 120 [.lst 5 (l.map Rail.cells), .clo f (ipts cl)] (Bo (l.any q)):=by
 refine PureCall.of_body Tryz.func120 rfl (by decide) (by simp[Tryz.ntmps120]) ?_;simp only[Tryz.ntmps120,Tryz.results120];refine aS fun K hK=>?_;simp -dsimp;apply hK;clear hK K;refine aS fun K hK=>?_;simp -dsimp;refine callK_intro _ (c_Index_Rail l f cl q h hn) (by simp) ?_;simp -dsimp;apply hK;clear hK K;exact awp_ret (by simp[firstI_nn])
theorem c_Check1 (n:Node):PureCall Tryz.prog 118 [.agg n.cells] (Bo (!nodeB n)):=by
 refine PureCall.of_body Tryz.func118 rfl (by decide) (by simp[Tryz.ntmps118]) ?_;simp only[Tryz.ntmps118,Tryz.results118];refine aS fun K hK=>?_;simp -dsimp;apply hK;clear hK K;refine aS fun K hK=>?_;simp -dsimp;refine callK_intro _ (c_tnode n) (by simp) ?_;simp -dsimp;apply hK;clear hK K;exact awp_ret (by simp)
theorem c_Check2 (p:Plan) (r:Rail) (hA:p.Nodes.all nodeB=true) (hN:p.Nodes.length≤300):PureCall Tryz.prog 121 [.agg r.cells, .iptr p.cells] (Bo (!railB p r)):=by
 refine PureCall.of_body Tryz.func121 rfl (by decide) (by simp[Tryz.ntmps121]) ?_;simp only[Tryz.ntmps121,Tryz.results121];refine aS fun K hK=>?_;simp -dsimp;apply hK;clear hK K;refine aS fun K hK=>?_;simp -dsimp;refine callK_intro _ (c_trail p r hA hN) (by simp) ?_;simp -dsimp;apply hK;clear hK K;exact awp_ret (by simp)
end Go.Tram
end
section
namespace Go.Tram
open Go.AM Go.Proofs
def keyOf (e:REnd):List KC:=[.i .i64 e.Rail, .b e.Last]
theorem keyOf_inj {a b:REnd}:keyOf a=keyOf b↔a=b:=by
 cases a;cases b;simp[keyOf]
def seenK (l:List (Nat×REnd)):List (List KC×Value):=l.map fun x=>(keyOf x.2,Value.bool true)
theorem kvGet_seen (e:REnd):∀l:List (Nat×REnd),kvGet (seenK l) [.i .i64 e.Rail, .b e.Last]=if e∈l.map (·.2)then some (.bool true)else none
 |[]=>by simp[seenK,kvGet]
 |x::l=>by
  have ih:=kvGet_seen e l;have hk:([.i .i64 e.Rail, .b e.Last]:List KC)=keyOf x.2↔e=x.2:=keyOf_inj (a:=e);simp only[seenK,List.map_cons,kvGet,List.mem_cons]at ih ⊢
  by_cases h:e=x.2
  ·rw[if_pos (hk.2 h),if_pos (Or.inl h)]
  ·rw[if_neg (fun q=>h (hk.1 q)),ih];simp only[h,false_or]
theorem kvSet_seen {e:REnd} {i:Nat}:∀{l:List (Nat×REnd)},e∉l.map (·.2)→kvSet (seenK l) [.i .i64 e.Rail, .b e.Last] (.bool true)=seenK (l++[(i,e)])
 |[],_=>by simp[seenK,kvSet,keyOf]
 |x::l,h=>by
  simp only[List.map_cons,List.mem_cons,not_or]at h;have ih:=kvSet_seen (i:=i) h.2;have hk:([.i .i64 e.Rail, .b e.Last]:List KC)=keyOf x.2↔e=x.2:=keyOf_inj (a:=e);simp only[seenK,List.map_cons,kvSet,List.cons_append]at ih ⊢;rw[if_neg (fun q=>h.1 (hk.1 q)),ih]
theorem c_Check (p:Plan):PureCall Tryz.prog 75 [p.av] (I (if validB p then 0 else 2)):=by
 refine PureCall.of_body Tryz.func75 rfl (by decide) (by simp[Tryz.ntmps75]) ?_;simp only[Tryz.ntmps75,Tryz.results75];refine aS fun K hK=>?_;simp -dsimp;apply hK;clear hK K;refine awp_seq_k fun K1 hK1=>?_;refine aS fun K hK=>?_;simp -dsimp;refine callK_intro _ (c_within _ _ _) (by simp) ?_;simp -dsimp;refine callK_may _ (fun hm=>c_within _ _ _) (by simp) ?_;simp -dsimp;apply hK;clear hK K;refine awp_cond rfl (fun hc0=>?_) (fun hc0=>?_)
 ·skip
  try simp at hc0
  have hv:validB p=false:=by simp[validB,validA];intro h1 h2;simp_all
  refine aS fun K hK=>?_;simp -dsimp;apply hK;clear hK K;exact awp_ret (by simp[hv])
 ·skip
  try simp at hc0
  have hN:=inr_iff.1 hc0.1;have hR:=inr_iff.1 hc0.2;refine awp_skip ?_;simp only[zT,reduceIte,Nat.reduceEqDiff];refine hK1 _ _ ?_;refine awp_prune [1] ?_;simp only[zP,Nat.reduceEqDiff,reduceIte];refine awp_seq_k fun K2 hK2=>?_;refine aS fun K hK=>?_;simp -dsimp;refine callK_intro _ (c_Cont_Node p.Nodes 118 [] (fun n=> !nodeB n) (fun n _=>c_Check1 n) (by omega)) (by simp) ?_;simp -dsimp;refine callK_may _ (fun hm=>c_Cont_Rail p.Rails 121 [p.cells] (fun r=> !railB p r) (fun r _=>c_Check2 p r (by simp at hm;exact List.all_eq_true.2 hm) (by omega)) (by omega)) (by simp) ?_;simp -dsimp;apply hK;clear hK K;refine awp_cond rfl (fun hc1=>?_) (fun hc1=>?_)
  ·have hv:validB p=false:=by
    cases hq:validB p with
    |false=>rfl
    |true=>
     obtain⟨_,_,hA,hB,_⟩:=valid_parts hq;rw[List.all_eq_true]at hA hB;have e1:(p.Nodes.any fun n=> !nodeB n)=false:=by rw[List.any_eq_false];intro x hx;simp[hA x hx]
     have e2:(p.Rails.any fun r=> !railB p r)=false:=by rw[List.any_eq_false];intro x hx;simp[hB x hx]
     simp[e1,e2]at hc1
   refine aS fun K hK=>?_;simp -dsimp;apply hK;clear hK K;exact awp_ret (by simp[hv])
  ·have hA:p.Nodes.all nodeB=true:=by simp at hc1;exact List.all_eq_true.2 hc1.1
   have hB:p.Rails.all (railB p)=true:=by simp at hc1;exact List.all_eq_true.2 hc1.2
   refine awp_skip ?_;simp only[zT,reduceIte,Nat.reduceEqDiff];refine hK2 _ _ ?_;refine awp_prune [1] ?_;simp only[zP,Nat.reduceEqDiff,reduceIte];refine aS fun K hK=>?_;simp -dsimp;apply hK;clear hK K;refine awp_seq_k fun K3 hK3=>?_;refine aS fun K hK=>?_;simp -dsimp;apply hK;clear hK K;refine awp_block ?_;refine awp_prune [1,3,31,32,33] ?_;simp only[zP,Nat.reduceEqDiff,reduceIte];refine awp_loop_l [1,3,31,32] (α:=Nat) (fun i=>[(33,I i)]) (fun i=>[some (.els 2 [p.cells]),some (.map true [.i .i64, .b] (seenK (endsOf p i)))]) (fun i=>i≤p.Nodes.length∧(endsOf p i).all (endB p)=true∧((endsOf p i).map (·.2)).Nodup) (fun i=>p.Nodes.length-i) 0 ?_ ?_ ?_
   ·simp[endsOf]
   ·exact sub_same (by simp[endsOf,seenK])
   rintro i ⟨i1,i2,i3⟩;simp only[zP,Nat.reduceEqDiff,reduceIte];refine aS fun K hK=>?_;simp -dsimp;apply hK;clear hK K;refine awp_seq_k fun K4 hK4=>?_;refine awp_cond rfl (fun hc2=>?_) (fun hc2=>?_)
   ·skip
    try simp at hc2
    have n0:=p.node_get (i:=(i:Int)) (by omega) (by omega);simp only[Int.toNat_natCast]at n0;have wi:=zW i (by omega);have wr:IntKind.i64.wrap ((p.Rails.length:Int)-1)=(p.Rails.length:Int)-1:=wrap_in (by omega) (by omega);have hle:=nodeB_len (node_ends hA (i:=(i:Int)) (by omega) (by omega));refine awp_skip ?_;simp only[zT,reduceIte,Nat.reduceEqDiff];refine hK4 _ _ ?_;refine awp_prune [1,3,31,32,33] ?_;simp only[zP,Nat.reduceEqDiff,reduceIte];refine awp_seq_k fun K5 hK5=>?_;refine awp_block ?_;refine aS fun K hK=>?_;simp -dsimp [n0];apply hK;clear hK K;refine aS fun K hK=>?_;simp -dsimp;apply hK;clear hK K;refine awp_block ?_;refine awp_prune [1,3,4,31,32,33,39,40,41] ?_;simp only[zP,Nat.reduceEqDiff,reduceIte];refine awp_loop_l [1,3,4,31,32,33,39,40] (α:=Nat) (fun j=>[(41,I j)]) (fun j=>[some (.els 2 [p.cells]),some (.map true [.i .i64, .b] (seenK (curE p i j)))]) (fun j=>j≤(p.node i).Ends.length∧(curE p i j).all (endB p)=true∧((curE p i j).map (·.2)).Nodup) (fun j=>(p.node i).Ends.length-j) 0 ?_ ?_ ?_
    ·rw[curE_zero];exact⟨by omega,i2,i3⟩
    ·simp only[curE_zero];exact sub_rb [some 0,some 1] rfl (by simp) (by simp)
    rintro j ⟨j1,j2,j3⟩;simp only[zP,Nat.reduceEqDiff,reduceIte];refine aS fun K hK=>?_;simp -dsimp;apply hK;clear hK K;refine awp_seq_k fun K6 hK6=>?_;refine awp_cond rfl (fun hc3=>?_) (fun hc3=>?_)
    ·skip
     try simp at hc3
     obtain⟨e,he⟩:∃e,(p.node i).Ends[j]?=some e:=⟨_,List.getElem?_eq_getElem hc3⟩;have wj:=zW j (by omega);refine awp_skip ?_;simp only[zT,reduceIte,Nat.reduceEqDiff];refine hK6 _ _ ?_;refine awp_prune [1,3,4,31,32,33,39,40,41] ?_;simp only[zP,Nat.reduceEqDiff,reduceIte];refine awp_seq_k fun K7 hK7=>?_;refine awp_block ?_;refine aS fun K hK=>?_;simp -dsimp [he];apply hK;clear hK K;refine awp_seq_k fun K8 hK8=>?_;refine aS fun K hK=>?_;simp -dsimp [wr];refine callK_intro _ (c_within _ _ _) (by simp) ?_;simp -dsimp [wr];refine valK_intro (Bo (decide (e∈(curE p i j).map (·.2)))) (fun hm=>by rw[kvGet_seen];split<;>simp_all) ?_
     simp -dsimp [wr];refine callK_may _ (fun hm=>c_ending p e (by simp[inr_iff]at hm;omega) (by simp[inr_iff]at hm;omega)) (by simp) ?_;simp -dsimp [wr];apply hK;clear hK K;refine awp_cond rfl (fun hc4=>?_) (fun hc4=>?_)
     ·have hv:validB p=false:=by
       by_cases hb:endB p (i,e)=true
       ·have hb':=hb;simp only[endB,Bool.and_eq_true,decide_eq_true_eq]at hb';simp[hb'.1,hb'.2]at hc4;obtain⟨a,ha⟩:=hc4;obtain⟨m,hm⟩:=List.getElem?_of_mem ha;exact valid_ff_dup hc2 he hm rfl
       ·exact valid_ff_end hc2 he (by simpa using hb)
      refine aS fun K hK=>?_;simp -dsimp;apply hK;clear hK K;exact awp_ret (by simp[hv])
     ·have hc4':inr e.Rail 0 (p.Rails.length-1)=true∧e∉ (curE p i j).map (·.2)∧p.at e=(i:Int):=by simp at hc4;simp;grind
      obtain⟨q1,q2,q3⟩:=hc4';have hset:=kvSet_seen (i:=i) q2;refine awp_skip ?_;simp only[zT,reduceIte,Nat.reduceEqDiff];refine hK8 _ _ ?_;refine awp_prune [1,3,4,7,31,32,33,39,40,41] ?_;simp only[zP,Nat.reduceEqDiff,reduceIte];refine aR fun K hK=>?_;simp -dsimp [hset];apply hK;clear hK K;simp only[zT,reduceIte,Nat.reduceEqDiff];refine hK7 _ _ ?_;refine awp_prune [1,3,4,31,32,33,39,40,41] ?_;simp only[zP,Nat.reduceEqDiff,reduceIte];refine aR fun K hK=>?_;simp -dsimp [wj];apply hK;clear hK K;simp only[zT,reduceIte,Nat.reduceEqDiff];refine⟨j+1,⟨by omega,?_,?_⟩,by omega,sub_rb [some 0,some 1] rfl (by simp) (by simp[curE_succ he])⟩
      ·rw[curE_succ he,List.all_append,j2];simp[endB,q1,q3]
      ·rw[curE_succ he,List.map_append,List.nodup_append];refine⟨j3,by simp,?_⟩;intro a ha b hb;simp only[List.map_cons,List.map_nil,List.mem_singleton]at hb;subst hb;intro hab;exact q2 (hab▸ha)
    ·skip
     try simp at hc3
     have hce:=curE_all (p:=p) (i:=i) (j:=j) (by omega);refine awp_exit ?_;simp only[zT,reduceIte,Nat.reduceEqDiff];refine hK5 _ _ ?_;refine awp_prune [1,3,31,32,33] ?_;simp only[zP,Nat.reduceEqDiff,reduceIte];refine aR fun K hK=>?_;simp -dsimp [wi];apply hK;clear hK K;simp only[zT,reduceIte,Nat.reduceEqDiff];exact⟨i+1,⟨by omega,by rw[←hce];exact j2,by rw[←hce];exact j3⟩,by omega,by simp only[←hce];exact sub_same (by simp)⟩
   ·skip
    try simp at hc2
    have hii:i=p.Nodes.length:=by omega
    subst hii;have hle:=endsOf_len hA p.Nodes.length (Nat.le_refl _);have w2:IntKind.i64.wrap (2*(p.Rails.length:Int))=2*(p.Rails.length:Int):=wrap_in (by omega) (by omega);have hsl:(seenK (endsOf p p.Nodes.length)).length=(endsOf p p.Nodes.length).length:=by simp[seenK]
    refine awp_exit ?_;simp only[zT,reduceIte,Nat.reduceEqDiff];refine hK3 _ _ ?_;refine awp_prune [1,3] ?_;simp only[zP,Nat.reduceEqDiff,reduceIte];refine awp_seq_k fun K9 hK9=>?_;refine aS fun K hK=>?_;simp -dsimp [w2,hsl];apply hK;clear hK K;refine awp_cond rfl (fun hc5=>?_) (fun hc5=>?_)
    ·have hv:validB p=decide ((endsOf p p.Nodes.length).length=2*p.Rails.length):=by simp[validB,validA,validE,hc0,hA,hB,i2,i3]
     try simp at hc5
     refine aS fun K hK=>?_;simp -dsimp;apply hK;clear hK K;exact awp_ret (by simp[hv];omega)
    ·have hv:validB p=decide ((endsOf p p.Nodes.length).length=2*p.Rails.length):=by simp[validB,validA,validE,hc0,hA,hB,i2,i3]
     try simp at hc5
     refine awp_skip ?_;simp only[zT,reduceIte,Nat.reduceEqDiff];refine hK9 _ _ ?_;refine awp_prune [] ?_;simp only[zP,Nat.reduceEqDiff,reduceIte];refine aS fun K hK=>?_;simp -dsimp;apply hK;clear hK K;exact awp_ret (by simp[hv];omega)
end Go.Tram
end
section
namespace Go.Tram
open Go.AM Go.Proofs
def putE (kvs:List (List KC×Value)) (es:List REnd):Nat→List (List KC×Value)
 |0=>kvs
 |j+1=>kvSet (putE kvs es j) (keyOf (es[j]?.getD default)) (.int .i64 j)
def placesK (p:Plan):Nat→List (List KC×Value)
 |0=>[]
 |i+1=>putE (placesK p i) (p.node i).Ends (p.node i).Ends.length
def lensA (p:Plan) (n:Nat):List (List AV):=(List.range n).map fun(r:Nat)=>[I (p.len r)]
def net (p:Plan):List AV:=p.cells++[.lst 1 (lensA p p.Rails.length), .mpc true [.i .i64, .b] (placesK p p.Nodes.length)]
theorem lensA_len (p:Plan) (n:Nat):(lensA p n).length=n:=by simp[lensA]
theorem lensA_succ (p:Plan) (n:Nat):lensA p (n+1)=lensA p n++[[I (p.len n)]]:=by simp[lensA,List.range_succ]
theorem lensA_get {p:Plan} {n k:Nat} (h:k<n):(lensA p n)[k]?=some [I (p.len k)]:=by simp[lensA,h]
theorem lensA_ren (p:Plan) (n:Nat) (g:List (Option Nat)):(lensA p n).map (fun e=>e.map (renAV g 3))=lensA p n:=by unfold lensA;rw[List.map_map];exact List.map_congr_left fun s _=>rfl
theorem lensA_frz (p:Plan) (n m:Nat) (H:Hp):(lensA p n).map (fun e=>e.map (frzP H (m+1)))=lensA p n:=by unfold lensA;rw[List.map_map];exact List.map_congr_left fun s _=>rfl
theorem c_rline (p:Plan) (r:Int) (ro:RailOk p r):PureCall Tryz.prog 83 [p.av,(p.rail r).av] (.lst 2 ((p.line r).map Spot.cells)):=
 c_tline p (p.rail r) ro.f ro.t (by have:=ro.s;omega)
theorem c_open_t (p:Plan) (h:validB p=true):PureCall Tryz.prog 39 [p.av] (.tup [.iptr (net p),Bo true]):=by
 have hck:=c_Check p;rw[h]at hck;obtain⟨hN,hR,hA,hB,_⟩:=valid_parts h;refine PureCall.of_body Tryz.func39 rfl (by decide) (by simp[Tryz.ntmps39]) ?_;simp only[Tryz.ntmps39,Tryz.results39];refine aS fun K hK=>?_;simp -dsimp;apply hK;clear hK K;refine awp_seq_k fun K1 hK1=>?_;refine aS fun K hK=>?_;simp -dsimp;refine callK_intro _ (hck) (by simp) ?_;simp -dsimp;apply hK;clear hK K;refine awp_cond rfl (fun hc0=>?_) (fun hc0=>?_)
 ·simp at hc0
 ·refine awp_skip ?_;simp only[zT,reduceIte,Nat.reduceEqDiff];refine hK1 _ _ ?_;refine awp_prune [1] ?_;simp only[zP,Nat.reduceEqDiff,reduceIte];refine aS fun K hK=>?_;simp -dsimp;apply hK;clear hK K;refine awp_seq_k fun K2 hK2=>?_;refine aS fun K hK=>?_;simp -dsimp;apply hK;clear hK K;refine awp_block ?_;refine awp_prune [1,4,22,23,24] ?_;simp only[zP,Nat.reduceEqDiff,reduceIte];refine awp_loop_l [1,4,22,23] (α:=Nat) (fun k=>[(24,I k)]) (fun k=>[some (.els 2 [p.cells]),some (.map true [.i .i64, .b] []),some (.els 4 [p.cells++[.row 3 0 (lensA p k).length, .mp 1]]),some (.els 1 (lensA p k))]) (fun k=>k≤p.Rails.length) (fun k=>p.Rails.length-k) 0 ?_ ?_ ?_
  ·simp
  ·exact(sub_nilc 2 0 2 1 (es:=[p.cells++[.v (.slice none 0 0), .mp 1]]) (e:=p.cells++[.v (.slice none 0 0), .mp 1]) (by simp) (by simp) (by simp)).trans (sub_same (by simp[lensA]))
  rintro k k1;simp only[zP,Nat.reduceEqDiff,reduceIte];refine aS fun K hK=>?_;simp -dsimp;apply hK;clear hK K;refine awp_seq_k fun K3 hK3=>?_;refine awp_cond rfl (fun hc1=>?_) (fun hc1=>?_)
  ·skip
   try simp at hc1
   have g0:=p.rail_get (i:=(k:Int)) (by omega) (by omega);simp only[Int.toNat_natCast]at g0;have ro:=rail_ok h (r:=(k:Int)) (by omega) (by omega);have hl:=ro.len;have hs30:=ro.s;have wk:=zW k (by omega);have f1:Fits (k+1) 9:=fits_of (by omega) (by omega);have hll:=lensA_len p k;have htk:(lensA p k).take k=lensA p k:=List.take_of_length_le (by omega);refine awp_skip ?_;simp only[zT,reduceIte,Nat.reduceEqDiff];refine hK3 _ _ ?_;refine awp_prune [1,4,22,23,24] ?_;simp only[zP,Nat.reduceEqDiff,reduceIte];refine awp_seq_k fun K4 hK4=>?_;refine awp_block ?_;refine aS fun K hK=>?_;simp -dsimp [g0];apply hK;clear hK K;refine aS fun K hK=>?_;simp -dsimp;refine callK_intro _ (c_rline p k ro) (by simp) ?_;simp -dsimp;apply hK;clear hK K;refine aS fun K hK=>?_;simp -dsimp;apply hK;clear hK K;refine awp_seq_k fun K5 hK5=>?_;refine aS fun K hK=>?_;simp -dsimp;apply hK;clear hK K;refine awp_block ?_;refine awp_prune [1,4,7,8,9,22,23,24] ?_;simp only[zP,Nat.reduceEqDiff,reduceIte];refine awp_loop_l [1,4,7,22,23,24] (α:=Nat) (fun i=>[(8,I (sumTo (p.line k) (i-1))),(9,I i)]) (fun _=>[some (.els 2 [p.cells]),some (.map true [.i .i64, .b] []),some (.els 4 [p.cells++[.row 3 0 (lensA p k).length, .mp 1]]),some (.els 1 (lensA p k))]) (fun i=>1≤i∧i≤(p.line k).length) (fun i=>(p.line k).length-i) 1 ?_ ?_ ?_
   ·omega
   ·exact sub_rb [some 0,some 1,some 2,some 3] rfl (by simp[sumTo]) (by simp[lensA_ren])
   rintro i ⟨j1,j2⟩;simp only[zP,Nat.reduceEqDiff,reduceIte];refine awp_seq_k fun K6 hK6=>?_;refine aS fun K hK=>?_;simp -dsimp;apply hK;clear hK K;refine awp_cond rfl (fun hc2=>?_) (fun hc2=>?_)
   ·skip
    try simp at hc2
    have wi:IntKind.i64.wrap ((i:Int)-1)=((i-1:Nat):Int):=by rw[wrap_in (by omega) (by omega)];omega
    have wj:=zW i (by omega);have g1:=nth_get (l:=p.line k) (k:=i-1) (by omega);have g2:=nth_get (l:=p.line k) (k:=i) (by omega);have q1:=sumTo_bd ro (i-1) (by omega);have q2:=far_bd (ro.spot (i-1) (by omega)) (ro.spot i (by omega));have wa:IntKind.i64.wrap (sumTo (p.line k) (i-1)+far (nth (p.line k) (i-1)) (nth (p.line k) i))=sumTo (p.line k) (i-1)+far (nth (p.line k) (i-1)) (nth (p.line k) i):=wrap_in (by omega) (by omega);refine awp_skip ?_;simp only[zT,reduceIte,Nat.reduceEqDiff];refine hK6 _ _ ?_;refine awp_prune [1,4,7,8,9,22,23,24] ?_;simp only[zP,Nat.reduceEqDiff,reduceIte];refine awp_seq_k fun K7 hK7=>?_;refine awp_block ?_;refine awp_draw mixed rfl fun K hK=>?_;simp -dsimp [wi,g1,g2,wa];refine callK_intro _ (c_span (nth (p.line k) (i-1)) (nth (p.line k) i) (ro.spot _ (by omega)) (ro.spot _ (by omega))) (by simp) ?_;simp -dsimp [wi,g1,g2,wa];refine hK _ _ _ (by decide+kernel) ?_;clear hK K;simp only[zT,reduceIte,Nat.reduceEqDiff];refine hK7 _ _ ?_;refine awp_prune [1,4,7,8,9,22,23,24] ?_;simp only[zP,Nat.reduceEqDiff,reduceIte];refine aR fun K hK=>?_;simp -dsimp [wj];apply hK;clear hK K;simp only[zT,reduceIte,Nat.reduceEqDiff];obtain⟨j,rfl⟩:∃j,i=j+1:=⟨i-1,by omega⟩;exact⟨j+2,⟨by omega,by omega⟩,by omega,sub_same (by simp[sumTo,segLen]<;>omega)⟩
   ·skip
    try simp at hc2
    have hlen:sumTo (p.line k) (i-1)=p.len k:=by unfold Plan.len;congr 1;omega
    refine awp_exit ?_;simp only[zT,reduceIte,Nat.reduceEqDiff];refine hK5 _ _ ?_;refine awp_prune [1,4,8,22,23,24] ?_;simp only[zP,Nat.reduceEqDiff,reduceIte];refine aR fun K hK=>?_;simp -dsimp [hlen,hll,f1];apply hK;clear hK K;simp only[zT,reduceIte,Nat.reduceEqDiff];refine hK4 _ _ ?_;refine awp_prune [1,4,22,23,24] ?_;simp only[zP,Nat.reduceEqDiff,reduceIte];refine aR fun K hK=>?_;simp -dsimp [wk];apply hK;clear hK K;simp only[zT,reduceIte,Nat.reduceEqDiff];exact⟨k+1,by omega,by omega,sub_rb [some 0,some 1,some 2,some 4] rfl (by simp) (by simp[lensA_succ,lensA_ren,hll,htk])⟩
  ·skip
   try simp at hc1
   have hk:k=p.Rails.length:=by omega
   subst hk;refine awp_exit ?_;simp only[zT,reduceIte,Nat.reduceEqDiff];refine hK2 _ _ ?_;refine awp_prune [1,4] ?_;simp only[zP,Nat.reduceEqDiff,reduceIte];refine awp_seq_k fun K8 hK8=>?_;refine aS fun K hK=>?_;simp -dsimp;apply hK;clear hK K;refine awp_block ?_;refine awp_prune [4,61,62,63] ?_;simp only[zP,Nat.reduceEqDiff,reduceIte];refine awp_loop_l [4,61,62] (α:=Nat) (fun i=>[(63,I i)]) (fun i=>[some (.els 2 [p.cells]),some (.map true [.i .i64, .b] (placesK p i)),some (.els 4 [p.cells++[.row 3 0 (lensA p p.Rails.length).length, .mp 1]]),some (.els 1 (lensA p p.Rails.length))]) (fun i=>i≤p.Nodes.length) (fun i=>p.Nodes.length-i) 0 ?_ ?_ ?_
   ·simp
   ·exact sub_same (by simp)
   rintro i i1;simp only[zP,Nat.reduceEqDiff,reduceIte];refine aS fun K hK=>?_;simp -dsimp;apply hK;clear hK K;refine awp_seq_k fun K9 hK9=>?_;refine awp_cond rfl (fun hc3=>?_) (fun hc3=>?_)
   ·skip
    try simp at hc3
    have n0:=p.node_get (i:=(i:Int)) (by omega) (by omega);simp only[Int.toNat_natCast]at n0;have wi:=zW i (by omega);have hle:=nodeB_len (node_ends hA (i:=(i:Int)) (by omega) (by omega));refine awp_skip ?_;simp only[zT,reduceIte,Nat.reduceEqDiff];refine hK9 _ _ ?_;refine awp_prune [4,61,62,63] ?_;simp only[zP,Nat.reduceEqDiff,reduceIte];refine awp_seq_k fun K10 hK10=>?_;refine awp_block ?_;refine aS fun K hK=>?_;simp -dsimp [n0];apply hK;clear hK K;refine aS fun K hK=>?_;simp -dsimp;apply hK;clear hK K;refine awp_block ?_;refine awp_prune [4,61,62,63,68,69,70] ?_;simp only[zP,Nat.reduceEqDiff,reduceIte];refine awp_loop_l [4,61,62,63,68,69] (α:=Nat) (fun j=>[(70,I j)]) (fun j=>[some (.els 2 [p.cells]),some (.map true [.i .i64, .b] (putE (placesK p i) (p.node i).Ends j)),some (.els 4 [p.cells++[.row 3 0 (lensA p p.Rails.length).length, .mp 1]]),some (.els 1 (lensA p p.Rails.length))]) (fun j=>j≤(p.node i).Ends.length) (fun j=>(p.node i).Ends.length-j) 0 ?_ ?_ ?_
    ·simp
    ·exact sub_rb [some 0,some 1,some 2,some 3] rfl (by simp) (by simp[putE,lensA_ren])
    rintro j j1;simp only[zP,Nat.reduceEqDiff,reduceIte];refine aS fun K hK=>?_;simp -dsimp;apply hK;clear hK K;refine awp_seq_k fun K11 hK11=>?_;refine awp_cond rfl (fun hc4=>?_) (fun hc4=>?_)
    ·skip
     try simp at hc4
     obtain⟨e,he⟩:∃e,(p.node i).Ends[j]?=some e:=⟨_,List.getElem?_eq_getElem hc4⟩;have wj:=zW j (by omega);refine awp_skip ?_;simp only[zT,reduceIte,Nat.reduceEqDiff];refine hK11 _ _ ?_;refine awp_prune [4,61,62,63,68,69,70] ?_;simp only[zP,Nat.reduceEqDiff,reduceIte];refine awp_seq_k fun K12 hK12=>?_;refine awp_block ?_;refine aS fun K hK=>?_;simp -dsimp [he];apply hK;clear hK K;refine awp_draw mixed rfl fun K hK=>?_;simp -dsimp;refine hK _ _ _ (by decide+kernel) ?_;clear hK K;simp only[zT,reduceIte,Nat.reduceEqDiff];refine hK12 _ _ ?_;refine awp_prune [4,61,62,63,68,69,70] ?_;simp only[zP,Nat.reduceEqDiff,reduceIte];refine aR fun K hK=>?_;simp -dsimp [wj];apply hK;clear hK K;simp only[zT,reduceIte,Nat.reduceEqDiff];exact⟨j+1,by omega,by omega,sub_rb [some 0,some 1,some 2,some 3] rfl (by simp) (by simp[putE,he,keyOf,lensA_ren])⟩
    ·skip
     try simp at hc4
     have hj:j=(p.node i).Ends.length:=by omega
     subst hj;refine awp_exit ?_;simp only[zT,reduceIte,Nat.reduceEqDiff];refine hK10 _ _ ?_;refine awp_prune [4,61,62,63] ?_;simp only[zP,Nat.reduceEqDiff,reduceIte];refine aR fun K hK=>?_;simp -dsimp [wi];apply hK;clear hK K;simp only[zT,reduceIte,Nat.reduceEqDiff];exact⟨i+1,by omega,by omega,sub_same (by simp[placesK])⟩
   ·skip
    try simp at hc3
    have hi:i=p.Nodes.length:=by omega
    subst hi;refine awp_exit ?_;simp only[zT,reduceIte,Nat.reduceEqDiff];refine hK8 _ _ ?_;refine awp_prune [4] ?_;simp only[zP,Nat.reduceEqDiff,reduceIte];refine aS fun K hK=>?_;simp -dsimp;apply hK;clear hK K;exact awp_ret (by simp[net,lensA_frz])
theorem c_nhas (p:Plan) (r:Int) (b:Bool) (h:validB p=true):PureCall Tryz.prog 40 [.iptr (net p), .agg [I r,Bo b]] (Bo (inr r 0 (p.Rails.length-1))):=by
 obtain⟨hN,hR,_⟩:=valid_parts h;have w:IntKind.i64.wrap ((p.Rails.length:Int)-1)=(p.Rails.length:Int)-1:=wrap_in (by omega) (by omega);unfold net;refine PureCall.of_body Tryz.func40 rfl (by decide) (by simp[Tryz.ntmps40]) ?_;simp only[Tryz.ntmps40,Tryz.results40];refine aS fun K hK=>?_;simp -dsimp;apply hK;clear hK K;refine awp_sd mixed rfl fun K hK=>?_;simp -dsimp [w];refine callK_intro _ (c_within _ _ _) (by simp) ?_;simp -dsimp [w];refine hK _ _ _ (by decide+kernel) ?_;clear hK K;exact awp_ret (by simp)
theorem c_tLength (p:Plan) (r:Int) (h:validB p=true) (h0:0≤r) (h1:r<p.Rails.length):PureCall Tryz.prog 32 [p.av,I r] (.tup [I (p.len r),I 0]):=by
 have hin:inr r 0 (p.Rails.length-1)=true:=inr_iff.2 (by omega);have hg:(lensA p p.Rails.length)[r.toNat]?=some [I (p.len r)]:=by rw[lensA_get (by omega)];rw[show((r.toNat:Nat):Int)=r by omega]
 refine PureCall.of_body Tryz.func32 rfl (by decide) (by simp[Tryz.ntmps32]) ?_;simp only[Tryz.ntmps32,Tryz.results32];refine aS fun K hK=>?_;simp -dsimp;apply hK;clear hK K;refine aS fun K hK=>?_;simp -dsimp;refine callK_intro _ (c_open_t p h) (by simp) ?_;simp -dsimp;apply hK;clear hK K;refine awp_seq_k fun K1 hK1=>?_;refine aS fun K hK=>?_;simp -dsimp;refine callK_may _ (fun hm=>c_nhas p r false h) (by simp) ?_;simp -dsimp;apply hK;clear hK K;refine awp_cond rfl (fun hc0=>?_) (fun hc0=>?_)
 ·simp[hin]at hc0
 ·refine awp_skip ?_;simp only[zT,reduceIte,Nat.reduceEqDiff];refine hK1 _ _ ?_;refine awp_prune [1,6] ?_;simp only[zP,Nat.reduceEqDiff,reduceIte];refine aS fun K hK=>?_;simp -dsimp [net,hg,h0];apply hK;clear hK K;exact awp_ret (by simp)
end Go.Tram
end
section
namespace Go.Tram
open Go.AM Go.Proofs
abbrev U (n:Int):AV:= .v (.int .u64 n)
theorem u64_in {n:Int} (h0:0≤n) (h1:n<18446744073709551616):IntKind.u64.wrap n=n:=by rw[IntKind.wrap_u64];omega
end Go.Tram
end
section
namespace Go.Tram
open Go.AM Go.Proofs
attribute [-simp] minI maxI
theorem und_u64:(Tryz.prog).underlying 304=some (.int .u64):=by kernel_rfl
@[simp] def segC (a b:Spot):List AV:=[I a.X,I a.Y,I b.X,I b.Y]
abbrev seg (a b:Spot):AV:= .agg (segC a b)
end Go.Tram
end
section
namespace Go.Tram
open Go.AM Go.Proofs
theorem sub_rfM {nt:Nat} {T:Tm} {H:Hp} (g:List (Option Nat)) (hn:nodupB g=true):Go.AM.Sub nt T H (T.map fun p=>(p.1,renF (hget H) g 3 (Go.AM.look T p.1))) (renHF H g):=by
 refine sub_rf g hn ?_ rfl;have gen:∀l:Tm,subTF H g T (l.map fun p=>(p.1,renF (hget H) g 3 (Go.AM.look T p.1))):=by
  intro l
  induction l with
  |nil=>trivial
  |cons x l ih=>exact⟨Or.inr rfl,ih⟩
 exact gen T
def flatC:AV→Bool
 | .v _=>true
 | .lst _ _=>true
 | .full _ _=>true
 | .iptr _=>true
 |_=>false
theorem flatC_ren {x:AV} (h:flatC x=true) (g:List (Option Nat)) (n:Nat):renAV g n x=x:=by cases x<;>first|(cases n<;>rfl)|cases h
theorem flatC_frzP {x:AV} (h:flatC x=true) (H:Hp) (n:Nat):frzP H n x=x:=by cases x<;>first|(cases n<;>rfl)|cases h
theorem map_flatC {f:AV→AV} (hf:∀x,flatC x=true→f x=x) {es:List (List AV)} (h:es.all (fun e=>e.all flatC)=true):es.map (fun e=>e.map f)=es:=by
 have:es.map (fun e=>e.map f)=es.map id:=by
  refine List.map_congr_left fun e he=>?_;have he':=List.all_eq_true.1 h e he;have:e.map f=e.map id:=List.map_congr_left fun x hx=>hf x (List.all_eq_true.1 he' x hx);simpa using this
 simpa using this
end Go.Tram
end
section
namespace Go.Tram
open Go.AM Go.Proofs
structure Plan.Fit (p:Plan):Prop where
 n:p.Nodes.length≤9223372036854775807
 r:p.Rails.length≤9223372036854775807
theorem ex_len (a b:Spot) (k:Int) (hk:IsSq (sqd a b) k):far a b=k:=isq_of hk
end Go.Tram
end
section
namespace Go.Tram
open Go.AM Go.Proofs
section
variable {P:Program}
theorem shaped_slice {n:Nat} {t e:TypeId} {avs:List AV} (hk:ktOf P t=none) (ht:tdOf P t= .slice e) (h:Shaped P (n+1) t avs):∃els,avs=[.lst (tdOf P e).size els]∧els.length≤maxLen∧∀el∈els,Shaped P n e el:=by
 simp only[Shaped,hk,ht]at h;exact h
theorem shaped_agg {n:Nat} {t:TypeId} {z:List Value} {fs:List (Nat×Nat×TypeId)} {avs:List AV} (hk:ktOf P t=none) (ht:tdOf P t= .agg z fs) (h:Shaped P (n+1) t avs):avs.length=z.length∧∀f∈fs,Shaped P n f.2.2 ((avs.drop f.1).take f.2.1):=by
 simp only[Shaped,hk,ht]at h;exact h
theorem shaped_int {n:Nat} {t:TypeId} {k:IntKind} {avs:List AV} (hk:ktOf P t=some (.i k)) (h:Shaped P (n+1) t avs):∃m,avs=[.v (.int k m)]∧(Lit.int k m).wf=true:=by
 simp only[Shaped,hk]at h;exact h
theorem shaped_bool {n:Nat} {t:TypeId} {avs:List AV} (hk:ktOf P t=some .b) (h:Shaped P (n+1) t avs):∃b,avs=[.v (.bool b)]:=by
 simp only[Shaped,hk]at h;exact h
end
theorem list_of {α:Type} {c:α→List AV} {R:α→Prop}:∀{els:List (List AV)},(∀el∈els,∃a,el=c a∧R a)→∃l:List α,els=l.map c∧∀a∈l,R a
 |[],_=>⟨[],rfl,by simp⟩
 |e::els,h=>by
  obtain⟨a,rfl,ha⟩:=h e (List.mem_cons_self ..);obtain⟨l,rfl,hl⟩:=list_of (els:=els) (c:=c) (R:=R) (fun el hel=>h el (List.mem_cons_of_mem _ hel));refine⟨a::l,rfl,fun b hb=>?_⟩
  rcases List.mem_cons.1 hb with rfl|hb
  ·exact ha
  ·exact hl b hb
theorem und_bool2:(Tryz.prog).underlying 4=some .bool:=by kernel_rfl
theorem k_int:ktOf Tryz.prog 3=some (.i .i64):=by kernel_rfl
theorem k_kind:ktOf Tryz.prog 154=some (.i .i64):=by kernel_rfl
theorem k_bool:ktOf Tryz.prog 4=some .b:=by kernel_rfl
def I64 (n:Int):Prop:=-9223372036854775808≤n∧n≤9223372036854775807
theorem wf_i64 {m:Int} (h:(Lit.int .i64 m).wf=true):I64 m:=by
 simpa [Lit.wf,IntKind.min,IntKind.max,IntKind.signed,IntKind.bits,I64]using h
theorem sh_int {n:Nat} {avs:List AV} (h:Shaped Tryz.prog (n+1) 3 avs):∃m,avs=[I m]∧I64 m:=by
 obtain⟨m,h1,h2⟩:=shaped_int k_int h;exact⟨m,h1,wf_i64 h2⟩
theorem list2 {α:Type} {l:List α} (h:l.length=2):∃a b,l=[a,b]:=by match l,h with|[a,b],_=>exact⟨a,b,rfl⟩
theorem list5 {α:Type} {l:List α} (h:l.length=5):∃a b c d e,l=[a,b,c,d,e]:=by match l,h with|[a,b,c,d,e],_=>exact⟨a,b,c,d,e,rfl⟩
theorem sh_spot {n:Nat} {avs:List AV} (h:Shaped Tryz.prog (n+2) 153 avs):∃s:Spot,avs=s.cells:=by
 obtain⟨h1,h2⟩:=shaped_agg (by kernel_rfl) td153 h;obtain⟨a,b,rfl⟩:=list2 h1;obtain⟨x,hx,_⟩:=sh_int (h2 (0,1,3) (by simp));obtain⟨y,hy,_⟩:=sh_int (h2 (1,1,3) (by simp));simp at hx hy;subst hx hy;exact⟨⟨x,y⟩,rfl⟩
theorem sh_end {n:Nat} {avs:List AV} (h:Shaped Tryz.prog (n+2) 166 avs):∃s:REnd,avs=s.cells:=by
 obtain⟨h1,h2⟩:=shaped_agg (by kernel_rfl) td166 h;obtain⟨a,b,rfl⟩:=list2 h1;obtain⟨x,hx,_⟩:=sh_int (h2 (0,1,3) (by simp));obtain⟨y,hy⟩:=shaped_bool k_bool (h2 (1,1,4) (by simp));simp at hx hy;subst hx hy;exact⟨⟨x,y⟩,rfl⟩
theorem sh_node {n:Nat} {avs:List AV} (h:Shaped Tryz.prog (n+5) 157 avs):∃s:Node,avs=s.cells:=by
 obtain⟨h1,h2⟩:=shaped_agg (by kernel_rfl) td157 h;obtain⟨a,b,c,d,e,rfl⟩:=list5 h1;obtain⟨s,hs⟩:=sh_spot (h2 (0,2,153) (by simp));obtain⟨k,hk,_⟩:=shaped_int k_kind (h2 (2,1,154) (by simp));obtain⟨els,hl,_,hels⟩:=shaped_slice (by kernel_rfl) td155 (h2 (3,1,155) (by simp));obtain⟨m,hm,_⟩:=sh_int (h2 (4,1,3) (by simp));obtain⟨l,rfl,_⟩:=list_of (c:=REnd.cells) (R:=fun _=>True) (fun el hel=>by obtain⟨s,hs⟩:=sh_end (hels el hel);exact⟨s,hs,trivial⟩);simp at hs hk hl hm;obtain⟨rfl,rfl⟩:=hs;subst hk hl hm;exact⟨⟨s,k,l,m⟩,by simp⟩
theorem sh_rail {n:Nat} {avs:List AV} (h:Shaped Tryz.prog (n+5) 162 avs):∃s:Rail,avs=s.cells:=by
 obtain⟨h1,h2⟩:=shaped_agg (by kernel_rfl) td162 h;obtain⟨a,b,c,d,e,rfl⟩:=list5 h1;obtain⟨x,hx,_⟩:=sh_int (h2 (0,1,3) (by simp));obtain⟨y,hy,_⟩:=sh_int (h2 (1,1,3) (by simp));obtain⟨els,hl,_,hels⟩:=shaped_slice (by kernel_rfl) td160 (h2 (2,1,160) (by simp));obtain⟨u,hu,_⟩:=sh_int (h2 (3,1,3) (by simp));obtain⟨v,hv,_⟩:=sh_int (h2 (4,1,3) (by simp));obtain⟨l,rfl,_⟩:=list_of (c:=Spot.cells) (R:=fun _=>True) (fun el hel=>by obtain⟨s,hs⟩:=sh_spot (hels el hel);exact⟨s,hs,trivial⟩);simp at hx hy hl hu hv;subst hx hy hl hu hv;exact⟨⟨x,y,l,u,v⟩,by simp⟩
theorem sh_plan {n:Nat} {avs:List AV} (h:Shaped Tryz.prog (n+8) 25 avs):∃p:Plan,avs=p.cells∧p.Fit:=by
 obtain⟨h1,h2⟩:=shaped_agg (by kernel_rfl) td25 h;obtain⟨a,b,rfl⟩:=list2 h1;obtain⟨e1,hl1,b1,he1⟩:=shaped_slice (by kernel_rfl) td22 (h2 (0,1,22) (by simp));obtain⟨e2,hl2,b2,he2⟩:=shaped_slice (by kernel_rfl) td23 (h2 (1,1,23) (by simp));obtain⟨l1,rfl,_⟩:=list_of (c:=Node.cells) (R:=fun _=>True) (fun el hel=>by obtain⟨s,hs⟩:=sh_node (he1 el hel);exact⟨s,hs,trivial⟩);obtain⟨l2,rfl,_⟩:=list_of (c:=Rail.cells) (R:=fun _=>True) (fun el hel=>by obtain⟨s,hs⟩:=sh_rail (he2 el hel);exact⟨s,hs,trivial⟩);simp at hl1 hl2;subst hl1 hl2;rw[List.length_map]at b1 b2;have hm:maxLen=9223372036854775807:=by decide
 exact⟨⟨l1,l2⟩,by simp,⟨by simp only[];omega,by simp only[];omega⟩⟩
open Go.WideShapes in
theorem arg_agg {H:Type} {enc:TypeId×Value→H} {W:World} {base n:Nat} {t:TypeId} {v:Value} {d:DataW H} {p:List MemPlace} {z:List Value} {fs:List (Nat×Nat×TypeId)} (hg:goodB Tryz.prog n t=true) (ht:tdOf Tryz.prog t= .agg z fs)
  (hv:Value.okWide Tryz.prog W .any base t v) (h:DataW.Trod enc Tryz.prog W 0 (fun _=>true) true t v d p):∃avs,RepP W (fun _=>False) (.agg avs) v∧Shaped Tryz.prog n t avs:=by
 obtain⟨fuel,h⟩:=h;obtain⟨avs,hr,hs⟩:=trod_rc n fuel t _ _ hg h;obtain⟨info,fa,h1,h2,_⟩:=tdOf_agg ht;obtain⟨cs,rfl,_⟩:=okWide_struct h2 hv;refine⟨avs,?_,hs⟩;have:=RepP.agg (w:=W) (S:=fun _=>False) avs cs.toList hr.1 (fun x hx=>by
  obtain⟨i,hi⟩:=List.getElem?_of_mem hx;have hil:=(List.getElem?_eq_some_iff.1 hi).1;obtain⟨c,hc⟩:∃c,avs[i]?=some c:=⟨_,List.getElem?_eq_getElem (by rw[hr.1];exact hil)⟩;exact(hr.2 i c x hc hi).2) (fun i c x h1 h2=>(hr.2 i c x h1 h2).1)
 simpa using this
theorem arg_int {H:Type} {enc:TypeId×Value→H} {W:World} {base:Nat} {v:Value} {d:DataW H} {p:List MemPlace}
  (hv:Value.okWide Tryz.prog W .any base 3 v) (h:DataW.Trod enc Tryz.prog W 0 (fun _=>true) true 3 v d p):∃n,RepP W (fun _=>False) (I n) v∧I64 n:=by
 obtain⟨n,rfl,rfl,rfl,w0⟩:=Go.ChangeShapes.open_int und_int hv h;exact⟨n, .v _,wf_i64 w0⟩
theorem laid:laidOutB Tryz.prog=true:=by kernel_rfl
theorem mapped:mapsRowed Tryz.prog=true:=by kernel_rfl
theorem kids:Kids Tryz.prog (· <Tryz.prog.types.size):=kids_rows laid mapped
theorem full:∀t e,t<Tryz.prog.types.size→Tryz.prog.underlying t=some (.slice e)→0<Tryz.prog.cellsOf e:=slices_full_of Tryz.prog (by kernel_rfl)
theorem ext_cell {w w':World} (h:Ext (fun _=>False) w w') {a:Addr} (ha:a.block<w.heap.size):w'.cell? a=w.cell? a:=cell_of_block (h.block _ ha (fun k=>k))
theorem post_ext {H:Type} {enc:TypeId×Value→H} {f:Func} {s:ChangeSpec} {fresh handsOn again:Bool} {W W':World} {args:Array Value} {v:Value} {ds:List (DataW H)} {before:List MemPlace}
  (hvars:s.vars=[]) (hres:(s.fn H ds).results=[.lit (.bool true)]) (hargs:(s.fn H ds).args=ds) (hvs:(s.fn H ds).vars=[]) (hf:f.resultTypes= #[4]) (hts:∀t∈f.params.toList,t<Tryz.prog.types.size)
  (hW:DataW.Whole enc Tryz.prog f.params.toList s.vars false W args.toList ds [] before) (hext:Ext (fun _=>False) W W') (hv:v= .bool true):
  s.post enc Tryz.prog f false fresh handsOn again W args v W':=by
 subst hv;have hlt:=hW.lt;have hW':=hW;obtain⟨p,q,hA,hV,hpq,hz,hn⟩:=hW;rw[hvars]at hV;obtain⟨_,rfl⟩:=Go.ChangeShapes.trodVars_none hV;rw[List.append_nil]at hpq;subst hpq;have carry:∀(ts:List TypeId) (vs:List Value) (ds:List (DataW H)) (ps:List MemPlace),DataW.TrodAll enc Tryz.prog W 0 (fun _=>true) true ts vs ds ps→(∀x∈ps,x.block<W.heap.size)→DataW.TrodAll enc Tryz.prog W' 0 (fun _=>true) true ts vs ds ps:=by
  intro ts
  induction ts with
  |nil=>intro vs ds ps h _;match vs,ds,h with|[],[],h=>exact h
  | cons t ts ih=>
   intro vs ds ps h hl
   match vs,ds,h with
   |v::vs,d::ds,⟨p1,q1,⟨n,h1⟩,h2,he⟩=>
    subst he;refine⟨p1,q1,⟨n,DataW.trod_carry n _ _ _ h1 (fun x hx=>?_)⟩,ih vs ds q1 h2 (fun x hx=>hl x (List.mem_append_right _ hx)),rfl⟩;have hb:=hl x (List.mem_append_left _ hx)
    cases x with
    |cell b off=>exact ext_cell hext hb
    |map b=>exact hext.block b hb (fun k=>k)
 have hA':=carry _ _ _ _ hA hlt;have hag:∀sp:Nat→Bool,(∀x∈before,sp x.block=true)→DataW.TrodAll enc Tryz.prog W' 0 sp true f.params.toList args.toList (s.fn H (ds++[])).args before:=by
  intro sp hs;rw[List.append_nil,hargs];exact hA'.respare kids full hts hs
 have hr:∀(b:Nat) (sp:Nat→Bool) (hd:Bool),DataW.TrodAll enc Tryz.prog W' b sp hd f.resultTypes.toList ((Value.bool true).resultList f.resultTypes.size) (s.fn H (ds++[])).results []:=by
  intro b sp hd;rw[List.append_nil,hres,hf];exact Go.ChangeShapes.trodAll_mk1 (Go.RowKit.shut_bool und_bool2 _)
 have hkept:W.keptBut W' (· ∈before):=by
  refine⟨hext.os,hext.output,fun i hi=>?_⟩;rw[hext.block i hi (fun k=>k)]
  cases hb:W.heap[i]? with
  |none=>trivial
  |some o=>cases o<;>simp
 have hv0:∀sp:Nat→Bool,DataW.TrodVars enc Tryz.prog W' sp s.vars (s.fn H (ds++[])).vars []:=by
  intro sp;rw[hvars,List.append_nil,hvs]
  rfl
 have hold:∀x∈before,(fun b=>decide (b<W.heap.size)) x.block=true:=fun x hx=>by simpa using hlt x hx
 refine⟨ds,[],before,[],before,[],hW',hr _ _ _,hag _ hold,hv0 _,World.keptBut_mono (fun x hx=>⟨hx,Or.inr (Or.inl hx)⟩) hkept,fun _=>?_⟩;refine⟨Go.RowKit.ok_one hf rfl (Go.RowKit.okWide_bool_mk und_bool2 _),_,_,([]++before)++[],⟨[]++before,[],Go.ChangeShapes.trodAll_append (hag _ (fun _ _=>rfl)) (hr _ _ _),hv0 _,rfl,?_,?_⟩,?_⟩
 ·intro b off hp;have hp':MemPlace.cell b off∈before:=by simpa using hp
  have hb:=hlt _ hp';have:W'.frozen? ⟨b,off,none⟩=W.frozen? ⟨b,off,none⟩:=by unfold World.frozen?;rw[hext.block b hb (fun k=>k)]
  rw[this];exact hz b off hp'
 ·intro ha;cases ha
 ·intro x hx _;simpa using hx
theorem law_calls {P : Program} {f : FuncId} {fn : Func} {c : Code} {avs : List AV} {vs : List Value} {W : World} (hf : P.funcs[f]? = some fn) (hb : fn.body = some c) (hname : (fn.name == "runtime.NumGoroutine") = false)
  (h:PureCall P f avs (Bo true)) (hl:avs.length=vs.length) (hr:∀(i:Nat) c x,avs[i]?=some c→vs[i]?=some x→RepP W (fun _=>False) c x):
  Calls P f vs.toArray W fun e W'=>e= .returned (.bool true)∧Ext (fun _=>False) W W':=by
 have hn' : ¬ fn.name = "runtime.NumGoroutine" := by simpa using hname
 rcases h with⟨_,h2⟩|h2
 ·refine(h2 (fun _=>False) W vs (fun b k=>k.elim) hl hr).mono fun e W' ⟨v,q1,q2,q3⟩=>?_
  cases q2
  exact⟨q1,q3⟩
 ·exfalso;obtain⟨v,q1,_⟩:=h2 (fun _=>False) W vs hl hr;have:(callFunc f vs.toArray).run P W= .ok (.enter f vs.toArray) W:=by simp[callFunc,hf,hn',hb]
  rw[this]at q1
  cases q1
theorem rep_nil {W:World}:∀(i:Nat) c x,([]:List AV)[i]?=some c→([]:List Value)[i]?=some x→RepP W (fun _=>False) c x:=fun i c x h=>by simp at h
theorem rep_cons {W:World} {a:AV} {v:Value} {xs:List AV} {vs:List Value} (h:RepP W (fun _=>False) a v) (k:∀(i:Nat) c x,xs[i]?=some c→vs[i]?=some x→RepP W (fun _=>False) c x):
  ∀(i:Nat) c x,(a::xs)[i]?=some c→(v::vs)[i]?=some x→RepP W (fun _=>False) c x:=fun i c x h1 h2=>by
 cases i with
 |zero=>simp at h1 h2;subst h1 h2;exact h
 |succ i=>exact k i c x (by simpa using h1) (by simpa using h2)
end Go.Tram
end
section
namespace Go.Tram
open Go.AM Go.Proofs
def ins (x:Int):List Int→List Int
 |[]=>[x]
 |y::l=>if x<y then x::y::l else y::ins x l
def srt (l:List Int):List Int:=l.foldl (fun s x=>ins x s) []
theorem ins_len (x:Int):∀l,(ins x l).length=l.length+1
 |[]=>rfl
 |y::l=>by
  simp only[ins]
  split
  ·rfl
  ·simp[ins_len x l]
theorem ins_mem (x z:Int):∀l,z∈ins x l↔z=x∨z∈l
 |[]=>by simp[ins]
 | y::l=>by
  simp only[ins]
  split
  ·simp
  ·simp only[List.mem_cons,ins_mem x z l];constructor
   ·rintro(h|h|h)<;>simp[h]
   ·rintro(h|h|h)<;>simp[h]
theorem ins_sorted (x:Int):∀l:List Int,l.Pairwise (· ≤ ·)→(ins x l).Pairwise (· ≤ ·)
 |[],_=>by simp[ins]
 | y::l,h=>by
  rw[List.pairwise_cons]at h;simp only[ins]
  split
  ·rename_i hx;rw[List.pairwise_cons,List.pairwise_cons];refine⟨fun z hz=>?_,h⟩
   rcases List.mem_cons.1 hz with rfl|hz
   ·omega
   ·have:=h.1 z hz;omega
  ·rename_i hx;rw[List.pairwise_cons];refine⟨fun z hz=>?_,ins_sorted x l h.2⟩
   rcases(ins_mem x z l).1 hz with rfl|hz
   ·omega
   ·exact h.1 z hz
theorem ins_split (x:Int) (B:List Int) (hB:∀y∈B,x<y):∀A:List Int,(∀y∈A,y≤x)→ins x (A++B)=A++x::B
 |[],_=>by
  cases B with
  |nil=>rfl
  |cons y B=>simp only[List.nil_append,ins];rw[if_pos (hB y (by simp))]
 |a::A,h=>by
  simp only[List.cons_append,ins];rw[if_neg (by have:=h a (by simp);omega),ins_split x B hB A fun y hy=>h y (by simp[hy])]
theorem srt_take {l:List Int} {i:Nat} {x:Int} (h:l[i]?=some x):srt (l.take (i+1))=ins x (srt (l.take i)):=by
 rw[List.take_add_one,h];simp[srt]
theorem srt_len (l:List Int):(srt l).length=l.length:=by
 have gen:∀(l s:List Int),(l.foldl (fun s x=>ins x s) s).length=s.length+l.length:=by
  intro l
  induction l with
  |nil=>simp
  |cons x l ih=>intro s;rw[List.foldl_cons,ih,ins_len];simp;omega
 have:=gen l [];simpa [srt]using this
theorem srt_sorted (l:List Int):(srt l).Pairwise (· ≤ ·):=by
 have gen:∀(l s:List Int),s.Pairwise (· ≤ ·)→(l.foldl (fun s x=>ins x s) s).Pairwise (· ≤ ·):=by
  intro l
  induction l with
  |nil=>intro s h;exact h
  |cons x l ih=>intro s h;exact ih _ (ins_sorted x s h)
 exact gen l [] List.Pairwise.nil
theorem srt_le {L:List Int} (h:L.Pairwise (· ≤ ·)) {j:Nat} {y:Int} (hy:L[j]?=some y):∀a∈L.take (j+1),a≤y:=by
 intro a ha;obtain⟨hj,he⟩:=List.getElem?_eq_some_iff.1 hy;rw[List.take_add_one,hy]at ha
 rcases List.mem_append.1 ha with ha|ha
 ·have hs:L=L.take j++y::L.drop (j+1):=by rw[←he,List.getElem_cons_drop,List.take_append_drop]
  rw[hs,List.pairwise_append]at h;exact h.2.2 a ha y (by simp)
 ·simp at ha;omega
def wayL (L:List Int) (x:Int) (R:List Int) (j:Nat):List Int:=L.take j++x::(L.drop j++R)
theorem wayL_at {L:List Int} {x:Int} {R:List Int} {j:Nat} (h:j≤L.length):(wayL L x R j)[j]?=some x:=by
 unfold wayL;rw[List.getElem?_append_right (by simp;omega)];simp[Nat.min_eq_left h]
theorem wayL_before {L:List Int} {x y:Int} {R:List Int} {j:Nat} (h:L[j]?=some y):(wayL L x R (j+1))[j]?=some y:=by
 have hj:=(List.getElem?_eq_some_iff.1 h).1;unfold wayL;rw[List.getElem?_append_left (by simp;omega),List.getElem?_take];simp[h]
theorem wayL_swap {L:List Int} {x y:Int} {R:List Int} {j:Nat} (h:L[j]?=some y):((wayL L x R (j+1)).set (j+1) y).set j x=wayL L x R j:=by
 obtain⟨hj,hy⟩:=List.getElem?_eq_some_iff.1 h;have h1:L.take (j+1)=L.take j++[y]:=by rw[List.take_add_one,h];rfl
 have h2:L.drop j=y::L.drop (j+1):=by rw[List.drop_eq_getElem_cons hj,hy]
 have hl:(L.take j).length=j:=by rw[List.length_take];omega
 unfold wayL;rw[h1,h2,List.append_assoc,List.set_append,if_neg (by omega),List.set_append,if_neg (by omega),hl];simp
@[simp] def nCell (n:Int):List AV:=[I n]
theorem flat_n (l:List Int):(l.map nCell).all (fun e=>e.all flatC)=true:=by simp[flatC]
@[simp high] theorem flat_n_ren (l:List Int) (g:List (Option Nat)) (n:Nat):(l.map nCell).map (fun e=>e.map (renAV g n))=l.map nCell:=map_flatC (fun x h=>flatC_ren h g n) (flat_n l)
theorem c_Less (a b:Int):PureCall Tryz.prog 172 [I a,I b] (Bo (decide (a<b))):=by
 refine PureCall.of_body Tryz.func172 rfl (by decide) (by simp[Tryz.ntmps172]) ?_;simp only[Tryz.ntmps172,Tryz.results172];refine aS fun K hK=>?_;simp -dsimp;apply hK;clear hK K;refine aS fun K hK=>?_;simp -dsimp;refine callK_intro _ (c_isNaN a) (by simp) ?_;simp -dsimp;refine callK_may _ (fun hm=>c_isNaN b) (by simp) ?_;simp -dsimp;apply hK;clear hK K;exact awp_ret (by simp)
theorem m_isort (xs:List Int) (h1:1≤xs.length) (hn:xs.length≤1000):MutCall Tryz.prog 166 [.row 0 0 xs.length,I 0,I xs.length] [some (.els 1 (xs.map nCell))] [] (.tup []) [some (.els 1 ((srt xs).map nCell))] []:=by
 have w01:IntKind.i64.wrap 1=1:=wrap_in (by omega) (by omega);have wm1:IntKind.i64.wrap (-1)=-1:=wrap_in (by omega) (by omega);refine MutCall.of_bodyG [0] Tryz.func166 rfl (by decide) (by simp[Tryz.ntmps166]) rfl rfl ?_;intro J hJ;simp only[Tryz.ntmps166,Tryz.results166];refine gS fun K hK=>?_;simp -dsimp [w01];apply hK;clear hK K;refine gwp_block ?_;refine gwp_prune [0,1,2,6] (Or.inr (by simp)) ?_;simp only[zP,Nat.reduceEqDiff,reduceIte];refine gwp_loop_l [0,1,2] (α:=Nat) (fun i=>[(6,I i)]) (fun i=>[some (.els 1 ((srt (xs.take i)++xs.drop i).map nCell))]) (fun i=>1≤i∧i≤xs.length) (fun i=>xs.length-i) 1 ?_ ?_ ?_
 ·exact⟨Nat.le_refl _,h1⟩
 ·refine gsub (sub_rb [some 0] rfl (by simp) ?_) (by simp);obtain⟨x,l,rfl⟩:∃x l,xs=x::l:=by cases xs with|nil=>simp at h1|cons x l=>exact⟨x,l,rfl⟩
  simp[srt,ins]
 rintro i ⟨i1,i2⟩;simp only[zP,Nat.reduceEqDiff,reduceIte];refine gwp_seq_k fun K1 hK1=>?_;refine gS fun K hK=>?_;simp -dsimp;apply hK;clear hK K;refine gwp_cond rfl (fun hc0=>?_) (fun hc0=>?_)
 ·skip
  try simp at hc0
  have wi:=zW i (by omega);obtain⟨x,hx⟩:∃x,xs[i]?=some x:=⟨_,List.getElem?_eq_getElem hc0⟩;obtain⟨hxi,hxe⟩:=List.getElem?_eq_some_iff.1 hx;have hdr:xs.drop i=x::xs.drop (i+1):=by rw[List.drop_eq_getElem_cons hxi,hxe]
  have hdm:(xs.map nCell).drop i=[I x]::(xs.drop (i+1)).map nCell:=by rw[←List.map_drop,hdr];rfl
  have hst:=srt_take hx;have hsl:(srt (xs.take i)).length=i:=by rw[srt_len,List.length_take];omega
  have hso:=srt_sorted (xs.take i);generalize srt (xs.take i)=L at hst hsl hso ⊢;generalize hR:xs.drop (i+1)=R at hdr hdm ⊢;have hRl:R.length=xs.length-(i+1):=by rw[←hR,List.length_drop]
  refine gwp_skip ?_;simp only[zT,reduceIte,Nat.reduceEqDiff];refine hK1 _ _ ?_;refine gwp_prune [0,1,2,6] (Or.inr (by simp)) ?_;simp only[zP,Nat.reduceEqDiff,reduceIte];refine gwp_seq_k fun K2 hK2=>?_;refine gwp_block ?_;refine gS fun K hK=>?_;simp -dsimp;apply hK;clear hK K;refine gwp_block ?_;refine gwp_prune [0,1,2,6,7] (Or.inr (by simp)) ?_;simp only[zP,Nat.reduceEqDiff,reduceIte];refine gwp_loop_l [0,1,2,6] (α:=Nat) (fun j=>[(7,I j)]) (fun j=>[some (.els 1 ((wayL L x R j).map nCell))]) (fun j=>j≤i∧∀y∈L.drop j,x<y) (fun j=>j) i ?_ ?_ ?_
  ·exact⟨Nat.le_refl _,by rw[List.drop_of_length_le (by omega)];simp⟩
  ·refine gsub (sub_rb [some 0] rfl (by simp) ?_) (by simp);simp[wayL,hdm,List.take_of_length_le (show L.length≤i by omega),List.drop_of_length_le (show L.length≤i by omega)]
  rintro j ⟨j1,j2⟩
  rcases j with _|j
  rotate_left
  obtain⟨y,hy⟩:∃y,L[j]?=some y:=⟨_,List.getElem?_eq_getElem (by omega)⟩;have gj:=wayL_at (L:=L) (x:=x) (R:=R) (j:=j+1) (by omega);have gb:=wayL_before (x:=x) (R:=R) hy;have wj:IntKind.i64.wrap (j:Int)=j:=wrap_in (by omega) (by omega);have hj1:j+1<xs.length:=by omega
  have hj0:j<xs.length:=by omega
  have hdj:L.drop j=y::L.drop (j+1):=by obtain⟨hh,he⟩:=List.getElem?_eq_some_iff.1 hy;rw[List.drop_eq_getElem_cons hh,he]
  rotate_left
  ·simp only[zP,Nat.reduceEqDiff,reduceIte];refine gwp_seq_k fun K3 hK3=>?_;refine gwp_sd mixed rfl (by decide) rfl rfl fun K hK=>?_;simp -dsimp [wayL_at (L:=L) (x:=x) (R:=R) (Nat.zero_le _),wm1];refine callK_may _ (fun hm=>c_Less x x) (by simp) ?_;simp -dsimp [wayL_at (L:=L) (x:=x) (R:=R) (Nat.zero_le _),wm1];refine hK _ _ _ (by decide+kernel) ?_;clear hK K;refine gwp_cond rfl (fun hc1=>?_) (fun hc1=>?_)
   ·simp at hc1
   ·have hfin:ins x L=x::L:=by have:=ins_split x L (by simpa using j2) [] (by simp);simpa using this
    have he:srt (xs.take (i+1))++xs.drop (i+1)=wayL L x R 0:=by rw[hst,hR,hfin];simp[wayL]
    refine gwp_exit ?_;simp only[zT,reduceIte,Nat.reduceEqDiff];refine hK2 _ _ ?_;refine gwp_prune [0,1,2,6] (Or.inr (by simp)) ?_;simp only[zP,Nat.reduceEqDiff,reduceIte];refine gR fun K hK=>?_;simp -dsimp [wi];apply hK;clear hK K;simp only[zT,reduceIte,Nat.reduceEqDiff];exact⟨i+1,⟨by omega,by omega⟩,by omega,gsub (sub_rb [some 0] rfl (by simp) (by simp only[he];simp)) (by simp)⟩
  ·simp only[zP,Nat.reduceEqDiff,reduceIte];refine gwp_seq_k fun K4 hK4=>?_;refine gwp_sd mixed rfl (by decide) rfl rfl fun K hK=>?_;simp -dsimp [gj,gb,wj,hj1,hj0];refine⟨by omega,?_⟩
   try simp -dsimp [gj,gb,wj,hj1,hj0]
   refine callK_may _ (fun hm=>c_Less x y) (by simp) ?_;simp -dsimp [gj,gb,wj,hj1,hj0];refine hK _ _ _ (by decide+kernel) ?_;clear hK K;refine gwp_cond rfl (fun hc1=>?_) (fun hc1=>?_)
   ·skip
    try simp at hc1
    refine gwp_skip ?_;simp only[zT,reduceIte,Nat.reduceEqDiff];refine hK4 _ _ ?_;refine gwp_prune [0,1,2,6,7] (Or.inr (by simp)) ?_;simp only[zP,Nat.reduceEqDiff,reduceIte];refine gwp_seq_k fun K5 hK5=>?_;refine gwp_block ?_;refine gwp_draw mixed rfl (by decide) rfl rfl fun K hK=>?_;simp -dsimp [gj,gb,wj,hj1,hj0]
    repeat (refine⟨by omega,?_⟩;try simp -dsimp [gj,gb,wj,hj1,hj0])
    refine hK _ _ _ (by decide+kernel) ?_;clear hK K;simp only[zT,reduceIte,Nat.reduceEqDiff];refine hK5 _ _ ?_;refine gwp_prune [0,1,2,6,7] (Or.inr (by simp)) ?_;simp only[zP,Nat.reduceEqDiff,reduceIte];refine gR fun K hK=>?_;simp -dsimp [wj];apply hK;clear hK K;simp only[zT,reduceIte,Nat.reduceEqDiff];have hsw:(((wayL L x R (j+1)).map nCell).set (j+1) [I y]).set j [I x]=(wayL L x R j).map nCell:=by rw[←wayL_swap hy,List.map_set,List.map_set];rfl
    exact⟨j,⟨by omega,by intro z hz;rw[hdj]at hz;rcases List.mem_cons.1 hz with rfl|hz;exact hc1;exact j2 z hz⟩,by omega,gsub (sub_rb [some 0] rfl (by simp) (by simp[hsw])) (by simp)⟩
   ·skip
    try simp at hc1
    have hfin:ins x L=L.take (j+1)++x::L.drop (j+1):=by have:=ins_split x (L.drop (j+1)) j2 (L.take (j+1)) (fun a ha=>Int.le_trans (srt_le hso hy a ha) hc1);rwa [List.take_append_drop]at this
    have he:srt (xs.take (i+1))++xs.drop (i+1)=wayL L x R (j+1):=by rw[hst,hR,hfin];simp[wayL]
    refine gwp_exit ?_;simp only[zT,reduceIte,Nat.reduceEqDiff];refine hK2 _ _ ?_;refine gwp_prune [0,1,2,6] (Or.inr (by simp)) ?_;simp only[zP,Nat.reduceEqDiff,reduceIte];refine gR fun K hK=>?_;simp -dsimp [wi];apply hK;clear hK K;simp only[zT,reduceIte,Nat.reduceEqDiff];exact⟨i+1,⟨by omega,by omega⟩,by omega,gsub (sub_rb [some 0] rfl (by simp) (by simp only[he];simp)) (by simp)⟩
 ·skip
  try simp at hc0
  have hie:i=xs.length:=by omega
  subst hie;refine gwp_exit ?_
  try simp only[zT,reduceIte,Nat.reduceEqDiff]
  exact⟨[some 0],rfl,by simp,by simp,by simp[h1],by simp[resP,tupOf]⟩
theorem und_str:(Tryz.prog).underlying 9=some .string:=by kernel_rfl
theorem und_u8:(Tryz.prog).underlying 5=some (.int .u8):=by kernel_rfl
theorem und_uint:(Tryz.prog).underlying 259=some (.int .u64):=by kernel_rfl
theorem str_index (s:ByteArray) (n:Int) (h0:0≤n) (h1:n.toNat<s.size) (w:World):(Instr.index 9 (.string s) (.int .u8 n)).run Tryz.prog w= .ok (.int .u8 (s[n.toNat]).toNat) w:=by
 have hs:s[n.toNat]?=some s[n.toNat]:=getElem?_pos s n.toNat h1;simp[Instr.index,asIntOf,run_underlying und_str,h0,hs]
theorem conv_in (n:Int) (w:World):(convert 3 259 (.int .i64 n)).run Tryz.prog w= .ok (.int .u64 (IntKind.u64.wrap n)) w:=by
 simp[convert,run_underlying und_int,run_underlying und_uint,Conv.intToInt]
theorem conv_u8 (n:Int) (w:World):(convert 304 5 (.int .u64 n)).run Tryz.prog w= .ok (.int .u8 (IntKind.u8.wrap n)) w:=by
 simp[convert,run_underlying und_u64,run_underlying und_u8,Conv.intToInt]
theorem conv_8i (n:Int) (w:World):(convert 5 3 (.int .u8 n)).run Tryz.prog w= .ok (.int .i64 (IntKind.i64.wrap n)) w:=by
 simp[convert,run_underlying und_int,run_underlying und_u8,Conv.intToInt]
theorem c_Len64 (n:Int) (h0:0≤n) (h1:n≤200):∃k,PureCall Tryz.prog 176 [U n] (I k):=by
 have w8:IntKind.u8.wrap n=n:=by rw[IntKind.wrap_u8];omega
 have h2:¬4294967296≤n:=by omega
 have h3:¬65536≤n:=by omega
 have h4:¬256≤n:=by omega
 apply Exists.intro;refine PureCall.of_body Tryz.func176 rfl (by decide) (by simp[Tryz.ntmps176]) ?_;simp only[Tryz.ntmps176,Tryz.results176];refine aS fun K hK=>?_;simp -dsimp;apply hK;clear hK K;refine awp_seq_k fun K1 hK1=>?_;refine aS fun K hK=>?_;simp -dsimp;apply hK;clear hK K;refine awp_cond rfl (fun hc0=>?_) (fun hc0=>?_)
 ·skip
  try simp at hc0
  omega
 ·skip
  try simp at hc0
  refine awp_skip ?_;simp only[zT,reduceIte,Nat.reduceEqDiff];refine hK1 _ _ ?_;refine awp_prune [0,2] ?_;simp only[zP,Nat.reduceEqDiff,reduceIte];refine awp_seq_k fun K2 hK2=>?_;refine aS fun K hK=>?_;simp -dsimp;apply hK;clear hK K;refine awp_cond rfl (fun hc1=>?_) (fun hc1=>?_)
  ·skip
   try simp at hc1
   omega
  ·skip
   try simp at hc1
   refine awp_skip ?_;simp only[zT,reduceIte,Nat.reduceEqDiff];refine hK2 _ _ ?_;refine awp_prune [0,2] ?_;simp only[zP,Nat.reduceEqDiff,reduceIte];refine awp_seq_k fun K3 hK3=>?_;refine aS fun K hK=>?_;simp -dsimp;apply hK;clear hK K;refine awp_cond rfl (fun hc2=>?_) (fun hc2=>?_)
   ·skip
    try simp at hc2
    omega
   ·skip
    try simp at hc2
    refine awp_skip ?_;simp only[zT,reduceIte,Nat.reduceEqDiff];refine hK3 _ _ ?_;refine awp_prune [0,2] ?_;simp only[zP,Nat.reduceEqDiff,reduceIte];refine aS fun K hK=>?_;simp -dsimp;refine⟨_,conv_u8 n,?_⟩
    try simp -dsimp [w8]
    refine⟨_,str_index _ n h0 (Nat.lt_of_lt_of_le (show n.toNat<256 by omega) (by decide+kernel)),?_⟩
    try simp -dsimp
    refine⟨_,conv_8i _,?_⟩
    try simp -dsimp
    apply hK;clear hK K;exact awp_ret rfl
theorem c_Len (n:Int) (h0:0≤n) (h1:n≤200):∃k,PureCall Tryz.prog 135 [U n] (I k):=by
 obtain⟨k,hk⟩:=c_Len64 n h0 h1;refine⟨k,?_⟩;refine PureCall.of_body Tryz.func135 rfl (by decide) (by simp[Tryz.ntmps135]) ?_;simp only[Tryz.ntmps135,Tryz.results135];refine aS fun K hK=>?_;simp -dsimp;apply hK;clear hK K;refine awp_seq_k fun K1 hK1=>?_;refine awp_cond rfl (fun hc0=>?_) (fun hc0=>?_)
 ·simp at hc0
 ·refine awp_skip ?_;simp only[zT,reduceIte,Nat.reduceEqDiff];refine hK1 _ _ ?_;refine awp_prune [0] ?_;simp only[zP,Nat.reduceEqDiff,reduceIte];refine aS fun K hK=>?_;simp -dsimp;refine callK_intro _ (hk) (by simp) ?_;simp -dsimp;apply hK;clear hK K;exact awp_ret (by simp)
theorem m_pdq (xs:List Int) (k:Int) (h1:1≤xs.length) (hn:xs.length≤12):MutCall Tryz.prog 134 [.row 0 0 xs.length,I 0,I xs.length,I k] [some (.els 1 (xs.map nCell))] [] (.tup []) [some (.els 1 ((srt xs).map nCell))] []:=by
 have hs:=m_isort xs h1 (by omega);have wl:IntKind.i64.wrap (xs.length:Int)=xs.length:=wrap_in (by omega) (by omega);refine MutCall.of_bodyG [0] Tryz.func134 rfl (by decide) (by simp[Tryz.ntmps134]) rfl rfl ?_;intro J hJ;simp only[Tryz.ntmps134,Tryz.results134];refine gS fun K hK=>?_;simp -dsimp;apply hK;clear hK K;refine gS fun K hK=>?_;simp -dsimp;apply hK;clear hK K;refine gwp_block ?_;refine gwp_prune [0,1,2,3,8,9] (Or.inr (by simp)) ?_;simp only[zP,Nat.reduceEqDiff,reduceIte];refine gwp_loop_l [0] (α:=Unit) (fun _=>[(1,I 0),(2,I xs.length),(3,I k),(8,Bo true),(9,Bo true)]) (fun _=>[some (.els 1 (xs.map nCell))]) (fun _=>True) (fun _=>0) () ?_ ?_ ?_
 ·simp
 ·exact gsub (sub_same (by simp)) (by simp)
 rintro u-;simp only[zP,Nat.reduceEqDiff,reduceIte];refine gwp_block ?_;refine gS fun K hK=>?_;simp -dsimp [wl];apply hK;clear hK K;refine gwp_seq_k fun K1 hK1=>?_;refine gS fun K hK=>?_;simp -dsimp;apply hK;clear hK K;refine gwp_cond rfl (fun hc0=>?_) (fun hc0=>?_)
 ·skip
  try simp at hc0
  refine gS fun K hK=>?_;simp -dsimp;refine callK_mut [0] [] [some 0] (hs) (by decide) rfl (by simp) (by simp) rfl (by simp) ?_;simp -dsimp;apply hK;clear hK K;exact gwp_ret ⟨[some 0],rfl,by simp,by simp,by simp[h1],by simp[resP,tupOf]⟩
 ·skip
  try simp at hc0
  omega
theorem m_Sort (xs:List Int) (h1:1≤xs.length) (hn:xs.length≤12):MutCall Tryz.prog 90 [.row 0 0 xs.length] [some (.els 1 (xs.map nCell))] [] (.tup []) [some (.els 1 ((srt xs).map nCell))] []:=by
 obtain⟨k,hk⟩:=c_Len xs.length (by omega) (by omega);have hs:=m_pdq xs k h1 hn;have wu:IntKind.u64.wrap (xs.length:Int)=xs.length:=u64_in (by omega) (by omega);refine MutCall.of_bodyG [0] Tryz.func90 rfl (by decide) (by simp[Tryz.ntmps90]) rfl rfl ?_;intro J hJ;simp only[Tryz.ntmps90,Tryz.results90];refine gS fun K hK=>?_;simp -dsimp;apply hK;clear hK K;refine gR fun K hK=>?_;simp -dsimp;refine⟨_,conv_in _,?_⟩;simp -dsimp [wu];refine callK_intro _ (hk) (by simp) ?_;simp -dsimp;refine callK_mut [0] [] [some 0] (hs) (by decide) rfl (by simp) (by simp) rfl (by simp) ?_;simp -dsimp;apply hK;clear hK K
 try simp only[zT,reduceIte,Nat.reduceEqDiff]
 exact⟨[some 0],rfl,by simp,by simp,by simp[h1],by simp[resP,tupOf]⟩
theorem c_isort0:PureCall Tryz.prog 166 [.lst 1 [],I 0,I 0] (.tup []):=by
 have w01:IntKind.i64.wrap 1=1:=wrap_in (by omega) (by omega);refine PureCall.of_body Tryz.func166 rfl (by decide) (by simp[Tryz.ntmps166]) ?_;simp only[Tryz.ntmps166,Tryz.results166];refine aS fun K hK=>?_;simp -dsimp [w01];apply hK;clear hK K;refine awp_block ?_;refine awp_prune [0,1,2,6] ?_;simp only[zP,Nat.reduceEqDiff,reduceIte];refine awp_loop_l [0,1,2] (α:=Unit) (fun i=>[(6,I 1)]) (fun i=>[]) (fun i=>True) (fun i=>0) () ?_ ?_ ?_
 ·simp
 ·exact sub_same (by simp)
 rintro u-;simp only[zP,Nat.reduceEqDiff,reduceIte];refine awp_seq_k fun K1 hK1=>?_;refine aS fun K hK=>?_;simp -dsimp;apply hK;clear hK K;refine awp_cond rfl (fun hc0=>?_) (fun hc0=>?_)
 ·simp at hc0
 ·refine awp_exit ?_
  try simp only[zT,reduceIte,Nat.reduceEqDiff]
  simp[resP,tupOf]
theorem c_pdq0 (k:Int):PureCall Tryz.prog 134 [.lst 1 [],I 0,I 0,I k] (.tup []):=by
 have wl:IntKind.i64.wrap 0=0:=wrap_in (by omega) (by omega);refine PureCall.of_body Tryz.func134 rfl (by decide) (by simp[Tryz.ntmps134]) ?_;simp only[Tryz.ntmps134,Tryz.results134];refine aS fun K hK=>?_;simp -dsimp;apply hK;clear hK K;refine aS fun K hK=>?_;simp -dsimp;apply hK;clear hK K;refine awp_block ?_;refine awp_prune [0,1,2,3,8,9] ?_;simp only[zP,Nat.reduceEqDiff,reduceIte];refine awp_loop_l [0] (α:=Unit) (fun _=>[(1,I 0),(2,I 0),(3,I k),(8,Bo true),(9,Bo true)]) (fun _=>[]) (fun _=>True) (fun _=>0) () ?_ ?_ ?_
 ·simp
 ·exact sub_same (by simp)
 rintro u-;simp only[zP,Nat.reduceEqDiff,reduceIte];refine awp_block ?_;refine aS fun K hK=>?_;simp -dsimp [wl];apply hK;clear hK K;refine awp_seq_k fun K1 hK1=>?_;refine aS fun K hK=>?_;simp -dsimp;apply hK;clear hK K;refine awp_cond rfl (fun hc0=>?_) (fun hc0=>?_)
 ·refine aS fun K hK=>?_;simp -dsimp;refine callK_intro _ (c_isort0) (by simp) ?_;simp -dsimp;apply hK;clear hK K;exact awp_ret (by simp[resP,tupOf])
 ·simp at hc0
theorem c_Sort0:PureCall Tryz.prog 90 [.lst 1 []] (.tup []):=by
 obtain⟨k,hk⟩:=c_Len 0 (by omega) (by omega);have wu:IntKind.u64.wrap 0=0:=u64_in (by omega) (by omega);refine PureCall.of_body Tryz.func90 rfl (by decide) (by simp[Tryz.ntmps90]) ?_;simp only[Tryz.ntmps90,Tryz.results90];refine aS fun K hK=>?_;simp -dsimp;apply hK;clear hK K;refine aR fun K hK=>?_;simp -dsimp;refine⟨_,conv_in _,?_⟩;simp -dsimp [wu];refine callK_intro _ (hk) (by simp) ?_;simp -dsimp;refine callK_intro _ (c_pdq0 k) (by simp) ?_;simp -dsimp;apply hK;clear hK K
 try simp only[zT,reduceIte,Nat.reduceEqDiff]
 simp[resP,tupOf]
end Go.Tram
end
section
namespace Go.Tram
open Go.AM Go.Proofs
structure Move where
 Rail:Int
 Back:Bool
 deriving DecidableEq,Inhabited
@[simp] def Move.cells (m:Move):List AV:=[I m.Rail,Bo m.Back]
abbrev Move.av (m:Move):AV:= .agg m.cells
def arrE (m:Move):REnd:=⟨m.Rail, !m.Back⟩
def leaE (m:Move):REnd:=⟨m.Rail,m.Back⟩
def numM (m:Move):Int:=if m.Back then 2*m.Rail+1 else 2*m.Rail
def moveM (k:Int):Move:=⟨k/2,decide (k % 2=1)⟩
def movB (p:Plan) (m:Move):Bool:=inr m.Rail 0 (p.Rails.length-1)
theorem kvGet_set (q k:List KC) (u:Value):∀kvs:List (List KC×Value),kvGet (kvSet kvs k u) q=if q=k then some u else kvGet kvs q
 |[]=>by simp[kvSet,kvGet]
 | (k0,v0)::r=>by
  simp only[kvSet]
  split
  ·rename_i e;subst e;simp only[kvGet]
   split<;>rfl
  ·rename_i e;simp only[kvGet]
   split
   ·rename_i e2;subst e2;rw[if_neg (fun h=>e h.symm)]
   ·exact kvGet_set q k u r
def plcV (p:Plan) (e:REnd):Value:=(kvGet (placesK p p.Nodes.length) [.i .i64 e.Rail, .b e.Last]).getD (.int .i64 0)
def plc (p:Plan) (e:REnd):Int:=match plcV p e with| .int _ n=>n|_=>0
def intsK (kvs:List (List KC×Value)):Prop:=∀q v,kvGet kvs q=some v→∃n:Nat,n≤1000∧v= .int .i64 n
theorem intsK_put {kvs:List (List KC×Value)} {es:List REnd} (h:intsK kvs):∀j,j≤1000→intsK (putE kvs es j)
 |0,_=>h
 |j+1,hj=>by
  intro q v hq;simp only[putE]at hq;rw[kvGet_set]at hq
  split at hq
  ·simp only[Option.some.injEq]at hq;exact⟨j,by omega,hq.symm⟩
  ·exact intsK_put h j (by omega) q v hq
theorem intsK_places {p:Plan} (hE:∀i:Nat,i<p.Nodes.length→(p.node i).Ends.length≤4):∀i,i≤p.Nodes.length→intsK (placesK p i)
 |0,_=>by intro q v h;simp[placesK,kvGet]at h
 |i+1,hi=>by
  simp only[placesK];exact intsK_put (intsK_places hE i (by omega)) _ (by have:=hE i (by omega);omega)
theorem node_fine {p:Plan} (hv:validB p=true) {i:Int} (h0:0≤i) (h1:i<p.Nodes.length):nodeB (p.node i)=true:=List.all_eq_true.1 (valid_parts hv).2.2.1 _ (List.mem_of_getElem? (p.node_get h0 h1))
theorem node_kind {n:Node} (h:nodeB n=true):(1≤n.Kind∧n.Kind≤6)∧n.Ends.length≤4∧(0≤n.Normal∧n.Normal≤2):=by
 simp only[nodeB,Bool.and_eq_true,decide_eq_true_eq]at h;obtain⟨h1,_,h2,h3⟩:=h;unfold endsN at h2 h3;refine⟨by omega,by omega,?_⟩
 split at h1
 ·have:=inr_iff.1 h1;omega
 ·simp only[decide_eq_true_eq]at h1;omega
theorem plc_val {p:Plan} (hv:validB p=true) (e:REnd):plcV p e= .int .i64 (plc p e)∧0≤plc p e∧plc p e≤1000:=by
 have hi:=intsK_places (p:=p) (fun i hi=>(node_kind (node_fine hv (i:=i) (by omega) (by omega))).2.1) p.Nodes.length (Nat.le_refl _);have key:∃n:Nat,n≤1000∧plcV p e= .int .i64 n:=by
  unfold plcV
  cases hk:kvGet (placesK p p.Nodes.length) [.i .i64 e.Rail, .b e.Last]with
  |none=>exact⟨0,by omega,rfl⟩
  |some v=>obtain⟨n,h1,h2⟩:=hi _ v hk;exact⟨n,h1,h2⟩
 obtain⟨n,h1,h2⟩:=key;unfold plc;rw[h2];exact⟨rfl,by show(0:Int)≤n;omega,by show(n:Int)≤1000;omega⟩
def letsB (n:Node) (f t:Int):Bool:=
 if n.Kind=1 then false else if n.Kind=2 then decide (f≠t)else if n.Kind=3 then decide (f≠t)&&decide ((f+t) % 2=0)
 else if n.Kind=4 then decide (f≠t)&&(decide (f=0)||decide (t=0))else if n.Kind=5 then(decide (f≠0)&&decide (t=0))||(decide (f=0)&&decide (t=n.Normal))
 else(decide (f=0)&&decide (t=n.Normal))||(decide (f=n.Normal)&&decide (t=0))
theorem c_pend (n:Node) (f t:Int):PureCall Tryz.prog 128 [.agg n.cells,I f,I t] (Bo false):=by
 refine PureCall.of_body Tryz.func128 rfl (by decide) (by simp[Tryz.ntmps128]) ?_;simp only[Tryz.ntmps128,Tryz.results128];refine aS fun K hK=>?_;simp -dsimp;apply hK;clear hK K;refine aS fun K hK=>?_;simp -dsimp;apply hK;clear hK K;exact awp_ret (by simp)
theorem c_pplain (n:Node) (f t:Int):PureCall Tryz.prog 129 [.agg n.cells,I f,I t] (Bo (decide (f≠t))):=by
 refine PureCall.of_body Tryz.func129 rfl (by decide) (by simp[Tryz.ntmps129]) ?_;simp only[Tryz.ntmps129,Tryz.results129];refine aS fun K hK=>?_;simp -dsimp;apply hK;clear hK K;refine aS fun K hK=>?_;simp -dsimp;apply hK;clear hK K;refine awp_ret ?_;simp;exact Bool.eq_iff_iff.2 (by simp)
theorem c_pcross (n:Node) (f t:Int) (hf:0≤f∧f≤1000) (ht:0≤t∧t≤1000):PureCall Tryz.prog 130 [.agg n.cells,I f,I t] (Bo (decide (f≠t)&&decide ((f+t) % 2=0))):=by
 have w:IntKind.i64.wrap (f+t)=f+t:=wrap_in (by omega) (by omega);have w2:(f+t).tmod 2=(f+t) % 2:=Int.tmod_eq_emod_of_nonneg (by omega);refine PureCall.of_body Tryz.func130 rfl (by decide) (by simp[Tryz.ntmps130]) ?_;simp only[Tryz.ntmps130,Tryz.results130];refine aS fun K hK=>?_;simp -dsimp;apply hK;clear hK K;refine aS fun K hK=>?_;simp -dsimp [w,w2];apply hK;clear hK K;refine awp_ret ?_;simp;exact Bool.eq_iff_iff.2 (by simp)
theorem c_pset (n:Node) (f t:Int):PureCall Tryz.prog 131 [.agg n.cells,I f,I t] (Bo (decide (f≠t)&&(decide (f=0)||decide (t=0)))):=by
 refine PureCall.of_body Tryz.func131 rfl (by decide) (by simp[Tryz.ntmps131]) ?_;simp only[Tryz.ntmps131,Tryz.results131];refine aS fun K hK=>?_;simp -dsimp;apply hK;clear hK K;refine aS fun K hK=>?_;simp -dsimp;apply hK;clear hK K;refine awp_ret ?_;simp;exact Bool.eq_iff_iff.2 (by simp)
theorem c_pspring (n:Node) (f t:Int):PureCall Tryz.prog 132 [.agg n.cells,I f,I t] (Bo ((decide (f≠0)&&decide (t=0))||(decide (f=0)&&decide (t=n.Normal)))):=by
 refine PureCall.of_body Tryz.func132 rfl (by decide) (by simp[Tryz.ntmps132]) ?_;simp only[Tryz.ntmps132,Tryz.results132];refine aS fun K hK=>?_;simp -dsimp;apply hK;clear hK K;refine aS fun K hK=>?_;simp -dsimp;apply hK;clear hK K;refine awp_ret ?_;simp;exact Bool.eq_iff_iff.2 (by simp)
theorem c_plocked (n:Node) (f t:Int):PureCall Tryz.prog 133 [.agg n.cells,I f,I t] (Bo ((decide (f=0)&&decide (t=n.Normal))||(decide (f=n.Normal)&&decide (t=0)))):=by
 refine PureCall.of_body Tryz.func133 rfl (by decide) (by simp[Tryz.ntmps133]) ?_;simp only[Tryz.ntmps133,Tryz.results133];refine aS fun K hK=>?_;simp -dsimp;apply hK;clear hK K;refine aS fun K hK=>?_;simp -dsimp;apply hK;clear hK K;refine awp_ret ?_;simp;exact Bool.eq_iff_iff.2 (by simp)
theorem c_lets1 (n:Node) (f t:Int) (hf:0≤f∧f≤1000) (ht:0≤t∧t≤1000) (hk:n.Kind=1):PureCall Tryz.prog 89 [.agg n.cells,I f,I t] (Bo (letsB n f t)):=by
 have hc:=c_pend n f t;unfold letsB;simp only[Node.cells,hk,Int.reduceEq,if_false,if_true,reduceIte]at hc ⊢;refine PureCall.of_body Tryz.func89 rfl (by decide) (by simp[Tryz.ntmps89]) ?_;simp only[Tryz.ntmps89,Tryz.results89];refine aS fun K hK=>?_;simp -dsimp;apply hK;clear hK K;refine aS fun K hK=>?_;simp -dsimp;apply hK;clear hK K;refine awp_sd mixed rfl fun K hK=>?_;simp -dsimp;refine callK_intro _ (hc) (by simp) ?_;simp -dsimp;refine hK _ _ _ (by decide+kernel) ?_;clear hK K;exact awp_ret (by simp)
theorem c_lets2 (n:Node) (f t:Int) (hf:0≤f∧f≤1000) (ht:0≤t∧t≤1000) (hk:n.Kind=2):PureCall Tryz.prog 89 [.agg n.cells,I f,I t] (Bo (letsB n f t)):=by
 have hc:=c_pplain n f t;unfold letsB;simp only[Node.cells,hk,Int.reduceEq,if_false,if_true,reduceIte]at hc ⊢;refine PureCall.of_body Tryz.func89 rfl (by decide) (by simp[Tryz.ntmps89]) ?_;simp only[Tryz.ntmps89,Tryz.results89];refine aS fun K hK=>?_;simp -dsimp;apply hK;clear hK K;refine aS fun K hK=>?_;simp -dsimp;apply hK;clear hK K;refine awp_sd mixed rfl fun K hK=>?_;simp -dsimp;refine callK_intro _ (hc) (by simp) ?_;simp -dsimp;refine hK _ _ _ (by decide+kernel) ?_;clear hK K;exact awp_ret (by simp)
theorem c_lets3 (n:Node) (f t:Int) (hf:0≤f∧f≤1000) (ht:0≤t∧t≤1000) (hk:n.Kind=3):PureCall Tryz.prog 89 [.agg n.cells,I f,I t] (Bo (letsB n f t)):=by
 have hc:=c_pcross n f t hf ht;unfold letsB;simp only[Node.cells,hk,Int.reduceEq,if_false,if_true,reduceIte]at hc ⊢;refine PureCall.of_body Tryz.func89 rfl (by decide) (by simp[Tryz.ntmps89]) ?_;simp only[Tryz.ntmps89,Tryz.results89];refine aS fun K hK=>?_;simp -dsimp;apply hK;clear hK K;refine aS fun K hK=>?_;simp -dsimp;apply hK;clear hK K;refine awp_sd mixed rfl fun K hK=>?_;simp -dsimp;refine callK_intro _ (hc) (by simp) ?_;simp -dsimp;refine hK _ _ _ (by decide+kernel) ?_;clear hK K;exact awp_ret (by simp)
theorem c_lets4 (n:Node) (f t:Int) (hf:0≤f∧f≤1000) (ht:0≤t∧t≤1000) (hk:n.Kind=4):PureCall Tryz.prog 89 [.agg n.cells,I f,I t] (Bo (letsB n f t)):=by
 have hc:=c_pset n f t;unfold letsB;simp only[Node.cells,hk,Int.reduceEq,if_false,if_true,reduceIte]at hc ⊢;refine PureCall.of_body Tryz.func89 rfl (by decide) (by simp[Tryz.ntmps89]) ?_;simp only[Tryz.ntmps89,Tryz.results89];refine aS fun K hK=>?_;simp -dsimp;apply hK;clear hK K;refine aS fun K hK=>?_;simp -dsimp;apply hK;clear hK K;refine awp_sd mixed rfl fun K hK=>?_;simp -dsimp;refine callK_intro _ (hc) (by simp) ?_;simp -dsimp;refine hK _ _ _ (by decide+kernel) ?_;clear hK K;exact awp_ret (by simp)
theorem c_lets5 (n:Node) (f t:Int) (hf:0≤f∧f≤1000) (ht:0≤t∧t≤1000) (hk:n.Kind=5):PureCall Tryz.prog 89 [.agg n.cells,I f,I t] (Bo (letsB n f t)):=by
 have hc:=c_pspring n f t;unfold letsB;simp only[Node.cells,hk,Int.reduceEq,if_false,if_true,reduceIte]at hc ⊢;refine PureCall.of_body Tryz.func89 rfl (by decide) (by simp[Tryz.ntmps89]) ?_;simp only[Tryz.ntmps89,Tryz.results89];refine aS fun K hK=>?_;simp -dsimp;apply hK;clear hK K;refine aS fun K hK=>?_;simp -dsimp;apply hK;clear hK K;refine awp_sd mixed rfl fun K hK=>?_;simp -dsimp;refine callK_intro _ (hc) (by simp) ?_;simp -dsimp;refine hK _ _ _ (by decide+kernel) ?_;clear hK K;exact awp_ret (by simp)
theorem c_lets6 (n:Node) (f t:Int) (hf:0≤f∧f≤1000) (ht:0≤t∧t≤1000) (hk:n.Kind=6):PureCall Tryz.prog 89 [.agg n.cells,I f,I t] (Bo (letsB n f t)):=by
 have hc:=c_plocked n f t;unfold letsB;simp only[Node.cells,hk,Int.reduceEq,if_false,if_true,reduceIte]at hc ⊢;refine PureCall.of_body Tryz.func89 rfl (by decide) (by simp[Tryz.ntmps89]) ?_;simp only[Tryz.ntmps89,Tryz.results89];refine aS fun K hK=>?_;simp -dsimp;apply hK;clear hK K;refine aS fun K hK=>?_;simp -dsimp;apply hK;clear hK K;refine awp_sd mixed rfl fun K hK=>?_;simp -dsimp;refine callK_intro _ (hc) (by simp) ?_;simp -dsimp;refine hK _ _ _ (by decide+kernel) ?_;clear hK K;exact awp_ret (by simp)
theorem c_lets (n:Node) (f t:Int) (hf:0≤f∧f≤1000) (ht:0≤t∧t≤1000) (hk:1≤n.Kind∧n.Kind≤6):PureCall Tryz.prog 89 [.agg n.cells,I f,I t] (Bo (letsB n f t)):=by
 have:n.Kind=1∨n.Kind=2∨n.Kind=3∨n.Kind=4∨n.Kind=5∨n.Kind=6:=by omega
 rcases this with h|h|h|h|h|h
 ·exact c_lets1 n f t hf ht h
 ·exact c_lets2 n f t hf ht h
 ·exact c_lets3 n f t hf ht h
 ·exact c_lets4 n f t hf ht h
 ·exact c_lets5 n f t hf ht h
 ·exact c_lets6 n f t hf ht h
theorem c_arrives (m:Move):PureCall Tryz.prog 88 [m.av] (.agg [I m.Rail,Bo (!m.Back)]):=by
 refine PureCall.of_body Tryz.func88 rfl (by decide) (by simp[Tryz.ntmps88]) ?_;simp only[Tryz.ntmps88,Tryz.results88];refine aS fun K hK=>?_;simp -dsimp;apply hK;clear hK K;refine aS fun K hK=>?_;simp -dsimp;apply hK;clear hK K;exact awp_ret (by simp)
theorem c_number (m:Move) (h0:0≤m.Rail) (h1:m.Rail≤100000):PureCall Tryz.prog 42 [m.av] (I (numM m)):=by
 have w1:IntKind.i64.wrap (2*m.Rail)=2*m.Rail:=wrap_in (by omega) (by omega);have w2:IntKind.i64.wrap (2*m.Rail+1)=2*m.Rail+1:=wrap_in (by omega) (by omega);refine PureCall.of_body Tryz.func42 rfl (by decide) (by simp[Tryz.ntmps42]) ?_;simp only[Tryz.ntmps42,Tryz.results42];refine aS fun K hK=>?_;simp -dsimp;apply hK;clear hK K;refine awp_seq_k fun K1 hK1=>?_;refine aS fun K hK=>?_;simp -dsimp;apply hK;clear hK K;refine awp_cond rfl (fun hc0=>?_) (fun hc0=>?_)
 ·skip
  try simp at hc0
  refine aS fun K hK=>?_;simp -dsimp [w1,w2];apply hK;clear hK K;exact awp_ret (by simp[numM,hc0])
 ·skip
  try simp at hc0
  refine awp_skip ?_;simp only[zT,reduceIte,Nat.reduceEqDiff];refine hK1 _ _ ?_;refine awp_prune [1] ?_;simp only[zP,Nat.reduceEqDiff,reduceIte];refine aS fun K hK=>?_;simp -dsimp [w1];apply hK;clear hK K;exact awp_ret (by simp[numM,hc0])
theorem c_move (k:Int) (h0:0≤k) (h1:k≤1000000):PureCall Tryz.prog 91 [I k] (.agg [I (moveM k).Rail,Bo (moveM k).Back]):=by
 have w1:k.tdiv 2=k/2:=Int.tdiv_eq_ediv_of_nonneg h0;have w2:k.tmod 2=k % 2:=Int.tmod_eq_emod_of_nonneg h0;have w3:IntKind.i64.wrap (k/2)=k/2:=wrap_in (by omega) (by omega);refine PureCall.of_body Tryz.func91 rfl (by decide) (by simp[Tryz.ntmps91]) ?_;simp only[Tryz.ntmps91,Tryz.results91];refine aS fun K hK=>?_;simp -dsimp;apply hK;clear hK K;refine aS fun K hK=>?_;simp -dsimp [w1,w2,w3];apply hK;clear hK K;refine awp_ret ?_;simp[moveM];exact Bool.eq_iff_iff.2 (by simp)
theorem c_tnext (p:Plan) (m:Move):PureCall Tryz.prog 43 [.iptr (net p),m.av] (.clo 86 [.iptr [.iptr (net p)], .iptr m.cells]):=by
 generalize net p=sh;refine PureCall.of_body Tryz.func43 rfl (by decide) (by simp[Tryz.ntmps43]) ?_;simp only[Tryz.ntmps43,Tryz.results43];refine aS fun K hK=>?_;simp -dsimp;apply hK;clear hK K;refine aS fun K hK=>?_;simp -dsimp;apply hK;clear hK K;exact awp_ret (by simp)
end Go.Tram
end
section
namespace Go.Tram
open Go.AM Go.Proofs Go.ChangeShapes Go.WideShapes
theorem sh_bool {n:Nat} {avs:List AV} (h:Shaped Tryz.prog (n+1) 4 avs):∃b,avs=[Bo b]:=shaped_bool k_bool h
theorem sh_move {n:Nat} {avs:List AV} (h:Shaped Tryz.prog (n+2) 51 avs):∃s:Move,avs=s.cells∧I64 s.Rail:=by
 obtain⟨h1,h2⟩:=shaped_agg (by kernel_rfl) td51 h;obtain⟨a,b,rfl⟩:=list2 h1;obtain⟨x,hx,bx⟩:=sh_int (h2 (0,1,3) (by simp));obtain⟨y,hy⟩:=sh_bool (h2 (1,1,4) (by simp));simp at hx hy;subst hx hy;exact⟨⟨x,y⟩,rfl,bx⟩
theorem sh_moves {n:Nat} {avs:List AV} (h:Shaped Tryz.prog (n+3) 32 avs):∃l:List Move,avs=[.lst 2 (l.map Move.cells)]∧l.length≤maxLen∧∀s∈l,I64 s.Rail:=by
 obtain⟨els,hl,hb,he⟩:=shaped_slice (by kernel_rfl) td32 h;obtain⟨l,rfl,hR⟩:=list_of (c:=Move.cells) (R:=fun s=>I64 s.Rail) (fun el hel=>sh_move (he el hel));simp at hl hb;exact⟨l,hl,hb,hR⟩
end Go.Tram
end
section
namespace Go.Mo
open Go.AM Go.Cur Go.Proofs
theorem tdiv_bd {a b B:Int} (h0:0≤a) (hb:0<b) (h:a≤B):0≤a.tdiv b∧a.tdiv b≤B:=by
 rw[Int.tdiv_eq_ediv_of_nonneg h0];exact⟨Int.ediv_nonneg h0 (Int.le_of_lt hb),Int.le_trans (Int.ediv_le_self b h0) h⟩
def mnI (a b:Int):Int:=if b<a then b else a
theorem mnI_bd {a b:Int} (ha:0≤a) (hb:0≤b):0≤mnI a b∧mnI a b≤a:=by unfold mnI;split<;>omega
def spd (t:Tn) (x:Ms):Int:=x.P.tdiv t.Mass
structure MsB (t:Tn) (x:Ms):Prop where
 p:0≤x.P∧x.P≤25000*t.Mass
 w:0≤x.W∧x.W≤1000000000000000000
theorem spd_bd {t:Tn} {st:Int} {x:Ms} (hb:TnB t st) (hx:MsB t x):0≤spd t x∧spd t x≤25000:=by
 have hm:=hb.ma;unfold spd;rw[Int.tdiv_eq_ediv_of_nonneg hx.p.1];exact⟨Int.ediv_nonneg hx.p.1 (by omega),Int.ediv_le_of_le_mul (by omega) hx.p.2⟩
theorem c_speed (t:Tn) (st:Int) (x:Ms) (hb:TnB t st) (hx:MsB t x):PureCall Tryz.prog 157 [t.mp st,x.av] (I (spd t x)):=by
 have hs:=spd_bd hb hx;have hm:=hb.ma;unfold spd at hs ⊢;have w:IntKind.i64.wrap (x.P.tdiv t.Mass)=x.P.tdiv t.Mass:=wrap_in (by omega) (by omega);have h0:¬t.Mass=0:=by omega
 refine PureCall.of_body Tryz.func157 rfl (by decide) (by simp[Tryz.ntmps157]) ?_;simp only[Tryz.ntmps157,Tryz.results157];refine aS fun K hK=>?_;simp -dsimp;apply hK;clear hK K;refine awp_sd mixed rfl fun K hK=>?_;simp -dsimp [w,h0];refine hK _ _ _ (by decide+kernel) ?_;clear hK K;exact awp_ret (by simp)
def pullF (t:Tn) (st v d:Int):Int:=if d≤0 then 0 else if 0<v then mnI (mnI ((t.Effort*d).tdiv 4) (adh t st)) ((1000*t.Power).tdiv v)else mnI ((t.Effort*d).tdiv 4) (adh t st)
def brakeF (t:Tn) (st v d:Int):Int:=if 0≤d then 0 else mnI ((t.Brake* -d).tdiv 4) (adh t st)
def dragF (t:Tn) (v:Int):Int:=t.Resist+(t.Rise*v).tdiv 1000
def hillF (t:Tn) (sl:Int):Int:=(t.Mass*sl*981).tdiv 100000
theorem mul4 {x d:Int} (h0:0≤x) (h1:x≤200000) (d0:0≤d) (d1:d≤4):0≤x*d∧x*d≤800000:=by
 rcases(by omega:d=0∨d=1∨d=2∨d=3∨d=4)with h|h|h|h|h<;>rw[h]<;>omega
theorem pull_bd {t:Tn} {st v d:Int} (hb:TnB t st) (hv:0≤v) (h0:-4≤d) (h1:d≤4):0≤pullF t st v d∧pullF t st v d≤200000:=by
 have ha:=adh_bd hb;unfold pullF
 split
 ·omega
 ·have hm:=mul4 (x:=t.Effort) (d:=d) (by have:=hb.ef;omega) (by have:=hb.ef;omega) (by omega) h1;have hq:(t.Effort*d).tdiv 4≤200000∧0≤(t.Effort*d).tdiv 4:=by rw[Int.tdiv_eq_ediv_of_nonneg hm.1];omega
  split
  ·have hp:=tdiv_bd (a:=1000*t.Power) (b:=v) (B:=2000000000) (by have:=hb.po;omega) (by omega) (by have:=hb.po;omega);have m1:=mnI_bd (a:=(t.Effort*d).tdiv 4) (b:=adh t st) hq.2 ha.1;have m2:=mnI_bd m1.1 hp.1;omega
  ·have m1:=mnI_bd (a:=(t.Effort*d).tdiv 4) (b:=adh t st) hq.2 ha.1;omega
theorem brake_bd {t:Tn} {st v d:Int} (hb:TnB t st) (h0:-4≤d) (h1:d≤4):0≤brakeF t st v d∧brakeF t st v d≤200000:=by
 have ha:=adh_bd hb;unfold brakeF
 split
 ·omega
 ·have hm:=mul4 (x:=t.Brake) (d:=-d) (by have:=hb.br;omega) (by have:=hb.br;omega) (by omega) (by omega);have hq:(t.Brake* -d).tdiv 4≤200000∧0≤(t.Brake* -d).tdiv 4:=by rw[Int.tdiv_eq_ediv_of_nonneg hm.1];omega
  have m1:=mnI_bd (a:=(t.Brake* -d).tdiv 4) (b:=adh t st) hq.2 ha.1;omega
theorem rise_bd {t:Tn} {st v:Int} (hb:TnB t st) (h0:0≤v) (h1:v≤25000):0≤t.Rise*v∧t.Rise*v≤250000000:=by
 have hr:=hb.ri;exact⟨Int.mul_nonneg hr.1 h0,by have:=Int.mul_le_mul hr.2 h1 h0 (by omega);omega⟩
theorem drag_bd {t:Tn} {st v:Int} (hb:TnB t st) (h0:0≤v) (h1:v≤25000):0≤dragF t v∧dragF t v≤350000:=by
 have hr:=rise_bd hb h0 h1;have hs:=hb.re;unfold dragF;rw[Int.tdiv_eq_ediv_of_nonneg hr.1];omega
theorem slope_bd {t:Tn} {st sl:Int} (hb:TnB t st) (h0:-120≤sl) (h1:sl≤120):-9600000≤t.Mass*sl∧t.Mass*sl≤9600000:=by
 have hm:=hb.ma;have a1:=Int.mul_le_mul_of_nonneg_left h1 (show 0≤t.Mass by omega);have a2:=Int.mul_le_mul_of_nonneg_left h0 (show 0≤t.Mass by omega);omega
theorem hill_bd {t:Tn} {st sl:Int} (hb:TnB t st) (h0:-120≤sl) (h1:sl≤120):-100000≤hillF t sl∧hillF t sl≤100000:=by
 have hs:=slope_bd hb h0 h1;unfold hillF;generalize t.Mass*sl=m at hs ⊢
 rcases Int.le_total 0 m with h|h
 ·rw[Int.tdiv_eq_ediv_of_nonneg (by omega)];omega
 ·have e:m*981=-(-m*981):=by omega
  rw[e,Int.neg_tdiv,Int.tdiv_eq_ediv_of_nonneg (by omega)];omega
theorem c_pull (t:Tn) (st v d sl:Int) (hb:TnB t st) (v0:0≤v) (v1:v≤25000) (d0:-4≤d) (d1:d≤4):PureCall Tryz.prog 199 [t.mp st,I v,I d,I sl] (I (pullF t st v d)):=by
 have ha:=adh_bd hb;have hca:=c_adhesion t st hb;have hp0:=hb.po
 by_cases hd:d≤0
 ·refine PureCall.of_body Tryz.func199 rfl (by decide) (by simp[Tryz.ntmps199]) ?_;simp only[Tryz.ntmps199,Tryz.results199];refine aS fun K hK=>?_;simp -dsimp;apply hK;clear hK K;refine awp_seq_k fun K1 hK1=>?_;refine aS fun K hK=>?_;simp -dsimp;apply hK;clear hK K;refine awp_cond rfl (fun hc0=>?_) (fun hc0=>?_)
  ·refine aS fun K hK=>?_;simp -dsimp;apply hK;clear hK K;exact awp_ret (by simp[pullF,hd])
  ·simp[hd]at hc0
 ·have hm:=mul4 (x:=t.Effort) (d:=d) (by have:=hb.ef;omega) (by have:=hb.ef;omega) (by omega) d1;have hq:(t.Effort*d).tdiv 4≤200000∧0≤(t.Effort*d).tdiv 4:=by rw[Int.tdiv_eq_ediv_of_nonneg hm.1];omega
  have w1:IntKind.i64.wrap (t.Effort*d)=t.Effort*d:=wrap_in (by omega) (by omega);have w2:IntKind.i64.wrap ((t.Effort*d).tdiv 4)=(t.Effort*d).tdiv 4:=wrap_in (by omega) (by omega);have w3:IntKind.i64.wrap (1000*t.Power)=1000*t.Power:=wrap_in (by omega) (by omega);refine PureCall.of_body Tryz.func199 rfl (by decide) (by simp[Tryz.ntmps199]) ?_;simp only[Tryz.ntmps199,Tryz.results199];refine aS fun K hK=>?_;simp -dsimp;apply hK;clear hK K;refine awp_seq_k fun K1 hK1=>?_;refine aS fun K hK=>?_;simp -dsimp;apply hK;clear hK K;refine awp_cond rfl (fun hc0=>?_) (fun hc0=>?_)
  ·simp[hd]at hc0
  ·refine awp_skip ?_;simp only[zT,reduceIte,Nat.reduceEqDiff];refine hK1 _ _ ?_;refine awp_prune [0,1,2] ?_;simp only[zP,Nat.reduceEqDiff,reduceIte];refine awp_sd mixed rfl fun K hK=>?_;simp -dsimp [w1,w2];refine callK_intro _ (hca) (by simp) ?_;simp -dsimp [w1,w2];refine hK _ _ _ (by decide+kernel) ?_;clear hK K;refine awp_seq_k fun K2 hK2=>?_;refine aS fun K hK=>?_;simp -dsimp;apply hK;clear hK K;refine awp_cond rfl (fun hc1=>?_) (fun hc1=>?_)
   ·have hv:0<v:=by simpa using hc1
    have hp:=tdiv_bd (a:=1000*t.Power) (b:=v) (B:=2000000000) (by omega) hv (by omega);have w4:IntKind.i64.wrap ((1000*t.Power).tdiv v)=(1000*t.Power).tdiv v:=wrap_in (by omega) (by omega);have h0:¬v=0:=by omega
    refine aR fun K hK=>?_;simp -dsimp [w3,w4,h0];apply hK;clear hK K;simp only[zT,reduceIte,Nat.reduceEqDiff];refine hK2 _ _ ?_;refine awp_prune [9] ?_;simp only[zP,Nat.reduceEqDiff,reduceIte];refine aS fun K hK=>?_;simp -dsimp;apply hK;clear hK K;exact awp_ret (by simp[pullF,hd,hv,mnI]<;>congr)
   ·have hv:¬0<v:=by simpa using hc1
    refine awp_skip ?_;simp only[zT,reduceIte,Nat.reduceEqDiff];refine hK2 _ _ ?_;refine awp_prune [9] ?_;simp only[zP,Nat.reduceEqDiff,reduceIte];refine aS fun K hK=>?_;simp -dsimp;apply hK;clear hK K;exact awp_ret (by simp[pullF,hd,hv,mnI]<;>congr)
theorem c_brake (t:Tn) (st v d sl:Int) (hb:TnB t st) (d0:-4≤d) (d1:d≤4):PureCall Tryz.prog 200 [t.mp st,I v,I d,I sl] (I (brakeF t st v d)):=by
 have ha:=adh_bd hb;have hca:=c_adhesion t st hb
 by_cases hd:0≤d
 ·refine PureCall.of_body Tryz.func200 rfl (by decide) (by simp[Tryz.ntmps200]) ?_;simp only[Tryz.ntmps200,Tryz.results200];refine aS fun K hK=>?_;simp -dsimp;apply hK;clear hK K;refine awp_seq_k fun K1 hK1=>?_;refine aS fun K hK=>?_;simp -dsimp;apply hK;clear hK K;refine awp_cond rfl (fun hc0=>?_) (fun hc0=>?_)
  ·refine aS fun K hK=>?_;simp -dsimp;apply hK;clear hK K;exact awp_ret (by simp[brakeF,hd])
  ·simp[hd]at hc0
 ·have hm:=mul4 (x:=t.Brake) (d:=-d) (by have:=hb.br;omega) (by have:=hb.br;omega) (by omega) (by omega);have hq:(t.Brake* -d).tdiv 4≤200000∧0≤(t.Brake* -d).tdiv 4:=by rw[Int.tdiv_eq_ediv_of_nonneg hm.1];omega
  have w0:IntKind.i64.wrap (-d)=-d:=wrap_in (by omega) (by omega);have w1:IntKind.i64.wrap (t.Brake* -d)=t.Brake* -d:=wrap_in (by omega) (by omega);have w2:IntKind.i64.wrap ((t.Brake* -d).tdiv 4)=(t.Brake* -d).tdiv 4:=wrap_in (by omega) (by omega);refine PureCall.of_body Tryz.func200 rfl (by decide) (by simp[Tryz.ntmps200]) ?_;simp only[Tryz.ntmps200,Tryz.results200];refine aS fun K hK=>?_;simp -dsimp;apply hK;clear hK K;refine awp_seq_k fun K1 hK1=>?_;refine aS fun K hK=>?_;simp -dsimp;apply hK;clear hK K;refine awp_cond rfl (fun hc0=>?_) (fun hc0=>?_)
  ·simp[hd]at hc0
  ·refine awp_skip ?_;simp only[zT,reduceIte,Nat.reduceEqDiff];refine hK1 _ _ ?_;refine awp_prune [0,2] ?_;simp only[zP,Nat.reduceEqDiff,reduceIte];refine awp_sd mixed rfl fun K hK=>?_;simp -dsimp [w0,w1,w2];refine callK_intro _ (hca) (by simp) ?_;simp -dsimp [w0,w1,w2];refine hK _ _ _ (by decide+kernel) ?_;clear hK K;exact awp_ret (by simp[brakeF,hd,mnI])
theorem c_drag (t:Tn) (st v d sl:Int) (hb:TnB t st) (v0:0≤v) (v1:v≤25000):PureCall Tryz.prog 201 [t.mp st,I v,I d,I sl] (I (dragF t v)):=by
 have hr:=rise_bd hb v0 v1;have hd:=drag_bd hb v0 v1;unfold dragF at hd ⊢;have hs:=hb.re;have w1:IntKind.i64.wrap (t.Rise*v)=t.Rise*v:=wrap_in (by omega) (by omega);have w2:IntKind.i64.wrap ((t.Rise*v).tdiv 1000)=(t.Rise*v).tdiv 1000:=wrap_in (by omega) (by omega);have w3:IntKind.i64.wrap (t.Resist+(t.Rise*v).tdiv 1000)=t.Resist+(t.Rise*v).tdiv 1000:=wrap_in (by omega) (by omega);refine PureCall.of_body Tryz.func201 rfl (by decide) (by simp[Tryz.ntmps201]) ?_;simp only[Tryz.ntmps201,Tryz.results201];refine aS fun K hK=>?_;simp -dsimp;apply hK;clear hK K;refine awp_sd mixed rfl fun K hK=>?_;simp -dsimp [w1,w2,w3];refine hK _ _ _ (by decide+kernel) ?_;clear hK K;exact awp_ret (by simp)
theorem c_hill (t:Tn) (st v d sl:Int) (hb:TnB t st) (s0:-120≤sl) (s1:sl≤120):PureCall Tryz.prog 202 [t.mp st,I v,I d,I sl] (I (hillF t sl)):=by
 have hs:=slope_bd hb s0 s1;have hh:=hill_bd hb s0 s1;unfold hillF at hh ⊢;have w1:IntKind.i64.wrap (t.Mass*sl)=t.Mass*sl:=wrap_in (by omega) (by omega);have w2:IntKind.i64.wrap (t.Mass*sl*981)=t.Mass*sl*981:=wrap_in (by omega) (by omega);have w3:IntKind.i64.wrap ((t.Mass*sl*981).tdiv 100000)=(t.Mass*sl*981).tdiv 100000:=wrap_in (by omega) (by omega);refine PureCall.of_body Tryz.func202 rfl (by decide) (by simp[Tryz.ntmps202]) ?_;simp only[Tryz.ntmps202,Tryz.results202];refine aS fun K hK=>?_;simp -dsimp;apply hK;clear hK K;refine aS fun K hK=>?_;simp -dsimp [w1,w2,w3];apply hK;clear hK K;exact awp_ret (by simp)
end Go.Mo
end
section
namespace Go.Mo
open Go.AM Go.Cur Go.Proofs
theorem c_all (t:Tn) (st v d sl:Int) (hb:TnB t st) (v0:0≤v) (v1:v≤25000) (d0:-4≤d) (d1:d≤4) (s0:-120≤sl) (s1:sl≤120):PureCall Tryz.prog 156 [t.mp st,I v,I d,I sl] (.agg [I (pullF t st v d),I (brakeF t st v d),I (dragF t v),I (hillF t sl)]):=by
 have h1:=c_pull t st v d sl hb v0 v1 d0 d1;have h2:=c_brake t st v d sl hb d0 d1;have h3:=c_drag t st v d sl hb v0 v1;have h4:=c_hill t st v d sl hb s0 s1;generalize pullF t st v d=f1 at h1 ⊢;generalize brakeF t st v d=f2 at h2 ⊢;generalize dragF t v=f3 at h3 ⊢;generalize hillF t sl=f4 at h4 ⊢;have w1:IntKind.i64.wrap 1=1:=rfl;have w2:IntKind.i64.wrap 2=2:=rfl;have w3:IntKind.i64.wrap 3=3:=rfl;have w4:IntKind.i64.wrap 4=4:=rfl;refine PureCall.of_body Tryz.func156 rfl (by decide) (by simp[Tryz.ntmps156]) ?_;simp only[Tryz.ntmps156,Tryz.results156];refine aS fun K hK=>?_;simp -dsimp;apply hK;clear hK K;refine aS fun K hK=>?_;simp -dsimp;apply hK;clear hK K;refine awp_seq_k fun K1 hK1=>?_;refine aS fun K hK=>?_;simp -dsimp;apply hK;clear hK K;refine awp_block ?_;refine awp_prune [1,2,3,8,9,20,21] ?_;simp only[zP,Nat.reduceEqDiff,reduceIte];refine awp_loop_l [1,2,3,8,9,20] (α:=Nat) (fun k=>[(21,I k)]) (fun k=>[some (.els 4 [[I 0,I 0,I 0,I 0]]),some (.els 4 [[I (if 0<k then f1 else 0),I (if 1<k then f2 else 0),I (if 2<k then f3 else 0),I (if 3<k then f4 else 0)]])]) (fun k=>k≤4) (fun k=>4-k) 0 ?_ ?_ ?_
 ·exact Nat.zero_le _
 ·exact sub_rb [some 0,some 1] rfl (by simp) (by simp)
 rintro k k1
 rcases(by omega:k=0∨k=1∨k=2∨k=3∨k=4)with rfl|rfl|rfl|rfl|rfl
 ·simp only[zP,Nat.reduceEqDiff,reduceIte];refine aS fun K hK=>?_;simp -dsimp;apply hK;clear hK K;refine awp_seq_k fun K2 hK2=>?_;refine awp_cond rfl (fun hc0=>?_) (fun hc0=>?_)
  ·refine awp_skip ?_;simp only[zT,reduceIte,Nat.reduceEqDiff];refine hK2 _ _ ?_;refine awp_prune [1,2,3,8,9,20,21] ?_;simp only[zP,Nat.reduceEqDiff,reduceIte];refine awp_seq_k fun K3 hK3=>?_;refine awp_block ?_;refine aS fun K hK=>?_;simp -dsimp;apply hK;clear hK K;refine aR fun K hK=>?_;simp -dsimp;refine callK_intro _ (h1) (by simp) ?_;simp -dsimp;apply hK;clear hK K;simp only[zT,reduceIte,Nat.reduceEqDiff];refine hK3 _ _ ?_;refine awp_prune [1,2,3,8,9,20,21] ?_;simp only[zP,Nat.reduceEqDiff,reduceIte];refine aR fun K hK=>?_;simp -dsimp [w1,w2,w3,w4];apply hK;clear hK K;simp only[zT,reduceIte,Nat.reduceEqDiff];exact⟨1,by omega,by omega,sub_rb [some 0,some 1] rfl (by simp[w1,w2,w3,w4]) (by simp)⟩
  ·simp at hc0
 ·simp only[zP,Nat.reduceEqDiff,reduceIte];refine aS fun K hK=>?_;simp -dsimp;apply hK;clear hK K;refine awp_seq_k fun K4 hK4=>?_;refine awp_cond rfl (fun hc0=>?_) (fun hc0=>?_)
  ·refine awp_skip ?_;simp only[zT,reduceIte,Nat.reduceEqDiff];refine hK4 _ _ ?_;refine awp_prune [1,2,3,8,9,20,21] ?_;simp only[zP,Nat.reduceEqDiff,reduceIte];refine awp_seq_k fun K5 hK5=>?_;refine awp_block ?_;refine aS fun K hK=>?_;simp -dsimp;apply hK;clear hK K;refine aR fun K hK=>?_;simp -dsimp;refine callK_intro _ (h2) (by simp) ?_;simp -dsimp;apply hK;clear hK K;simp only[zT,reduceIte,Nat.reduceEqDiff];refine hK5 _ _ ?_;refine awp_prune [1,2,3,8,9,20,21] ?_;simp only[zP,Nat.reduceEqDiff,reduceIte];refine aR fun K hK=>?_;simp -dsimp [w1,w2,w3,w4];apply hK;clear hK K;simp only[zT,reduceIte,Nat.reduceEqDiff];exact⟨2,by omega,by omega,sub_rb [some 0,some 1] rfl (by simp[w1,w2,w3,w4]) (by simp)⟩
  ·simp at hc0
 ·simp only[zP,Nat.reduceEqDiff,reduceIte];refine aS fun K hK=>?_;simp -dsimp;apply hK;clear hK K;refine awp_seq_k fun K6 hK6=>?_;refine awp_cond rfl (fun hc0=>?_) (fun hc0=>?_)
  ·refine awp_skip ?_;simp only[zT,reduceIte,Nat.reduceEqDiff];refine hK6 _ _ ?_;refine awp_prune [1,2,3,8,9,20,21] ?_;simp only[zP,Nat.reduceEqDiff,reduceIte];refine awp_seq_k fun K7 hK7=>?_;refine awp_block ?_;refine aS fun K hK=>?_;simp -dsimp;apply hK;clear hK K;refine aR fun K hK=>?_;simp -dsimp;refine callK_intro _ (h3) (by simp) ?_;simp -dsimp;apply hK;clear hK K;simp only[zT,reduceIte,Nat.reduceEqDiff];refine hK7 _ _ ?_;refine awp_prune [1,2,3,8,9,20,21] ?_;simp only[zP,Nat.reduceEqDiff,reduceIte];refine aR fun K hK=>?_;simp -dsimp [w1,w2,w3,w4];apply hK;clear hK K;simp only[zT,reduceIte,Nat.reduceEqDiff];exact⟨3,by omega,by omega,sub_rb [some 0,some 1] rfl (by simp[w1,w2,w3,w4]) (by simp)⟩
  ·simp at hc0
 ·simp only[zP,Nat.reduceEqDiff,reduceIte];refine aS fun K hK=>?_;simp -dsimp;apply hK;clear hK K;refine awp_seq_k fun K8 hK8=>?_;refine awp_cond rfl (fun hc0=>?_) (fun hc0=>?_)
  ·refine awp_skip ?_;simp only[zT,reduceIte,Nat.reduceEqDiff];refine hK8 _ _ ?_;refine awp_prune [1,2,3,8,9,20,21] ?_;simp only[zP,Nat.reduceEqDiff,reduceIte];refine awp_seq_k fun K9 hK9=>?_;refine awp_block ?_;refine aS fun K hK=>?_;simp -dsimp;apply hK;clear hK K;refine aR fun K hK=>?_;simp -dsimp;refine callK_intro _ (h4) (by simp) ?_;simp -dsimp;apply hK;clear hK K;simp only[zT,reduceIte,Nat.reduceEqDiff];refine hK9 _ _ ?_;refine awp_prune [1,2,3,8,9,20,21] ?_;simp only[zP,Nat.reduceEqDiff,reduceIte];refine aR fun K hK=>?_;simp -dsimp [w1,w2,w3,w4];apply hK;clear hK K;simp only[zT,reduceIte,Nat.reduceEqDiff];exact⟨4,by omega,by omega,sub_rb [some 0,some 1] rfl (by simp[w1,w2,w3,w4]) (by simp)⟩
  ·simp at hc0
 ·simp only[zP,Nat.reduceEqDiff,reduceIte];refine aS fun K hK=>?_;simp -dsimp;apply hK;clear hK K;refine awp_seq_k fun K10 hK10=>?_;refine awp_cond rfl (fun hc0=>?_) (fun hc0=>?_)
  ·simp at hc0
  ·refine awp_exit ?_;simp only[zT,reduceIte,Nat.reduceEqDiff];refine hK1 _ _ ?_;refine awp_prune [8,9] ?_;simp only[zP,Nat.reduceEqDiff,reduceIte];refine aS fun K hK=>?_;simp -dsimp;apply hK;clear hK K;exact awp_ret (by simp)
structure Ask (t:Tn) (st:Int) (x:Ms) (d sl:Int):Prop where
 b:TnB t st
 x:MsB t x
 d:-4≤d∧d≤4
 s:-120≤sl∧sl≤120
def sumF (t:Tn) (st:Int) (x:Ms) (d sl:Int):Int:=pullF t st (spd t x) d-brakeF t st (spd t x) d-dragF t (spd t x)-hillF t sl
def stops (t:Tn) (st:Int) (x:Ms) (d sl:Int):Bool:=decide (x.P+100*sumF t st x d sl<0)||(decide (x.P=0)&&decide (sumF t st x d sl≤0))
def nextP (t:Tn) (st:Int) (x:Ms) (d sl:Int):Int:=if stops t st x d sl=true then 0 else x.P+100*sumF t st x d sl
def tookF (t:Tn) (st:Int) (x:Ms) (d sl:Int):Int:=(pullF t st (spd t x) d*nextP t st x d sl+1000*t.Mass-1).tdiv (1000*t.Mass)
def gaveF (t:Tn) (st:Int) (x:Ms) (d sl:Int):Int:=(brakeF t st (spd t x) d*nextP t st x d sl*t.Back).tdiv (100000*t.Mass)
def stepC (t:Tn) (st:Int) (x:Ms) (d sl:Int):List AV:=
 [I (nextP t st x d sl),I (x.W+nextP t st x d sl),
  I (200*pullF t st (spd t x) d*nextP t st x d sl),I (200*brakeF t st (spd t x) d*nextP t st x d sl),I (200*dragF t (spd t x)*nextP t st x d sl),I (200*hillF t sl*nextP t st x d sl),
  I (if stops t st x d sl=true then 0 else 10000*sumF t st x d sl*sumF t st x d sl),I (if stops t st x d sl=true then x.P*x.P else 0),I (tookF t st x d sl),I (gaveF t st x d sl)]
theorem mul_bd {a b A B:Int} (ha:a.natAbs≤A.toNat) (hb:b.natAbs≤B.toNat):(a*b).natAbs≤A.toNat*B.toNat:=by
 rw[Int.natAbs_mul];exact Nat.mul_le_mul ha hb
theorem mul_bd' {a b:Int} {A B:Nat} (ha:a.natAbs≤A) (hb:b.natAbs≤B):(a*b).natAbs≤A*B:=by
 rw[Int.natAbs_mul];exact Nat.mul_le_mul ha hb
theorem sum_bd {t:Tn} {st:Int} {x:Ms} {d sl:Int} (h:Ask t st x d sl):(sumF t st x d sl).natAbs≤1000000:=by
 have hv:=spd_bd h.b h.x;have h1:=pull_bd (v:=spd t x) h.b hv.1 h.d.1 h.d.2;have h2:=brake_bd (v:=spd t x) h.b h.d.1 h.d.2;have h3:=drag_bd h.b hv.1 hv.2;have h4:=hill_bd h.b h.s.1 h.s.2;unfold sumF;omega
theorem next_bd {t:Tn} {st:Int} {x:Ms} {d sl:Int} (h:Ask t st x d sl):0≤nextP t st x d sl∧nextP t st x d sl≤2100000000:=by
 have hs:=sum_bd h;have hm:=h.b.ma;have hp:=h.x.p;unfold nextP stops
 split
 ·omega
 ·rename_i hn;simp at hn;omega
theorem c_step (t:Tn) (st:Int) (x:Ms) (d sl:Int) (h:Ask t st x d sl):PureCall Tryz.prog 115 [t.mp st,x.av,I d,I sl] (.tup [.agg (stepC t st x d sl),Bo (decide (nextP t st x d sl≤25000*t.Mass))]):=by
 have hv:=spd_bd h.b h.x;have h1:=pull_bd (v:=spd t x) h.b hv.1 h.d.1 h.d.2;have h2:=brake_bd (v:=spd t x) h.b h.d.1 h.d.2;have h3:=drag_bd h.b hv.1 hv.2;have h4:=hill_bd h.b h.s.1 h.s.2;have hsm:=sum_bd h;have hnx:=next_bd h;have hm:=h.b.ma;have hp:=h.x.p;have hw:=h.x.w;have hbk:=h.b.ba;have hsp:=c_speed t st x h.b h.x;have hal:=c_all t st (spd t x) d sl h.b hv.1 hv.2 h.d.1 h.d.2 h.s.1 h.s.2;have hsd:sumF t st x d sl=pullF t st (spd t x) d-brakeF t st (spd t x) d-dragF t (spd t x)-hillF t sl:=rfl;have hnd:nextP t st x d sl=if stops t st x d sl=true then 0 else x.P+100*sumF t st x d sl:=rfl;have hst:stops t st x d sl=(decide (x.P+100*sumF t st x d sl<0)||(decide (x.P=0)&&decide (sumF t st x d sl≤0))):=rfl;unfold stepC tookF gaveF;generalize nextP t st x d sl=q at hnx hnd ⊢;generalize stops t st x d sl=b at hnd hst ⊢;generalize sumF t st x d sl=sm at hsm hsd hnd hst ⊢;generalize pullF t st (spd t x) d=f1 at h1 hal hsd ⊢;generalize brakeF t st (spd t x) d=f2 at h2 hal hsd ⊢;generalize dragF t (spd t x)=f3 at h3 hal hsd ⊢;generalize hillF t sl=f4 at h4 hal hsd ⊢;have e1:(f1*q).natAbs≤200000*2100000000:=mul_bd' (by omega) (by omega);have e2:(f2*q).natAbs≤200000*2100000000:=mul_bd' (by omega) (by omega);have e3:(200*f1*q).natAbs≤40000000*2100000000:=mul_bd' (by omega) (by omega);have e4:(200*f2*q).natAbs≤40000000*2100000000:=mul_bd' (by omega) (by omega);have e5:(200*f3*q).natAbs≤70000000*2100000000:=mul_bd' (by omega) (by omega);have e6:(200*f4*q).natAbs≤20000000*2100000000:=mul_bd' (by omega) (by omega);have e7:(f2*q*t.Back).natAbs≤200000*2100000000*100:=mul_bd' e2 (by omega);have e8:(x.P*x.P).natAbs≤2000000000*2000000000:=mul_bd' (by omega) (by omega);have e9:(10000*sm*sm).natAbs≤10000000000*1000000:=mul_bd' (by omega) hsm;have p1:=Int.mul_nonneg h1.1 hnx.1;have p2:=Int.mul_nonneg (Int.mul_nonneg h2.1 hnx.1) hbk.1;have t1:=tdiv_bd (a:=f1*q+1000*t.Mass-1) (b:=1000*t.Mass) (B:=f1*q+1000*t.Mass-1) (by omega) (by omega) (Int.le_refl _);have t2:=tdiv_bd (a:=f2*q*t.Back) (b:=100000*t.Mass) (B:=f2*q*t.Back) (by omega) (by omega) (Int.le_refl _);have w0:IntKind.i64.wrap 0=0:=rfl;have w1:IntKind.i64.wrap (f1-f2)=f1-f2:=wrap_in (by omega) (by omega);have w2:IntKind.i64.wrap (f1-f2-f3)=f1-f2-f3:=wrap_in (by omega) (by omega);have w3:IntKind.i64.wrap (f1-f2-f3-f4)=sm:=by rw[hsd];exact wrap_in (by omega) (by omega)
 have w4:IntKind.i64.wrap (100*sm)=100*sm:=wrap_in (by omega) (by omega);have w5:IntKind.i64.wrap (x.P+100*sm)=x.P+100*sm:=wrap_in (by omega) (by omega);have w6:IntKind.i64.wrap (x.P*x.P)=x.P*x.P:=wrap_in (by omega) (by omega);have w7:IntKind.i64.wrap (10000*sm)=10000*sm:=wrap_in (by omega) (by omega);have w8:IntKind.i64.wrap (10000*sm*sm)=10000*sm*sm:=wrap_in (by omega) (by omega);have w9:IntKind.i64.wrap (x.W+q)=x.W+q:=wrap_in (by omega) (by omega);have w10:IntKind.i64.wrap (200*f1)=200*f1:=wrap_in (by omega) (by omega);have w11:IntKind.i64.wrap (200*f2)=200*f2:=wrap_in (by omega) (by omega);have w12:IntKind.i64.wrap (200*f3)=200*f3:=wrap_in (by omega) (by omega);have w13:IntKind.i64.wrap (200*f4)=200*f4:=wrap_in (by omega) (by omega);have w14:IntKind.i64.wrap (200*f1*q)=200*f1*q:=wrap_in (by omega) (by omega);have w15:IntKind.i64.wrap (200*f2*q)=200*f2*q:=wrap_in (by omega) (by omega);have w16:IntKind.i64.wrap (200*f3*q)=200*f3*q:=wrap_in (by omega) (by omega);have w17:IntKind.i64.wrap (200*f4*q)=200*f4*q:=wrap_in (by omega) (by omega);have w18:IntKind.i64.wrap (f1*q)=f1*q:=wrap_in (by omega) (by omega);have w19:IntKind.i64.wrap (1000*t.Mass)=1000*t.Mass:=wrap_in (by omega) (by omega);have w20:IntKind.i64.wrap (f1*q+1000*t.Mass)=f1*q+1000*t.Mass:=wrap_in (by omega) (by omega);have w21:IntKind.i64.wrap (f1*q+1000*t.Mass-1)=f1*q+1000*t.Mass-1:=wrap_in (by omega) (by omega);have w22:IntKind.i64.wrap ((f1*q+1000*t.Mass-1).tdiv (1000*t.Mass))=(f1*q+1000*t.Mass-1).tdiv (1000*t.Mass):=wrap_in (by omega) (by omega);have w23:IntKind.i64.wrap (f2*q)=f2*q:=wrap_in (by omega) (by omega);have w24:IntKind.i64.wrap (f2*q*t.Back)=f2*q*t.Back:=wrap_in (by omega) (by omega);have w25:IntKind.i64.wrap (100000*t.Mass)=100000*t.Mass:=wrap_in (by omega) (by omega);have w26:IntKind.i64.wrap ((f2*q*t.Back).tdiv (100000*t.Mass))=(f2*q*t.Back).tdiv (100000*t.Mass):=wrap_in (by omega) (by omega);have w27:IntKind.i64.wrap (25000*t.Mass)=25000*t.Mass:=wrap_in (by omega) (by omega);have z1:¬1000*t.Mass=0:=by omega
 have z2:¬100000*t.Mass=0:=by omega
 have z3:¬t.Mass=0:=by omega
 clear hp hw e1 e2 e3 e4 e5 e6 e7 e8 e9 t1 t2 h1 h2 h3 h4;refine PureCall.of_body Tryz.func115 rfl (by decide) (by simp[Tryz.ntmps115]) ?_;simp only[Tryz.ntmps115,Tryz.results115];refine aS fun K hK=>?_;simp -dsimp;apply hK;clear hK K;refine aS fun K hK=>?_;simp -dsimp;refine callK_intro _ (hsp) (by simp) ?_;simp -dsimp;refine callK_intro _ (hal) (by simp) ?_;simp -dsimp;apply hK;clear hK K;refine aS fun K hK=>?_;simp -dsimp [w1,w2,w3];apply hK;clear hK K;refine awp_sd mixed rfl fun K hK=>?_;simp -dsimp [w4,w5];refine hK _ _ _ (by decide+kernel) ?_;clear hK K;refine aS fun K hK=>?_;simp -dsimp;apply hK;clear hK K;refine awp_seq_k fun K1 hK1=>?_;refine aS fun K hK=>?_;simp -dsimp;apply hK;clear hK K;refine awp_cond rfl (fun hc0=>?_) (fun hc0=>?_)
 ·have hbt:b=true:=by rw[hst];simpa using hc0
  rw[hbt,if_pos rfl]at hnd;subst hnd;simp only[Int.mul_zero,Int.zero_add,Int.add_zero,Int.zero_mul]at w9 w20 w21 w22 w24 w26;refine aS fun K hK=>?_;simp -dsimp [w6];apply hK;clear hK K;refine aR fun K hK=>?_;simp -dsimp;apply hK;clear hK K;simp only[zT,reduceIte,Nat.reduceEqDiff];refine hK1 _ _ ?_;refine awp_prune [0,5,8,10,13,14] ?_;simp only[zP,Nat.reduceEqDiff,reduceIte];refine aS fun K hK=>?_;simp -dsimp [w9];apply hK;clear hK K;refine awp_sd mixed rfl fun K hK=>?_;simp -dsimp [w10,w11,w12,w13,w14,w15,w16,w17];refine hK _ _ _ (by decide+kernel) ?_;clear hK K;refine awp_sd mixed rfl fun K hK=>?_;simp -dsimp [w18,w19,w20,w21,w22,z1,z3];refine hK _ _ _ (by decide+kernel) ?_;clear hK K;refine awp_sd mixed rfl fun K hK=>?_;simp -dsimp [w23,w24,w25,w26,z2,z3];refine hK _ _ _ (by decide+kernel) ?_;clear hK K;refine awp_sd mixed rfl fun K hK=>?_;simp -dsimp [w27];refine hK _ _ _ (by decide+kernel) ?_;clear hK K;exact awp_ret (by simp[hbt,w0,w9,w19,w21,w22])
 ·have hbt:b=false:=by rw[hst];simpa using hc0
  rw[hbt,if_neg (by decide)]at hnd;rw[←hnd]at*
  refine aR fun K hK=>?_;simp -dsimp [w7,w8];apply hK;clear hK K;simp only[zT,reduceIte,Nat.reduceEqDiff];refine hK1 _ _ ?_;refine awp_prune [0,5,8,10,13,14] ?_;simp only[zP,Nat.reduceEqDiff,reduceIte];refine aS fun K hK=>?_;simp -dsimp [w9];apply hK;clear hK K;refine awp_sd mixed rfl fun K hK=>?_;simp -dsimp [w10,w11,w12,w13,w14,w15,w16,w17];refine hK _ _ _ (by decide+kernel) ?_;clear hK K;refine awp_sd mixed rfl fun K hK=>?_;simp -dsimp [w18,w19,w20,w21,w22,z1,z3];refine hK _ _ _ (by decide+kernel) ?_;clear hK K;refine awp_sd mixed rfl fun K hK=>?_;simp -dsimp [w23,w24,w25,w26,z2,z3];refine hK _ _ _ (by decide+kernel) ?_;clear hK K;refine awp_sd mixed rfl fun K hK=>?_;simp -dsimp [w27];refine hK _ _ _ (by decide+kernel) ?_;clear hK K;exact awp_ret (by simp[hbt,w0,w9,w19,w21,w22])
end Go.Mo
end
section
namespace Go.Mo
open Go.AM Go.Cur Go.Proofs
theorem c_place (t:Tn) (st:Int) (x:Ms) (hb:TnB t st) (h0:0≤x.W) (h1:x.W≤1000000000000000000):PureCall Tryz.prog 72 [t.mp st,x.av] (I (x.W.tdiv (10*t.Mass))):=by
 have hm:=hb.ma;have hd:=tdiv_bd (a:=x.W) (b:=10*t.Mass) (B:=x.W) h0 (by omega) (Int.le_refl _);have w1:IntKind.i64.wrap (10*t.Mass)=10*t.Mass:=wrap_in (by omega) (by omega);have w2:IntKind.i64.wrap (x.W.tdiv (10*t.Mass))=x.W.tdiv (10*t.Mass):=wrap_in (by omega) (by omega);have z:¬t.Mass=0:=by omega
 have z1:¬10*t.Mass=0:=by omega
 refine PureCall.of_body Tryz.func72 rfl (by decide) (by simp[Tryz.ntmps72]) ?_;simp only[Tryz.ntmps72,Tryz.results72];refine aS fun K hK=>?_;simp -dsimp;apply hK;clear hK K;refine awp_sd mixed rfl fun K hK=>?_;simp -dsimp [w1,w2,z,z1];refine hK _ _ _ (by decide+kernel) ?_;clear hK K;exact awp_ret (by simp)
end Go.Mo
end
section
namespace Go.Cur
open Go.AM Go.Proofs
theorem PureCall.split {P : Program} {f : FuncId} {fn : Func} {c : Code} {x : AV} {rest : List AV} {res : AV} (hf : P.funcs[f]? = some fn) (hb : fn.body = some c) (hname : (fn.name == "runtime.NumGoroutine") = false)
  (h:∀(w:World) (S:Nat→Prop) (y:Value),RepP w S x y→∃x',RepP w S x' y∧PureCall P f (x'::rest) res):PureCall P f (x::rest) res:=by
 have hn' : ¬ fn.name = "runtime.NumGoroutine" := by simpa using hname
 have hcf:∀(w:World) (vs:Array Value),(callFunc f vs).run P w= .ok (.enter f vs) w:=fun w vs=>by simp[callFunc,hf,hn',hb]
 refine Or.inl ⟨hcf,?_⟩;intro S0 w vs hlow hl hrep
 match vs,hl with
 | y::vs,hl=>
  obtain⟨x',hx',hp⟩:=h w S0 y (hrep 0 x y rfl rfl);have hrep':∀(i:Nat) c z,(x'::rest)[i]?=some c→(y::vs)[i]?=some z→RepP w S0 c z:=by
   intro i c z h1 h2
   cases i with
   |zero=>simp only[List.getElem?_cons_zero,Option.some.injEq]at h1 h2;subst h1 h2;exact hx'
   |succ i=>exact hrep (i+1) c z (by simpa using h1) h2
  rcases hp with⟨_,h2⟩|h2
  ·exact h2 S0 w (y::vs) hlow (by simpa using hl) hrep'
  ·obtain⟨v,h3,_⟩:=h2 S0 w (y::vs) (by simpa using hl) hrep';rw[hcf]at h3;cases h3
theorem c_isNaN (a:Int):PureCall Tryz.prog 194 [I a] (Bo false):=by
 refine PureCall.of_body Tryz.func194 rfl (by decide) (by simp[Tryz.ntmps194]) ?_;simp only[Tryz.ntmps194,Tryz.results194];refine aS fun K hK=>?_;simp -dsimp;apply hK;clear hK K;refine aS fun K hK=>?_;simp -dsimp;apply hK;clear hK K;exact awp_ret (by simp)
theorem c_Less (a b:Int):PureCall Tryz.prog 172 [I a,I b] (Bo (decide (a<b))):=by
 refine PureCall.of_body Tryz.func172 rfl (by decide) (by simp[Tryz.ntmps172]) ?_;simp only[Tryz.ntmps172,Tryz.results172];refine aS fun K hK=>?_;simp -dsimp;apply hK;clear hK K;refine aS fun K hK=>?_;simp -dsimp;refine callK_intro _ (c_isNaN a) (by simp) ?_;simp -dsimp;refine callK_may _ (fun hm=>c_isNaN b) (by simp) ?_;simp -dsimp;apply hK;clear hK K;exact awp_ret (by simp)
def ins (x:Int):List Int→List Int
 |[]=>[x]
 |y::l=>if x<y then x::y::l else y::ins x l
def srt (l:List Int):List Int:=l.foldl (fun s x=>ins x s) []
theorem ins_len (x:Int):∀l,(ins x l).length=l.length+1
 |[]=>rfl
 |y::l=>by
  simp only[ins]
  split
  ·rfl
  ·simp[ins_len x l]
theorem ins_mem (x z:Int):∀l,z∈ins x l↔z=x∨z∈l
 |[]=>by simp[ins]
 | y::l=>by
  simp only[ins]
  split
  ·simp
  ·simp only[List.mem_cons,ins_mem x z l];constructor
   ·rintro(h|h|h)<;>simp[h]
   ·rintro(h|h|h)<;>simp[h]
theorem ins_sorted (x:Int):∀l:List Int,l.Pairwise (· ≤ ·)→(ins x l).Pairwise (· ≤ ·)
 |[],_=>by simp[ins]
 | y::l,h=>by
  rw[List.pairwise_cons]at h;simp only[ins]
  split
  ·rename_i hx;rw[List.pairwise_cons,List.pairwise_cons];refine⟨fun z hz=>?_,h⟩
   rcases List.mem_cons.1 hz with rfl|hz
   ·omega
   ·have:=h.1 z hz;omega
  ·rename_i hx;rw[List.pairwise_cons];refine⟨fun z hz=>?_,ins_sorted x l h.2⟩
   rcases(ins_mem x z l).1 hz with rfl|hz
   ·omega
   ·exact h.1 z hz
theorem ins_split (x:Int) (B:List Int) (hB:∀y∈B,x<y):∀A:List Int,(∀y∈A,y≤x)→ins x (A++B)=A++x::B
 |[],_=>by
  cases B with
  |nil=>rfl
  |cons y B=>simp only[List.nil_append,ins];rw[if_pos (hB y (by simp))]
 |a::A,h=>by
  simp only[List.cons_append,ins];rw[if_neg (by have:=h a (by simp);omega),ins_split x B hB A fun y hy=>h y (by simp[hy])]
theorem srt_take {l:List Int} {i:Nat} {x:Int} (h:l[i]?=some x):srt (l.take (i+1))=ins x (srt (l.take i)):=by
 rw[List.take_add_one,h];simp[srt]
theorem srt_len (l:List Int):(srt l).length=l.length:=by
 have gen:∀(l s:List Int),(l.foldl (fun s x=>ins x s) s).length=s.length+l.length:=by
  intro l
  induction l with
  |nil=>simp
  |cons x l ih=>intro s;rw[List.foldl_cons,ih,ins_len];simp;omega
 have:=gen l [];simpa [srt]using this
theorem srt_sorted (l:List Int):(srt l).Pairwise (· ≤ ·):=by
 have gen:∀(l s:List Int),s.Pairwise (· ≤ ·)→(l.foldl (fun s x=>ins x s) s).Pairwise (· ≤ ·):=by
  intro l
  induction l with
  |nil=>intro s h;exact h
  |cons x l ih=>intro s h;exact ih _ (ins_sorted x s h)
 exact gen l [] List.Pairwise.nil
theorem srt_le {L:List Int} (h:L.Pairwise (· ≤ ·)) {j:Nat} {y:Int} (hy:L[j]?=some y):∀a∈L.take (j+1),a≤y:=by
 intro a ha;obtain⟨hj,he⟩:=List.getElem?_eq_some_iff.1 hy;rw[List.take_add_one,hy]at ha
 rcases List.mem_append.1 ha with ha|ha
 ·have hs:L=L.take j++y::L.drop (j+1):=by rw[←he,List.getElem_cons_drop,List.take_append_drop]
  rw[hs,List.pairwise_append]at h;exact h.2.2 a ha y (by simp)
 ·simp at ha;omega
def wayL (L:List Int) (x:Int) (R:List Int) (j:Nat):List Int:=L.take j++x::(L.drop j++R)
theorem wayL_at {L:List Int} {x:Int} {R:List Int} {j:Nat} (h:j≤L.length):(wayL L x R j)[j]?=some x:=by
 unfold wayL;rw[List.getElem?_append_right (by simp;omega)];simp[Nat.min_eq_left h]
theorem wayL_before {L:List Int} {x y:Int} {R:List Int} {j:Nat} (h:L[j]?=some y):(wayL L x R (j+1))[j]?=some y:=by
 have hj:=(List.getElem?_eq_some_iff.1 h).1;unfold wayL;rw[List.getElem?_append_left (by simp;omega),List.getElem?_take];simp[h]
theorem wayL_swap {L:List Int} {x y:Int} {R:List Int} {j:Nat} (h:L[j]?=some y):((wayL L x R (j+1)).set (j+1) y).set j x=wayL L x R j:=by
 obtain⟨hj,hy⟩:=List.getElem?_eq_some_iff.1 h;have h1:L.take (j+1)=L.take j++[y]:=by rw[List.take_add_one,h];rfl
 have h2:L.drop j=y::L.drop (j+1):=by rw[List.drop_eq_getElem_cons hj,hy]
 have hl:(L.take j).length=j:=by rw[List.length_take];omega
 unfold wayL;rw[h1,h2,List.append_assoc,List.set_append,if_neg (by omega),List.set_append,if_neg (by omega),hl];simp
theorem m_isort (xs:List Int) (h1:1≤xs.length) (hn:xs.length≤1000):MutCall Tryz.prog 166 [.row 0 0 xs.length,I 0,I xs.length] [some (.els 1 (xs.map nCell))] [] (.tup []) [some (.els 1 ((srt xs).map nCell))] []:=by
 have w01:IntKind.i64.wrap 1=1:=wrap_in (by omega) (by omega);have wm1:IntKind.i64.wrap (-1)=-1:=wrap_in (by omega) (by omega);refine MutCall.of_bodyG [0] Tryz.func166 rfl (by decide) (by simp[Tryz.ntmps166]) rfl rfl ?_;intro J hJ;simp only[Tryz.ntmps166,Tryz.results166];refine gS fun K hK=>?_;simp -dsimp [w01];apply hK;clear hK K;refine gwp_block ?_;refine gwp_prune [0,1,2,6] (Or.inr (by simp)) ?_;simp only[zP,Nat.reduceEqDiff,reduceIte];refine gwp_loop_l [0,1,2] (α:=Nat) (fun i=>[(6,I i)]) (fun i=>[some (.els 1 ((srt (xs.take i)++xs.drop i).map nCell))]) (fun i=>1≤i∧i≤xs.length) (fun i=>xs.length-i) 1 ?_ ?_ ?_
 ·exact⟨Nat.le_refl _,h1⟩
 ·refine gsub (sub_rb [some 0] rfl (by simp) ?_) (by simp);obtain⟨x,l,rfl⟩:∃x l,xs=x::l:=by cases xs with|nil=>simp at h1|cons x l=>exact⟨x,l,rfl⟩
  simp[srt,ins]
 rintro i ⟨i1,i2⟩;simp only[zP,Nat.reduceEqDiff,reduceIte];refine gwp_seq_k fun K1 hK1=>?_;refine gS fun K hK=>?_;simp -dsimp;apply hK;clear hK K;refine gwp_cond rfl (fun hc0=>?_) (fun hc0=>?_)
 ·skip
  try simp at hc0
  have wi:=zW i (by omega);obtain⟨x,hx⟩:∃x,xs[i]?=some x:=⟨_,List.getElem?_eq_getElem hc0⟩;obtain⟨hxi,hxe⟩:=List.getElem?_eq_some_iff.1 hx;have hdr:xs.drop i=x::xs.drop (i+1):=by rw[List.drop_eq_getElem_cons hxi,hxe]
  have hdm:(xs.map nCell).drop i=[I x]::(xs.drop (i+1)).map nCell:=by rw[←List.map_drop,hdr];rfl
  have hst:=srt_take hx;have hsl:(srt (xs.take i)).length=i:=by rw[srt_len,List.length_take];omega
  have hso:=srt_sorted (xs.take i);generalize srt (xs.take i)=L at hst hsl hso ⊢;generalize hR:xs.drop (i+1)=R at hdr hdm ⊢;have hRl:R.length=xs.length-(i+1):=by rw[←hR,List.length_drop]
  refine gwp_skip ?_;simp only[zT,reduceIte,Nat.reduceEqDiff];refine hK1 _ _ ?_;refine gwp_prune [0,1,2,6] (Or.inr (by simp)) ?_;simp only[zP,Nat.reduceEqDiff,reduceIte];refine gwp_seq_k fun K2 hK2=>?_;refine gwp_block ?_;refine gS fun K hK=>?_;simp -dsimp;apply hK;clear hK K;refine gwp_block ?_;refine gwp_prune [0,1,2,6,7] (Or.inr (by simp)) ?_;simp only[zP,Nat.reduceEqDiff,reduceIte];refine gwp_loop_l [0,1,2,6] (α:=Nat) (fun j=>[(7,I j)]) (fun j=>[some (.els 1 ((wayL L x R j).map nCell))]) (fun j=>j≤i∧∀y∈L.drop j,x<y) (fun j=>j) i ?_ ?_ ?_
  ·exact⟨Nat.le_refl _,by rw[List.drop_of_length_le (by omega)];simp⟩
  ·refine gsub (sub_rb [some 0] rfl (by simp) ?_) (by simp);simp[wayL,hdm,List.take_of_length_le (show L.length≤i by omega),List.drop_of_length_le (show L.length≤i by omega)]
  rintro j ⟨j1,j2⟩
  rcases j with _|j
  rotate_left
  obtain⟨y,hy⟩:∃y,L[j]?=some y:=⟨_,List.getElem?_eq_getElem (by omega)⟩;have gj:=wayL_at (L:=L) (x:=x) (R:=R) (j:=j+1) (by omega);have gb:=wayL_before (x:=x) (R:=R) hy;have wj:IntKind.i64.wrap (j:Int)=j:=wrap_in (by omega) (by omega);have hj1:j+1<xs.length:=by omega
  have hj0:j<xs.length:=by omega
  have hdj:L.drop j=y::L.drop (j+1):=by obtain⟨hh,he⟩:=List.getElem?_eq_some_iff.1 hy;rw[List.drop_eq_getElem_cons hh,he]
  rotate_left
  ·simp only[zP,Nat.reduceEqDiff,reduceIte];refine gwp_seq_k fun K3 hK3=>?_;refine gwp_sd mixed rfl (by decide) rfl rfl fun K hK=>?_;simp -dsimp [wayL_at (L:=L) (x:=x) (R:=R) (Nat.zero_le _),wm1];refine callK_may _ (fun hm=>c_Less x x) (by simp) ?_;simp -dsimp [wayL_at (L:=L) (x:=x) (R:=R) (Nat.zero_le _),wm1];refine hK _ _ _ (by decide+kernel) ?_;clear hK K;refine gwp_cond rfl (fun hc1=>?_) (fun hc1=>?_)
   ·simp at hc1
   ·have hfin:ins x L=x::L:=by have:=ins_split x L (by simpa using j2) [] (by simp);simpa using this
    have he:srt (xs.take (i+1))++xs.drop (i+1)=wayL L x R 0:=by rw[hst,hR,hfin];simp[wayL]
    refine gwp_exit ?_;simp only[zT,reduceIte,Nat.reduceEqDiff];refine hK2 _ _ ?_;refine gwp_prune [0,1,2,6] (Or.inr (by simp)) ?_;simp only[zP,Nat.reduceEqDiff,reduceIte];refine gR fun K hK=>?_;simp -dsimp [wi];apply hK;clear hK K;simp only[zT,reduceIte,Nat.reduceEqDiff];exact⟨i+1,⟨by omega,by omega⟩,by omega,gsub (sub_rb [some 0] rfl (by simp) (by simp only[he];simp)) (by simp)⟩
  ·simp only[zP,Nat.reduceEqDiff,reduceIte];refine gwp_seq_k fun K4 hK4=>?_;refine gwp_sd mixed rfl (by decide) rfl rfl fun K hK=>?_;simp -dsimp [gj,gb,wj,hj1,hj0];refine⟨by omega,?_⟩
   try simp -dsimp [gj,gb,wj,hj1,hj0]
   refine callK_may _ (fun hm=>c_Less x y) (by simp) ?_;simp -dsimp [gj,gb,wj,hj1,hj0];refine hK _ _ _ (by decide+kernel) ?_;clear hK K;refine gwp_cond rfl (fun hc1=>?_) (fun hc1=>?_)
   ·skip
    try simp at hc1
    refine gwp_skip ?_;simp only[zT,reduceIte,Nat.reduceEqDiff];refine hK4 _ _ ?_;refine gwp_prune [0,1,2,6,7] (Or.inr (by simp)) ?_;simp only[zP,Nat.reduceEqDiff,reduceIte];refine gwp_seq_k fun K5 hK5=>?_;refine gwp_block ?_;refine gwp_draw mixed rfl (by decide) rfl rfl fun K hK=>?_;simp -dsimp [gj,gb,wj,hj1,hj0]
    repeat (refine⟨by omega,?_⟩;try simp -dsimp [gj,gb,wj,hj1,hj0])
    refine hK _ _ _ (by decide+kernel) ?_;clear hK K;simp only[zT,reduceIte,Nat.reduceEqDiff];refine hK5 _ _ ?_;refine gwp_prune [0,1,2,6,7] (Or.inr (by simp)) ?_;simp only[zP,Nat.reduceEqDiff,reduceIte];refine gR fun K hK=>?_;simp -dsimp [wj];apply hK;clear hK K;simp only[zT,reduceIte,Nat.reduceEqDiff];have hsw:(((wayL L x R (j+1)).map nCell).set (j+1) [I y]).set j [I x]=(wayL L x R j).map nCell:=by rw[←wayL_swap hy,List.map_set,List.map_set];rfl
    exact⟨j,⟨by omega,by intro z hz;rw[hdj]at hz;rcases List.mem_cons.1 hz with rfl|hz;exact hc1;exact j2 z hz⟩,by omega,gsub (sub_rb [some 0] rfl (by simp) (by simp[hsw])) (by simp)⟩
   ·skip
    try simp at hc1
    have hfin:ins x L=L.take (j+1)++x::L.drop (j+1):=by have:=ins_split x (L.drop (j+1)) j2 (L.take (j+1)) (fun a ha=>Int.le_trans (srt_le hso hy a ha) hc1);rwa [List.take_append_drop]at this
    have he:srt (xs.take (i+1))++xs.drop (i+1)=wayL L x R (j+1):=by rw[hst,hR,hfin];simp[wayL]
    refine gwp_exit ?_;simp only[zT,reduceIte,Nat.reduceEqDiff];refine hK2 _ _ ?_;refine gwp_prune [0,1,2,6] (Or.inr (by simp)) ?_;simp only[zP,Nat.reduceEqDiff,reduceIte];refine gR fun K hK=>?_;simp -dsimp [wi];apply hK;clear hK K;simp only[zT,reduceIte,Nat.reduceEqDiff];exact⟨i+1,⟨by omega,by omega⟩,by omega,gsub (sub_rb [some 0] rfl (by simp) (by simp only[he];simp)) (by simp)⟩
 ·skip
  try simp at hc0
  have hie:i=xs.length:=by omega
  subst hie;refine gwp_exit ?_
  try simp only[zT,reduceIte,Nat.reduceEqDiff]
  exact⟨[some 0],rfl,by simp,by simp,by simp[h1],by simp[resP,tupOf]⟩
theorem und_int:(Tryz.prog).underlying 3=some (.int .i64):=by kernel_rfl
theorem und_u64:(Tryz.prog).underlying 304=some (.int .u64):=by kernel_rfl
theorem und_str:(Tryz.prog).underlying 9=some .string:=by kernel_rfl
theorem und_u8:(Tryz.prog).underlying 5=some (.int .u8):=by kernel_rfl
theorem und_uint:(Tryz.prog).underlying 259=some (.int .u64):=by kernel_rfl
theorem str_index (s:ByteArray) (n:Int) (h0:0≤n) (h1:n.toNat<s.size) (w:World):(Instr.index 9 (.string s) (.int .u8 n)).run Tryz.prog w= .ok (.int .u8 (s[n.toNat]).toNat) w:=by
 have hs:s[n.toNat]?=some s[n.toNat]:=getElem?_pos s n.toNat h1;simp[Instr.index,asIntOf,run_underlying und_str,h0,hs]
theorem conv_in (n:Int) (w:World):(convert 3 259 (.int .i64 n)).run Tryz.prog w= .ok (.int .u64 (IntKind.u64.wrap n)) w:=by
 simp[convert,run_underlying und_int,run_underlying und_uint,Conv.intToInt]
theorem conv_u8 (n:Int) (w:World):(convert 304 5 (.int .u64 n)).run Tryz.prog w= .ok (.int .u8 (IntKind.u8.wrap n)) w:=by
 simp[convert,run_underlying und_u64,run_underlying und_u8,Conv.intToInt]
theorem conv_8i (n:Int) (w:World):(convert 5 3 (.int .u8 n)).run Tryz.prog w= .ok (.int .i64 (IntKind.i64.wrap n)) w:=by
 simp[convert,run_underlying und_int,run_underlying und_u8,Conv.intToInt]
abbrev U (n:Int):AV:= .v (.int .u64 n)
theorem u64_in {n:Int} (h0:0≤n) (h1:n<18446744073709551616):IntKind.u64.wrap n=n:=by rw[IntKind.wrap_u64];omega
theorem c_Len64 (n:Int) (h0:0≤n) (h1:n≤200):∃k,PureCall Tryz.prog 176 [U n] (I k):=by
 have w8:IntKind.u8.wrap n=n:=by rw[IntKind.wrap_u8];omega
 have h2:¬4294967296≤n:=by omega
 have h3:¬65536≤n:=by omega
 have h4:¬256≤n:=by omega
 apply Exists.intro;refine PureCall.of_body Tryz.func176 rfl (by decide) (by simp[Tryz.ntmps176]) ?_;simp only[Tryz.ntmps176,Tryz.results176];refine aS fun K hK=>?_;simp -dsimp;apply hK;clear hK K;refine awp_seq_k fun K1 hK1=>?_;refine aS fun K hK=>?_;simp -dsimp;apply hK;clear hK K;refine awp_cond rfl (fun hc0=>?_) (fun hc0=>?_)
 ·skip
  try simp at hc0
  omega
 ·skip
  try simp at hc0
  refine awp_skip ?_;simp only[zT,reduceIte,Nat.reduceEqDiff];refine hK1 _ _ ?_;refine awp_prune [0,2] ?_;simp only[zP,Nat.reduceEqDiff,reduceIte];refine awp_seq_k fun K2 hK2=>?_;refine aS fun K hK=>?_;simp -dsimp;apply hK;clear hK K;refine awp_cond rfl (fun hc1=>?_) (fun hc1=>?_)
  ·skip
   try simp at hc1
   omega
  ·skip
   try simp at hc1
   refine awp_skip ?_;simp only[zT,reduceIte,Nat.reduceEqDiff];refine hK2 _ _ ?_;refine awp_prune [0,2] ?_;simp only[zP,Nat.reduceEqDiff,reduceIte];refine awp_seq_k fun K3 hK3=>?_;refine aS fun K hK=>?_;simp -dsimp;apply hK;clear hK K;refine awp_cond rfl (fun hc2=>?_) (fun hc2=>?_)
   ·skip
    try simp at hc2
    omega
   ·skip
    try simp at hc2
    refine awp_skip ?_;simp only[zT,reduceIte,Nat.reduceEqDiff];refine hK3 _ _ ?_;refine awp_prune [0,2] ?_;simp only[zP,Nat.reduceEqDiff,reduceIte];refine aS fun K hK=>?_;simp -dsimp;refine⟨_,conv_u8 n,?_⟩
    try simp -dsimp [w8]
    refine⟨_,str_index _ n h0 (Nat.lt_of_lt_of_le (show n.toNat<256 by omega) (by decide+kernel)),?_⟩
    try simp -dsimp
    refine⟨_,conv_8i _,?_⟩
    try simp -dsimp
    apply hK;clear hK K;exact awp_ret rfl
theorem c_Len (n:Int) (h0:0≤n) (h1:n≤200):∃k,PureCall Tryz.prog 135 [U n] (I k):=by
 obtain⟨k,hk⟩:=c_Len64 n h0 h1;refine⟨k,?_⟩;refine PureCall.of_body Tryz.func135 rfl (by decide) (by simp[Tryz.ntmps135]) ?_;simp only[Tryz.ntmps135,Tryz.results135];refine aS fun K hK=>?_;simp -dsimp;apply hK;clear hK K;refine awp_seq_k fun K1 hK1=>?_;refine awp_cond rfl (fun hc0=>?_) (fun hc0=>?_)
 ·simp at hc0
 ·refine awp_skip ?_;simp only[zT,reduceIte,Nat.reduceEqDiff];refine hK1 _ _ ?_;refine awp_prune [0] ?_;simp only[zP,Nat.reduceEqDiff,reduceIte];refine aS fun K hK=>?_;simp -dsimp;refine callK_intro _ (hk) (by simp) ?_;simp -dsimp;apply hK;clear hK K;exact awp_ret (by simp)
theorem m_pdq (xs:List Int) (k:Int) (h1:1≤xs.length) (hn:xs.length≤12):MutCall Tryz.prog 134 [.row 0 0 xs.length,I 0,I xs.length,I k] [some (.els 1 (xs.map nCell))] [] (.tup []) [some (.els 1 ((srt xs).map nCell))] []:=by
 have hs:=m_isort xs h1 (by omega);have wl:IntKind.i64.wrap (xs.length:Int)=xs.length:=wrap_in (by omega) (by omega);refine MutCall.of_bodyG [0] Tryz.func134 rfl (by decide) (by simp[Tryz.ntmps134]) rfl rfl ?_;intro J hJ;simp only[Tryz.ntmps134,Tryz.results134];refine gS fun K hK=>?_;simp -dsimp;apply hK;clear hK K;refine gS fun K hK=>?_;simp -dsimp;apply hK;clear hK K;refine gwp_block ?_;refine gwp_prune [0,1,2,3,8,9] (Or.inr (by simp)) ?_;simp only[zP,Nat.reduceEqDiff,reduceIte];refine gwp_loop_l [0] (α:=Unit) (fun _=>[(1,I 0),(2,I xs.length),(3,I k),(8,Bo true),(9,Bo true)]) (fun _=>[some (.els 1 (xs.map nCell))]) (fun _=>True) (fun _=>0) () ?_ ?_ ?_
 ·simp
 ·exact gsub (sub_same (by simp)) (by simp)
 rintro u-;simp only[zP,Nat.reduceEqDiff,reduceIte];refine gwp_block ?_;refine gS fun K hK=>?_;simp -dsimp [wl];apply hK;clear hK K;refine gwp_seq_k fun K1 hK1=>?_;refine gS fun K hK=>?_;simp -dsimp;apply hK;clear hK K;refine gwp_cond rfl (fun hc0=>?_) (fun hc0=>?_)
 ·skip
  try simp at hc0
  refine gS fun K hK=>?_;simp -dsimp;refine callK_mut [0] [] [some 0] (hs) (by decide) rfl (by simp) (by simp) rfl (by simp) ?_;simp -dsimp;apply hK;clear hK K;exact gwp_ret ⟨[some 0],rfl,by simp,by simp,by simp[h1],by simp[resP,tupOf]⟩
 ·skip
  try simp at hc0
  omega
theorem m_Sort (xs:List Int) (h1:1≤xs.length) (hn:xs.length≤12):MutCall Tryz.prog 90 [.row 0 0 xs.length] [some (.els 1 (xs.map nCell))] [] (.tup []) [some (.els 1 ((srt xs).map nCell))] []:=by
 obtain⟨k,hk⟩:=c_Len xs.length (by omega) (by omega);have hs:=m_pdq xs k h1 hn;have wu:IntKind.u64.wrap (xs.length:Int)=xs.length:=u64_in (by omega) (by omega);refine MutCall.of_bodyG [0] Tryz.func90 rfl (by decide) (by simp[Tryz.ntmps90]) rfl rfl ?_;intro J hJ;simp only[Tryz.ntmps90,Tryz.results90];refine gS fun K hK=>?_;simp -dsimp;apply hK;clear hK K;refine gR fun K hK=>?_;simp -dsimp;refine⟨_,conv_in _,?_⟩;simp -dsimp [wu];refine callK_intro _ (hk) (by simp) ?_;simp -dsimp;refine callK_mut [0] [] [some 0] (hs) (by decide) rfl (by simp) (by simp) rfl (by simp) ?_;simp -dsimp;apply hK;clear hK K
 try simp only[zT,reduceIte,Nat.reduceEqDiff]
 exact⟨[some 0],rfl,by simp,by simp,by simp[h1],by simp[resP,tupOf]⟩
theorem c_isort0:PureCall Tryz.prog 166 [.lst 1 [],I 0,I 0] (.tup []):=by
 have w01:IntKind.i64.wrap 1=1:=wrap_in (by omega) (by omega);refine PureCall.of_body Tryz.func166 rfl (by decide) (by simp[Tryz.ntmps166]) ?_;simp only[Tryz.ntmps166,Tryz.results166];refine aS fun K hK=>?_;simp -dsimp [w01];apply hK;clear hK K;refine awp_block ?_;refine awp_prune [0,1,2,6] ?_;simp only[zP,Nat.reduceEqDiff,reduceIte];refine awp_loop_l [0,1,2] (α:=Unit) (fun i=>[(6,I 1)]) (fun i=>[]) (fun i=>True) (fun i=>0) () ?_ ?_ ?_
 ·simp
 ·exact sub_same (by simp)
 rintro u-;simp only[zP,Nat.reduceEqDiff,reduceIte];refine awp_seq_k fun K1 hK1=>?_;refine aS fun K hK=>?_;simp -dsimp;apply hK;clear hK K;refine awp_cond rfl (fun hc0=>?_) (fun hc0=>?_)
 ·simp at hc0
 ·refine awp_exit ?_
  try simp only[zT,reduceIte,Nat.reduceEqDiff]
  simp[resP,tupOf]
theorem c_pdq0 (k:Int):PureCall Tryz.prog 134 [.lst 1 [],I 0,I 0,I k] (.tup []):=by
 have wl:IntKind.i64.wrap 0=0:=wrap_in (by omega) (by omega);refine PureCall.of_body Tryz.func134 rfl (by decide) (by simp[Tryz.ntmps134]) ?_;simp only[Tryz.ntmps134,Tryz.results134];refine aS fun K hK=>?_;simp -dsimp;apply hK;clear hK K;refine aS fun K hK=>?_;simp -dsimp;apply hK;clear hK K;refine awp_block ?_;refine awp_prune [0,1,2,3,8,9] ?_;simp only[zP,Nat.reduceEqDiff,reduceIte];refine awp_loop_l [0] (α:=Unit) (fun _=>[(1,I 0),(2,I 0),(3,I k),(8,Bo true),(9,Bo true)]) (fun _=>[]) (fun _=>True) (fun _=>0) () ?_ ?_ ?_
 ·simp
 ·exact sub_same (by simp)
 rintro u-;simp only[zP,Nat.reduceEqDiff,reduceIte];refine awp_block ?_;refine aS fun K hK=>?_;simp -dsimp [wl];apply hK;clear hK K;refine awp_seq_k fun K1 hK1=>?_;refine aS fun K hK=>?_;simp -dsimp;apply hK;clear hK K;refine awp_cond rfl (fun hc0=>?_) (fun hc0=>?_)
 ·refine aS fun K hK=>?_;simp -dsimp;refine callK_intro _ (c_isort0) (by simp) ?_;simp -dsimp;apply hK;clear hK K;exact awp_ret (by simp[resP,tupOf])
 ·simp at hc0
theorem c_Sort0:PureCall Tryz.prog 90 [.lst 1 []] (.tup []):=by
 obtain⟨k,hk⟩:=c_Len 0 (by omega) (by omega);have wu:IntKind.u64.wrap 0=0:=u64_in (by omega) (by omega);refine PureCall.of_body Tryz.func90 rfl (by decide) (by simp[Tryz.ntmps90]) ?_;simp only[Tryz.ntmps90,Tryz.results90];refine aS fun K hK=>?_;simp -dsimp;apply hK;clear hK K;refine aR fun K hK=>?_;simp -dsimp;refine⟨_,conv_in _,?_⟩;simp -dsimp [wu];refine callK_intro _ (hk) (by simp) ?_;simp -dsimp;refine callK_intro _ (c_pdq0 k) (by simp) ?_;simp -dsimp;apply hK;clear hK K
 try simp only[zT,reduceIte,Nat.reduceEqDiff]
 simp[resP,tupOf]
end Go.Cur
end
section
namespace Go.Cur
open Go.AM Go.Proofs
@[simp] def ntC (g:Gr) (fe wi:AV):List AV:=g.cells++[fe,wi]
abbrev net (g:Gr) (s:Sta):AV:= .iptr (ntC g (bL s.Feeds) (bL s.Wires))
end Go.Cur
end
section
namespace Go.Cur
open Go.AM Go.Proofs
theorem sub_rfM {nt:Nat} {T:Tm} {H:Hp} (g:List (Option Nat)) (hn:nodupB g=true):Go.AM.Sub nt T H (T.map fun p=>(p.1,renF (hget H) g 3 (Go.AM.look T p.1))) (renHF H g):=by
 refine sub_rf g hn ?_ rfl;have gen:∀(T':Tm),subTF H g T (T'.map fun p=>(p.1,renF (hget H) g 3 (Go.AM.look T p.1))):=by
  intro T'
  induction T' with
  |nil=>trivial
  |cons p T' ih=>exact⟨Or.inr rfl,ih⟩
 exact gen T
def curS (x:Int) (c:Int) (p:Ld×Bool):Int:=if p.2=true∧p.1.At=x then p.1.Units else c
def cur (l:List Ld) (sv:List Bool) (x:Int):Int:=(l.zip sv).foldl (curS x) 0
end Go.Cur
end
section
namespace Go.AM
section
variable {P:Program} {nt:Nat} {kp:List Nat} {T:Tm} {H:Hp} {Q:Exit→Tm→Hp→Prop}
theorem gwp_range_sW {J:Jt} (hJC:JC true J) (kl:List Nat) (hp:Nat→Hp) (inv:Nat→Prop) {g:Operand} {ps:Array Tmp} {assign body:Code} {f:FuncId} {caps:List AV} {xs:List (List AV)} {H0:Hp} (hT1:T.map (·.1)=kl) (hic:IterCallW P f H0 caps xs) (hH:H=H0++H.drop H0.length) (hr0:H0.all rowOk=true) (hg:evT (look T) g= .clo f caps) (hnr:caps.all (capOk H0.length)=true) (hnt:nt≤999999)
  (hps:ps.toList.Nodup) (hpl:∀p∈ps.toList,p<nt∧p∉kl) (hx:∀x∈xs,x.length=ps.size)
  (h0:inv 0) (hs0:Sub nt T (List.replicate H0.length none++H.drop H0.length) T (hp 0))
  (round:∀n x,xs[n]?=some x→inv n→∀(l:Nat) (J1:Jt),JC false J1→GWp P (some l) J1 nt kl assign (ps.toList.zip x++T) (hp n) (onlyN fun T' H'=>∀J2:Jt,JC false J2→GWp P (some l) J2 nt kl body T' H' (roundQ nt inv hp T Q n)))
  (done:inv xs.length→Q .normal T (hp xs.length)):GWp P none J nt kp (.rangeFunc g ps assign body) T H Q:=
 gwp_rangeW hJC hH hr0 T kl hp inv hg hnr hic hnt hps hpl hx h0 hs0 (keysAny hT1) round done
end
end Go.AM
namespace Go.Mo
open Go.AM Go.Cur Go.Proofs
def afterX (t:Tn) (st:Int) (x:Ms) (d sl:Int):Ms:=⟨nextP t st x d sl,x.W+nextP t st x d sl⟩
def stopN (t:Tn) (st:Int) (sF:Ms→Int):Nat→Ms→List Ms
 |0,_=>[]
 |n+1,x=>if x.P=0 then []else if nextP t st x (-4) (sF x)≤25000*t.Mass then afterX t st x (-4) (sF x)::stopN t st sF n (afterX t st x (-4) (sF x))else []
theorem stopN_len (t:Tn) (st:Int) (sF:Ms→Int):∀(n:Nat) (x:Ms),(stopN t st sF n x).length≤n
 |0,x=>Nat.le_refl _
 | n+1,x=>by
  rw[stopN]
  split
  ·simp
  ·split
   ·have:=stopN_len t st sF n (afterX t st x (-4) (sF x));simp only[List.length_cons];omega
   ·simp
def yAV (y:Ms):List AV:=[y.av]
theorem c_stop1_c (t:Tn) (st:Int) (hb:TnB t st) (f:FuncId) (cl:List (List AV)) (sF:Ms→Int) (hs:∀x,MsB t x→PureCall Tryz.prog f (x.av::ipts cl) (I (sF x))) (hsl:∀x,MsB t x→ -120≤sF x∧sF x≤120) (x0:Ms) (hx:MsB t x0) (hw:x0.W≤100000000000000000):
  IterCallW Tryz.prog 204 [some (.els 2 [x0.cells])] [.ptr 0 0 0, .iptr [t.mp st], .iptr [.clo f (ipts cl)]] ((stopN t st sF 36000 x0).map yAV):=by
 have hln:=stopN_len t st sF 36000 x0;refine IterCallW.of_body Tryz.func204 rfl (by decide) (by simp[Tryz.ntmps204]) (by simp[Tryz.ntmps204]) (by simp[Tryz.results204]) ?_;intro J l hmk hY;simp only[Tryz.ntmps204,Tryz.results204];refine gS fun K hK=>?_;simp -dsimp;apply hK;clear hK K;refine gwp_block ?_;refine gwp_prune [0,1,2,3,7,999999] (Or.inl (by decide)) ?_;simp only[zP,Nat.reduceEqDiff,reduceIte];refine gwp_loop_l [0,1,2,3] (α:=List Ms×Ms) (fun q=>[(7,I q.1.length),(999999,cntV q.1.length)]) (fun q=>[some (.els 2 [q.2.cells])]) (fun q=>q.1.length≤36000∧q.1++stopN t st sF (36000-q.1.length) q.2=stopN t st sF 36000 x0∧MsB t q.2∧q.2.W≤100000000000000000+q.1.length*2100000000) (fun q=>36000-q.1.length) ([],x0) ?_ ?_ ?_
 ·exact⟨by simp,by simp,hx,by simpa using hw⟩
 ·exact gsub (sub_rb [some 0] rfl (by simp) (by simp)) (by simp)
 rintro⟨L,x⟩ ⟨i1,i2,i3,i4⟩;simp only at i1 i2 i3 i4 ⊢;simp only[zP,Nat.reduceEqDiff,reduceIte];refine gS fun K hK=>?_;simp -dsimp;apply hK;clear hK K;refine gwp_seq_k fun K1 hK1=>?_;refine gwp_cond rfl (fun hc0=>?_) (fun hc0=>?_)
 ·have hlt:L.length<36000:=by have h:=(by simpa using hc0:(L.length:Int)<36000);omega
  have wk:IntKind.i64.wrap ((L.length:Int)+1)=(L.length:Int)+1:=wrap_in (by omega) (by omega);obtain⟨m,hm⟩:∃m,36000-L.length=m+1:=⟨36000-L.length-1,by omega⟩;have hm2:36000-(L.length+1)=m:=by omega
  rw[hm,stopN]at i2;refine gwp_skip ?_;simp only[zT,reduceIte,Nat.reduceEqDiff];refine hK1 _ _ ?_;refine gwp_prune [0,1,2,3,7,999999] (Or.inl (by decide)) ?_;simp only[zP,Nat.reduceEqDiff,reduceIte];refine gwp_seq_k fun K2 hK2=>?_;refine gwp_block ?_;refine gwp_seq_k fun K3 hK3=>?_;refine gS fun K hK=>?_;simp -dsimp;apply hK;clear hK K;refine gwp_cond rfl (fun hc1=>?_) (fun hc1=>?_)
  ·have hp0:x.P=0:=by simpa using hc1
   rw[if_pos hp0,List.append_nil]at i2;exact gwp_ret (by simp[←i2])
  ·have hp0:¬x.P=0:=by simpa using hc1
   rw[if_neg hp0]at i2;have hsx:=hs x i3;have hst:=c_step t st x (-4) (sF x) ⟨hb,i3,by omega,hsl x i3⟩;have hnb:=next_bd (t:=t) (st:=st) (x:=x) (d:=-4) (sl:=sF x) ⟨hb,i3,by omega,hsl x i3⟩;unfold stepC at hst;refine gwp_skip ?_;simp only[zT,reduceIte,Nat.reduceEqDiff];refine hK3 _ _ ?_;refine gwp_prune [0,1,2,3,7,999999] (Or.inl (by decide)) ?_;simp only[zP,Nat.reduceEqDiff,reduceIte];refine gwp_sd mixed rfl (by decide) rfl rfl fun K hK=>?_;simp -dsimp;refine callK_intro _ (hsx) (by simp) ?_;simp -dsimp;refine callK_intro _ (hst) (by simp) ?_;simp -dsimp;refine hK _ _ _ (by decide+kernel) ?_;clear hK K;refine gwp_seq_k fun K4 hK4=>?_;refine gS fun K hK=>?_;simp -dsimp;apply hK;clear hK K;refine gwp_cond rfl (fun hc2=>?_) (fun hc2=>?_)
   ·have hno:¬nextP t st x (-4) (sF x)≤25000*t.Mass:=by simpa using hc2
    rw[if_neg hno,List.append_nil]at i2;exact gwp_ret (by simp[←i2])
   ·have hok:nextP t st x (-4) (sF x)≤25000*t.Mass:=by simpa using hc2
    rw[if_pos hok]at i2;have hget:((stopN t st sF 36000 x0).map yAV)[L.length]?=some [(afterX t st x (-4) (sF x)).av]:=by rw[←i2];simp[yAV]
    have haw:(afterX t st x (-4) (sF x)).W=x.W+nextP t st x (-4) (sF x):=rfl;have hap:(afterX t st x (-4) (sF x)).P=nextP t st x (-4) (sF x):=rfl;refine gwp_skip ?_;simp only[zT,reduceIte,Nat.reduceEqDiff];refine hK4 _ _ ?_;refine gwp_prune [0,1,2,3,5,7,999999] (Or.inl (by decide)) ?_;simp only[zP,Nat.reduceEqDiff,reduceIte];refine gS fun K hK=>?_;simp -dsimp;apply hK;clear hK K;refine gwp_sy hmk hY rfl (by decide) rfl rfl fun K hK=>?_;simp -dsimp;refine yK_intro hget ?_ ?_
    ·apply hK;clear hK K;refine gwp_cond rfl (fun hc3=>?_) (fun hc3=>?_)
     ·simp at hc3
     ·refine gwp_skip ?_;simp only[zT,reduceIte,Nat.reduceEqDiff];refine hK2 _ _ ?_;refine gwp_prune [0,1,2,3,7,999999] (Or.inl (by decide)) ?_;simp only[zP,Nat.reduceEqDiff,reduceIte];refine gR fun K hK=>?_;simp -dsimp [wk];apply hK;clear hK K;simp only[zT,reduceIte,Nat.reduceEqDiff];exact⟨(L++[afterX t st x (-4) (sF x)],afterX t st x (-4) (sF x)),⟨by simp;omega,by simp only[List.length_append,List.length_cons,List.length_nil,Nat.zero_add,hm2,List.append_assoc,List.cons_append,List.nil_append];exact i2,⟨by rw[hap];omega,by rw[haw];have:=i3.w;omega⟩,by rw[haw];simp;omega⟩,by simp;omega,gsub (sub_rb [some 0] rfl (by simp[haw,hap]) (by simp[haw,hap])) (by simp)⟩
    ·apply hK;clear hK K;refine gwp_cond rfl (fun hc3=>?_) (fun hc3=>?_)
     ·exact gwp_ret (by simp)
     ·simp at hc3
 ·have hlt:36000-L.length=0:=by have:¬(L.length:Int)<36000:=(by simpa using hc0);omega
  rw[hlt,stopN,List.append_nil]at i2;refine gwp_exit ?_
  try simp only[zT,reduceIte,Nat.reduceEqDiff]
  simp[←i2]
theorem c_stop1_b (t:Tn) (st:Int) (hb:TnB t st) (f:FuncId) (cl:List (List AV)) (sF:Ms→Int) (hs:∀x,MsB t x→PureCall Tryz.prog f (ipts cl++[x.av]) (I (sF x))) (hsl:∀x,MsB t x→ -120≤sF x∧sF x≤120) (x0:Ms) (hx:MsB t x0) (hw:x0.W≤100000000000000000):
  IterCallW Tryz.prog 204 [some (.els 2 [x0.cells])] [.ptr 0 0 0, .iptr [t.mp st], .iptr [.bnd f (ipts cl)]] ((stopN t st sF 36000 x0).map yAV):=by
 have hln:=stopN_len t st sF 36000 x0;refine IterCallW.of_body Tryz.func204 rfl (by decide) (by simp[Tryz.ntmps204]) (by simp[Tryz.ntmps204]) (by simp[Tryz.results204]) ?_;intro J l hmk hY;simp only[Tryz.ntmps204,Tryz.results204];refine gS fun K hK=>?_;simp -dsimp;apply hK;clear hK K;refine gwp_block ?_;refine gwp_prune [0,1,2,3,7,999999] (Or.inl (by decide)) ?_;simp only[zP,Nat.reduceEqDiff,reduceIte];refine gwp_loop_l [0,1,2,3] (α:=List Ms×Ms) (fun q=>[(7,I q.1.length),(999999,cntV q.1.length)]) (fun q=>[some (.els 2 [q.2.cells])]) (fun q=>q.1.length≤36000∧q.1++stopN t st sF (36000-q.1.length) q.2=stopN t st sF 36000 x0∧MsB t q.2∧q.2.W≤100000000000000000+q.1.length*2100000000) (fun q=>36000-q.1.length) ([],x0) ?_ ?_ ?_
 ·exact⟨by simp,by simp,hx,by simpa using hw⟩
 ·exact gsub (sub_rb [some 0] rfl (by simp) (by simp)) (by simp)
 rintro⟨L,x⟩ ⟨i1,i2,i3,i4⟩;simp only at i1 i2 i3 i4 ⊢;simp only[zP,Nat.reduceEqDiff,reduceIte];refine gS fun K hK=>?_;simp -dsimp;apply hK;clear hK K;refine gwp_seq_k fun K1 hK1=>?_;refine gwp_cond rfl (fun hc0=>?_) (fun hc0=>?_)
 ·have hlt:L.length<36000:=by have h:=(by simpa using hc0:(L.length:Int)<36000);omega
  have wk:IntKind.i64.wrap ((L.length:Int)+1)=(L.length:Int)+1:=wrap_in (by omega) (by omega);obtain⟨m,hm⟩:∃m,36000-L.length=m+1:=⟨36000-L.length-1,by omega⟩;have hm2:36000-(L.length+1)=m:=by omega
  rw[hm,stopN]at i2;refine gwp_skip ?_;simp only[zT,reduceIte,Nat.reduceEqDiff];refine hK1 _ _ ?_;refine gwp_prune [0,1,2,3,7,999999] (Or.inl (by decide)) ?_;simp only[zP,Nat.reduceEqDiff,reduceIte];refine gwp_seq_k fun K2 hK2=>?_;refine gwp_block ?_;refine gwp_seq_k fun K3 hK3=>?_;refine gS fun K hK=>?_;simp -dsimp;apply hK;clear hK K;refine gwp_cond rfl (fun hc1=>?_) (fun hc1=>?_)
  ·have hp0:x.P=0:=by simpa using hc1
   rw[if_pos hp0,List.append_nil]at i2;exact gwp_ret (by simp[←i2])
  ·have hp0:¬x.P=0:=by simpa using hc1
   rw[if_neg hp0]at i2;have hsx:=hs x i3;have hst:=c_step t st x (-4) (sF x) ⟨hb,i3,by omega,hsl x i3⟩;have hnb:=next_bd (t:=t) (st:=st) (x:=x) (d:=-4) (sl:=sF x) ⟨hb,i3,by omega,hsl x i3⟩;unfold stepC at hst;refine gwp_skip ?_;simp only[zT,reduceIte,Nat.reduceEqDiff];refine hK3 _ _ ?_;refine gwp_prune [0,1,2,3,7,999999] (Or.inl (by decide)) ?_;simp only[zP,Nat.reduceEqDiff,reduceIte];refine gwp_sd mixed rfl (by decide) rfl rfl fun K hK=>?_;simp -dsimp;refine callK_intro _ (hsx) (by simp) ?_;simp -dsimp;refine callK_intro _ (hst) (by simp) ?_;simp -dsimp;refine hK _ _ _ (by decide+kernel) ?_;clear hK K;refine gwp_seq_k fun K4 hK4=>?_;refine gS fun K hK=>?_;simp -dsimp;apply hK;clear hK K;refine gwp_cond rfl (fun hc2=>?_) (fun hc2=>?_)
   ·have hno:¬nextP t st x (-4) (sF x)≤25000*t.Mass:=by simpa using hc2
    rw[if_neg hno,List.append_nil]at i2;exact gwp_ret (by simp[←i2])
   ·have hok:nextP t st x (-4) (sF x)≤25000*t.Mass:=by simpa using hc2
    rw[if_pos hok]at i2;have hget:((stopN t st sF 36000 x0).map yAV)[L.length]?=some [(afterX t st x (-4) (sF x)).av]:=by rw[←i2];simp[yAV]
    have haw:(afterX t st x (-4) (sF x)).W=x.W+nextP t st x (-4) (sF x):=rfl;have hap:(afterX t st x (-4) (sF x)).P=nextP t st x (-4) (sF x):=rfl;refine gwp_skip ?_;simp only[zT,reduceIte,Nat.reduceEqDiff];refine hK4 _ _ ?_;refine gwp_prune [0,1,2,3,5,7,999999] (Or.inl (by decide)) ?_;simp only[zP,Nat.reduceEqDiff,reduceIte];refine gS fun K hK=>?_;simp -dsimp;apply hK;clear hK K;refine gwp_sy hmk hY rfl (by decide) rfl rfl fun K hK=>?_;simp -dsimp;refine yK_intro hget ?_ ?_
    ·apply hK;clear hK K;refine gwp_cond rfl (fun hc3=>?_) (fun hc3=>?_)
     ·simp at hc3
     ·refine gwp_skip ?_;simp only[zT,reduceIte,Nat.reduceEqDiff];refine hK2 _ _ ?_;refine gwp_prune [0,1,2,3,7,999999] (Or.inl (by decide)) ?_;simp only[zP,Nat.reduceEqDiff,reduceIte];refine gR fun K hK=>?_;simp -dsimp [wk];apply hK;clear hK K;simp only[zT,reduceIte,Nat.reduceEqDiff];exact⟨(L++[afterX t st x (-4) (sF x)],afterX t st x (-4) (sF x)),⟨by simp;omega,by simp only[List.length_append,List.length_cons,List.length_nil,Nat.zero_add,hm2,List.append_assoc,List.cons_append,List.nil_append];exact i2,⟨by rw[hap];omega,by rw[haw];have:=i3.w;omega⟩,by rw[haw];simp;omega⟩,by simp;omega,gsub (sub_rb [some 0] rfl (by simp[haw,hap]) (by simp[haw,hap])) (by simp)⟩
    ·apply hK;clear hK K;refine gwp_cond rfl (fun hc3=>?_) (fun hc3=>?_)
     ·exact gwp_ret (by simp)
     ·simp at hc3
 ·have hlt:36000-L.length=0:=by have:¬(L.length:Int)<36000:=(by simpa using hc0);omega
  rw[hlt,stopN,List.append_nil]at i2;refine gwp_exit ?_
  try simp only[zT,reduceIte,Nat.reduceEqDiff]
  simp[←i2]
theorem m_stop_b (t:Tn) (st:Int) (f:FuncId) (cl:List (List AV)) (x:Ms):MutCall Tryz.prog 159 [t.mp st,x.av, .bnd f (ipts cl)] [] [] (.clo 204 [.ptr 0 0 0, .iptr [t.mp st], .iptr [.bnd f (ipts cl)]]) [] [some (.els 2 [x.cells])]:=by
 refine MutCall.of_bodyG [] Tryz.func159 rfl (by decide) (by simp[Tryz.ntmps159]) rfl rfl ?_;intro J hJ;simp only[Tryz.ntmps159,Tryz.results159];refine gS fun K hK=>?_;simp -dsimp;apply hK;clear hK K;refine gS fun K hK=>?_;simp -dsimp;apply hK;clear hK K;refine gwp_weak (gsub (sub_rfM [some 1] rfl) (by simp)) ?_;simp -dsimp [renF,renHF,renRowF,ipts_frz,newName];exact gwp_ret ⟨[some 0],rfl,by simp,by simp,by simp,by simp[resP,tupOf]⟩
theorem step_ok {t:Tn} {st:Int} {x:Ms} {d sl:Int} (h:Ask t st x d sl) (hw:x.W≤900000000000000000) (hq:nextP t st x d sl≤25000*t.Mass):MsB t (afterX t st x d sl):=by
 have hn:=next_bd h;have hx:=h.x;exact⟨⟨hn.1,hq⟩,⟨by show 0≤x.W+_;have:=hx.w;omega,by show x.W+_≤_;omega⟩⟩
theorem stopN_ok {t:Tn} {st:Int} (hb:TnB t st) {sF:Ms→Int} (hsl:∀x,MsB t x→ -120≤sF x∧sF x≤120):∀(n:Nat) (x:Ms) (B:Int),MsB t x→x.W≤B→B+n*2100000000≤900000000000000000→∀y∈stopN t st sF n x,MsB t y∧y.W≤B+n*2100000000
 |0,x,B,_,_,_,y,h=>by simp[stopN]at h
 | n+1,x,B,hx,hB,hn,y,h=>by
  rw[stopN]at h
  split at h
  ·simp at h
  ·split at h
   ·rename_i hq;have ha:Ask t st x (-4) (sF x):=⟨hb,hx,by omega,hsl x hx⟩;have hx2:=step_ok ha (by omega) hq;have hnb:=next_bd ha;have haw:(afterX t st x (-4) (sF x)).W=x.W+nextP t st x (-4) (sF x):=rfl
    rcases List.mem_cons.1 h with rfl|h
    ·exact⟨hx2,by rw[haw];omega⟩
    ·have:=stopN_ok hb hsl n _ (B+2100000000) hx2 (by rw[haw];omega) (by omega) y h;exact⟨this.1,by have:=this.2;omega⟩
   ·simp at h
def plF (t:Tn) (x:Ms):Int:=x.W.tdiv (10*t.Mass)
theorem plF_bd {t:Tn} {st:Int} (hb:TnB t st) {x:Ms} (hx:MsB t x):0≤plF t x∧plF t x≤100000000000000:=by
 have hm:=hb.ma;have hw:=hx.w;unfold plF;rw[Int.tdiv_eq_ediv_of_nonneg hw.1];refine⟨Int.ediv_nonneg hw.1 (by omega),Int.ediv_le_of_le_mul (by omega) (by omega)⟩
end Go.Mo
end
section
namespace Go.Mo
open Go.AM Go.Cur Go.Proofs
theorem c_sNaN (a:Int):PureCall Tryz.prog 198 [I a] (Bo false):=by
 refine PureCall.of_body Tryz.func198 rfl (by decide) (by simp[Tryz.ntmps198]) ?_;simp only[Tryz.ntmps198,Tryz.results198];refine aS fun K hK=>?_;simp -dsimp;apply hK;clear hK K;refine aS fun K hK=>?_;simp -dsimp;apply hK;clear hK K;exact awp_ret (by simp)
def lbI (l:List Int) (x:Int):Nat:=l.countP fun y=>decide (y<x)
theorem lbI_of {l:List Int} {x:Int} {k:Nat} (hk:k≤l.length) (h1:∀y∈l.take k,y<x) (h2:∀y∈l.drop k,x≤y):lbI l x=k:=by
 unfold lbI;rw[←List.take_append_drop k l,List.countP_append];have e1:List.countP (fun y=>decide (y<x)) (l.take k)=(l.take k).length:=List.countP_eq_length.2 (fun y hy=>decide_eq_true (h1 y hy));have e2:List.countP (fun y=>decide (y<x)) (l.drop k)=0:=List.countP_eq_zero.2 (fun y hy=>by have:=h2 y hy;simp;omega);rw[e1,e2,List.length_take];omega
theorem conv_ui (n:Int) (w:World):(convert 259 3 (.int .u64 n)).run Tryz.prog w= .ok (.int .i64 (IntKind.i64.wrap n)) w:=by
 simp[convert,run_underlying und_int,run_underlying und_uint,Conv.intToInt]
theorem c_Search (l:List Int) (x:Int) (hs:l.Pairwise (· ≤ ·)) (hn:l.length≤100000):∃b,PureCall Tryz.prog 155 [iL l,I x] (.tup [I (lbI l x),Bo b]):=by
 refine⟨decide (lbI l x<l.length)&&decide (at0 l (lbI l x)=x),?_⟩;refine PureCall.of_body Tryz.func155 rfl (by decide) (by simp[Tryz.ntmps155]) ?_;simp only[Tryz.ntmps155,Tryz.results155];refine aS fun K hK=>?_;simp -dsimp;apply hK;clear hK K;refine aS fun K hK=>?_;simp -dsimp;apply hK;clear hK K;refine aS fun K hK=>?_;simp -dsimp;apply hK;clear hK K;refine awp_seq_k fun K1 hK1=>?_;refine awp_block ?_;refine awp_prune [0,1,6,7,8] ?_;simp only[zP,Nat.reduceEqDiff,reduceIte];refine awp_loop_l [0,1,6] (α:=Nat×Nat) (fun y=>[(7,I y.1),(8,I y.2)]) (fun _=>[]) (fun y=>y.1≤y.2∧y.2≤l.length∧(∀z∈l.take y.1,z<x)∧∀z∈l.drop y.2,x≤z) (fun y=>y.2-y.1) (0,l.length) ?_ ?_ ?_
 ·exact⟨Nat.zero_le _,Nat.le_refl _,by simp,by simp⟩
 ·exact sub_same (by simp)
 rintro⟨lo,hi⟩ ⟨i1,i2,i3,i4⟩;simp only at i1 i2 i3 i4 ⊢;simp only[zP,Nat.reduceEqDiff,reduceIte];refine awp_seq_k fun K2 hK2=>?_;refine aS fun K hK=>?_;simp -dsimp;apply hK;clear hK K;refine awp_cond rfl (fun hc0=>?_) (fun hc0=>?_)
 ·skip
  try simp at hc0
  have w1:IntKind.i64.wrap ((lo:Int)+hi)=(lo:Int)+hi:=wrap_in (by omega) (by omega);have w2:IntKind.u64.wrap ((lo:Int)+hi)=(lo:Int)+hi:=u64_in (by omega) (by omega);obtain⟨m,hm⟩:∃m:Nat,m=(lo+hi)/2:=⟨_,rfl⟩;have w3:IntKind.i64.wrap (((lo:Int)+hi)/2)=m:=by rw[wrap_in (by omega) (by omega)];omega
  have hml:m<l.length:=by omega
  have gm:=at0_nat hml;have hle:∀p q:Nat,p≤q→q<l.length→at0 l p≤at0 l q:=by
   intro p q hpq hq
   rcases Nat.lt_or_ge p q with h|h
   ·have:=List.pairwise_iff_getElem.1 hs p q (by omega) hq h
    rwa [←at0_of (List.getElem?_eq_getElem (show p<l.length by omega)),←at0_of (List.getElem?_eq_getElem hq)]at this
   ·obtain rfl:p=q:=by omega
    exact Int.le_refl _
  refine awp_skip ?_;simp only[zT,reduceIte,Nat.reduceEqDiff];refine hK2 _ _ ?_;refine awp_prune [0,1,6,7,8] ?_;simp only[zP,Nat.reduceEqDiff,reduceIte];refine awp_block ?_;refine aS fun K hK=>?_;simp -dsimp [w1];refine⟨_,conv_in _,?_⟩;simp -dsimp [w2];refine⟨by decide,_,conv_ui _,?_⟩;simp -dsimp [w3];apply hK;clear hK K;refine aS fun K hK=>?_;simp -dsimp [gm];refine callK_intro _ (c_Less _ _) (by simp) ?_;simp -dsimp [gm];apply hK;clear hK K;refine awp_cond rfl (fun hc1=>?_) (fun hc1=>?_)
  ·skip
   try simp at hc1
   have wm:=zW m (by omega);refine aR fun K hK=>?_;simp -dsimp [wm];apply hK;clear hK K;simp only[zT,reduceIte,Nat.reduceEqDiff];refine⟨(m+1,hi),⟨by simp only;omega,i2,fun z hz=>?_,i4⟩,by simp only;omega,sub_rb [] rfl (by simp) (by simp)⟩;obtain⟨p,hp⟩:=List.getElem?_of_mem hz;have hpl:=(List.getElem?_eq_some_iff.1 hp).1;rw[List.length_take]at hpl;rw[List.getElem?_take,if_pos (by omega)]at hp;have:=hle p m (by omega) hml;rw[at0_of hp]at this;omega
  ·skip
   try simp at hc1
   refine aR fun K hK=>?_;simp -dsimp;apply hK;clear hK K;simp only[zT,reduceIte,Nat.reduceEqDiff];refine⟨(lo,m),⟨by simp only;omega,by simp only;omega,i3,fun z hz=>?_⟩,by simp only;omega,sub_rb [] rfl (by simp) (by simp)⟩;obtain⟨p,hp⟩:=List.getElem?_of_mem hz;rw[List.getElem?_drop]at hp;have hpl:=(List.getElem?_eq_some_iff.1 hp).1;have:=hle m (m+p) (by omega) hpl;rw[at0_of hp]at this;omega
 ·skip
  try simp at hc0
  have hlh:lo=hi:=by omega
  subst hlh;have hlb:=lbI_of i2 i3 i4;refine awp_exit ?_;simp only[zT,reduceIte,Nat.reduceEqDiff];refine hK1 _ _ ?_;refine awp_prune [0,1,6,7] ?_;simp only[zP,Nat.reduceEqDiff,reduceIte];refine aS fun K hK=>?_;simp -dsimp;refine idxK_intro (nCell (at0 l lo)) (fun hm=>by simp at hm;simp[at0_nat hm]) ?_;simp -dsimp;refine idxK_intro (nCell (at0 l lo)) (fun hm=>by simp at hm;simp[at0_nat hm.1]) ?_;simp -dsimp;refine callK_may _ (fun hm=>c_sNaN _) (by simp) ?_;simp -dsimp;refine callK_may _ (fun hm=>c_sNaN _) (by simp) ?_;simp -dsimp;apply hK;clear hK K;refine awp_ret ?_;rw[hlb]
  by_cases h:lo<l.length
  ·simp[h,beq_d]
  ·simp[h]
structure Rn where
 t:Tn
 st:Int
 W:List (List AV)
 ends:List Int
 lims:List Int
 slps:List Int
 stops:List Int
@[simp] def Rn.cells (r:Rn):List AV:=[r.t.mp r.st, .lst 2 r.W,iL r.ends,iL r.lims,iL r.slps,iL r.stops]
abbrev Rn.ptr (r:Rn):AV:= .iptr r.cells
structure RnOk (r:Rn):Prop where
 b:TnB r.t r.st
 len:1≤r.t.Length∧r.t.Length≤60000
 spd:1≤r.t.Speed∧r.t.Speed≤25000
 n:1≤r.ends.length∧r.ends.length≤2000
 nl:r.lims.length=r.ends.length
 ns:r.slps.length=r.ends.length
 so:r.ends.Pairwise (· ≤ ·)
 sl:∀x∈r.slps,-120≤x∧x≤120
 li:∀x∈r.lims,0≤x∧x≤1000000
def Rn.slF (r:Rn) (x:Ms):Int:=at0 r.slps (min (lbI r.ends (plF r.t x+1)) (r.slps.length-1):Nat)
theorem lbI_le (l:List Int) (x:Int):lbI l x≤l.length:=List.countP_le_length
theorem slF_bd {r:Rn} (h:RnOk r) (x:Ms):-120≤r.slF x∧r.slF x≤120:=by
 have hn:=h.n;have hs:=h.ns;have hk:min (lbI r.ends (plF r.t x+1)) (r.slps.length-1)<r.slps.length:=by omega
 exact h.sl _ (List.mem_of_getElem? (at0_nat hk))
theorem c_slope (r:Rn) (h:RnOk r) (x:Ms) (hx:MsB r.t x):PureCall Tryz.prog 114 [r.ptr,x.av] (I (r.slF x)):=by
 have hp:=c_place r.t r.st x h.b hx.w.1 hx.w.2;have hb:=plF_bd h.b hx;have w1:IntKind.i64.wrap (plF r.t x+1)=plF r.t x+1:=wrap_in (by omega) (by omega);obtain⟨b,hs⟩:=c_Search r.ends (plF r.t x+1) h.so (by have:=h.n;omega);have hle:=lbI_le r.ends (plF r.t x+1);have hn:=h.n;have hns:=h.ns;unfold Rn.slF;have hk:min (lbI r.ends (plF r.t x+1)) (r.slps.length-1)<r.slps.length:=by omega
 have hg:=at0_nat hk;unfold plF at w1 hs hg hle hk ⊢;have w2:IntKind.i64.wrap ((r.slps.length:Int)-1)=(r.slps.length:Int)-1:=wrap_in (by omega) (by omega);have hmin:(if ((r.slps.length:Int)-1)<(lbI r.ends (x.W.tdiv (10*r.t.Mass)+1):Int)then(r.slps.length:Int)-1 else(lbI r.ends (x.W.tdiv (10*r.t.Mass)+1):Int))=((min (lbI r.ends (x.W.tdiv (10*r.t.Mass)+1)) (r.slps.length-1):Nat):Int):=by
  split<;>omega
 generalize lbI r.ends (x.W.tdiv (10*r.t.Mass)+1)=k at*
 refine PureCall.of_body Tryz.func114 rfl (by decide) (by simp[Tryz.ntmps114]) ?_;simp only[Tryz.ntmps114,Tryz.results114];refine aS fun K hK=>?_;simp -dsimp;apply hK;clear hK K;refine awp_sd mixed rfl fun K hK=>?_;simp -dsimp;refine callK_intro _ (hp) (by simp) ?_;simp -dsimp;refine hK _ _ _ (by decide+kernel) ?_;clear hK K;refine aS fun K hK=>?_;simp -dsimp [w1];refine callK_intro _ (hs) (by simp) ?_;simp -dsimp [w1];apply hK;clear hK K;refine awp_sd mixed rfl fun K hK=>?_;simp -dsimp [w2,hmin,hg];refine hK _ _ _ (by decide+kernel) ?_;clear hK K;exact awp_ret (by simp)
def limL (front:Int):Int→List (Int×Int)→Int
 |lim,[]=>lim
 |lim,(e,l)::q=>if front≤e then mnI lim l else limL front (mnI lim l) q
def Rn.rear (r:Rn) (x:Ms):Int:=plF r.t x-r.t.Length
def Rn.liF (r:Rn) (x:Ms):Int:=limL (plF r.t x) r.t.Speed ((r.ends.zip r.lims).drop (lbI r.ends (r.rear x+1)))
theorem c_limit (r:Rn) (h:RnOk r) (x:Ms) (hx:MsB r.t x):PureCall Tryz.prog 203 [r.ptr,x.av] (I (r.liF x)):=by
 have hp:=c_place r.t r.st x h.b hx.w.1 hx.w.2;have hb:=plF_bd h.b hx;have hlen:=h.len;have w0:IntKind.i64.wrap (plF r.t x-r.t.Length)=plF r.t x-r.t.Length:=wrap_in (by omega) (by omega);have w1:IntKind.i64.wrap (plF r.t x-r.t.Length+1)=plF r.t x-r.t.Length+1:=wrap_in (by omega) (by omega);obtain⟨b,hs⟩:=c_Search r.ends (plF r.t x-r.t.Length+1) h.so (by have:=h.n;omega);have hle:=lbI_le r.ends (plF r.t x-r.t.Length+1);have hn:=h.n;have hnl:=h.nl;unfold Rn.liF Rn.rear;unfold plF at w0 w1 hs hle ⊢;generalize lbI r.ends (x.W.tdiv (10*r.t.Mass)-r.t.Length+1)=k0 at*
 obtain⟨pl,hpl⟩:∃pl,pl=x.W.tdiv (10*r.t.Mass):=⟨_,rfl⟩;rw[←hpl]at w0 w1 hs hp ⊢;have hzl:(r.ends.zip r.lims).length=r.ends.length:=by rw[List.length_zip];omega
 refine PureCall.of_body Tryz.func203 rfl (by decide) (by simp[Tryz.ntmps203]) ?_;simp only[Tryz.ntmps203,Tryz.results203];refine aS fun K hK=>?_;simp -dsimp;apply hK;clear hK K;refine awp_sd mixed rfl fun K hK=>?_;simp -dsimp;refine callK_intro _ (hp) (by simp) ?_;simp -dsimp;refine hK _ _ _ (by decide+kernel) ?_;clear hK K;refine aS fun K hK=>?_;simp -dsimp [w0];apply hK;clear hK K;refine aS fun K hK=>?_;simp -dsimp;apply hK;clear hK K;refine aS fun K hK=>?_;simp -dsimp [w1];refine callK_intro _ (hs) (by simp) ?_;simp -dsimp [w1];apply hK;clear hK K;refine awp_seq_k fun K1 hK1=>?_;refine awp_block ?_;refine awp_prune [0,5,7,8] ?_;simp only[zP,Nat.reduceEqDiff,reduceIte];refine awp_loop_l [0,5] (α:=Nat×Int) (fun q=>[(7,I q.2),(8,I q.1)]) (fun _=>[some (.els 2 [x.cells])]) (fun q=>q.1≤r.ends.length∧limL pl q.2 ((r.ends.zip r.lims).drop q.1)=limL pl r.t.Speed ((r.ends.zip r.lims).drop k0)) (fun q=>r.ends.length-q.1) (k0,r.t.Speed) ?_ ?_ ?_
 ·exact⟨hle,rfl⟩
 ·exact sub_rb [some 0] rfl (by simp) (by simp)
 rintro⟨k,lim⟩ ⟨i1,i2⟩;simp only at i1 i2 ⊢;simp only[zP,Nat.reduceEqDiff,reduceIte];refine awp_seq_k fun K2 hK2=>?_;refine aS fun K hK=>?_;simp -dsimp;apply hK;clear hK K;refine awp_cond rfl (fun hc0=>?_) (fun hc0=>?_)
 ·have hkl:k<r.ends.length:=by simpa using hc0
  have wk:=zW k (by omega);have ge:=at0_nat hkl;have gl:=at0_nat (l:=r.lims) (k:=k) (by omega);have hz:(r.ends.zip r.lims).drop k=(at0 r.ends k,at0 r.lims k)::(r.ends.zip r.lims).drop (k+1):=by
   rw[List.drop_eq_getElem_cons (by omega)]
   congr 1
   rw[List.getElem_zip];rw[List.getElem?_eq_getElem (by omega)]at ge gl;simp only[Option.some.injEq]at ge gl;rw[ge,gl]
  rw[hz,limL]at i2;have hmn:(if at0 r.lims k<lim then at0 r.lims k else lim)=mnI lim (at0 r.lims k):=rfl;refine awp_skip ?_;simp only[zT,reduceIte,Nat.reduceEqDiff];refine hK2 _ _ ?_;refine awp_prune [0,5,7,8] ?_;simp only[zP,Nat.reduceEqDiff,reduceIte];refine awp_seq_k fun K3 hK3=>?_;refine awp_block ?_;refine aS fun K hK=>?_;simp -dsimp [gl,hmn];apply hK;clear hK K;refine aS fun K hK=>?_;simp -dsimp [ge];apply hK;clear hK K;refine awp_cond rfl (fun hc1=>?_) (fun hc1=>?_)
  ·have hpe:pl≤at0 r.ends k:=by simpa using hc1
   rw[if_pos hpe]at i2;refine awp_exit ?_;simp only[zT,reduceIte,Nat.reduceEqDiff];refine hK1 _ _ ?_;refine awp_prune [7] ?_;simp only[zP,Nat.reduceEqDiff,reduceIte];refine aS fun K hK=>?_;simp -dsimp;apply hK;clear hK K;exact awp_ret (by simp;exact i2)
  ·have hpe:¬pl≤at0 r.ends k:=by simpa using hc1
   rw[if_neg hpe]at i2;refine awp_skip ?_;simp only[zT,reduceIte,Nat.reduceEqDiff];refine hK3 _ _ ?_;refine awp_prune [0,5,7,8] ?_;simp only[zP,Nat.reduceEqDiff,reduceIte];refine aR fun K hK=>?_;simp -dsimp [wk];apply hK;clear hK K;simp only[zT,reduceIte,Nat.reduceEqDiff];exact⟨(k+1,mnI lim (at0 r.lims k)),⟨by simp only;omega,i2⟩,by simp only;omega,sub_rb [some 0] rfl (by simp) (by simp)⟩
 ·have hkl:k=r.ends.length:=by have:¬k<r.ends.length:=(by simpa using hc0);omega
  rw[List.drop_of_length_le (by omega),limL]at i2;refine awp_exit ?_;simp only[zT,reduceIte,Nat.reduceEqDiff];refine hK1 _ _ ?_;refine awp_prune [7] ?_;simp only[zP,Nat.reduceEqDiff,reduceIte];refine aS fun K hK=>?_;simp -dsimp;apply hK;clear hK K;exact awp_ret (by simp;exact i2)
end Go.Mo
end
section
namespace Go.Mo
open Go.AM Go.Cur Go.Proofs
def Rn.fitB (r:Rn) (stop:Int) (x:Ms):Bool:=decide (plF r.t x≤stop)&&decide (spd r.t x≤r.liF x)
theorem c_fits (r:Rn) (h:RnOk r) (x:Ms) (hx:MsB r.t x) (stop:Int):PureCall Tryz.prog 158 [r.ptr,x.av,I stop] (Bo (r.fitB stop x)):=by
 have hp:=c_place r.t r.st x h.b hx.w.1 hx.w.2;have hs:=c_speed r.t r.st x h.b hx;have hl:=c_limit r h x hx;unfold Rn.fitB plF;refine PureCall.of_body Tryz.func158 rfl (by decide) (by simp[Tryz.ntmps158]) ?_;simp only[Tryz.ntmps158,Tryz.results158];refine aS fun K hK=>?_;simp -dsimp;apply hK;clear hK K;refine awp_sd mixed rfl fun K hK=>?_;simp -dsimp;refine callK_intro _ (hp) (by simp) ?_;simp -dsimp;refine callK_may _ (fun hm=>hs) (by simp) ?_;simp -dsimp;refine callK_may _ (fun hm=>hl) (by simp) ?_;simp -dsimp;refine hK _ _ _ (by decide+kernel) ?_;clear hK K;exact awp_ret (by simp)
def Rn.stpL (r:Rn) (x:Ms):List Ms:=stopN r.t r.st r.slF 36000 x
def Rn.safeB (r:Rn) (stop:Int) (x:Ms):Bool:=r.fitB stop x&&((r.stpL x).all (r.fitB stop)&&decide (((r.stpL x).getLastD x).P=0))
theorem c_safe (r:Rn) (h:RnOk r) (x:Ms) (hx:MsB r.t x) (hw:x.W≤100000000000000000) (stop:Int):PureCall Tryz.prog 116 [r.ptr,x.av,I stop] (Bo (r.safeB stop x)):=by
 have hf:=c_fits r h x hx stop;have hms:=m_stop_b r.t r.st 114 [r.cells] x;have hit:=c_stop1_b r.t r.st h.b 114 [r.cells] r.slF (fun y hy=>c_slope r h y hy) (fun y _=>slF_bd h y) x hx hw;have hok:=stopN_ok h.b (sF:=r.slF) (fun y _=>slF_bd h y) 36000 x 100000000000000000 hx hw (by omega);unfold Rn.safeB Rn.stpL;generalize stopN r.t r.st r.slF 36000 x=L at hit hok ⊢;simp only[ipts]at hms hit
 cases hfx:r.fitB stop x with
 |false=>
  rw[hfx]at hf;refine PureCall.of_bodyG Tryz.func116 rfl (by decide) (by simp[Tryz.ntmps116]) ?_;intro J hJ;simp only[Tryz.ntmps116,Tryz.results116];refine gS fun K hK=>?_;simp -dsimp;apply hK;clear hK K;refine gwp_seq_k fun K1 hK1=>?_;refine gS fun K hK=>?_;simp -dsimp;refine callK_intro _ (hf) (by simp) ?_;simp -dsimp;apply hK;clear hK K;refine gwp_cond rfl (fun hc0=>?_) (fun hc0=>?_)
  ·refine gS fun K hK=>?_;simp -dsimp;apply hK;clear hK K;exact gwp_ret (by simp)
  ·simp at hc0
 | true=>
  rw[hfx]at hf;rw[Bool.true_and];refine PureCall.of_bodyG Tryz.func116 rfl (by decide) (by simp[Tryz.ntmps116]) ?_;intro J hJ;simp only[Tryz.ntmps116,Tryz.results116];refine gS fun K hK=>?_;simp -dsimp;apply hK;clear hK K;refine gwp_seq_k fun K1 hK1=>?_;refine gS fun K hK=>?_;simp -dsimp;refine callK_intro _ (hf) (by simp) ?_;simp -dsimp;apply hK;clear hK K;refine gwp_cond rfl (fun hc0=>?_) (fun hc0=>?_)
  ·simp at hc0
  ·refine gwp_skip ?_;simp only[zT,reduceIte,Nat.reduceEqDiff];refine hK1 _ _ ?_;refine gwp_prune [3,4,5,6] (Or.inr (by simp)) ?_;simp only[zP,Nat.reduceEqDiff,reduceIte];refine gS fun K hK=>?_;simp -dsimp;apply hK;clear hK K;refine gwp_seq_k fun K2 hK2=>?_;refine gwp_weak (gsub (sub_rfM [some 3,some 4] rfl) (by simp)) ?_;simp -dsimp [renF,renHF,renRowF,newName]
   ·refine gwp_sd mixed rfl (by decide) rfl rfl fun K hK=>?_;simp -dsimp;refine callK_mut [] [] [none,none,some 0] (hms) (by decide) rfl (by simp) (by simp) rfl (by simp) ?_;simp -dsimp;refine hK _ _ _ (by decide+kernel) ?_;clear hK K;refine gwp_block ?_;refine gwp_prune [3,5,6,7,22] (Or.inr (by simp)) ?_;simp only[zP,Nat.reduceEqDiff,reduceIte];refine gwp_weak (gsub (sub_rfM [some 2,some 0,some 1] rfl) (by simp)) ?_;simp -dsimp [renF,renHF,renRowF,newName];refine gwp_range_sW hJ [3,5,6,7,22] (fun n=>[none,some (.els 1 [[Bo false]]),some (.els 2 [((L.take n).getLastD x).cells])]) (fun n=>(L.take n).all (r.fitB stop)=true) rfl (hit) rfl (by simp[rowOk]) rfl (by simp[capOk]) (by decide) (by decide) (by decide) (by simp[yAV]) ?_ ?_ ?_ ?_
    ·trivial
    ·exact sub_same (by simp)
    ·intro n xv hxn hi l1 J1 hJ1;obtain⟨q,hq,rfl⟩:∃q,L[n]?=some q∧yAV q=xv:=by simpa using hxn
     have hqm:=hok q (List.mem_of_getElem? hq);have hfq:=c_fits r h q hqm.1 stop;simp only[yAV];simp only[List.zip_cons_cons,List.zip_nil_left,List.zip_nil_right,List.cons_append,List.nil_append];refine gR fun K hK=>?_;simp -dsimp;apply hK;clear hK K;simp only[onlyN];intro J2 hJ2;refine gwp_prune [3,5,6,7,8,22] (Or.inr (by simp)) ?_;simp only[zP,Nat.reduceEqDiff,reduceIte];refine gwp_block ?_;refine gwp_seq_k fun K3 hK3=>?_;refine gS fun K hK=>?_;simp -dsimp;refine callK_intro _ (hfq) (by simp) ?_;simp -dsimp;apply hK;clear hK K;refine gwp_cond rfl (fun hc1=>?_) (fun hc1=>?_)
     ·have hall:L.all (r.fitB stop)=false:=by
       rw[List.all_eq_false];exact⟨q,List.mem_of_getElem? hq,by simpa using hc1⟩
      refine gS fun K hK=>?_;simp -dsimp;apply hK;clear hK K;exact gwp_ret ⟨[none,some (.els 1 [[Bo false]]),some (.els 2 [((L.take n).getLastD x).cells])],sub_rb [some 0,some 1,some 2] rfl (by simp) (by simp),by simp[resP,tupOf,hall]⟩
     ·have hfq1:r.fitB stop q=true:=by simpa using hc1
      refine gwp_skip ?_;simp only[zT,reduceIte,Nat.reduceEqDiff];refine hK3 _ _ ?_;refine gwp_prune [3,5,6,7,8,22] (Or.inr (by simp)) ?_;simp only[zP,Nat.reduceEqDiff,reduceIte];refine gR fun K hK=>?_;simp -dsimp;apply hK;clear hK K;simp only[thenA,inBlockA,roundQ,reduceIte,Nat.reduceEqDiff,eq_self];have htk:(L.take (n+1)).getLast?.getD x=q:=by rw[List.take_add_one,hq];simp
      refine⟨?_,sub_rb [some 0,some 1,some 2] rfl (by simp) (by simp[htk])⟩;rw[List.take_add_one,hq,List.all_append,hi];simp[hfq1]
    ·intro hdone;simp only[zT,reduceIte,Nat.reduceEqDiff];refine hK2 _ _ ?_;refine gwp_prune [6,7] (Or.inr (by simp)) ?_;simp only[zP,Nat.reduceEqDiff,reduceIte];refine gS fun K hK=>?_;simp -dsimp;apply hK;clear hK K;rw[List.take_of_length_le (by simp)]at hdone;exact gwp_ret (by simp[resP,tupOf,hdone]<;>rfl)
def Rn.okI (r:Rn) (stop:Int) (x:Ms) (i:Nat):Bool:=decide (nextP r.t r.st x (4-i) (r.slF x)≤25000*r.t.Mass)&&r.safeB stop (afterX r.t r.st x (4-i) (r.slF x))
def Rn.chF (r:Rn) (stop:Int) (x:Ms):Option Nat:=(List.range 9).find? (r.okI stop x)
def Rn.chAV (r:Rn) (stop:Int) (x:Ms):AV:=match r.chF stop x with
 |some i=> .tup [.agg (stepC r.t r.st x (4-i) (r.slF x)),Bo true]
 |none=> .tup [.agg [I 0,I 0,I 0,I 0,I 0,I 0,I 0,I 0,I 0,I 0],Bo false]
theorem range_find_none {q:Nat→Bool} {n:Nat} (h:∀j,j<n→q j=false):(List.range n).find? q=none:=by
 rw[List.find?_eq_none];intro x hx;simp[h x (List.mem_range.1 hx)]
theorem range_find_some {q:Nat→Bool} {n i:Nat} (hi:i<n) (h:∀j,j<i→q j=false) (hq:q i=true):(List.range n).find? q=some i:=by
 rw[List.find?_range_eq_some];exact⟨hq,by simpa using hi,fun j hj=>by simp[h j hj]⟩
theorem c_choose (r:Rn) (h:RnOk r) (x:Ms) (hx:MsB r.t x) (hw:x.W≤90000000000000000) (stop:Int):PureCall Tryz.prog 73 [r.ptr,x.av,I stop] (r.chAV stop x):=by
 have hs:=c_slope r h x hx;unfold Rn.chAV;refine PureCall.of_body Tryz.func73 rfl (by decide) (by simp[Tryz.ntmps73]) ?_;simp only[Tryz.ntmps73,Tryz.results73];refine aS fun K hK=>?_;simp -dsimp;apply hK;clear hK K;refine awp_scope ?_;refine aS fun K hK=>?_;simp -dsimp;refine callK_intro _ (hs) (by simp) ?_;simp -dsimp;apply hK;clear hK K;refine aS fun K hK=>?_;simp -dsimp;apply hK;clear hK K;refine aS fun K hK=>?_;simp -dsimp;apply hK;clear hK K;refine awp_sl ?_;refine awp_seq_k fun K1 hK1=>?_;refine aS fun K hK=>?_;simp -dsimp;apply hK;clear hK K;refine awp_block ?_;refine awp_prune [0,2,4,6,8,9,10,17] ?_;simp only[zP,Nat.reduceEqDiff,reduceIte];refine awp_loop_l [0,2,4,6,8,9] (α:=Nat) (fun i=>[(10,Bo false),(17,I i)]) (fun _=>[some (.els 2 [x.cells]),some (.els 10 [[I 0,I 0,I 0,I 0,I 0,I 0,I 0,I 0,I 0,I 0]]),some (.els 10 [[I 0,I 0,I 0,I 0,I 0,I 0,I 0,I 0,I 0,I 0]])]) (fun i=>i≤9∧∀j,j<i→r.okI stop x j=false) (fun i=>9-i) 0 ?_ ?_ ?_
 ·exact⟨Nat.zero_le _,fun j hj=>absurd hj (by omega)⟩
 ·exact sub_rb [some 0,some 1,some 2] rfl (by simp) (by simp)
 rintro i ⟨i1,i2⟩;simp only[zP,Nat.reduceEqDiff,reduceIte];refine aS fun K hK=>?_;simp -dsimp;apply hK;clear hK K;refine awp_seq_k fun K2 hK2=>?_;refine awp_cond rfl (fun hc0=>?_) (fun hc0=>?_)
 ·have hi9:i<9:=by have h:=(by simpa using hc0:(i:Int)<9);omega
  have wi:=zW i (by omega);have wd:IntKind.i64.wrap (4-(i:Int))=4-(i:Int):=wrap_in (by omega) (by omega);have ha:Ask r.t r.st x (4-i) (r.slF x):=⟨h.b,hx,by omega,slF_bd h x⟩;have hst:=c_step r.t r.st x (4-i) (r.slF x) ha;have hnb:=next_bd ha;unfold stepC at hst;have hsf:nextP r.t r.st x (4-i) (r.slF x)≤25000*r.t.Mass→PureCall Tryz.prog 116 [r.ptr,(afterX r.t r.st x (4-i) (r.slF x)).av,I stop] (Bo (r.safeB stop (afterX r.t r.st x (4-i) (r.slF x)))):=fun hq=>c_safe r h _ (step_ok ha (by omega) hq) (by show x.W+_≤_;omega) stop;have hoi:r.okI stop x i=(decide (nextP r.t r.st x (4-i) (r.slF x)≤25000*r.t.Mass)&&r.safeB stop (afterX r.t r.st x (4-i) (r.slF x))):=rfl;refine awp_skip ?_;simp only[zT,reduceIte,Nat.reduceEqDiff];refine hK2 _ _ ?_;refine awp_prune [0,2,4,6,8,9,10,17] ?_;simp only[zP,Nat.reduceEqDiff,reduceIte];refine awp_seq_k fun K3 hK3=>?_;refine awp_block ?_;refine aS fun K hK=>?_;simp -dsimp;apply hK;clear hK K;refine awp_sd mixed rfl fun K hK=>?_;simp -dsimp [wd];refine callK_intro _ (hst) (by simp) ?_;simp -dsimp [wd];refine hK _ _ _ (by decide+kernel) ?_;clear hK K;refine aS fun K hK=>?_;simp -dsimp;refine callK_may _ (fun hm=>hsf (by simpa using hm)) (by simp) ?_;simp -dsimp;apply hK;clear hK K;refine awp_cond rfl (fun hc1=>?_) (fun hc1=>?_)
  ·have hok:r.okI stop x i=true:=by rw[hoi];simpa using hc1
   have hfd:r.chF stop x=some i:=range_find_some hi9 i2 hok;refine aS fun K hK=>?_;simp -dsimp;apply hK;clear hK K;refine awp_exit ?_;simp only[zT,reduceIte,Nat.reduceEqDiff];refine hK1 _ _ ?_;refine awp_prune [6,9,10] ?_;simp only[zP,Nat.reduceEqDiff,reduceIte];refine aS fun K hK=>?_;simp -dsimp;apply hK;clear hK K;exact awp_ret (by simp[resP,tupOf,hfd,stepC])
  ·have hno:r.okI stop x i=false:=by rw[hoi];simpa using hc1
   refine awp_skip ?_;simp only[zT,reduceIte,Nat.reduceEqDiff];refine hK3 _ _ ?_;refine awp_prune [0,2,4,6,8,9,10,17] ?_;simp only[zP,Nat.reduceEqDiff,reduceIte];refine aR fun K hK=>?_;simp -dsimp [wi];apply hK;clear hK K;simp only[zT,reduceIte,Nat.reduceEqDiff];exact⟨i+1,⟨by omega,fun j hj=>by
    rcases Nat.lt_or_ge j i with h1|h1
    ·exact i2 j h1
    ·obtain rfl:j=i:=by omega
     exact hno⟩,by omega,sub_rb [some 0,some 1,some 2] rfl (by simp) (by simp)⟩
 ·have hi9:i=9:=by have h:¬(i:Int)<9:=(by simpa using hc0);omega
  subst hi9;have hfd:r.chF stop x=none:=range_find_none i2;refine awp_exit ?_;simp only[zT,reduceIte,Nat.reduceEqDiff];refine hK1 _ _ ?_;refine awp_prune [6,9,10] ?_;simp only[zP,Nat.reduceEqDiff,reduceIte];refine aS fun K hK=>?_;simp -dsimp;apply hK;clear hK K;exact awp_ret (by simp[resP,tupOf,hfd])
end Go.Mo
end
section
namespace Go.Mo
open Go.AM Go.Cur Go.Proofs
structure Lg where
 Mi:Int
 At:Int
 Pu:Int
 Br:Int
 Dr:Int
 Hi:Int
 Ro:Int
 Ho:Int
 Tk:Int
 Gv:Int
 deriving DecidableEq,Inhabited
@[simp] def Lg.cells (o:Lg):List AV:=[I o.Mi,I o.At,I o.Pu,I o.Br,I o.Dr,I o.Hi,I o.Ro,I o.Ho,I o.Tk,I o.Gv]
abbrev Lg.av (o:Lg):AV:= .agg o.cells
def wp2 (a b:Int):Int:=IntKind.i64.wrap (IntKind.i64.wrap a+b)
theorem c_sum (a1 a2 a3 a4 a5 a6 b1 b2 b3 b4 b5 b6:Int):PureCall Tryz.prog 74 [.full 6 [[I a1,I a2,I a3,I a4,I a5,I a6],[I b1,I b2,I b3,I b4,I b5,I b6]]] (.agg [I (wp2 a1 b1),I (wp2 a2 b2),I (wp2 a3 b3),I (wp2 a4 b4),I (wp2 a5 b5),I (wp2 a6 b6)]):=by
 have w1:IntKind.i64.wrap 1=1:=rfl;have w2:IntKind.i64.wrap 2=2:=rfl;refine PureCall.of_body Tryz.func74 rfl (by decide) (by simp[Tryz.ntmps74]) ?_;simp only[Tryz.ntmps74,Tryz.results74];refine aS fun K hK=>?_;simp -dsimp;apply hK;clear hK K;refine aS fun K hK=>?_;simp -dsimp;apply hK;clear hK K;refine awp_seq_k fun K1 hK1=>?_;refine aS fun K hK=>?_;simp -dsimp;apply hK;clear hK K;refine awp_block ?_;refine awp_prune [2,3,6,7,8] ?_;simp only[zP,Nat.reduceEqDiff,reduceIte];refine awp_loop_l [2,3,6,7] (α:=Nat) (fun k=>[(8,I k)]) (fun k=>[some (.els 6 [[I 0,I 0,I 0,I 0,I 0,I 0]]),some (.els 6 [if k=0 then [I 0,I 0,I 0,I 0,I 0,I 0]else if k=1 then [I (IntKind.i64.wrap a1),I (IntKind.i64.wrap a2),I (IntKind.i64.wrap a3),I (IntKind.i64.wrap a4),I (IntKind.i64.wrap a5),I (IntKind.i64.wrap a6)]else [I (wp2 a1 b1),I (wp2 a2 b2),I (wp2 a3 b3),I (wp2 a4 b4),I (wp2 a5 b5),I (wp2 a6 b6)]])]) (fun k=>k≤2) (fun k=>2-k) 0 ?_ ?_ ?_
 ·exact Nat.zero_le _
 ·exact sub_rb [some 0,some 1] rfl (by simp) (by simp)
 rintro k k1
 rcases(by omega:k=0∨k=1∨k=2)with rfl|rfl|rfl
 ·simp only[zP,Nat.reduceEqDiff,reduceIte];refine aS fun K hK=>?_;simp -dsimp;apply hK;clear hK K;refine awp_seq_k fun K2 hK2=>?_;refine awp_cond rfl (fun hc0=>?_) (fun hc0=>?_)
  ·refine awp_skip ?_;simp only[zT,reduceIte,Nat.reduceEqDiff];refine hK2 _ _ ?_;refine awp_prune [2,3,6,7,8] ?_;simp only[zP,Nat.reduceEqDiff,reduceIte];refine awp_seq_k fun K3 hK3=>?_;refine awp_block ?_;refine aS fun K hK=>?_;simp -dsimp;apply hK;clear hK K;refine aS fun K hK=>?_;simp -dsimp;apply hK;clear hK K;refine aS fun K hK=>?_;simp -dsimp;apply hK;clear hK K;refine aS fun K hK=>?_;simp -dsimp;apply hK;clear hK K;refine aS fun K hK=>?_;simp -dsimp;apply hK;clear hK K;refine aS fun K hK=>?_;simp -dsimp;apply hK;clear hK K;refine aR fun K hK=>?_;simp -dsimp;apply hK;clear hK K;simp only[zT,reduceIte,Nat.reduceEqDiff];refine hK3 _ _ ?_;refine awp_prune [2,3,6,7,8] ?_;simp only[zP,Nat.reduceEqDiff,reduceIte];refine aR fun K hK=>?_;simp -dsimp;apply hK;clear hK K;simp only[zT,reduceIte,Nat.reduceEqDiff];exact⟨1,by omega,by omega,sub_rb [some 0,some 1] rfl (by simp[w1]) (by simp)⟩
  ·simp at hc0
 ·simp only[zP,Nat.reduceEqDiff,reduceIte];refine aS fun K hK=>?_;simp -dsimp;apply hK;clear hK K;refine awp_seq_k fun K4 hK4=>?_;refine awp_cond rfl (fun hc0=>?_) (fun hc0=>?_)
  ·refine awp_skip ?_;simp only[zT,reduceIte,Nat.reduceEqDiff];refine hK4 _ _ ?_;refine awp_prune [2,3,6,7,8] ?_;simp only[zP,Nat.reduceEqDiff,reduceIte];refine awp_seq_k fun K5 hK5=>?_;refine awp_block ?_;refine aS fun K hK=>?_;simp -dsimp;apply hK;clear hK K;refine aS fun K hK=>?_;simp -dsimp;apply hK;clear hK K;refine aS fun K hK=>?_;simp -dsimp;apply hK;clear hK K;refine aS fun K hK=>?_;simp -dsimp;apply hK;clear hK K;refine aS fun K hK=>?_;simp -dsimp;apply hK;clear hK K;refine aS fun K hK=>?_;simp -dsimp;apply hK;clear hK K;refine aR fun K hK=>?_;simp -dsimp;apply hK;clear hK K;simp only[zT,reduceIte,Nat.reduceEqDiff];refine hK5 _ _ ?_;refine awp_prune [2,3,6,7,8] ?_;simp only[zP,Nat.reduceEqDiff,reduceIte];refine aR fun K hK=>?_;simp -dsimp;apply hK;clear hK K;simp only[zT,reduceIte,Nat.reduceEqDiff];exact⟨2,by omega,by omega,sub_rb [some 0,some 1] rfl (by simp[w1,w2]) (by simp[wp2])⟩
  ·simp at hc0
 ·simp only[zP,Nat.reduceEqDiff,reduceIte];refine aS fun K hK=>?_;simp -dsimp;apply hK;clear hK K;refine awp_seq_k fun K6 hK6=>?_;refine awp_cond rfl (fun hc0=>?_) (fun hc0=>?_)
  ·simp at hc0
  ·refine awp_exit ?_;simp only[zT,reduceIte,Nat.reduceEqDiff];refine hK1 _ _ ?_;refine awp_prune [2,3] ?_;simp only[zP,Nat.reduceEqDiff,reduceIte];refine aS fun K hK=>?_;simp -dsimp;apply hK;clear hK K;exact awp_ret (by simp[resP,tupOf])
def Rn.arrB (r:Rn) (stop:Int) (x:Ms):Bool:=decide (x.P=0)&&inr (stop-plF r.t x) 0 1000
def mxI (a b:Int):Int:=if a<b then b else a
def Lg.add (o:Lg) (r:Rn) (x:Ms) (d:Int):Lg:=
 ⟨IntKind.i64.wrap (o.Mi+100),o.At,wp2 o.Pu (200*pullF r.t r.st (spd r.t x) d*nextP r.t r.st x d (r.slF x)),wp2 o.Br (200*brakeF r.t r.st (spd r.t x) d*nextP r.t r.st x d (r.slF x)),
  wp2 o.Dr (200*dragF r.t (spd r.t x)*nextP r.t r.st x d (r.slF x)),wp2 o.Hi (200*hillF r.t (r.slF x)*nextP r.t r.st x d (r.slF x)),
  wp2 o.Ro (if stops r.t r.st x d (r.slF x)=true then 0 else 10000*sumF r.t r.st x d (r.slF x)*sumF r.t r.st x d (r.slF x)),wp2 o.Ho (if stops r.t r.st x d (r.slF x)=true then x.P*x.P else 0),
  mxI o.Tk (tookF r.t r.st x d (r.slF x)),mxI o.Gv (gaveF r.t r.st x d (r.slF x))⟩
def Rn.legN (r:Rn) (stop:Int):Nat→Ms→Lg→Lg×Ms×Bool
 |0,x,o=>if r.arrB stop x=true then({o with At:=plF r.t x},x,true)else(o,x,false)
 |f+1,x,o=>if r.arrB stop x=true then({o with At:=plF r.t x},x,true)else
  match r.chF stop x with
  |none=>(o,x,false)
  |some i=>if 10000000000000000<(afterX r.t r.st x (4-i) (r.slF x)).W then(o,x,false)else r.legN stop f (afterX r.t r.st x (4-i) (r.slF x)) (o.add r x (4-i))
theorem legN_arr {r:Rn} {stop:Int} {x:Ms} (h:r.arrB stop x=true) (f:Nat) (o:Lg):r.legN stop f x o=({o with At:=plF r.t x},x,true):=by
 cases f<;>rw[Rn.legN,if_pos h]
abbrev lg0:Lg:=⟨0,0,0,0,0,0,0,0,0,0⟩
theorem chF_ok {r:Rn} (h:RnOk r) {x:Ms} (hx:MsB r.t x) (hw:x.W≤90000000000000000) {stop:Int} {i:Nat} (hc:r.chF stop x=some i):i<9∧MsB r.t (afterX r.t r.st x (4-i) (r.slF x))∧r.safeB stop (afterX r.t r.st x (4-i) (r.slF x))=true:=by
 have hi:i<9:=by have:=List.mem_of_find?_eq_some hc;simpa using this
 have h1:=List.find?_some hc;unfold Rn.okI at h1;simp only[Bool.and_eq_true,decide_eq_true_eq]at h1;exact⟨hi,step_ok ⟨h.b,hx,by omega,slF_bd h x⟩ (by omega) h1.1,h1.2⟩
theorem c_leg (r:Rn) (h:RnOk r) (x0:Ms) (hx0:MsB r.t x0) (hw0:x0.W≤90000000000000000) (stop:Int) (hst:-1000000000000000≤stop∧stop≤1000000000000000):
  PureCall Tryz.prog 26 [r.ptr,x0.av,I stop] (.tup [(r.legN stop 36000 x0 lg0).1.av,(r.legN stop 36000 x0 lg0).2.1.av,Bo (r.legN stop 36000 x0 lg0).2.2]):=by
 generalize hR:r.legN stop 36000 x0 lg0=R;refine PureCall.of_body Tryz.func26 rfl (by decide) (by simp[Tryz.ntmps26]) ?_;simp only[Tryz.ntmps26,Tryz.results26];refine aS fun K hK=>?_;simp -dsimp;apply hK;clear hK K;refine aS fun K hK=>?_;simp -dsimp;apply hK;clear hK K;refine aS fun K hK=>?_;simp -dsimp;apply hK;clear hK K;refine awp_block ?_;refine awp_prune [0,2,4,6,7,9,10] ?_;simp only[zP,Nat.reduceEqDiff,reduceIte];refine awp_loop_l [0,2,4,6,7,9] (α:=Nat×Ms×Lg) (fun q=>[(10,I q.1)]) (fun q=>[some (.els 2 [q.2.1.cells]),some (.els 10 [lg0.cells]),some (.els 2 [[I 0,I 0]]),some (.els 10 [q.2.2.cells])]) (fun q=>q.1≤36000∧MsB r.t q.2.1∧q.2.1.W≤90000000000000000∧r.legN stop (36000-q.1) q.2.1 q.2.2=R) (fun q=>36000-q.1) (0,x0,lg0) ?_ ?_ ?_
 ·exact⟨by simp,hx0,hw0,hR⟩
 ·exact sub_rb [some 0,some 1,some 2,some 3] rfl (by simp) (by simp)
 rintro⟨n,x,o⟩ ⟨i1,i2,i3,i4⟩;simp only at i1 i2 i3 i4 ⊢;have hp:=c_place r.t r.st x h.b i2.w.1 i2.w.2;have hb:=plF_bd h.b i2;have hpl:x.W.tdiv (10*r.t.Mass)=plF r.t x:=rfl;rw[hpl]at hp;have wi:=zW n (by omega);have ws:IntKind.i64.wrap (stop-plF r.t x)=stop-plF r.t x:=wrap_in (by omega) (by omega);have har:r.arrB stop x=(decide (x.P=0)&&inr (stop-plF r.t x) 0 1000):=rfl;simp only[zP,Nat.reduceEqDiff,reduceIte];refine awp_seq_k fun K1 hK1=>?_;refine awp_block ?_;refine awp_seq_k fun K2 hK2=>?_;refine awp_sd mixed rfl fun K hK=>?_;simp -dsimp;refine callK_intro _ (hp) (by simp) ?_;simp -dsimp;refine hK _ _ _ (by decide+kernel) ?_;clear hK K;refine aS fun K hK=>?_;simp -dsimp [ws];refine callK_may _ (fun hm=>c_within (stop-plF r.t x) 0 1000) (by simp) ?_;simp -dsimp [ws];apply hK;clear hK K;refine awp_cond rfl (fun hc0=>?_) (fun hc0=>?_)
 ·have hat:r.arrB stop x=true:=by rw[har];simpa using hc0
  rw[legN_arr hat]at i4;refine aS fun K hK=>?_;simp -dsimp;apply hK;clear hK K;refine awp_sd mixed rfl fun K hK=>?_;simp -dsimp;refine hK _ _ _ (by decide+kernel) ?_;clear hK K;exact awp_ret (by simp[resP,tupOf,←i4])
 ·have hat:¬r.arrB stop x=true:=by rw[har];simpa using hc0
  refine awp_skip ?_;simp only[zT,reduceIte,Nat.reduceEqDiff];refine hK2 _ _ ?_;refine awp_prune [0,2,4,6,7,9,10] ?_;simp only[zP,Nat.reduceEqDiff,reduceIte];refine awp_seq_k fun K3 hK3=>?_;refine aS fun K hK=>?_;simp -dsimp;apply hK;clear hK K;refine awp_cond rfl (fun hc1=>?_) (fun hc1=>?_)
  ·have hn0:36000-n=0:=by have h:=(by simpa using hc1:(n:Int)=36000);omega
   rw[hn0,Rn.legN,if_neg hat]at i4;refine awp_sd mixed rfl fun K hK=>?_;simp -dsimp;refine hK _ _ _ (by decide+kernel) ?_;clear hK K;exact awp_ret (by simp[resP,tupOf,←i4])
  ·have hn0:¬(n:Int)=36000:=by simpa using hc1
   obtain⟨m,hm⟩:∃m,36000-n=m+1:=⟨36000-n-1,by omega⟩;rw[hm,Rn.legN,if_neg hat]at i4;have hch:=c_choose r h x i2 i3 stop;unfold Rn.chAV at hch;refine awp_skip ?_;simp only[zT,reduceIte,Nat.reduceEqDiff];refine hK3 _ _ ?_;refine awp_prune [0,2,4,6,7,9,10] ?_;simp only[zP,Nat.reduceEqDiff,reduceIte]
   rcases hcf:r.chF stop x with _|i<;>rw[hcf]at hch i4<;>simp only at hch i4<;>try simp only[stepC]at hch
   ·refine aS fun K hK=>?_;simp -dsimp;refine callK_intro _ (hch) (by simp) ?_;simp -dsimp;apply hK;clear hK K;refine awp_seq_k fun K4 hK4=>?_;refine aS fun K hK=>?_;simp -dsimp;apply hK;clear hK K;refine awp_cond rfl (fun hc2=>?_) (fun hc2=>?_)
    ·refine awp_sd mixed rfl fun K hK=>?_;simp -dsimp;refine hK _ _ _ (by decide+kernel) ?_;clear hK K;exact awp_ret (by simp[resP,tupOf,←i4])
    ·simp at hc2
   ·refine aS fun K hK=>?_;simp -dsimp;refine callK_intro _ (hch) (by simp) ?_;simp -dsimp;apply hK;clear hK K;refine awp_seq_k fun K5 hK5=>?_;refine aS fun K hK=>?_;simp -dsimp;apply hK;clear hK K;refine awp_cond rfl (fun hc2=>?_) (fun hc2=>?_)
    ·have hfw:10000000000000000<(afterX r.t r.st x (4-i) (r.slF x)).W:=by simpa [stepC,afterX]using hc2
     rw[if_pos hfw]at i4;refine awp_sd mixed rfl fun K hK=>?_;simp -dsimp;refine hK _ _ _ (by decide+kernel) ?_;clear hK K;exact awp_ret (by simp[resP,tupOf,←i4])
    ·have hfw:¬10000000000000000<(afterX r.t r.st x (4-i) (r.slF x)).W:=by simpa [stepC,afterX]using hc2
     rw[if_neg hfw]at i4;obtain⟨hi9,hax,hsf⟩:=chF_ok h i2 i3 hcf;refine awp_skip ?_;simp only[zT,reduceIte,Nat.reduceEqDiff];refine hK5 _ _ ?_;refine awp_prune [0,2,4,6,7,9,10,12] ?_;simp only[zP,Nat.reduceEqDiff,reduceIte];refine aS fun K hK=>?_;simp -dsimp;apply hK;clear hK K;refine aS fun K hK=>?_;simp -dsimp;apply hK;clear hK K;refine aS fun K hK=>?_;simp -dsimp;refine callK_intro _ (c_sum _ _ _ _ _ _ _ _ _ _ _ _) (by simp) ?_;simp -dsimp;apply hK;clear hK K;refine awp_draw mixed rfl fun K hK=>?_;simp -dsimp;refine hK _ _ _ (by decide+kernel) ?_;clear hK K;simp only[zT,reduceIte,Nat.reduceEqDiff];refine hK1 _ _ ?_;refine awp_prune [0,2,4,6,7,9,10] ?_;simp only[zP,Nat.reduceEqDiff,reduceIte];refine aR fun K hK=>?_;simp -dsimp [wi];apply hK;clear hK K;simp only[zT,reduceIte,Nat.reduceEqDiff];exact⟨(n+1,afterX r.t r.st x (4-i) (r.slF x),o.add r x (4-i)),⟨by simp only;omega,hax,by simp only;omega,by rw[show 36000-(n+1)=m by omega];exact i4⟩,by simp only;omega,sub_rb [some 0,some 1,some 2,some 3] rfl (by simp[afterX,Lg.add]) (by simp[afterX,Lg.add,mxI])⟩
end Go.Mo
end
section
namespace Go.Tram
open Go.AM Go.Proofs
structure Fnd where
 Move:Int
 Len:Int
 Mv:Int
 deriving DecidableEq,Inhabited
@[simp] def Fnd.cells (x:Fnd):List AV:=[I x.Move,I x.Len,I x.Mv]
abbrev Fnd.av (x:Fnd):AV:= .agg x.cells
section
variable {α:Type} [Inhabited α] (lt:α→α→Bool)
def gd (l:List α) (i:Nat):α:=l.getD i default
end
end Go.Tram
end
section
namespace Go.Tram
open Go.AM Go.Proofs
abbrev hrow (r n:Nat):Option ARow:=some (.els 1 [[.row r 0 n]])
end Go.Tram
end
section
namespace Go.Tram
open Go.AM Go.Proofs
theorem flat_cov (l:List Cover):(l.map Cover.cells).all (fun e=>e.all flatC)=true:=by simp[flatC]
@[simp high] theorem flat_cov_ren (l:List Cover) (g:List (Option Nat)) (n:Nat):(l.map Cover.cells).map (fun e=>e.map (renAV g n))=l.map Cover.cells:=map_flatC (fun x h=>flatC_ren h g n) (flat_cov l)
@[simp high] theorem flat_cov_frzP (l:List Cover) (H:Hp) (n:Nat):(l.map Cover.cells).map (fun e=>e.map (frzP H n))=l.map Cover.cells:=map_flatC (fun x h=>flatC_frzP h H n) (flat_cov l)
theorem cov_take (l:List Cover):(l.map Cover.cells).take l.length=l.map Cover.cells:=List.take_of_length_le (by simp)
end Go.Tram
end
section
namespace Go.Tram
open Go.AM Go.Proofs
def nodeAt (p:Plan) (m:Move):Node:=p.node (p.at (arrE m))
def nxK (p:Plan) (m:Move) (k:Nat):List Int:=match (nodeAt p m).Ends[k]? with
 |some e=>if letsB (nodeAt p m) (plc p (arrE m)) k then [numM ⟨e.Rail,e.Last⟩]else []
 |none=>[]
def nxTo (p:Plan) (m:Move) (j:Nat):List Int:=(List.range j).flatMap (nxK p m)
def nextL (p:Plan) (m:Move):List Move:=(srt (nxTo p m (nodeAt p m).Ends.length)).map moveM
theorem nxTo_succ (p:Plan) (m:Move) (j:Nat):nxTo p m (j+1)=nxTo p m j++nxK p m j:=by
 simp only[nxTo,List.range_succ,List.flatMap_append,List.flatMap_cons,List.flatMap_nil,List.append_nil]
theorem nxTo_len (p:Plan) (m:Move) (j:Nat):(nxTo p m j).length≤j:=by
 induction j with
 |zero=>simp[nxTo]
 |succ j ih=>
  rw[nxTo_succ,List.length_append];have:(nxK p m j).length≤1:=by unfold nxK;split<;>(try split)<;>simp
  omega
theorem ends_rail {p:Plan} (hv:validB p=true) {i:Nat} (hi:i<p.Nodes.length) {j:Nat} {e:REnd} (he:(p.node i).Ends[j]?=some e):(0≤e.Rail∧e.Rail<p.Rails.length)∧p.at e=i:=by
 obtain⟨r,hr⟩:=E_prefix hi he;have hE:=(valid_parts hv).2.2.2.2;simp only[validE,Bool.and_eq_true,List.all_eq_true]at hE;have:=hE.1 (i,e) (by rw[hr];simp);simp only[endB,Bool.and_eq_true,decide_eq_true_eq,inr_iff]at this;exact⟨by omega,this.2⟩
theorem at_in {p:Plan} (hv:validB p=true) {e:REnd} (h0:0≤e.Rail) (h1:e.Rail<p.Rails.length):0≤p.at e∧p.at e<p.Nodes.length:=by
 have ro:=rail_ok hv h0 h1;unfold Plan.at
 split
 ·exact ro.t
 ·exact ro.f
theorem movB_iff {p:Plan} {m:Move}:movB p m=true↔0≤m.Rail∧m.Rail<p.Rails.length:=by
 unfold movB;rw[inr_iff];omega
theorem nx_bound {p:Plan} (hv:validB p=true) {m:Move} (hm:movB p m=true):∀j,∀k∈nxTo p m j,0≤k∧k≤100000∧movB p (moveM k)=true:=by
 have hm':=movB_iff.1 hm;have ha:=at_in hv (e:=arrE m) hm'.1 hm'.2;have hR:=(valid_parts hv).2.1;intro j k hk;simp only[nxTo,List.mem_flatMap,List.mem_range]at hk;obtain⟨i,hi,hk⟩:=hk;unfold nxK at hk
 split at hk
 ·rename_i e he
  split at hk
  ·obtain rfl:k=numM ⟨e.Rail,e.Last⟩:=by simpa using hk
   have hn:nodeAt p m=p.node ((p.at (arrE m)).toNat:Nat):=by unfold nodeAt;rw[show(((p.at (arrE m)).toNat:Nat):Int)=p.at (arrE m)by omega]
   rw[hn]at he;have:=ends_rail hv (i:=(p.at (arrE m)).toNat) (by omega) he;rw[movB_iff];simp only[numM,moveM]
   split<;>omega
  ·simp at hk
 ·simp at hk
theorem ins_mem' {l:List Int}:∀{z:Int},z∈srt l↔z∈l:=by
 have gen:∀(l s:List Int) (z:Int),z∈l.foldl (fun s x=>ins x s) s↔z∈s∨z∈l:=by
  intro l
  induction l with
  |nil=>simp
  |cons x l ih=>
   intro s z;rw[List.foldl_cons,ih,ins_mem];simp only[List.mem_cons];constructor
   ·rintro((h|h)|h)<;>simp[h]
   ·rintro(h|h|h)<;>simp[h]
 intro z;have:=gen l [] z;simpa [srt]using this
theorem c_next1 (p:Plan) (m:Move) (hv:validB p=true) (hm:movB p m=true):IterCall Tryz.prog 86 [.iptr [.iptr (net p)], .iptr m.cells] ((nextL p m).map fun k=>[k.av]):=by
 have hm':=movB_iff.1 hm;have ha:=at_in hv (e:=arrE m) hm'.1 hm'.2;have hnode:=p.node_get ha.1 ha.2;have hnf:=node_kind (node_fine hv ha.1 ha.2);have hb:=nx_bound hv hm;have hplc:=plc_val hv (arrE m);have hcar:=c_arrives m;have hce:=c_ending p (arrE m) hm'.1 hm'.2;have hna:p.node (p.at (arrE m))=nodeAt p m:=rfl;have hno:∀(j:Nat) (e:REnd),(nodeAt p m).Ends[j]?=some e→(0≤e.Rail∧e.Rail<p.Rails.length):=by
  intro j e he;have hn:nodeAt p m=p.node ((p.at (arrE m)).toNat:Nat):=by unfold nodeAt;rw[show(((p.at (arrE m)).toNat:Nat):Int)=p.at (arrE m)by omega]
  rw[hn]at he;exact(ends_rail hv (i:=(p.at (arrE m)).toNat) (by omega) he).1
 have hR:=(valid_parts hv).2.1;have hxk:∀(j:Nat) (e:REnd),(nodeAt p m).Ends[j]?=some e→nxK p m j=if letsB (nodeAt p m) (plc p (arrE m)) j then [numM ⟨e.Rail,e.Last⟩]else []:=by intro j e he;unfold nxK;rw[he]
 have hnl:nextL p m=(srt (nxTo p m (nodeAt p m).Ends.length)).map moveM:=rfl;rw[hna]at hnode hnf;generalize nodeAt p m=n at hnode hnf hno hxk hnl;unfold net;refine IterCallW.of_body Tryz.func86 rfl (by decide) (by simp[Tryz.ntmps86]) (by simp[Tryz.ntmps86]) (by simp[Tryz.results86]) ?_;intro J l hmk hY;simp only[Tryz.ntmps86,Tryz.results86];refine gwp_sd mixed rfl (by decide) rfl rfl fun K hK=>?_;simp -dsimp [hnode,ha.1];refine callK_intro _ (hcar) (by simp) ?_;simp -dsimp [hnode,ha.1];refine callK_intro _ (hce) (by simp) ?_;simp -dsimp [hnode,ha.1];refine hK _ _ _ (by decide+kernel) ?_;clear hK K;refine gS fun K hK=>?_;simp -dsimp;apply hK;clear hK K;refine gwp_seq_k fun K1 hK1=>?_;refine gS fun K hK=>?_;simp -dsimp;apply hK;clear hK K;refine gwp_block ?_;refine gwp_prune [0,1,2,4,5,25,26,27,999999] (Or.inl (by decide)) ?_;simp only[zP,Nat.reduceEqDiff,reduceIte];refine gwp_loop_l [0,1,2,4,25,26] (α:=Nat) (fun j=>[(27,I j),(5, .row 1 0 (nxTo p m j).length),(999999,cntV 0)]) (fun j=>[some (.els 5 [n.cells]),some (.els 1 ((nxTo p m j).map nCell))]) (fun j=>j≤n.Ends.length) (fun j=>n.Ends.length-j) 0 ?_ ?_ ?_
 ·simp
 ·exact gsub ((sub_nil 5 1 (by simp)).trans (sub_rb [some 0,some 1] rfl (by simp[nxTo]) (by simp[nxTo]))) (by simp)
 rintro j j1;have hsu:=nxTo_succ p m j;have hlj:=nxTo_len p m j;have hbj:=hb j;simp only[zP,Nat.reduceEqDiff,reduceIte];refine gS fun K hK=>?_;simp -dsimp;apply hK;clear hK K;refine gwp_seq_k fun K2 hK2=>?_;refine gwp_cond rfl (fun hc0=>?_) (fun hc0=>?_)
 ·skip
  try simp at hc0
  obtain⟨e,he⟩:∃e,n.Ends[j]?=some e:=⟨_,List.getElem?_eq_getElem hc0⟩;have wj:=zW j (by omega);have her:=hno j e he;rw[hxk j e he]at hsu;generalize hA:nxTo p m j=A at hsu hlj hbj ⊢;have f1:Fits (A.length+1) 9:=fits_of (by omega) (by omega);have hot:(A.map nCell).take A.length=A.map nCell:=List.take_of_length_le (by simp);refine gwp_skip ?_;simp only[zT,reduceIte,Nat.reduceEqDiff];refine hK2 _ _ ?_;refine gwp_prune [0,1,2,4,5,25,26,27,999999] (Or.inl (by decide)) ?_;simp only[zP,Nat.reduceEqDiff,reduceIte];refine gwp_seq_k fun K3 hK3=>?_;refine gwp_block ?_;refine gS fun K hK=>?_;simp -dsimp [he];apply hK;clear hK K;refine gwp_sd mixed rfl (by decide) rfl rfl fun K hK=>?_;simp -dsimp;refine callK_intro _ (hcar) (by simp) ?_;simp -dsimp;refine valK_intro (I (plc p (arrE m))) (fun hm=>congrArg AV.v hplc.1) ?_;simp -dsimp;refine callK_intro _ (c_lets n (plc p (arrE m)) j ⟨hplc.2.1,hplc.2.2⟩ ⟨by omega,by omega⟩ hnf.1) (by simp) ?_;simp -dsimp;refine hK _ _ _ (by decide+kernel) ?_;clear hK K;refine gwp_cond rfl (fun hc1=>?_) (fun hc1=>?_)
  ·rw[hc1,if_pos rfl]at hsu;refine gR fun K hK=>?_;simp -dsimp [f1];refine callK_intro _ (c_number ⟨e.Rail,e.Last⟩ her.1 (by have:=her.2;show e.Rail≤100000;omega)) (by simp) ?_;simp -dsimp [f1];apply hK;clear hK K;simp only[zT,reduceIte,Nat.reduceEqDiff];refine hK3 _ _ ?_;refine gwp_prune [0,1,2,4,5,25,26,27,999999] (Or.inl (by decide)) ?_;simp only[zP,Nat.reduceEqDiff,reduceIte];refine gR fun K hK=>?_;simp -dsimp [wj];apply hK;clear hK K;simp only[zT,reduceIte,Nat.reduceEqDiff];exact⟨j+1,by omega,by omega,gsub (sub_rb [some 0,some 3] rfl (by simp[hsu]) (by simp[hsu,hot])) (by simp)⟩
  ·rw[hc1,if_neg (by simp)]at hsu;refine gwp_skip ?_;simp only[zT,reduceIte,Nat.reduceEqDiff];refine hK3 _ _ ?_;refine gwp_prune [0,1,2,4,5,25,26,27,999999] (Or.inl (by decide)) ?_;simp only[zP,Nat.reduceEqDiff,reduceIte];refine gR fun K hK=>?_;simp -dsimp [wj];apply hK;clear hK K;simp only[zT,reduceIte,Nat.reduceEqDiff];exact⟨j+1,by omega,by omega,gsub (sub_rb [some 0,some 1] rfl (by simp[hsu]) (by simp[hsu])) (by simp)⟩
 ·skip
  try simp at hc0
  have hje:j=n.Ends.length:=by omega
  subst hje;generalize hA:nxTo p m n.Ends.length=A at hlj hbj hnl ⊢;refine gwp_exit ?_;simp only[zT,reduceIte,Nat.reduceEqDiff];refine hK1 _ _ ?_;refine gwp_prune [0,5,999999] (Or.inl (by decide)) ?_;simp only[zP,Nat.reduceEqDiff,reduceIte]
  rcases Decidable.em (A=[])with rfl|hA0
  ·refine gS fun K hK=>?_;simp -dsimp;refine callK_intro _ (c_Sort0) (by simp) ?_;simp -dsimp;apply hK;clear hK K;refine gS fun K hK=>?_;simp -dsimp;apply hK;clear hK K;refine gwp_block ?_;refine gwp_prune [0,55,56,57,999999] (Or.inl (by decide)) ?_;simp only[zP,Nat.reduceEqDiff,reduceIte];refine gwp_loop_l [0,55,56] (α:=Nat) (fun i=>[(57,I i),(999999,cntV i)]) (fun i=>[some (.els 5 [n.cells]),some (.els 1 [])]) (fun i=>i≤0) (fun i=>0) 0 ?_ ?_ ?_
   ·simp
   ·exact gsub (sub_same (by simp)) (by simp)
   rintro i i1;simp only[zP,Nat.reduceEqDiff,reduceIte];refine gS fun K hK=>?_;simp -dsimp;apply hK;clear hK K;refine gwp_seq_k fun K4 hK4=>?_;refine gwp_cond rfl (fun hc2=>?_) (fun hc2=>?_)
   ·simp at hc2;omega
   ·refine gwp_exit ?_
    try simp only[zT,reduceIte,Nat.reduceEqDiff]
    have hi0:i=0:=by omega
    simp[hnl,srt,hi0]
  ·refine gS fun K hK=>?_;simp -dsimp;refine callK_mut [1] [] [none,some 0] (m_Sort A (List.length_pos_iff.2 hA0) (by omega)) (by decide) rfl (by simp) (by simp) rfl (by simp) ?_;simp -dsimp;apply hK;clear hK K;refine gS fun K hK=>?_;simp -dsimp;apply hK;clear hK K;refine gwp_block ?_;refine gwp_prune [0,55,56,57,999999] (Or.inl (by decide)) ?_;simp only[zP,Nat.reduceEqDiff,reduceIte];refine gwp_loop_l [0,55,56] (α:=Nat) (fun i=>[(57,I i),(999999,cntV i)]) (fun i=>[some (.els 5 [n.cells]),some (.els 1 ((srt A).map nCell))]) (fun i=>i≤(srt A).length) (fun i=>(srt A).length-i) 0 ?_ ?_ ?_
   ·simp
   ·exact gsub (sub_same (by simp)) (by simp)
   rintro i i1;simp only[zP,Nat.reduceEqDiff,reduceIte];refine gS fun K hK=>?_;simp -dsimp;apply hK;clear hK K;refine gwp_seq_k fun K5 hK5=>?_;refine gwp_cond rfl (fun hc2=>?_) (fun hc2=>?_)
   ·have hsl:=srt_len A;obtain⟨k,hk⟩:∃k,(srt A)[i]?=some k:=⟨_,List.getElem?_eq_getElem (by simpa [hsl]using hc2)⟩;have hkb:=hbj k (ins_mem'.1 (List.mem_of_getElem? hk));have wi:=zW i (by omega);have hiA:i<A.length:=by simpa using hc2
    refine gwp_skip ?_;simp only[zT,reduceIte,Nat.reduceEqDiff];refine hK5 _ _ ?_;refine gwp_prune [0,55,56,57,999999] (Or.inl (by decide)) ?_;simp only[zP,Nat.reduceEqDiff,reduceIte];refine gwp_seq_k fun K6 hK6=>?_;refine gwp_block ?_;refine gS fun K hK=>?_;simp -dsimp [hk];refine⟨hiA,?_⟩;apply hK;clear hK K;refine gwp_sy hmk hY rfl (by decide) rfl rfl fun K hK=>?_;simp -dsimp;refine callK_intro _ (c_move k hkb.1 (by omega)) (by simp) ?_;simp -dsimp;refine yK_intro (by rw[hnl,List.getElem?_map,List.getElem?_map,hk];rfl) ?_ ?_
    ·apply hK;clear hK K;refine gwp_cond rfl (fun hc3=>?_) (fun hc3=>?_)
     ·simp at hc3
     ·refine gwp_skip ?_;simp only[zT,reduceIte,Nat.reduceEqDiff];refine hK6 _ _ ?_;refine gwp_prune [0,55,56,57,999999] (Or.inl (by decide)) ?_;simp only[zP,Nat.reduceEqDiff,reduceIte];refine gR fun K hK=>?_;simp -dsimp [wi];apply hK;clear hK K;simp only[zT,reduceIte,Nat.reduceEqDiff];exact⟨i+1,by omega,by omega,gsub (sub_rb [some 0,some 1] rfl (by simp) (by simp)) (by simp)⟩
    ·apply hK;clear hK K;refine gwp_cond rfl (fun hc3=>?_) (fun hc3=>?_)
     ·exact gwp_ret (by simp)
     ·simp at hc3
   ·refine gwp_exit ?_
    try simp only[zT,reduceIte,Nat.reduceEqDiff]
    have hie:i=A.length:=by have:=srt_len A;simp at hc2;omega
    simp[hnl,srt_len,hie]
def follB (p:Plan) (m k:Move):Bool:=(nextL p m).any fun x=>decide (x=k)
theorem c_follows (p:Plan) (m k:Move) (hv:validB p=true) (hm:movB p m=true):PureCall Tryz.prog 80 [.iptr (net p),m.av,k.av] (Bo (follB p m k)):=by
 have hit:=c_next1 p m hv hm;have hnx:=c_tnext p m;generalize net p=sh at hit hnx;refine PureCall.of_bodyG Tryz.func80 rfl (by decide) (by simp[Tryz.ntmps80]) ?_;intro J hJ;simp only[Tryz.ntmps80,Tryz.results80];refine gS fun K hK=>?_;simp -dsimp;apply hK;clear hK K;refine gwp_seq_k fun K1 hK1=>?_;refine gS fun K hK=>?_;simp -dsimp;refine callK_intro _ (hnx) (by simp) ?_;simp -dsimp;apply hK;clear hK K;refine gwp_block ?_;refine gwp_prune [5,6,10] (Or.inr (by simp)) ?_;simp only[zP,Nat.reduceEqDiff,reduceIte];refine gwp_range_s hJ [5,6,10] (fun _=>[some (.els 2 [m.cells]),some (.els 2 [k.cells]),some (.els 1 [[Bo false]])]) (fun n=>((nextL p m).take n).any (fun x=>decide (x=k))=false) rfl (hit) rfl (by simp) (by decide) (by decide) (by decide) (by intro z hz;obtain⟨q,_,rfl⟩:=List.mem_map.1 hz;rfl) ?_ ?_ ?_ ?_
 ·trivial
 ·exact sub_same (by simp)
 ·intro n xv hxn hi l1 J1 hJ1;obtain⟨q,hq,rfl⟩:∃q,(nextL p m)[n]?=some q∧[q.av]=xv:=by simpa using hxn
  simp only[List.zip_cons_cons,List.zip_nil_left,List.zip_nil_right,List.cons_append,List.nil_append];refine gR fun K hK=>?_;simp -dsimp;apply hK;clear hK K;simp only[onlyN];intro J2 hJ2;refine gwp_prune [5,6,7,10] (Or.inr (by simp)) ?_;simp only[zP,Nat.reduceEqDiff,reduceIte];refine gwp_block ?_;refine gS fun K hK=>?_;simp -dsimp;apply hK;clear hK K;refine gwp_cond rfl (fun hc0=>?_) (fun hc0=>?_)
  ·have hqe:q=k:=by simp at hc0;cases q;cases k;simp_all
   have hany:(nextL p m).any (fun x=>decide (x=k))=true:=List.any_eq_true.2 ⟨q,List.mem_of_getElem? hq,by simpa using hqe⟩;refine gS fun K hK=>?_;simp -dsimp;apply hK;clear hK K;exact gwp_ret ⟨[some (.els 2 [m.cells]),some (.els 2 [k.cells]),some (.els 1 [[Bo true]])],sub_rb [some 0,some 1,some 2] rfl (by simp) (by simp),by simp[follB,hany]⟩
  ·have hne:decide (q=k)=false:=by rw[decide_eq_false_iff_not];rintro rfl;simp at hc0
   refine gwp_skip ?_;simp only[thenA,inBlockA,roundQ,reduceIte,Nat.reduceEqDiff,eq_self];refine⟨?_,sub_rb [some 0,some 1,some 2] rfl (by simp) (by simp)⟩;rw[List.take_add_one,List.any_append,hi,hq];simp[hne]
 ·intro hdone;simp only[zT,reduceIte,Nat.reduceEqDiff];refine hK1 _ _ ?_;refine gwp_prune [6] (Or.inr (by simp)) ?_;simp only[zP,Nat.reduceEqDiff,reduceIte];refine gS fun K hK=>?_;simp -dsimp;apply hK;clear hK K;refine gwp_ret ?_;rw[List.take_of_length_le (by simp)]at hdone;simp[follB,hdone]
def stepB (p:Plan) (l:List Move) (i:Nat):Bool:=movB p (l[i]?.getD default)&&(decide (i=0)||follB p (l[i-1]?.getD default) (l[i]?.getD default))
def wayB (p:Plan) (l:List Move):Bool:=(List.range l.length).all (stepB p l)&&inr l.length 1 2000
theorem allR_succ (f:Nat→Bool) (n:Nat):(List.range (n+1)).all f=((List.range n).all f&&f n):=by
 rw[List.range_succ,List.all_append];simp
theorem allR_at {f:Nat→Bool} {n k:Nat} (h:(List.range n).all f=true) (hk:k<n):f k=true:=List.all_eq_true.1 h k (List.mem_range.2 hk)
theorem step_neg (a f:Bool) (i:Nat):(!a||(decide (0<i)&& !f))= !(a&&(decide (i=0)||f)):=by cases a<;>cases f<;>by_cases h:i=0<;>simp[h]<;>omega
theorem c_way (p:Plan) (l:List Move) (hv:validB p=true) (hn:l.length≤100000):PureCall Tryz.prog 82 [.iptr (net p), .lst 2 (l.map Move.cells)] (Bo (wayB p l)):=by
 have hhas:=fun r b=>c_nhas p r b hv;have hfol:=fun m k=>c_follows p m k hv;generalize net p=sh at hhas hfol;refine PureCall.of_body Tryz.func82 rfl (by decide) (by simp[Tryz.ntmps82]) ?_;simp only[Tryz.ntmps82,Tryz.results82];refine aS fun K hK=>?_;simp -dsimp;apply hK;clear hK K;refine awp_seq_k fun K1 hK1=>?_;refine aS fun K hK=>?_;simp -dsimp;apply hK;clear hK K;refine awp_block ?_;refine awp_prune [0,1,7,8,9] ?_;simp only[zP,Nat.reduceEqDiff,reduceIte];refine awp_loop_l [0,1,7,8] (α:=Nat) (fun i=>[(9,I i)]) (fun i=>[]) (fun i=>i≤l.length∧(List.range i).all (stepB p l)=true) (fun i=>l.length-i) 0 ?_ ?_ ?_
 ·simp
 ·exact sub_same (by simp)
 rintro i ⟨i1,i2⟩;simp only[zP,Nat.reduceEqDiff,reduceIte];refine aS fun K hK=>?_;simp -dsimp;apply hK;clear hK K;refine awp_seq_k fun K2 hK2=>?_;refine awp_cond rfl (fun hc0=>?_) (fun hc0=>?_)
 ·skip
  try simp at hc0
  obtain⟨m,hgm⟩:∃m,l[i]?=some m:=⟨_,List.getElem?_eq_getElem hc0⟩;have wi:=zW i (by omega);have w1:IntKind.i64.wrap ((i:Int)-1)=(i:Int)-1:=wrap_in (by omega) (by omega);have hprev:0<i→l[i-1]?=some (l[i-1]?.getD default):=fun h=>by rw[List.getElem?_eq_getElem (by omega)];rfl
  have hpm:0<i→movB p (l[i-1]?.getD default)=true:=fun h=>(Bool.and_eq_true_iff.1 (allR_at i2 (show i-1<i by omega))).1;have hst:stepB p l i=(movB p m&&(decide (i=0)||follB p (l[i-1]?.getD default) m)):=by unfold stepB;rw[hgm];rfl
  generalize l[i-1]?.getD default=m' at hprev hpm hst;have hmv:movB p m=inr m.Rail 0 (p.Rails.length-1):=rfl;refine awp_skip ?_;simp only[zT,reduceIte,Nat.reduceEqDiff];refine hK2 _ _ ?_;refine awp_prune [0,1,7,8,9] ?_;simp only[zP,Nat.reduceEqDiff,reduceIte];refine awp_seq_k fun K3 hK3=>?_;refine awp_block ?_;refine aS fun K hK=>?_;simp -dsimp [hgm];apply hK;clear hK K;refine awp_sd mixed rfl fun K hK=>?_;simp -dsimp [w1];refine callK_intro _ (hhas m.Rail m.Back) (by simp) ?_;simp -dsimp [w1];refine⟨fun _ h=>by omega,?_⟩
  try simp -dsimp
  refine idxK_intro m'.cells (fun hq=>by simp at hq;rw[List.getElem?_map,hprev hq.2];rfl) ?_;simp -dsimp [w1];refine callK_may _ (fun hm=>(hfol m' m (hpm (by simp at hm;exact hm.2)))) (by simp) ?_;simp -dsimp [w1];refine hK _ _ _ (by decide+kernel) ?_;clear hK K;refine awp_cond rfl (fun hc1=>?_) (fun hc1=>?_)
  ·rw[step_neg,←hmv,←hst]at hc1;have hsf:stepB p l i=false:=by simpa using hc1
   have hb:wayB p l=false:=by unfold wayB;rw[show(List.range l.length).all (stepB p l)=false from by rw[List.all_eq_false];exact⟨i,List.mem_range.2 hc0,by simp[hsf]⟩];rfl
   refine aS fun K hK=>?_;simp -dsimp;apply hK;clear hK K;exact awp_ret (by simp[hb])
  ·rw[step_neg,←hmv,←hst]at hc1;have hst1:stepB p l i=true:=by simpa using hc1
   refine awp_skip ?_;simp only[zT,reduceIte,Nat.reduceEqDiff];refine hK3 _ _ ?_;refine awp_prune [0,1,7,8,9] ?_;simp only[zP,Nat.reduceEqDiff,reduceIte];refine aR fun K hK=>?_;simp -dsimp [wi];apply hK;clear hK K;simp only[zT,reduceIte,Nat.reduceEqDiff];exact⟨i+1,⟨by omega,by rw[allR_succ,i2,hst1];rfl⟩,by omega,sub_rb [] rfl (by simp) (by simp)⟩
 ·skip
  try simp at hc0
  have hie:i=l.length:=by omega
  subst hie;refine awp_exit ?_;simp only[zT,reduceIte,Nat.reduceEqDiff];refine hK1 _ _ ?_;refine awp_prune [1] ?_;simp only[zP,Nat.reduceEqDiff,reduceIte];refine aS fun K hK=>?_;simp -dsimp;refine callK_intro _ (c_within l.length 1 2000) (by simp) ?_;simp -dsimp;apply hK;clear hK K;exact awp_ret (by simp[wayB,i2])
end Go.Tram
end
section
namespace Go.Tram
open Go.AM Go.Proofs
def mvAt (l:List Move) (i:Nat):Move:=l[i]?.getD default
def begTo (p:Plan) (l:List Move):Nat→Int
 |0=>0
 |i+1=>begTo p l i+p.len (mvAt l i).Rail
def cvF (front long beg:Int):Int:=if front-long-beg<0 then 0 else front-long-beg
def cvT (front beg L:Int):Int:=if L<front-beg then L else front-beg
def cvStep (p:Plan) (front long beg:Int) (m:Move):List Cover:=
 if cvT front beg (p.len m.Rail)≤cvF front long beg then []
 else if m.Back then [⟨m.Rail,p.len m.Rail-cvT front beg (p.len m.Rail),p.len m.Rail-cvF front long beg⟩]else [⟨m.Rail,cvF front long beg,cvT front beg (p.len m.Rail)⟩]
def cvTo (p:Plan) (l:List Move) (front long:Int) (n:Nat):List Cover:=(List.range n).flatMap fun i=>cvStep p front long (begTo p l i) (mvAt l i)
theorem cvTo_succ (p:Plan) (l:List Move) (front long:Int) (n:Nat):cvTo p l front long (n+1)=cvTo p l front long n++cvStep p front long (begTo p l n) (mvAt l n):=by
 simp only[cvTo,List.range_succ,List.flatMap_append,List.flatMap_cons,List.flatMap_nil,List.append_nil]
theorem cvTo_len (p:Plan) (l:List Move) (front long:Int) (n:Nat):(cvTo p l front long n).length≤n:=by
 induction n with
 |zero=>simp[cvTo]
 |succ n ih=>
  rw[cvTo_succ,List.length_append];have:(cvStep p front long (begTo p l n) (mvAt l n)).length≤1:=by unfold cvStep;split<;>(try split)<;>simp
  omega
theorem len_bd {p:Plan} (hv:validB p=true) {r:Int} (h0:0≤r) (h1:r<p.Rails.length):1≤p.len r∧p.len r≤31000000:=by
 have ro:=rail_ok hv h0 h1;have hl:=ro.len;have hs:=ro.s;have h:=sumTo_bd ro ((p.rail r).Shape.length+1) (by omega);unfold Plan.len;omega
theorem way_mov {p:Plan} {l:List Move} (h:wayB p l=true):∀i,i<l.length→movB p (mvAt l i)=true:=by
 intro i hi;have:=(Bool.and_eq_true_iff.1 h).1;exact(Bool.and_eq_true_iff.1 (allR_at this hi)).1
theorem way_len {p:Plan} {l:List Move} (h:wayB p l=true):1≤l.length∧l.length≤2000:=by
 have:=inr_iff.1 (Bool.and_eq_true_iff.1 h).2;omega
theorem begTo_bd {p:Plan} {l:List Move} (hv:validB p=true) (h:wayB p l=true):∀i,i≤l.length→0≤begTo p l i∧begTo p l i≤31000000*i
 |0,_=>by simp[begTo]
 |i+1,hi=>by
  have h1:=begTo_bd hv h i (by omega);have h2:=movB_iff.1 (way_mov h i (by omega));have h3:=len_bd hv h2.1 h2.2;simp only[begTo];omega
theorem c_wayLength (p:Plan) (l:List Move) (hv:validB p=true) (hw:wayB p l=true):PureCall Tryz.prog 47 [.iptr (net p), .lst 2 (l.map Move.cells)] (I (begTo p l l.length)):=by
 have hl:=way_len hw;unfold net;refine PureCall.of_body Tryz.func47 rfl (by decide) (by simp[Tryz.ntmps47]) ?_;simp only[Tryz.ntmps47,Tryz.results47];refine aS fun K hK=>?_;simp -dsimp;apply hK;clear hK K;refine aS fun K hK=>?_;simp -dsimp;apply hK;clear hK K;refine awp_seq_k fun K1 hK1=>?_;refine aS fun K hK=>?_;simp -dsimp;apply hK;clear hK K;refine awp_block ?_;refine awp_prune [0,5,8,9,10] ?_;simp only[zP,Nat.reduceEqDiff,reduceIte];refine awp_loop_l [0,8,9] (α:=Nat) (fun i=>[(10,I i),(5,I (begTo p l i))]) (fun i=>[]) (fun i=>i≤l.length) (fun i=>l.length-i) 0 ?_ ?_ ?_
 ·simp
 ·exact sub_same (by simp[begTo])
 rintro i i1;simp only[zP,Nat.reduceEqDiff,reduceIte];refine aS fun K hK=>?_;simp -dsimp;apply hK;clear hK K;refine awp_seq_k fun K2 hK2=>?_;refine awp_cond rfl (fun hc0=>?_) (fun hc0=>?_)
 ·skip
  try simp at hc0
  obtain⟨m,hgm⟩:∃m,l[i]?=some m:=⟨_,List.getElem?_eq_getElem hc0⟩;have wi:=zW i (by omega);have hma:mvAt l i=m:=by simp[mvAt,hgm]
  have hmv:=way_mov hw i hc0;have hb1:=begTo_bd hv hw (i+1) (by omega);have hbs:begTo p l (i+1)=begTo p l i+p.len m.Rail:=by simp only[begTo];rw[hma]
  rw[hma]at hmv;have hmr:=movB_iff.1 hmv;have hlg:(lensA p p.Rails.length)[m.Rail.toNat]?=some [I (p.len m.Rail)]:=by rw[lensA_get (by omega),show((m.Rail.toNat:Nat):Int)=m.Rail by omega]
  have ws:IntKind.i64.wrap (begTo p l i+p.len m.Rail)=begTo p l (i+1):=by rw[←hbs];exact wrap_in (by omega) (by omega)
  refine awp_skip ?_;simp only[zT,reduceIte,Nat.reduceEqDiff];refine hK2 _ _ ?_;refine awp_prune [0,5,8,9,10] ?_;simp only[zP,Nat.reduceEqDiff,reduceIte];refine awp_seq_k fun K3 hK3=>?_;refine awp_block ?_;refine aS fun K hK=>?_;simp -dsimp [hgm];apply hK;clear hK K;refine awp_draw mixed rfl fun K hK=>?_;simp -dsimp [hlg,ws,hmr.1];refine hK _ _ _ (by decide+kernel) ?_;clear hK K;simp only[zT,reduceIte,Nat.reduceEqDiff];refine hK3 _ _ ?_;refine awp_prune [0,5,8,9,10] ?_;simp only[zP,Nat.reduceEqDiff,reduceIte];refine aR fun K hK=>?_;simp -dsimp [wi];apply hK;clear hK K;simp only[zT,reduceIte,Nat.reduceEqDiff];exact⟨i+1,by omega,by omega,sub_rb [] rfl (by simp) (by simp)⟩
 ·skip
  try simp at hc0
  have hie:i=l.length:=by omega
  subst hie;refine awp_exit ?_;simp only[zT,reduceIte,Nat.reduceEqDiff];refine hK1 _ _ ?_;refine awp_prune [5] ?_;simp only[zP,Nat.reduceEqDiff,reduceIte];refine aS fun K hK=>?_;simp -dsimp;apply hK;clear hK K;exact awp_ret (by simp)
end Go.Tram
end
section
namespace Go.Tram
open Go.AM Go.Proofs
abbrev nilS:AV:= .v (.slice none 0 0)
abbrev mLst (l:List Move):AV:= .lst 2 (l.map Move.cells)
theorem c_tWayLength_t (p:Plan) (l:List Move) (hv:validB p=true) (h:wayB p l=true):PureCall Tryz.prog 70 [p.av,mLst l] (.tup [I (begTo p l l.length),I 0]):=by
 have hl:=way_len h;have hop:=c_open_t p hv;have hh:=c_way p l hv (by omega);have hw:=c_wayLength p l hv h;rw[h]at hh;generalize net p=sh at hop hh hw;refine PureCall.of_body Tryz.func70 rfl (by decide) (by simp[Tryz.ntmps70]) ?_;simp only[Tryz.ntmps70,Tryz.results70];refine aS fun K hK=>?_;simp -dsimp;apply hK;clear hK K;refine aS fun K hK=>?_;simp -dsimp;refine callK_intro _ (hop) (by simp) ?_;simp -dsimp;apply hK;clear hK K;refine awp_seq_k fun K1 hK1=>?_;refine aS fun K hK=>?_;simp -dsimp;refine callK_may _ (fun hm=>hh) (by simp) ?_;simp -dsimp;apply hK;clear hK K;refine awp_cond rfl (fun hc0=>?_) (fun hc0=>?_)
 ·simp at hc0
 ·refine awp_skip ?_;simp only[zT,reduceIte,Nat.reduceEqDiff];refine hK1 _ _ ?_;refine awp_prune [1,6] ?_;simp only[zP,Nat.reduceEqDiff,reduceIte];refine aS fun K hK=>?_;simp -dsimp;refine callK_intro _ (hw) (by simp) ?_;simp -dsimp;apply hK;clear hK K;exact awp_ret (by simp)
end Go.Tram
end
