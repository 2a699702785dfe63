import Derived.Test.YtlgdbddegopphaaGreatN4
import Derived.OpenShut
import Derived.ProofKit
import Derived.WalkKit
import Derived.Test.YtlgdbddegopphaaGreatRows
set_option maxRecDepth 100000
set_option maxHeartbeats 8000000
set_option linter.unusedVariables false
set_option linter.unusedSimpArgs false
section
namespace Go.Tram
open Go.AM Go.Proofs
theorem b4p (p:Plan) (r:Rail) (hf:0≤r.From∧r.From<p.Nodes.length) (ht:0≤r.To∧r.To<p.Nodes.length) (hs:r.Shape.length≤900):
  a6 Tryz.prog 150 [p.av,r.av] (.lst 2 ((s8 p r).map Spot.cells)):=by
 have e2:p.Nodes[r.From.toNat]?=some (p.node r.From):=Plan.node_get hf.1 hf.2;have e3:p.Nodes[r.To.toNat]?=some (p.node r.To):=Plan.node_get ht.1 ht.2;have hc:=(b6C [[(p.node r.From).Spot],r.Shape,[(p.node r.To).Spot]] (by simp) (by simp;omega) (by simp)).wk (args:=[.full 1 [[.full 2 [[I (p.node r.From).Spot.X,I (p.node r.From).Spot.Y]]],[.lst 2 (r.Shape.map Spot.cells)],[.full 2 [[I (p.node r.To).Spot.X,I (p.node r.To).Spot.Y]]]]]) (by simp[AM.wk,a8U,Function.comp_def]);refine oB Tryz.func150 Tryz.ntmps150 Tryz.results150 ?_;refine aW ?_;refine aD ?_ fun K hK=>by simp -dsimp [e2,e3,hf.1,ht.1];refine cI (hc) ?_;simp -dsimp [e2,e3,hf.1,ht.1];exact hK
 exact a9 (by simp[s8])
theorem b5h (s:Spot):a6 Tryz.prog 147 [s.av] (Bo (j7 s)):=by
 refine oB Tryz.func147 Tryz.ntmps147 Tryz.results147 ?_;refine aW ?_;refine aW ?_ fun K hK=>by simp -dsimp;refine cI (C5 _ _ _) ?_;simp -dsimp;refine cY (fun hm=>C5 _ _ _) ?_;simp -dsimp;exact hK
 exact a9 (by simp[j7])
theorem c0J:a6 Tryz.prog 148 [] (.agg [I 0,I 1,I 2,I 4,I 3,I 3,I 3]):=by
 refine oB Tryz.func148 Tryz.ntmps148 Tryz.results148 ?_;refine aW ?_;refine aW ?_ fun K hK=>by simp -dsimp [Value.oneCell'];exact hK
 exact a9 (by simp)
theorem a6K (p:Plan) (e:D7) (h0:0≤e.Rail) (h1:e.Rail<p.Rails.length):a6 Tryz.prog 116 [p.av,e.av] (I (p.at e)):=by
 have e1:p.Rails[e.Rail.toNat]?=some (p.rail e.Rail):=Plan.rail_get h0 h1;refine oB Tryz.func116 Tryz.ntmps116 Tryz.results116 ?_;refine aW ?_;refine a5 fun K1 hK1=>?_;refine aW ?_;refine a8 rfl (fun hc0=>?_) (fun hc0=>?_)
 ·skip
  try simp at hc0
  refine aW ?_ fun K hK=>by simp -dsimp [e1,h0];exact hK
  exact a9 (by simp[Plan.at,hc0])
 ·skip
  try simp at hc0
  refine b8 ?_;refine zQ (hK1 _ _ ?_);refine aP [2,3] ?_;refine aW ?_ fun K hK=>by simp -dsimp [e1,h0];exact hK
  exact a9 (by simp[Plan.at,hc0])
theorem c2G (n:Nat) (h:n<2^50):∃r x:Nat,a6 Tryz.prog 202 [.v (.float .f64 (FloatKind.f64.nearest n))] (.v (.float .f64 r))∧floatToIntVal .f64 r .i64=some (x:Int)∧x≤2^30:=by
 obtain⟨r,x,h1,h2,h3⟩:=Sq.sqrt_bd h;have hs:a6 Tryz.prog 219 [.v (.float .f64 (FloatKind.f64.nearest n))] (.v (.float .f64 r)):=by
  refine a6.of_ext (us:=[.float .f64 (FloatKind.f64.nearest n)]) (e:=Extern.MathSqrt.sqrt) Tryz.func219 (by rfl) (by rfl) (by rfl) (by rfl) (fun w=>?_);have e:Extern.MathSqrt.sqrt #[.float .f64 (FloatKind.f64.nearest n)]=(match FloatKind.f64.format.sqrt (FloatKind.f64.nearest n)with
   |some r=>pure (.float .f64 r)
   |none=>do pure (.float .f64 (←choose (.nanBits .f64 (FloatKind.f64.nearest n) (FloatKind.f64.nearest n))))):=rfl
  rw[h1]at e;show(Extern.MathSqrt.sqrt #[.float .f64 (FloatKind.f64.nearest n)]).run _ w=_;rw[e]
  rfl
 refine⟨r,x,?_,h2,h3⟩;refine oB Tryz.func202 Tryz.ntmps202 Tryz.results202 ?_;refine aW ?_;refine aW ?_ fun K hK=>by simp -dsimp;refine cI (hs) ?_;simp -dsimp;exact hK
 exact a9 (by simp)
theorem a3T:(Tryz.prog).underlying 3=some (.int .i64):=by kernel_rfl
theorem b3t:(Tryz.prog).underlying 311=some (.float .f64):=by kernel_rfl
theorem c0p (n:Int) (w:World):(convert 3 311 (.int .i64 n)).run Tryz.prog w= .ok (.float .f64 (FloatKind.f64.nearest n)) w:=by
 simp[convert,run_underlying a3T,run_underlying b3t,Conv.intToFloat]
theorem b6A {a b:Int} (h0:0≤a) (h:a≤b):a*a≤b*b:=Int.mul_le_mul h h h0 (by omega)
theorem b9t (n:Int) (h0:0≤n) (h1:n<1000000000000000):a6 Tryz.prog 180 [I n] (I (isq n)):=by
 obtain⟨m,rfl⟩:∃m:Nat,n=m:=⟨n.toNat,by omega⟩;obtain⟨r,x,hs,hx,hxb⟩:=c2G m (by omega);have hsq:=a6u h0;obtain⟨s1,s2,s3⟩:=hsq;generalize hq:isq (m:Int)=q at s1 s2 s3;have hqb:q≤40000000:=by
  rcases Int.lt_or_le 40000000 q with h|h
  ·have:=b6A (by omega) (Int.le_of_lt h);omega
  ·exact h
 refine oB Tryz.func180 Tryz.ntmps180 Tryz.results180 ?_;refine aW ?_;refine aS fun K hK=>?_;simp -dsimp;refine⟨_,c0p m,?_⟩;simp;refine cI (hs) ?_;simp -dsimp;refine⟨_,fun w=>run_convert_float_int w _ _ .f64 .i64 r x (by rw[b3t];rfl) a3T hx,?_⟩
 try simp
 apply hK;clear hK K;refine a5 fun K1 hK1=>?_;refine b9 ?_;refine aP [0,3] ?_;refine c7 [0] (α:=Int) (fun x=>[(3,I x)]) (fun _=>[]) (fun x=>0≤x∧x≤1100000000) (fun x=>x.toNat) (x:Int) ?_ ?_ ?_
 ·omega
 ·exact c9 (by simp)
 rintro y ⟨y1,y2⟩;have b1:=x7 (a:=y) (b:=y) (A:=1100000000) (B:=1100000000) (by omega) (by omega) (by omega) (by omega);have w1:IntKind.i64.wrap (y*y)=y*y:=c4 (by omega) (by omega);have w2:IntKind.i64.wrap (y-1)=y-1:=c4 (by omega) (by omega);refine zN ?_;refine a5 fun K2 hK2=>?_;refine aW ?_ fun K hK=>by simp -dsimp [w1];exact hK
 refine a8 rfl (fun hc0=>?_) (fun hc0=>?_)
 ·skip
  try simp at hc0
  have y0:y≠0:=by rintro rfl;simp at hc0;omega
  refine b8 ?_;refine zQ (hK2 _ _ ?_);refine aP [0,3] ?_;refine b9 ?_;refine aV ?_ fun K hK=>by simp -dsimp [w2];exact hK
  refine zQ ?_;exact⟨y-1,⟨by omega,by omega⟩,by omega,c9 (by simp)⟩
 ·skip
  try simp at hc0
  have hyq:y≤q:=by
   rcases Int.lt_or_le q y with h|h
   ·have:=b6A (a:=q+1) (b:=y) (by omega) (by omega);omega
   ·exact h
  refine d4 ?_;refine zQ (hK1 _ _ ?_);refine aP [0,3] ?_;refine a5 fun K3 hK3=>?_;refine b9 ?_;refine aP [0,3] ?_;refine c7 [0] (α:=Int) (fun x=>[(3,I x)]) (fun _=>[]) (fun x=>0≤x∧x≤q) (fun x=>(q-x).toNat) y ?_ ?_ ?_
  ·omega
  ·exact c9 (by simp)
  rintro z ⟨z1,z2⟩;have b2:=x7 (a:=z+1) (b:=z+1) (A:=1100000000) (B:=1100000000) (by omega) (by omega) (by omega) (by omega);have w3:IntKind.i64.wrap (z+1)=z+1:=c4 (by omega) (by omega);have w4:IntKind.i64.wrap ((z+1)*(z+1))=(z+1)*(z+1):=c4 (by omega) (by omega);refine zN ?_;refine a5 fun K4 hK4=>?_;refine aW ?_ fun K hK=>by simp -dsimp [w3,w4];exact hK
  refine a8 rfl (fun hc1=>?_) (fun hc1=>?_)
  ·skip
   try simp at hc1
   have hzq:z+1≤q:=by
    rcases Int.lt_or_le q (z+1)with h|h
    ·have:=b6A (a:=q+1) (b:=z+1) (by omega) (by omega);omega
    ·exact h
   refine b8 ?_;refine zQ (hK4 _ _ ?_);refine aP [0,3] ?_;refine b9 ?_;refine aV ?_ fun K hK=>by simp -dsimp [w3];exact hK
   refine zQ ?_;exact⟨z+1,⟨by omega,by omega⟩,by omega,c9 (by simp)⟩
  ·skip
   try simp at hc1
   have hzq:z=q:=by
    rcases Int.lt_or_le z q with h|h
    ·have:=b6A (a:=z+1) (b:=q) (by omega) (by omega);omega
    ·omega
   refine d4 ?_;refine zQ (hK3 _ _ ?_);refine aP [3] ?_;refine aW ?_;exact a9 (by simp[hq,hzq])
end Go.Tram
end
section
namespace Go.Tram
open Go.AM Go.Proofs
theorem b7K (a b:Spot) (ha:j7 a=true) (hb:j7 b=true):a6 Tryz.prog 151 [a.av,b.av] (I (far a b)):=by
 have hs:=b5r ha hb;have ha':=H9.1 ha;have hb':=H9.1 hb;have w1:IntKind.i64.wrap (a.X-b.X)=a.X-b.X:=c4 (by omega) (by omega);have w2:IntKind.i64.wrap (a.Y-b.Y)=a.Y-b.Y:=c4 (by omega) (by omega);have h1:=x7 (a:=a.X-b.X) (b:=a.X-b.X) (A:=20000000) (B:=20000000) (by omega) (by omega) (by omega) (by omega);have h2:=x7 (a:=a.Y-b.Y) (b:=a.Y-b.Y) (A:=20000000) (B:=20000000) (by omega) (by omega) (by omega) (by omega);have w3:IntKind.i64.wrap ((a.X-b.X)*(a.X-b.X))=(a.X-b.X)*(a.X-b.X):=c4 (by omega) (by omega);have w4:IntKind.i64.wrap ((a.Y-b.Y)*(a.Y-b.Y))=(a.Y-b.Y)*(a.Y-b.Y):=c4 (by omega) (by omega);have w5:IntKind.i64.wrap ((a.X-b.X)*(a.X-b.X)+(a.Y-b.Y)*(a.Y-b.Y))=sqd a b:=c4 (by unfold sqd at hs;omega) (by unfold sqd at hs;omega);refine oB Tryz.func151 Tryz.ntmps151 Tryz.results151 ?_;refine aW ?_ fun K hK=>by simp -dsimp [w1,w2,w3,w4,w5];exact hK
 refine aD ?_ fun K hK=>by simp -dsimp [w1,w2,w3,w4,w5];exact hK
 refine aW ?_ fun K hK=>by simp -dsimp [w1,w2,w3,w4,w5];refine cI (b9t _ hs.1 (by omega)) ?_;simp -dsimp [w1,w2,w3,w4,w5];exact hK
 exact a9 (by simp[far])
theorem b4O {k:Int} (h1:1≤k) (h6:k≤6):(List.take 1 (List.drop k.toNat [I 0,I 1,I 2,I 4,I 3,I 3,I 3])).head?.getD AV.any=I (P6 k):=by
 have:k=1∨k=2∨k=3∨k=4∨k=5∨k=6:=by omega
 rcases this with rfl|rfl|rfl|rfl|rfl|rfl<;>rfl
theorem c0G (n:Node):a6 Tryz.prog 112 [n.av] (Bo (B5 n)):=by
 refine oB Tryz.func112 Tryz.ntmps112 Tryz.results112 ?_;refine aW ?_;refine a5 fun K1 hK1=>?_;refine aD ?_ fun K hK=>by simp -dsimp;refine cY (fun hm=>b5h n.Spot) ?_;simp -dsimp;refine cY (fun hm=>c0J) ?_;simp -dsimp;refine⟨by omega,d6 (I (P6 n.Kind)) (fun hm=>by simp at hm;exact b4O (by omega) (by omega)) ?_⟩;simp;exact hK
 refine a8 rfl (fun hc0=>?_) (fun hc0=>?_)
 ·skip
  try simp at hc0
  refine aW ?_;refine a9 ?_;have:B5 n=false:=by
   cases hq:B5 n with
   |false=>rfl
   |true=>
    simp[B5]at hq;have hk:1≤n.Kind∧n.Kind≤6:=by have:=hq.2.2.1;unfold P6 at this;repeat (split at this;omega);omega
    simp[hq]at hc0;omega
  simp[this]
 ·skip
  try simp at hc0
  have he:P6 n.Kind≠0:=by have:=hc0.1.1;unfold P6;repeat (split;omega);omega
  refine b8 ?_;refine zQ (hK1 _ _ ?_);refine aP [1] ?_;refine a5 fun K2 hK2=>?_;refine aW ?_;refine a8 rfl (fun hc1=>?_) (fun hc1=>?_)
  ·skip
   try simp at hc1
   refine aW ?_ fun K hK=>by simp -dsimp;refine cI (C5 _ _ _) ?_;simp -dsimp;exact hK
   refine a9 ?_;simp[B5,hc0,hc1,he]
  ·skip
   try simp at hc1
   refine b8 ?_;refine zQ (hK2 _ _ ?_);refine aP [1] ?_;refine aW ?_;refine a9 ?_;simp[B5,hc0,hc1,he];exact Bool.eq_iff_iff.2 (by simp)
theorem a7h {p:Plan} {r:Rail} (h:P0 p r=true):(0≤r.From∧r.From<p.Nodes.length)∧(0≤r.To∧r.To<p.Nodes.length)∧r.Shape.length≤30:=by
 simp only[P0,Bool.and_eq_true,g8,decide_eq_true_eq]at h;omega
theorem a5b {p:Plan} {r:Rail} (hA:p.Nodes.all B5=true):C9 p r=(P0 p r&&((s8 p r).all j7&&(List.range (r.Shape.length+1)).all (a8g (s8 p r)))):=by
 cases h:P0 p r with
 |false=>simp[C9,h]
 |true=>
  obtain⟨h1,h2,_⟩:=a7h h;have sF:=L2 (B8 hA (i:=r.From) h1.1 h1.2);have sT:=L2 (B8 hA (i:=r.To) h2.1 h2.2);simp only[C9,h,s8,List.all_cons,List.all_append,List.all_nil,sF,sT,Bool.true_and,Bool.and_true]
theorem b1U (p:Plan) (r:Rail):(s8 p r).length=r.Shape.length+2:=by simp[s8]
theorem b9T (p:Plan) (r:Rail) (hA:p.Nodes.all B5=true) (hN:p.Nodes.length≤300):a6 Tryz.prog 115 [p.av,r.av] (Bo (C9 p r)):=by
 have wn:IntKind.i64.wrap ((p.Nodes.length:Int)-1)=(p.Nodes.length:Int)-1:=c4 (by omega) (by omega);have hl:=b1U p r;refine oB Tryz.func115 Tryz.ntmps115 Tryz.results115 ?_;refine aW ?_;refine a5 fun K1 hK1=>?_;refine aW ?_ fun K hK=>by simp -dsimp [wn];refine cI (C5 _ _ _) ?_;simp -dsimp [wn];refine cY (fun hm=>C5 _ _ _) ?_;simp -dsimp [wn];refine cY (fun hm=>C5 _ _ _) ?_;simp -dsimp [wn];refine cY (fun hm=>C5 _ _ _) ?_;simp -dsimp [wn];exact hK
 refine a8 rfl (fun hc0=>?_) (fun hc0=>?_)
 ·skip
  try simp at hc0
  refine aW ?_;refine a9 ?_;have hra:P0 p r=false:=by
   cases hq:P0 p r with
   |false=>rfl
   |true=>simp[P0]at hq;simp[hq,wn]at hc0;omega
  simp[C9,hra]
 ·skip
  try simp at hc0
  have hra:P0 p r=true:=by simp[P0,hc0];omega
  obtain⟨hF,hT,hsl⟩:=a7h hra;refine b8 ?_;refine zQ (hK1 _ _ ?_);refine aP [2,3] ?_;refine aW ?_ fun K hK=>by simp -dsimp;refine cI (b4p p r hF hT (by omega)) ?_;simp -dsimp;exact hK
  refine a5 fun K2 hK2=>?_;refine aW ?_;refine b9 ?_;refine aP [5,47,48,49] ?_;refine c7 [5,47,48] (α:=Nat) (fun k=>[(49,I k)]) (fun _=>[some (.els 2 [p.cells]),some (.els 5 [r.cells])]) (fun k=>k≤(s8 p r).length∧∀m,m<k→j7 (nth (s8 p r) m)=true∧(0<m→a8g (s8 p r) (m-1)=true)) (fun k=>(s8 p r).length-k) 0 ?_ ?_ ?_
  ·exact⟨by omega,fun m hm=>by omega⟩
  ·exact c9 (by simp)
  rintro k ⟨k1,k2⟩;refine zN ?_;refine aW ?_;refine a5 fun K3 hK3=>?_;refine a8 rfl (fun hc1=>?_) (fun hc1=>?_)
  ·skip
   try simp at hc1
   have g0:=y3 (l:=s8 p r) (k:=k) (by omega);have wk:=zW k (by omega);have wm:0<k→IntKind.i64.wrap ((k:Int)-1)=((k-1:Nat):Int):=fun h=>by rw[c4 (by omega) (by omega)];omega
   refine b8 ?_;refine zQ (hK3 _ _ ?_);refine aP [5,47,48,49] ?_;refine a5 fun K4 hK4=>?_;refine b9 ?_;refine aW ?_ fun K hK=>by simp -dsimp [g0];exact hK
   refine aD ?_ fun K hK=>by simp -dsimp;refine cI (b5h (nth (s8 p r) k)) ?_;simp -dsimp;refine⟨fun _ h=>by rw[wm h];omega,s7 (Spot.cells (nth (s8 p r) (k-1))) (fun hm=>by simp at hm;rw[wm hm.2];simp[y3 (l:=s8 p r) (k:=k-1) (by omega)]) ?_⟩;simp;refine cY (fun hm=>b7K (nth (s8 p r) (k-1)) (nth (s8 p r) k) (by simp at hm;exact(k2 (k-1) (by omega)).1) (by simp at hm;exact hm.1)) ?_;simp -dsimp;refine cY (fun hm=>C5 _ _ _) ?_;simp -dsimp;exact hK
   refine a8 rfl (fun hc2=>?_) (fun hc2=>?_)
   ·skip
    try simp at hc2
    have hB:C9 p r=false:=by
     rw[a5b hA]
     by_cases hs:j7 (nth (s8 p r) k)=true
     ·have h3:0<k∧inr (far (nth (s8 p r) (k-1)) (nth (s8 p r) k)) 1 1000000=false:=by simp[hs]at hc2;exact hc2
      have hseg:a8g (s8 p r) (k-1)=false:=by simp only[a8g,C2];rw[show k-1+1=k by omega];exact h3.2
      have:(List.range (r.Shape.length+1)).all (a8g (s8 p r))=false:=by rw[List.all_eq_false];exact⟨k-1,by simp;omega,by simp[hseg]⟩
      simp[this]
     ·have:(s8 p r).all j7=false:=a9G g0 (by simpa using hs);simp only[this,Bool.false_and,Bool.and_false]
    refine aW ?_;exact a9 (by simp[hB])
   ·skip
    try simp at hc2
    refine b8 ?_;refine zQ (hK4 _ _ ?_);refine aP [5,47,48,49] ?_;refine aV ?_ fun K hK=>by simp -dsimp [wk];exact hK
    refine zQ ?_;refine⟨k+1,⟨by omega,fun m hm=>?_⟩,by omega,d9 [some 0,some 1] rfl (by simp) (by simp[Function.comp_def])⟩
    by_cases hmk:m<k
    ·exact k2 m hmk
    ·obtain rfl:m=k:=by omega
     refine⟨hc2.1,fun h=>?_⟩;simp only[a8g,C2];rw[show m-1+1=m by omega];exact hc2.2 h
  ·skip
   try simp at hc1
   have hB:C9 p r=true:=by
    rw[a5b hA,hra];simp only[Bool.true_and,Bool.and_eq_true,List.all_eq_true,List.mem_range];refine⟨fun s hs=>?_,fun m hm=>?_⟩
    ·obtain⟨m,hm⟩:=List.getElem?_of_mem hs;have hml:=(List.getElem?_eq_some_iff.1 hm).1;have:=(k2 m (by omega)).1;rw[y3 hml]at hm;simp only[Option.some.injEq]at hm
     rwa [hm]at this
    ·exact(k2 (m+1) (by omega)).2 (by omega)
   refine d4 ?_;refine zQ (hK2 _ _ ?_);refine aP [] ?_;refine aW ?_;exact a9 (by simp[hB])
end Go.Tram
end
section
namespace Go.Tram
open Go.AM Go.Proofs
def J4:List (List AV)→List AV
 |[]=>[]
 |c::cs=> .iptr c::J4 cs
@[simp] theorem b5L (H:Nat→Option k7) (n:Nat):∀cl:List (List AV),(J4 cl).map (frz H n)=J4 cl
 |[]=>rfl
 |c::cs=>by simp only[J4,List.map_cons,b5L H n cs,List.cons.injEq,and_true];cases n<;>rfl
@[simp] theorem b1J (n:Nat):∀cl:List (List AV),(J4 cl).all (AV.noRef n)=true
 |[]=>rfl
 |c::cs=>by simp only[J4,List.all_cons,b1J n cs,Bool.and_true];cases n<;>rfl
@[simp] theorem b9s (H:Nat→Option k7) (n:Nat):∀cl:List (List AV),(J4 cl).flatMap (A5 H n)=[]
 |[]=>rfl
 |c::cs=>by simp only[J4,List.flatMap_cons,b9s H n cs,List.append_nil];cases n<;>rfl
def U7 {α:Type} (l:List α) (q:α→Bool):Int:=match l.findIdx? q with|some i=>i|none=>-1
theorem D9 {α:Type} {l:List α} {q:α→Bool} (h:l.any q=false):U7 l q=-1:=by
 have:l.findIdx? q=none:=by
  rw[List.findIdx?_eq_none_iff];intro x hx;rw[List.any_eq_false]at h;simpa using h x hx
 unfold U7;rw[this]
theorem L8 {α:Type} {l:List α} {q:α→Bool} {k:Nat} {x:α} (hx:l[k]?=some x) (hq:q x=true) (hn:(l.take k).any q=false):U7 l q=k:=by
 obtain⟨hk,he⟩:=List.getElem?_eq_some_iff.1 hx;have:l.findIdx? q=some k:=by
  rw[List.findIdx?_eq_some_iff_getElem];refine⟨hk,by rw[he];exact hq,fun j hj=>?_⟩;rw[List.any_eq_false]at hn;have:=hn l[j] (by rw[List.mem_take_iff_getElem];exact⟨j,by omega,rfl⟩);simpa using this
 unfold U7;rw[this]
theorem Q6 {α:Type} (l:List α) (q:α→Bool):decide (0≤U7 l q)=l.any q:=by
 cases h:l.any q with
 |false=>rw[D9 h];rfl
 |true=>
  rw[List.any_eq_true]at h;obtain⟨x,hx,hq⟩:=h;unfold U7
  cases hi:l.findIdx? q with
  |none=>rw[List.findIdx?_eq_none_iff]at hi;exact absurd hq (by simp[hi x hx])
  |some i=>simp
theorem C4 {α:Type} {l:List α} {q:α→Bool} {k:Nat} {x:α} (h:l[k]?=some x):(l.take (k+1)).any q=((l.take k).any q||q x):=by
 rw[List.take_add_one,List.any_append,h];simp
theorem r9 {α:Type} {l:List α} {q:α→Bool} {k:Nat} (hk:l.length≤k) (h:(l.take k).any q=false):l.any q=false:=by rwa [List.take_of_length_le hk]at h
theorem a7g (l:List Node) (f:FuncId) (cl:List (List AV)) (q:Node→Bool) (h:∀x∈l,a6 Tryz.prog f (.agg x.cells::J4 cl) (Bo (q x))) (hn:l.length≤100000):
  a6 Tryz.prog 146 [.lst 5 (l.map Node.cells), .clo f (J4 cl)] (I (U7 l q)):=by
 refine oB Tryz.func146 Tryz.ntmps146 Tryz.results146 ?_;refine aW ?_;refine a5 fun K1 hK1=>?_;refine aW ?_;refine b9 ?_;refine aP [0,1,7,8] ?_;refine c7 [0,1,7] (α:=Nat) (fun k=>[(8,I k)]) (fun _=>[]) (fun k=>k≤l.length∧(l.take k).any q=false) (fun k=>l.length-k) 0 ?_ ?_ ?_
 ·simp
 ·exact c9 (by simp)
 rintro k ⟨k1,k2⟩;refine zN ?_;refine aW ?_;refine a5 fun K2 hK2=>?_;refine a8 rfl (fun hc0=>?_) (fun hc0=>?_)
 ·skip
  try simp at hc0
  obtain⟨x,hx⟩:=gx (l:=l) (i:=k) hc0;have wk:=zW k (by omega);refine b8 ?_;refine zQ (hK2 _ _ ?_);refine aP [0,1,7,8] ?_;refine a5 fun K3 hK3=>?_;refine b9 ?_;refine aW ?_;refine aW ?_ fun K hK=>by simp -dsimp [hx];refine cI (h x (List.mem_of_getElem? hx)) ?_;simp -dsimp [hx];exact hK
  refine a8 rfl (fun hc1=>?_) (fun hc1=>?_)
  ·skip
   try simp at hc1
   refine aW ?_;exact a9 (by simp[L8 hx hc1 k2])
  ·skip
   try simp at hc1
   refine b8 ?_;refine zQ (hK3 _ _ ?_);refine aP [0,1,7,8] ?_;refine aV ?_ fun K hK=>by simp -dsimp [wk];exact hK
   refine zQ ?_;exact⟨k+1,⟨by omega,by rw[C4 hx,k2,hc1];rfl⟩,by omega,c9 (by simp)⟩
 ·skip
  try simp at hc0
  have hall:=r9 (by omega) k2;refine d4 ?_;refine zQ (hK1 _ _ ?_);refine aP [] ?_;refine aW ?_;exact a9 (by simp[D9 hall])
theorem a9p (l:List Node) (f:FuncId) (cl:List (List AV)) (q:Node→Bool) (h:∀x∈l,a6 Tryz.prog f (.agg x.cells::J4 cl) (Bo (q x))) (hn:l.length≤100000):
  a6 Tryz.prog 110 [.lst 5 (l.map Node.cells), .clo f (J4 cl)] (Bo (l.any q)):=by
 refine oB Tryz.func110 Tryz.ntmps110 Tryz.results110 ?_;refine aW ?_;refine aW ?_ fun K hK=>by simp -dsimp;refine cI (a7g l f cl q h hn) ?_;simp -dsimp;exact hK
 exact a9 (by simp[Q6])
theorem a8d (l:List Rail) (f:FuncId) (cl:List (List AV)) (q:Rail→Bool) (h:∀x∈l,a6 Tryz.prog f (.agg x.cells::J4 cl) (Bo (q x))) (hn:l.length≤100000):
  a6 Tryz.prog 149 [.lst 5 (l.map Rail.cells), .clo f (J4 cl)] (I (U7 l q)):=by
 refine oB Tryz.func149 Tryz.ntmps149 Tryz.results149 ?_;refine aW ?_;refine a5 fun K1 hK1=>?_;refine aW ?_;refine b9 ?_;refine aP [0,1,7,8] ?_;refine c7 [0,1,7] (α:=Nat) (fun k=>[(8,I k)]) (fun _=>[]) (fun k=>k≤l.length∧(l.take k).any q=false) (fun k=>l.length-k) 0 ?_ ?_ ?_
 ·simp
 ·exact c9 (by simp)
 rintro k ⟨k1,k2⟩;refine zN ?_;refine aW ?_;refine a5 fun K2 hK2=>?_;refine a8 rfl (fun hc0=>?_) (fun hc0=>?_)
 ·skip
  try simp at hc0
  obtain⟨x,hx⟩:=gx (l:=l) (i:=k) hc0;have wk:=zW k (by omega);refine b8 ?_;refine zQ (hK2 _ _ ?_);refine aP [0,1,7,8] ?_;refine a5 fun K3 hK3=>?_;refine b9 ?_;refine aW ?_;refine aW ?_ fun K hK=>by simp -dsimp [hx];refine cI (h x (List.mem_of_getElem? hx)) ?_;simp -dsimp [hx];exact hK
  refine a8 rfl (fun hc1=>?_) (fun hc1=>?_)
  ·skip
   try simp at hc1
   refine aW ?_;exact a9 (by simp[L8 hx hc1 k2])
  ·skip
   try simp at hc1
   refine b8 ?_;refine zQ (hK3 _ _ ?_);refine aP [0,1,7,8] ?_;refine aV ?_ fun K hK=>by simp -dsimp [wk];exact hK
   refine zQ ?_;exact⟨k+1,⟨by omega,by rw[C4 hx,k2,hc1];rfl⟩,by omega,c9 (by simp)⟩
 ·skip
  try simp at hc0
  have hall:=r9 (by omega) k2;refine d4 ?_;refine zQ (hK1 _ _ ?_);refine aP [] ?_;refine aW ?_;exact a9 (by simp[D9 hall])
theorem a9C (l:List Rail) (f:FuncId) (cl:List (List AV)) (q:Rail→Bool) (h:∀x∈l,a6 Tryz.prog f (.agg x.cells::J4 cl) (Bo (q x))) (hn:l.length≤100000):
  a6 Tryz.prog 113 [.lst 5 (l.map Rail.cells), .clo f (J4 cl)] (Bo (l.any q)):=by
 refine oB Tryz.func113 Tryz.ntmps113 Tryz.results113 ?_;refine aW ?_;refine aW ?_ fun K hK=>by simp -dsimp;refine cI (a8d l f cl q h hn) ?_;simp -dsimp;exact hK
 exact a9 (by simp[Q6])
theorem a7O (l:List Spot) (f:FuncId) (cl:List (List AV)) (q:Spot→Bool) (h:∀x∈l,a6 Tryz.prog f (.agg x.cells::J4 cl) (Bo (q x))) (hn:l.length≤100000):
  a6 Tryz.prog 233 [.lst 2 (l.map Spot.cells), .clo f (J4 cl)] (I (U7 l q)):=by
 refine oB Tryz.func233 Tryz.ntmps233 Tryz.results233 ?_;refine aW ?_;refine a5 fun K1 hK1=>?_;refine aW ?_;refine b9 ?_;refine aP [0,1,7,8] ?_;refine c7 [0,1,7] (α:=Nat) (fun k=>[(8,I k)]) (fun _=>[]) (fun k=>k≤l.length∧(l.take k).any q=false) (fun k=>l.length-k) 0 ?_ ?_ ?_
 ·simp
 ·exact c9 (by simp)
 rintro k ⟨k1,k2⟩;refine zN ?_;refine aW ?_;refine a5 fun K2 hK2=>?_;refine a8 rfl (fun hc0=>?_) (fun hc0=>?_)
 ·skip
  try simp at hc0
  obtain⟨x,hx⟩:=gx (l:=l) (i:=k) hc0;have wk:=zW k (by omega);refine b8 ?_;refine zQ (hK2 _ _ ?_);refine aP [0,1,7,8] ?_;refine a5 fun K3 hK3=>?_;refine b9 ?_;refine aW ?_;refine aW ?_ fun K hK=>by simp -dsimp [hx];refine cI (h x (List.mem_of_getElem? hx)) ?_;simp -dsimp [hx];exact hK
  refine a8 rfl (fun hc1=>?_) (fun hc1=>?_)
  ·skip
   try simp at hc1
   refine aW ?_;exact a9 (by simp[L8 hx hc1 k2])
  ·skip
   try simp at hc1
   refine b8 ?_;refine zQ (hK3 _ _ ?_);refine aP [0,1,7,8] ?_;refine aV ?_ fun K hK=>by simp -dsimp [wk];exact hK
   refine zQ ?_;exact⟨k+1,⟨by omega,by rw[C4 hx,k2,hc1];rfl⟩,by omega,c9 (by simp)⟩
 ·skip
  try simp at hc0
  have hall:=r9 (by omega) k2;refine d4 ?_;refine zQ (hK1 _ _ ?_);refine aP [] ?_;refine aW ?_;exact a9 (by simp[D9 hall])
theorem a9d (l:List Spot) (f:FuncId) (cl:List (List AV)) (q:Spot→Bool) (h:∀x∈l,a6 Tryz.prog f (.agg x.cells::J4 cl) (Bo (q x))) (hn:l.length≤100000):
  a6 Tryz.prog 221 [.lst 2 (l.map Spot.cells), .clo f (J4 cl)] (Bo (l.any q)):=by
 refine oB Tryz.func221 Tryz.ntmps221 Tryz.results221 ?_;refine aW ?_;refine aW ?_ fun K hK=>by simp -dsimp;refine cI (a7O l f cl q h hn) ?_;simp -dsimp;exact hK
 exact a9 (by simp[Q6])
theorem a3C (l:List Profile) (f:FuncId) (cl:List (List AV)) (q:Profile→Bool) (h:∀x∈l,a6 Tryz.prog f (.agg x.cells::J4 cl) (Bo (q x))) (hn:l.length≤100000):
  a6 Tryz.prog 184 [.lst 2 (l.map Profile.cells), .clo f (J4 cl)] (I (U7 l q)):=by
 refine oB Tryz.func184 Tryz.ntmps184 Tryz.results184 ?_;refine aW ?_;refine a5 fun K1 hK1=>?_;refine aW ?_;refine b9 ?_;refine aP [0,1,7,8] ?_;refine c7 [0,1,7] (α:=Nat) (fun k=>[(8,I k)]) (fun _=>[]) (fun k=>k≤l.length∧(l.take k).any q=false) (fun k=>l.length-k) 0 ?_ ?_ ?_
 ·simp
 ·exact c9 (by simp)
 rintro k ⟨k1,k2⟩;refine zN ?_;refine aW ?_;refine a5 fun K2 hK2=>?_;refine a8 rfl (fun hc0=>?_) (fun hc0=>?_)
 ·skip
  try simp at hc0
  obtain⟨x,hx⟩:=gx (l:=l) (i:=k) hc0;have wk:=zW k (by omega);refine b8 ?_;refine zQ (hK2 _ _ ?_);refine aP [0,1,7,8] ?_;refine a5 fun K3 hK3=>?_;refine b9 ?_;refine aW ?_;refine aW ?_ fun K hK=>by simp -dsimp [hx];refine cI (h x (List.mem_of_getElem? hx)) ?_;simp -dsimp [hx];exact hK
  refine a8 rfl (fun hc1=>?_) (fun hc1=>?_)
  ·skip
   try simp at hc1
   refine aW ?_;exact a9 (by simp[L8 hx hc1 k2])
  ·skip
   try simp at hc1
   refine b8 ?_;refine zQ (hK3 _ _ ?_);refine aP [0,1,7,8] ?_;refine aV ?_ fun K hK=>by simp -dsimp [wk];exact hK
   refine zQ ?_;exact⟨k+1,⟨by omega,by rw[C4 hx,k2,hc1];rfl⟩,by omega,c9 (by simp)⟩
 ·skip
  try simp at hc0
  have hall:=r9 (by omega) k2;refine d4 ?_;refine zQ (hK1 _ _ ?_);refine aP [] ?_;refine aW ?_;exact a9 (by simp[D9 hall])
theorem a4M (l:List Profile) (f:FuncId) (cl:List (List AV)) (q:Profile→Bool) (h:∀x∈l,a6 Tryz.prog f (.agg x.cells::J4 cl) (Bo (q x))) (hn:l.length≤100000):
  a6 Tryz.prog 158 [.lst 2 (l.map Profile.cells), .clo f (J4 cl)] (Bo (l.any q)):=by
 refine oB Tryz.func158 Tryz.ntmps158 Tryz.results158 ?_;refine aW ?_;refine aW ?_ fun K hK=>by simp -dsimp;refine cI (a3C l f cl q h hn) ?_;simp -dsimp;exact hK
 exact a9 (by simp[Q6])
theorem b6M (n:Node):a6 Tryz.prog 111 [.agg n.cells] (Bo (!B5 n)):=by
 refine oB Tryz.func111 Tryz.ntmps111 Tryz.results111 ?_;refine aW ?_;refine aW ?_ fun K hK=>by simp -dsimp;refine cI (c0G n) ?_;simp -dsimp;exact hK
 exact a9 (by simp)
theorem b5U (p:Plan) (r:Rail) (hA:p.Nodes.all B5=true) (hN:p.Nodes.length≤300):a6 Tryz.prog 114 [.agg r.cells, .iptr p.cells] (Bo (!C9 p r)):=by
 refine oB Tryz.func114 Tryz.ntmps114 Tryz.results114 ?_;refine aW ?_;refine aW ?_ fun K hK=>by simp -dsimp;refine cI (b9T p r hA hN) ?_;simp -dsimp;exact hK
 exact a9 (by simp)
end Go.Tram
end
section
namespace Go.Tram
open Go.AM Go.Proofs
def a1W (e:D7):List KC:=[.i .i64 e.Rail, .b e.Last]
theorem a1f {a b:D7}:a1W a=a1W b↔a=b:=by
 cases a;cases b;simp[a1W]
def a2O (l:List (Nat×D7)):List (List KC×Value):=l.map fun x=>(a1W x.2,Value.bool true)
theorem a5g (e:D7):∀l:List (Nat×D7),o7 (a2O l) [.i .i64 e.Rail, .b e.Last]=if e∈l.map (·.2)then some (.bool true)else none
 |[]=>by simp[a2O,o7]
 |x::l=>by
  have ih:=a5g e l;have hk:([.i .i64 e.Rail, .b e.Last]:List KC)=a1W x.2↔e=x.2:=a1f (a:=e);simp only[a2O,List.map_cons,o7,List.mem_cons]at ih ⊢
  by_cases h:e=x.2
  ·rw[if_pos (hk.2 h),if_pos (Or.inl h)]
  ·rw[if_neg (fun q=>h (hk.1 q)),ih];simp only[h,false_or]
theorem a5F {e:D7} {i:Nat}:∀{l:List (Nat×D7)},e∉l.map (·.2)→I9 (a2O l) [.i .i64 e.Rail, .b e.Last] (.bool true)=a2O (l++[(i,e)])
 |[],_=>by simp[a2O,I9,a1W]
 |x::l,h=>by
  simp only[List.map_cons,List.mem_cons,not_or]at h;have ih:=a5F (i:=i) h.2;have hk:([.i .i64 e.Rail, .b e.Last]:List KC)=a1W x.2↔e=x.2:=a1f (a:=e);simp only[a2O,List.map_cons,I9,List.cons_append]at ih ⊢;rw[if_neg (fun q=>h.1 (hk.1 q)),ih]
theorem a0A (p:Plan):a6 Tryz.prog 67 [p.av] (I (if d7 p then 0 else 2)):=by
 refine oB Tryz.func67 Tryz.ntmps67 Tryz.results67 ?_;refine aW ?_;refine a5 fun K1 hK1=>?_;refine aW ?_ fun K hK=>by simp -dsimp;refine cI (C5 _ _ _) ?_;simp -dsimp;refine cY (fun hm=>C5 _ _ _) ?_;simp -dsimp;exact hK
 refine a8 rfl (fun hc0=>?_) (fun hc0=>?_)
 ·skip
  try simp at hc0
  have hv:d7 p=false:=by simp[d7,a0n];intro h1 h2;simp_all
  refine aW ?_;exact a9 (by simp[hv])
 ·skip
  try simp at hc0
  have hN:=g8.1 hc0.1;have hR:=g8.1 hc0.2;refine b8 ?_;refine zQ (hK1 _ _ ?_);refine aP [1] ?_;refine a5 fun K2 hK2=>?_;refine aW ?_ fun K hK=>by simp -dsimp;refine cI (a9p p.Nodes 111 [] (fun n=> !B5 n) (fun n _=>b6M n) (by omega)) ?_;simp -dsimp;refine cY (fun hm=>a9C p.Rails 114 [p.cells] (fun r=> !C9 p r) (fun r _=>b5U p r (by simp at hm;exact List.all_eq_true.2 hm) (by omega)) (by omega)) ?_;simp -dsimp;exact hK
  refine a8 rfl (fun hc1=>?_) (fun hc1=>?_)
  ·have hv:d7 p=false:=by
    cases hq:d7 p with
    |false=>rfl
    |true=>
     obtain⟨_,_,hA,hB,_⟩:=n5 hq;rw[List.all_eq_true]at hA hB;have e1:(p.Nodes.any fun n=> !B5 n)=false:=by rw[List.any_eq_false];intro x hx;simp[hA x hx]
     have e2:(p.Rails.any fun r=> !C9 p r)=false:=by rw[List.any_eq_false];intro x hx;simp[hB x hx]
     simp[e1,e2]at hc1
   refine aW ?_;exact a9 (by simp[hv])
  ·have hA:p.Nodes.all B5=true:=by simp at hc1;exact List.all_eq_true.2 hc1.1
   have hB:p.Rails.all (C9 p)=true:=by simp at hc1;exact List.all_eq_true.2 hc1.2
   refine b8 ?_;refine zQ (hK2 _ _ ?_);refine aP [1] ?_;refine aW ?_;refine a5 fun K3 hK3=>?_;refine aW ?_;refine b9 ?_;refine aP [1,3,31,32,33] ?_;refine c7 [1,3,31,32] (α:=Nat) (fun i=>[(33,I i)]) (fun i=>[some (.els 2 [p.cells]),some (.map true [.i .i64, .b] (a2O (q9 p i)))]) (fun i=>i≤p.Nodes.length∧(q9 p i).all (endB p)=true∧((q9 p i).map (·.2)).Nodup) (fun i=>p.Nodes.length-i) 0 ?_ ?_ ?_
   ·simp[q9]
   ·exact c9 (by simp[q9,a2O])
   rintro i ⟨i1,i2,i3⟩;refine zN ?_;refine aW ?_;refine a5 fun K4 hK4=>?_;refine a8 rfl (fun hc2=>?_) (fun hc2=>?_)
   ·skip
    try simp at hc2
    have n0:=p.node_get (i:=(i:Int)) (by omega) (by omega);simp only[Int.toNat_natCast]at n0;have wi:=zW i (by omega);have wr:IntKind.i64.wrap ((p.Rails.length:Int)-1)=(p.Rails.length:Int)-1:=c4 (by omega) (by omega);have hle:=W6 (B8 hA (i:=(i:Int)) (by omega) (by omega));refine b8 ?_;refine zQ (hK4 _ _ ?_);refine aP [1,3,31,32,33] ?_;refine a5 fun K5 hK5=>?_;refine b9 ?_;refine aW ?_ fun K hK=>by simp -dsimp [n0];exact hK
    refine aW ?_;refine b9 ?_;refine aP [1,3,4,31,32,33,39,40,41] ?_;refine c7 [1,3,4,31,32,33,39,40] (α:=Nat) (fun j=>[(41,I j)]) (fun j=>[some (.els 2 [p.cells]),some (.map true [.i .i64, .b] (a2O (a0m p i j)))]) (fun j=>j≤(p.node i).Ends.length∧(a0m p i j).all (endB p)=true∧((a0m p i j).map (·.2)).Nodup) (fun j=>(p.node i).Ends.length-j) 0 ?_ ?_ ?_
    ·rw[a1e];exact⟨by omega,i2,i3⟩
    ·simp only[a1e];exact aB [some 0,some 1]
    rintro j ⟨j1,j2,j3⟩;refine zN ?_;refine aW ?_;refine a5 fun K6 hK6=>?_;refine a8 rfl (fun hc3=>?_) (fun hc3=>?_)
    ·skip
     try simp at hc3
     obtain⟨e,he⟩:∃e,(p.node i).Ends[j]?=some e:=⟨_,List.getElem?_eq_getElem hc3⟩;have wj:=zW j (by omega);refine b8 ?_;refine zQ (hK6 _ _ ?_);refine aP [1,3,4,31,32,33,39,40,41] ?_;refine a5 fun K7 hK7=>?_;refine b9 ?_;refine aW ?_ fun K hK=>by simp -dsimp [he];exact hK
     refine a5 fun K8 hK8=>?_;refine aS fun K hK=>?_;simp -dsimp [wr];refine cI (C5 _ _ _) ?_;simp -dsimp [wr];refine d6 (Bo (decide (e∈(a0m p i j).map (·.2)))) (fun hm=>by rw[a5g];split<;>simp_all) ?_
     simp -dsimp [wr];refine cY (fun hm=>a6K p e (by simp[g8]at hm;omega) (by simp[g8]at hm;omega)) ?_;simp -dsimp [wr];apply hK;clear hK K;refine a8 rfl (fun hc4=>?_) (fun hc4=>?_)
     ·have hv:d7 p=false:=by
       by_cases hb:endB p (i,e)=true
       ·have hb':=hb;simp only[endB,Bool.and_eq_true,decide_eq_true_eq]at hb';simp[hb'.1,hb'.2]at hc4;obtain⟨a,ha⟩:=hc4;obtain⟨m,hm⟩:=List.getElem?_of_mem ha;exact W7 hc2 he hm rfl
       ·exact a2t hc2 he (by simpa using hb)
      refine aW ?_;exact a9 (by simp[hv])
     ·have hc4':inr e.Rail 0 (p.Rails.length-1)=true∧e∉ (a0m p i j).map (·.2)∧p.at e=(i:Int):=by simp at hc4;simp;grind
      obtain⟨q1,q2,q3⟩:=hc4';have p6:=a5F (i:=i) q2;refine b8 ?_;refine zQ (hK8 _ _ ?_);refine aP [1,3,4,7,31,32,33,39,40,41] ?_;refine aV ?_ fun K hK=>by simp -dsimp [p6];exact hK
      refine zQ (hK7 _ _ ?_);refine aP [1,3,4,31,32,33,39,40,41] ?_;refine aV ?_ fun K hK=>by simp -dsimp [wj];exact hK
      refine zQ ?_;refine⟨j+1,⟨by omega,?_,?_⟩,by omega,d9 [some 0,some 1] rfl (by simp) (by simp[N9 he])⟩
      ·rw[N9 he,List.all_append,j2];simp[endB,q1,q3]
      ·rw[N9 he,List.map_append,List.nodup_append];refine⟨j3,by simp,?_⟩;intro a ha b hb;simp only[List.map_cons,List.map_nil,List.mem_singleton]at hb;subst hb;intro hab;exact q2 (hab▸ha)
    ·skip
     try simp at hc3
     have hce:=b0N (p:=p) (i:=i) (j:=j) (by omega);refine d4 ?_;refine zQ (hK5 _ _ ?_);refine aP [1,3,31,32,33] ?_;refine aV ?_ fun K hK=>by simp -dsimp [wi];exact hK
     refine zQ ?_;exact⟨i+1,⟨by omega,by rw[←hce];exact j2,by rw[←hce];exact j3⟩,by omega,by simp only[←hce];exact c9 (by simp)⟩
   ·skip
    try simp at hc2
    have hii:i=p.Nodes.length:=by omega
    subst hii;have hle:=Z5 hA p.Nodes.length (Nat.le_refl _);have w2:IntKind.i64.wrap (2*(p.Rails.length:Int))=2*(p.Rails.length:Int):=c4 (by omega) (by omega);have hsl:(a2O (q9 p p.Nodes.length)).length=(q9 p p.Nodes.length).length:=by simp[a2O]
    refine d4 ?_;refine zQ (hK3 _ _ ?_);refine aP [1,3] ?_;refine a5 fun K9 hK9=>?_;refine aW ?_ fun K hK=>by simp -dsimp [w2,hsl];exact hK
    refine a8 rfl (fun hc5=>?_) (fun hc5=>?_)
    ·have hv:d7 p=decide ((q9 p p.Nodes.length).length=2*p.Rails.length):=by simp[d7,a0n,a0v,hc0,hA,hB,i2,i3]
     try simp at hc5
     refine aW ?_;exact a9 (by simp[hv];omega)
    ·have hv:d7 p=decide ((q9 p p.Nodes.length).length=2*p.Rails.length):=by simp[d7,a0n,a0v,hc0,hA,hB,i2,i3]
     try simp at hc5
     refine b8 ?_;refine zQ (hK9 _ _ ?_);refine aP [] ?_;refine aW ?_;exact a9 (by simp[hv];omega)
end Go.Tram
end
section
namespace Go.Tram
open Go.AM Go.Proofs
def b5t (kvs:List (List KC×Value)) (es:List D7):Nat→List (List KC×Value)
 |0=>kvs
 |j+1=>I9 (b5t kvs es j) (a1W (es[j]?.getD default)) (.int .i64 j)
def F3 (p:Plan):Nat→List (List KC×Value)
 |0=>[]
 |i+1=>b5t (F3 p i) (p.node i).Ends (p.node i).Ends.length
def I0 (p:Plan) (n:Nat):List (List AV):=(List.range n).map fun(r:Nat)=>[I (p.len r)]
def net (p:Plan):List AV:=p.cells++[.lst 1 (I0 p p.Rails.length), .mpc true [.i .i64, .b] (F3 p p.Nodes.length)]
theorem b4y (p:Plan) (n:Nat):(I0 p n).length=n:=by simp[I0]
theorem b1C (p:Plan) (n:Nat):I0 p (n+1)=I0 p n++[[I (p.len n)]]:=by simp[I0,List.range_succ]
theorem b5n {p:Plan} {n k:Nat} (h:k<n):(I0 p n)[k]?=some [I (p.len k)]:=by simp[I0,h]
theorem a0L (p:Plan) (n:Nat) (g:List (Option Nat)):(I0 p n).map (fun e=>e.map (o4 g 3))=I0 p n:=by unfold I0;rw[List.map_map];exact List.map_congr_left fun s _=>rfl
theorem b4H (p:Plan) (n m:Nat) (H:Hp):(I0 p n).map (fun e=>e.map (I6 H (m+1)))=I0 p n:=by unfold I0;rw[List.map_map];exact List.map_congr_left fun s _=>rfl
theorem b5w (p:Plan) (r:Int) (ro:X7 p r):a6 Tryz.prog 150 [p.av,(p.rail r).av] (.lst 2 ((p.line r).map Spot.cells)):=
 b4p p (p.rail r) ro.f ro.t (by have:=ro.s;omega)
theorem c_open_f (p:Plan) (h:d7 p=false):a6 Tryz.prog 128 [p.av] (.tup [.v (.pointer none),Bo false]):=by
 have hc:=a0A p;rw[h]at hc;refine oB Tryz.func128 Tryz.ntmps128 Tryz.results128 ?_;refine aW ?_;refine a5 fun K1 hK1=>?_;refine aW ?_ fun K hK=>by simp -dsimp;refine cI (hc) ?_;simp -dsimp;exact hK
 refine a8 rfl (fun hc0=>?_) (fun hc0=>?_)
 ·refine aW ?_;exact a9 (by simp)
 ·simp at hc0
theorem a0c (p:Plan) (h:d7 p=true):a6 Tryz.prog 128 [p.av] (.tup [.iptr (net p),Bo true]):=by
 have hck:=a0A p;rw[h]at hck;obtain⟨hN,hR,hA,hB,_⟩:=n5 h;refine oB Tryz.func128 Tryz.ntmps128 Tryz.results128 ?_;refine aW ?_;refine a5 fun K1 hK1=>?_;refine aW ?_ fun K hK=>by simp -dsimp;refine cI (hck) ?_;simp -dsimp;exact hK
 refine a8 rfl (fun hc0=>?_) (fun hc0=>?_)
 ·simp at hc0
 ·refine b8 ?_;refine zQ (hK1 _ _ ?_);refine aP [1] ?_;refine aW ?_;refine a5 fun K2 hK2=>?_;refine aW ?_;refine b9 ?_;refine aP [1,4,22,23,24] ?_;refine c7 [1,4,22,23] (α:=Nat) (fun k=>[(24,I k)]) (fun k=>[some (.els 2 [p.cells]),some (.map true [.i .i64, .b] []),some (.els 4 [p.cells++[.row 3 0 (I0 p k).length, .mp 1]]),some (.els 1 (I0 p k))]) (fun k=>k≤p.Rails.length) (fun k=>p.Rails.length-k) 0 ?_ ?_ ?_
  ·simp
  ·exact(a3j 2 0 2 1 (es:=[p.cells++[.v (.slice none 0 0), .mp 1]]) (e:=p.cells++[.v (.slice none 0 0), .mp 1]) (by simp) (by simp) (by simp)).trans (c9 (by simp[I0]))
  rintro k k1;refine zN ?_;refine aW ?_;refine a5 fun K3 hK3=>?_;refine a8 rfl (fun hc1=>?_) (fun hc1=>?_)
  ·skip
   try simp at hc1
   have g0:=p.rail_get (i:=(k:Int)) (by omega) (by omega);simp only[Int.toNat_natCast]at g0;have ro:=N5 h (r:=(k:Int)) (by omega) (by omega);have hl:=ro.len;have hs30:=ro.s;have wk:=zW k (by omega);have f1:P4 (k+1) 9:=l9 (by omega) (by omega);have hll:=b4y p k;have htk:(I0 p k).take k=I0 p k:=List.take_of_length_le (by omega);refine b8 ?_;refine zQ (hK3 _ _ ?_);refine aP [1,4,22,23,24] ?_;refine a5 fun K4 hK4=>?_;refine b9 ?_;refine aW ?_ fun K hK=>by simp -dsimp [g0];exact hK
   refine aW ?_ fun K hK=>by simp -dsimp;refine cI (b5w p k ro) ?_;simp -dsimp;exact hK
   refine aW ?_;refine a5 fun K5 hK5=>?_;refine aW ?_;refine b9 ?_;refine aP [1,4,7,8,9,22,23,24] ?_;refine c7 [1,4,7,22,23,24] (α:=Nat) (fun i=>[(8,I (K0 (p.line k) (i-1))),(9,I i)]) (fun _=>[some (.els 2 [p.cells]),some (.map true [.i .i64, .b] []),some (.els 4 [p.cells++[.row 3 0 (I0 p k).length, .mp 1]]),some (.els 1 (I0 p k))]) (fun i=>1≤i∧i≤(p.line k).length) (fun i=>(p.line k).length-i) 1 ?_ ?_ ?_
   ·omega
   ·exact d9 [some 0,some 1,some 2,some 3] rfl (by simp[K0]) (by simp[a0L])
   rintro i ⟨j1,j2⟩;refine zN ?_;refine a5 fun K6 hK6=>?_;refine aW ?_;refine a8 rfl (fun hc2=>?_) (fun hc2=>?_)
   ·skip
    try simp at hc2
    have wi:IntKind.i64.wrap ((i:Int)-1)=((i-1:Nat):Int):=by rw[c4 (by omega) (by omega)];omega
    have wj:=zW i (by omega);have g1:=y3 (l:=p.line k) (k:=i-1) (by omega);have g2:=y3 (l:=p.line k) (k:=i) (by omega);have q1:=a0U ro (i-1) (by omega);have q2:=c2r (ro.spot (i-1) (by omega)) (ro.spot i (by omega));have wa:IntKind.i64.wrap (K0 (p.line k) (i-1)+far (nth (p.line k) (i-1)) (nth (p.line k) i))=K0 (p.line k) (i-1)+far (nth (p.line k) (i-1)) (nth (p.line k) i):=c4 (by omega) (by omega);refine b8 ?_;refine zQ (hK6 _ _ ?_);refine aP [1,4,7,8,9,22,23,24] ?_;refine a5 fun K7 hK7=>?_;refine b9 ?_;refine aE ?_ fun K hK=>by simp -dsimp [wi,g1,g2,wa];refine cI (b7K (nth (p.line k) (i-1)) (nth (p.line k) i) (ro.spot _ (by omega)) (ro.spot _ (by omega))) ?_;simp -dsimp [wi,g1,g2,wa];exact hK
    refine zQ (hK7 _ _ ?_);refine aP [1,4,7,8,9,22,23,24] ?_;refine aV ?_ fun K hK=>by simp -dsimp [wj];exact hK
    refine zQ ?_;obtain⟨j,rfl⟩:∃j,i=j+1:=⟨i-1,by omega⟩;exact⟨j+2,⟨by omega,by omega⟩,by omega,c9 (by simp[K0,C2]<;>omega)⟩
   ·skip
    try simp at hc2
    have hlen:K0 (p.line k) (i-1)=p.len k:=by unfold Plan.len;congr 1;omega
    refine d4 ?_;refine zQ (hK5 _ _ ?_);refine aP [1,4,8,22,23,24] ?_;refine aV ?_ fun K hK=>by simp -dsimp [hlen,hll,f1];exact hK
    refine zQ (hK4 _ _ ?_);refine aP [1,4,22,23,24] ?_;refine aV ?_ fun K hK=>by simp -dsimp [wk];exact hK
    refine zQ ?_;exact⟨k+1,by omega,by omega,d9 [some 0,some 1,some 2,some 4] rfl (by simp) (by simp[b1C,a0L,hll,htk])⟩
  ·skip
   try simp at hc1
   have hk:k=p.Rails.length:=by omega
   subst hk;refine d4 ?_;refine zQ (hK2 _ _ ?_);refine aP [1,4] ?_;refine a5 fun K8 hK8=>?_;refine aW ?_;refine b9 ?_;refine aP [4,61,62,63] ?_;refine c7 [4,61,62] (α:=Nat) (fun i=>[(63,I i)]) (fun i=>[some (.els 2 [p.cells]),some (.map true [.i .i64, .b] (F3 p i)),some (.els 4 [p.cells++[.row 3 0 (I0 p p.Rails.length).length, .mp 1]]),some (.els 1 (I0 p p.Rails.length))]) (fun i=>i≤p.Nodes.length) (fun i=>p.Nodes.length-i) 0 ?_ ?_ ?_
   ·simp
   ·exact c9 (by simp)
   rintro i i1;refine zN ?_;refine aW ?_;refine a5 fun K9 hK9=>?_;refine a8 rfl (fun hc3=>?_) (fun hc3=>?_)
   ·skip
    try simp at hc3
    have n0:=p.node_get (i:=(i:Int)) (by omega) (by omega);simp only[Int.toNat_natCast]at n0;have wi:=zW i (by omega);have hle:=W6 (B8 hA (i:=(i:Int)) (by omega) (by omega));refine b8 ?_;refine zQ (hK9 _ _ ?_);refine aP [4,61,62,63] ?_;refine a5 fun K10 hK10=>?_;refine b9 ?_;refine aW ?_ fun K hK=>by simp -dsimp [n0];exact hK
    refine aW ?_;refine b9 ?_;refine aP [4,61,62,63,68,69,70] ?_;refine c7 [4,61,62,63,68,69] (α:=Nat) (fun j=>[(70,I j)]) (fun j=>[some (.els 2 [p.cells]),some (.map true [.i .i64, .b] (b5t (F3 p i) (p.node i).Ends j)),some (.els 4 [p.cells++[.row 3 0 (I0 p p.Rails.length).length, .mp 1]]),some (.els 1 (I0 p p.Rails.length))]) (fun j=>j≤(p.node i).Ends.length) (fun j=>(p.node i).Ends.length-j) 0 ?_ ?_ ?_
    ·simp
    ·exact d9 [some 0,some 1,some 2,some 3] rfl (by simp) (by simp[b5t,a0L])
    rintro j j1;refine zN ?_;refine aW ?_;refine a5 fun K11 hK11=>?_;refine a8 rfl (fun hc4=>?_) (fun hc4=>?_)
    ·skip
     try simp at hc4
     obtain⟨e,he⟩:∃e,(p.node i).Ends[j]?=some e:=⟨_,List.getElem?_eq_getElem hc4⟩;have wj:=zW j (by omega);refine b8 ?_;refine zQ (hK11 _ _ ?_);refine aP [4,61,62,63,68,69,70] ?_;refine a5 fun K12 hK12=>?_;refine b9 ?_;refine aW ?_ fun K hK=>by simp -dsimp [he];exact hK
     refine aE ?_;refine zQ (hK12 _ _ ?_);refine aP [4,61,62,63,68,69,70] ?_;refine aV ?_ fun K hK=>by simp -dsimp [wj];exact hK
     refine zQ ?_;exact⟨j+1,by omega,by omega,d9 [some 0,some 1,some 2,some 3] rfl (by simp) (by simp[b5t,he,a1W,a0L])⟩
    ·skip
     try simp at hc4
     have hj:j=(p.node i).Ends.length:=by omega
     subst hj;refine d4 ?_;refine zQ (hK10 _ _ ?_);refine aP [4,61,62,63] ?_;refine aV ?_ fun K hK=>by simp -dsimp [wi];exact hK
     refine zQ ?_;exact⟨i+1,by omega,by omega,c9 (by simp[F3])⟩
   ·skip
    try simp at hc3
    have hi:i=p.Nodes.length:=by omega
    subst hi;refine d4 ?_;refine zQ (hK8 _ _ ?_);refine aP [4] ?_;refine aW ?_;exact a9 (by simp[net,b4H])
theorem a5i (p:Plan) (r:Int) (b:Bool) (h:d7 p=true):a6 Tryz.prog 171 [.iptr (net p), .agg [I r,Bo b]] (Bo (inr r 0 (p.Rails.length-1))):=by
 obtain⟨hN,hR,_⟩:=n5 h;have w:IntKind.i64.wrap ((p.Rails.length:Int)-1)=(p.Rails.length:Int)-1:=c4 (by omega) (by omega);unfold net;refine oB Tryz.func171 Tryz.ntmps171 Tryz.results171 ?_;refine aW ?_;refine aD ?_ fun K hK=>by simp -dsimp [w];refine cI (C5 _ _ _) ?_;simp -dsimp [w];exact hK
 exact a9 (by simp)
theorem c0x (p:Plan) (r:Int) (h:d7 p=true) (h0:0≤r) (h1:r<p.Rails.length):a6 Tryz.prog 152 [p.av,I r] (.tup [.lst 2 ((p.line r).map Spot.cells),I 0]):=by
 have ro:=N5 h h0 h1;have g0:=p.rail_get h0 h1;have hin:inr r 0 (p.Rails.length-1)=true:=g8.2 (by omega);refine oB Tryz.func152 Tryz.ntmps152 Tryz.results152 ?_;refine aW ?_;refine aW ?_ fun K hK=>by simp -dsimp;refine cI (a0c p h) ?_;simp -dsimp;exact hK
 refine a5 fun K1 hK1=>?_;refine aW ?_ fun K hK=>by simp -dsimp;refine cY (fun hm=>a5i p r false h) ?_;simp -dsimp;exact hK
 refine a8 rfl (fun hc0=>?_) (fun hc0=>?_)
 ·simp[hin]at hc0
 ·refine b8 ?_;refine zQ (hK1 _ _ ?_);refine aP [1,2] ?_;refine aD ?_ fun K hK=>by simp -dsimp [g0,h0];refine cI (b5w p r ro) ?_;simp -dsimp [g0,h0];exact hK
  exact a9 (by simp)
end Go.Tram
end
section
namespace Go.Tram
open Go.AM Go.Proofs
@[simp] def vec (a b:Spot):AV:= .agg [I (b.X-a.X),I (b.Y-a.Y)]
theorem z6 {a b:Spot} (ha:j7 a=true) (hb:j7 b=true):(-20000000≤b.X-a.X∧b.X-a.X≤20000000)∧(-20000000≤b.Y-a.Y∧b.Y-a.Y≤20000000):=by
 rw[H9]at ha hb;omega
theorem a1a (a b:Spot) (ha:j7 a=true) (hb:j7 b=true):a6 Tryz.prog 155 [a.av,b.av] (vec a b):=by
 have hd:=z6 ha hb;have w1:IntKind.i64.wrap (b.X-a.X)=b.X-a.X:=c4 (by omega) (by omega);have w2:IntKind.i64.wrap (b.Y-a.Y)=b.Y-a.Y:=c4 (by omega) (by omega);refine oB Tryz.func155 Tryz.ntmps155 Tryz.results155 ?_;refine aW ?_;refine aW ?_ fun K hK=>by simp -dsimp [w1,w2];exact hK
 exact a9 (by simp)
theorem a6V (a b c d:Spot) (ha:j7 a=true) (hb:j7 b=true) (hc:j7 c=true) (hd:j7 d=true):a6 Tryz.prog 157 [vec a b,vec c d] (I (y5 a b c d)):=by
 have h1:=z6 ha hb;have h2:=z6 hc hd;have m1:=x7 (a:=b.X-a.X) (b:=d.X-c.X) (A:=20000000) (B:=20000000) (by omega) (by omega) (by omega) (by omega);have m2:=x7 (a:=b.Y-a.Y) (b:=d.Y-c.Y) (A:=20000000) (B:=20000000) (by omega) (by omega) (by omega) (by omega);have w1:IntKind.i64.wrap ((b.X-a.X)*(d.X-c.X))=(b.X-a.X)*(d.X-c.X):=c4 (by omega) (by omega);have w2:IntKind.i64.wrap ((b.Y-a.Y)*(d.Y-c.Y))=(b.Y-a.Y)*(d.Y-c.Y):=c4 (by omega) (by omega);have w3:IntKind.i64.wrap ((b.X-a.X)*(d.X-c.X)+(b.Y-a.Y)*(d.Y-c.Y))=y5 a b c d:=c4 (by omega) (by omega);refine oB Tryz.func157 Tryz.ntmps157 Tryz.results157 ?_;refine aW ?_;refine aW ?_ fun K hK=>by simp -dsimp [w1,w2,w3];exact hK
 exact a9 (by simp)
theorem a9z (a b c d:Spot) (ha:j7 a=true) (hb:j7 b=true) (hc:j7 c=true) (hd:j7 d=true):a6 Tryz.prog 181 [vec a b,vec c d] (I (j0 a b c d)):=by
 have h1:=z6 ha hb;have h2:=z6 hc hd;have m1:=x7 (a:=b.X-a.X) (b:=d.Y-c.Y) (A:=20000000) (B:=20000000) (by omega) (by omega) (by omega) (by omega);have m2:=x7 (a:=b.Y-a.Y) (b:=d.X-c.X) (A:=20000000) (B:=20000000) (by omega) (by omega) (by omega) (by omega);have w1:IntKind.i64.wrap ((b.X-a.X)*(d.Y-c.Y))=(b.X-a.X)*(d.Y-c.Y):=c4 (by omega) (by omega);have w2:IntKind.i64.wrap ((b.Y-a.Y)*(d.X-c.X))=(b.Y-a.Y)*(d.X-c.X):=c4 (by omega) (by omega);have w3:IntKind.i64.wrap ((b.X-a.X)*(d.Y-c.Y)-(b.Y-a.Y)*(d.X-c.X))=j0 a b c d:=c4 (by omega) (by omega);refine oB Tryz.func181 Tryz.ntmps181 Tryz.results181 ?_;refine aW ?_;refine aW ?_ fun K hK=>by simp -dsimp [w1,w2,w3];exact hK
 exact a9 (by simp)
theorem b1m (a b c d:Spot) (ha:j7 a=true) (hb:j7 b=true) (hc:j7 c=true) (hd:j7 d=true):a6 Tryz.prog 154 [vec a b,vec c d] (Bo (decide (j0 a b c d=0)&&decide (0<y5 a b c d))):=by
 refine oB Tryz.func154 Tryz.ntmps154 Tryz.results154 ?_;refine aW ?_;refine aW ?_ fun K hK=>by simp -dsimp;refine cI (a9z a b c d ha hb hc hd) ?_;simp -dsimp;refine cY (fun hm=>a6V a b c d ha hb hc hd) ?_;simp -dsimp;exact hK
 exact a9 (by simp;rfl)
theorem b2f (B:Int) (f:FuncId) (cl:List (List AV)) (q:Int→Bool) (hB:0≤B) (hB':B≤1000000000) (h:∀x,0≤x→x≤B→a6 Tryz.prog f (I x::J4 cl) (Bo (q x))):
  a6 Tryz.prog 182 [I B, .clo f (J4 cl)] (I (bis q (B+1).toNat 0 (B+1))):=by
 have w0:IntKind.i64.wrap (B+1)=B+1:=c4 (by omega) (by omega);refine oB Tryz.func182 Tryz.ntmps182 Tryz.results182 ?_;refine aW ?_;refine aW ?_ fun K hK=>by simp -dsimp [w0];exact hK
 refine a5 fun K1 hK1=>?_;refine b9 ?_;refine aP [1,5,6] ?_;refine c7 [1] (α:=Int×Int) (fun x=>[(5,I x.1),(6,I x.2)]) (fun x=>[]) (fun x=>0≤x.1∧x.1<x.2∧x.2≤B+1∧bis q (B+1).toNat 0 (B+1)=bis q (B+1).toNat x.1 x.2) (fun x=>(x.2-x.1).toNat) (0,B+1) ?_ ?_ ?_
 ·simp;omega
 ·exact c9 (by simp)
 rintro⟨lo,hi⟩ ⟨i1,i2,i3,i4⟩;simp only[]at i1 i2 i3 i4;have w1:IntKind.i64.wrap (hi-lo)=hi-lo:=c4 (by omega) (by omega);have w2:IntKind.i64.wrap (lo+hi)=lo+hi:=c4 (by omega) (by omega);have w3:(lo+hi).tdiv 2=(lo+hi)/2:=Int.tdiv_eq_ediv_of_nonneg (by omega);have w4:IntKind.i64.wrap ((lo+hi)/2)=(lo+hi)/2:=c4 (by omega) (by omega);refine zN ?_;refine a5 fun K2 hK2=>?_;refine aW ?_ fun K hK=>by simp -dsimp [w1];exact hK
 refine a8 rfl (fun hc0=>?_) (fun hc0=>?_)
 ·skip
  try simp at hc0
  have hstep:bis q (B+1).toNat lo hi=if q ((lo+hi)/2)then bis q (B+1).toNat ((lo+hi)/2) hi else bis q (B+1).toNat lo ((lo+hi)/2):=by
   rw[a6n (B+1).toNat ((B+1).toNat+1) lo hi (by omega) (by omega)]
   conv=>lhs;unfold bis
   rw[if_pos (by omega)]
  refine b8 ?_;refine zQ (hK2 _ _ ?_);refine aP [1,5,6] ?_;refine b9 ?_;refine aW ?_ fun K hK=>by simp -dsimp [w2,w3,w4];exact hK
  refine aW ?_ fun K hK=>by simp -dsimp;refine cI (h ((lo+hi)/2) (by omega) (by omega)) ?_;simp -dsimp;exact hK
  refine a8 rfl (fun hc1=>?_) (fun hc1=>?_)
  ·skip
   try simp at hc1
   have hs2:bis q (B+1).toNat 0 (B+1)=bis q (B+1).toNat ((lo+hi)/2) hi:=by rw[i4,hstep,if_pos hc1]
   refine aV ?_;refine zQ ?_;exact⟨((lo+hi)/2,hi),⟨by simp only[];omega,by simp only[];omega,by simp only[];omega,hs2⟩,by simp only[];omega,c9 (by simp)⟩
  ·skip
   try simp at hc1
   have hs3:bis q (B+1).toNat 0 (B+1)=bis q (B+1).toNat lo ((lo+hi)/2):=by rw[i4,hstep,if_neg (by rw[hc1];simp)]
   refine aV ?_;refine zQ ?_;exact⟨(lo,(lo+hi)/2),⟨by simp only[];omega,by simp only[];omega,by simp only[];omega,hs3⟩,by simp only[];omega,c9 (by simp)⟩
 ·skip
  try simp at hc0
  refine d4 ?_;refine zQ (hK1 _ _ ?_);refine aP [5] ?_;refine aW ?_;refine a9 ?_;have hb:bis q (B+1).toNat 0 (B+1)=lo:=by rw[i4,a5W (by omega)]
  simp[hb]
theorem b9K (x n:Int) (h0:0≤x) (h1:x≤30000000):a6 Tryz.prog 183 [I x, .iptr [I n]] (Bo (decide (x*x≤n))):=by
 have b1:=x7 (a:=x) (b:=x) (A:=30000000) (B:=30000000) (by omega) (by omega) (by omega) (by omega);have w1:IntKind.i64.wrap (x*x)=x*x:=c4 (by omega) (by omega);refine oB Tryz.func183 Tryz.ntmps183 Tryz.results183 ?_;refine aW ?_;refine aW ?_ fun K hK=>by simp -dsimp [w1];exact hK
 exact a9 (by simp)
theorem b8W (n:Int) (h0:0≤n) (h1:n<900000000000000):a6 Tryz.prog 156 [I n] (I (isq n)):=by
 have hq:bis (fun x=>decide (x*x≤n)) (30000000+1:Int).toNat 0 (30000000+1)=isq n:=by
  obtain⟨k1,k2,k3,k4⟩:=a6e (f:=fun x=>decide (x*x≤n)) (30000000+1:Int).toNat 0 (30000000+1) (by omega) (by omega);generalize bis (fun x=>decide (x*x≤n)) (30000000+1:Int).toNat 0 (30000000+1)=r at*
  refine(a9T ⟨k1,?_,?_⟩).symm
  ·rcases k3 with rfl|k3
   ·omega
   ·simpa using k3
  ·rcases k4 with k4|k4
   ·rw[k4];omega
   ·simpa using k4
 refine oB Tryz.func156 Tryz.ntmps156 Tryz.results156 ?_;refine aW ?_;refine aW ?_ fun K hK=>by simp -dsimp;refine cI (b2f 30000000 183 [[I n]] (fun x=>decide (x*x≤n)) (by omega) (by omega) (fun x h0 h1=>b9K x n h0 h1)) ?_;simp -dsimp;exact hK
 have hq':=hq;simp at hq';exact a9 (by simp[hq'])
abbrev U (n:Int):AV:= .v (.int .u64 n)
theorem U4 {n:Int} (h0:0≤n) (h1:n<18446744073709551616):IntKind.u64.wrap n=n:=by rw[IntKind.wrap_u64];omega
theorem b9Z (x y:Int) (hx:0≤x) (hx':x<18446744073709551616) (hy:0≤y) (hy':y<18446744073709551616):
  a6 Tryz.prog 237 [U x,U y] (.tup [U (x*y/18446744073709551616),U (x*y % 18446744073709551616)]):=by
 have hi:=c1N hx hx' hy hy';have hxy:=r8 hx hx' hy hy';have a1:=r8 (a:=x/4294967296) (b:=y/4294967296) (A:=4294967296) (B:=4294967296) (by omega) (by omega) (by omega) (by omega);have a2:=r8 (a:=x/4294967296) (b:=y % 4294967296) (A:=4294967296) (B:=4294967296) (by omega) (by omega) (by omega) (by omega);have a3:=r8 (a:=x % 4294967296) (b:=y/4294967296) (A:=4294967296) (B:=4294967296) (by omega) (by omega) (by omega) (by omega);have a4:=r8 (a:=x % 4294967296) (b:=y % 4294967296) (A:=4294967296) (B:=4294967296) (by omega) (by omega) (by omega) (by omega);have m1:=b4V hx hx';have m2:=b4V hy hy';have wlo:IntKind.u64.wrap (x*y)=x*y % 18446744073709551616:=by rw[IntKind.wrap_u64]
 generalize hp:(x/4294967296)*(y/4294967296)=p at*
 generalize hq:(x/4294967296)*(y % 4294967296)=q at*
 generalize hr:(x % 4294967296)*(y/4294967296)=r at*
 generalize hs:(x % 4294967296)*(y % 4294967296)=s at*
 have w1:IntKind.u64.wrap s=s:=U4 (by omega) (by omega);have w2:IntKind.u64.wrap q=q:=U4 (by omega) (by omega);have w3:IntKind.u64.wrap r=r:=U4 (by omega) (by omega);have w4:IntKind.u64.wrap p=p:=U4 (by omega) (by omega);have w5:IntKind.u64.wrap (q+s/4294967296)=q+s/4294967296:=U4 (by omega) (by omega);have m3:=b4V (m:=q+s/4294967296) (by omega) (by omega);have w6:IntKind.u64.wrap ((q+s/4294967296) % 4294967296+r)=(q+s/4294967296) % 4294967296+r:=U4 (by omega) (by omega);have w7:IntKind.u64.wrap (p+(q+s/4294967296)/4294967296)=p+(q+s/4294967296)/4294967296:=U4 (by omega) (by omega);have w8:IntKind.u64.wrap (p+(q+s/4294967296)/4294967296+((q+s/4294967296) % 4294967296+r)/4294967296)=x*y/18446744073709551616:=by rw[hi];exact U4 (by omega) (by omega)
 have sh:(2:Int)^(Int.toNat 32)=4294967296:=by decide
 refine oB Tryz.func237 Tryz.ntmps237 Tryz.results237 ?_;refine aW ?_ fun K hK=>by simp -dsimp [m1,m2,m3,hp,hq,hr,hs,w1,w2,w3,w4,w5,w6,w7,w8,wlo,IntKind.bits];exact hK
 refine aW ?_ fun K hK=>by simp -dsimp [m1,m2,m3,hp,hq,hr,hs,w1,w2,w3,w4,w5,w6,w7,w8,wlo,IntKind.bits];exact hK
 refine aW ?_ fun K hK=>by simp -dsimp [m1,m2,m3,hp,hq,hr,hs,w1,w2,w3,w4,w5,w6,w7,w8,wlo,IntKind.bits];exact hK
 refine aW ?_ fun K hK=>by simp -dsimp [m1,m2,m3,hp,hq,hr,hs,w1,w2,w3,w4,w5,w6,w7,w8,wlo,IntKind.bits];exact hK
 refine aW ?_ fun K hK=>by simp -dsimp [m1,m2,m3,hp,hq,hr,hs,w1,w2,w3,w4,w5,w6,w7,w8,wlo,IntKind.bits];exact hK
 refine aW ?_ fun K hK=>by simp -dsimp [m1,m2,m3,hp,hq,hr,hs,w1,w2,w3,w4,w5,w6,w7,w8,wlo,IntKind.bits];exact hK
 refine aW ?_ fun K hK=>by simp -dsimp [m1,m2,m3,hp,hq,hr,hs,w1,w2,w3,w4,w5,w6,w7,w8,wlo,IntKind.bits];exact hK
 refine aW ?_ fun K hK=>by simp -dsimp [m1,m2,m3,hp,hq,hr,hs,w1,w2,w3,w4,w5,w6,w7,w8,wlo,IntKind.bits];exact hK
 refine aW ?_ fun K hK=>by simp -dsimp [m1,m2,m3,hp,hq,hr,hs,w1,w2,w3,w4,w5,w6,w7,w8,wlo,IntKind.bits];exact hK
 refine aW ?_ fun K hK=>by simp -dsimp [m1,m2,m3,hp,hq,hr,hs,w1,w2,w3,w4,w5,w6,w7,w8,wlo,IntKind.bits];exact hK
 refine aW ?_ fun K hK=>by simp -dsimp [m1,m2,m3,hp,hq,hr,hs,w1,w2,w3,w4,w5,w6,w7,w8,wlo,IntKind.bits];exact hK
 refine aW ?_ fun K hK=>by simp -dsimp [m1,m2,m3,hp,hq,hr,hs,w1,w2,w3,w4,w5,w6,w7,w8,wlo,IntKind.bits];exact hK
 exact a9 (by simp)
end Go.Tram
end
section
namespace Go.Tram
open Go.AM Go.Proofs
attribute [-simp] b7F b2l
theorem O9 (a b:Int):b7F a b=min a b:=by unfold b7F;split<;>omega
theorem C1 (a b:Int):b2l a b=max a b:=by unfold b2l;split<;>omega
def orI:List Int→Int
 |[]=>0
 |x::r=>if x≠0 then x else orI r
theorem b4M:∀{l:List Int} {k:Nat} {x:Int},l[k]?=some x→x≠0→(l.take k).all (· ==0)=true→orI l=x
 |[],k,x,h,_,_=>by simp at h
 |y::l,0,x,h,hx,_=>by simp at h;subst h;simp[orI,hx]
 |y::l,k+1,x,h,hx,ha=>by
  simp at h ha;unfold orI;rw[if_neg (by simp[ha.1])];exact b4M h hx (by simpa using ha.2)
theorem b1e:∀{l:List Int},l.all (· ==0)=true→orI l=0
 |[],_=>rfl
 |y::l,ha=>by
  simp at ha;unfold orI;rw[if_neg (by simp[ha.1])];exact b1e (by simpa using ha.2)
theorem c5L (l:List Int) (hn:l.length≤1000):a6 Tryz.prog 238 [.full 1 (l.map fun x=>[I x])] (I (orI l)):=by
 refine oB Tryz.func238 Tryz.ntmps238 Tryz.results238 ?_;refine aW ?_;refine aW ?_;refine a5 fun K1 hK1=>?_;refine aW ?_;refine b9 ?_;refine aP [3,6,7,8] ?_;refine c7 [3,6,7] (α:=Nat) (fun k=>[(8,I k)]) (fun _=>[]) (fun k=>k≤l.length∧(l.take k).all (· ==0)=true) (fun k=>l.length-k) 0 ?_ ?_ ?_
 ·simp
 ·exact c9 (by simp)
 rintro k ⟨k1,k2⟩;refine zN ?_;refine aW ?_;refine a5 fun K2 hK2=>?_;refine a8 rfl (fun hc0=>?_) (fun hc0=>?_)
 ·skip
  try simp at hc0
  obtain⟨x,hx⟩:=gx (l:=l) (i:=k) hc0;have wk:=zW k (by omega);refine b8 ?_;refine zQ (hK2 _ _ ?_);refine aP [3,6,7,8] ?_;refine a5 fun K3 hK3=>?_;refine b9 ?_;refine aW ?_ fun K hK=>by simp -dsimp [hx];exact hK
  refine aW ?_;refine a8 rfl (fun hc1=>?_) (fun hc1=>?_)
  ·skip
   try simp at hc1
   have ho:=b4M hx hc1 k2;refine aW ?_;exact a9 (by simp[ho])
  ·skip
   try simp at hc1
   refine b8 ?_;refine zQ (hK3 _ _ ?_);refine aP [3,6,7,8] ?_;refine aV ?_ fun K hK=>by simp -dsimp [wk];exact hK
   refine zQ ?_;exact⟨k+1,⟨by omega,by rw[W8 hx,k2];simp[hc1]⟩,by omega,c9 (by simp)⟩
 ·skip
  try simp at hc0
  have ho:=b1e (R7 (by omega) k2);refine d4 ?_;refine zQ (hK1 _ _ ?_);refine aP [3] ?_;refine aW ?_;exact a9 (by simp[ho])
theorem b5o:(Tryz.prog).underlying 305=some (.int .u64):=by kernel_rfl
theorem b3J (n:Int) (w:World):(convert 3 305 (.int .i64 n)).run Tryz.prog w= .ok (.int .u64 (IntKind.u64.wrap n)) w:=by
 simp[convert,run_underlying a3T,run_underlying b5o,Conv.intToInt]
theorem a7j (a b:Int) (ha:0≤a) (ha':a<9223372036854775808) (hb:0≤b) (hb':b<9223372036854775808):
  a6 Tryz.prog 234 [I a,I b] (.agg [U (a*b/18446744073709551616),U (a*b % 18446744073709551616)]):=by
 have wa:IntKind.u64.wrap a=a:=U4 (by omega) (by omega);have wb:IntKind.u64.wrap b=b:=U4 (by omega) (by omega);refine oB Tryz.func234 Tryz.ntmps234 Tryz.results234 ?_;refine aW ?_;refine aW ?_ fun K hK=>by simp -dsimp;refine⟨_,b3J a,?_⟩;simp -dsimp [wa];refine⟨_,b3J b,?_⟩;simp -dsimp [wb];refine cI (b9Z a b ha (by omega) hb (by omega)) ?_;simp -dsimp;exact hK
 refine aW ?_;exact a9 (by simp)
theorem b2z (p q:Int):a6 Tryz.prog 235 [.agg [U (p/18446744073709551616),U (p % 18446744073709551616)], .agg [U (q/18446744073709551616),U (q % 18446744073709551616)]] (I (L7 p q)):=by
 have ho:orI [L7 (p/18446744073709551616) (q/18446744073709551616),L7 (p % 18446744073709551616) (q % 18446744073709551616)]=L7 p q:=by
  rw[←b3w (p:=p) (q:=q) 18446744073709551616 (by omega)];simp only[orI]
  split
  ·rfl
  ·split
   ·rfl
   ·rename_i h;simp at h;exact h.symm
 have hc:=c5L [L7 (p/18446744073709551616) (q/18446744073709551616),L7 (p % 18446744073709551616) (q % 18446744073709551616)] (by simp);rw[ho]at hc;refine oB Tryz.func235 Tryz.ntmps235 Tryz.results235 ?_;refine aW ?_;refine aD ?_ fun K hK=>by simp -dsimp;refine cI (a4T _ _) ?_;simp -dsimp;refine cI (a4T _ _) ?_;simp -dsimp;refine cI (hc) ?_;simp -dsimp;exact hK
 exact a9 (by simp)
@[simp] def c4s (a b:Spot):List AV:=[I a.X,I a.Y,I b.X,I b.Y]
abbrev seg (a b:Spot):AV:= .agg (c4s a b)
theorem b0I (a b p:Spot) (ha:j7 a=true) (hb:j7 b=true) (hp:j7 p=true):a6 Tryz.prog 236 [seg a b,p.av] (I (I8 a b p)):=by
 refine oB Tryz.func236 Tryz.ntmps236 Tryz.results236 ?_;refine aW ?_;refine aD ?_ fun K hK=>by simp -dsimp;refine cI (a1a a b ha hb) ?_;simp -dsimp;refine cI (a1a a p ha hp) ?_;simp -dsimp;refine cI (a9z a b a p ha hb ha hp) ?_;simp -dsimp;refine cI (a1z _ _) ?_;simp -dsimp;exact hK
 exact a9 (by simp[I8])
theorem b4r (a b c d:Spot) (ha:j7 a=true) (hb:j7 b=true) (hc:j7 c=true) (hd:j7 d=true):a6 Tryz.prog 231 [seg a b,seg c d] (Bo (S5 a b c d)):=by
 have w:∀{x y:Int},-1≤x∧x≤1→ -1≤y∧y≤1→IntKind.i64.wrap (x*y)=x*y:=by
  intro x y hx hy;have:=x7 (a:=x) (b:=y) (A:=1) (B:=1) hx.1 hx.2 hy.1 hy.2;exact c4 (by omega) (by omega)
 have w1:IntKind.i64.wrap (I8 a b c*I8 a b d)=I8 a b c*I8 a b d:=w W0 W0;have w2:IntKind.i64.wrap (I8 c d a*I8 c d b)=I8 c d a*I8 c d b:=w W0 W0;refine oB Tryz.func231 Tryz.ntmps231 Tryz.results231 ?_;refine aW ?_;refine aD ?_ fun K hK=>by simp -dsimp [w1,w2];refine cI (b0I a b c ha hb hc) ?_;simp -dsimp [w1,w2];refine cI (b0I a b d ha hb hd) ?_;simp -dsimp [w1,w2];refine cY (fun hm=>b0I c d a hc hd ha) ?_;simp -dsimp [w1,w2];refine cY (fun hm=>b0I c d b hc hd hb) ?_;simp -dsimp [w1,w2];exact hK
 exact a9 (by simp[S5])
theorem V8 (a b p:Spot) (d:Int) (ha:j7 a=true) (hb:j7 b=true) (hp:j7 p=true) (h0:0≤d) (h1:d≤1000000):a6 Tryz.prog 223 [seg a b,p.av,I d] (I (v9 a b p d)):=by
 have m1:=x7 (a:=d) (b:=d) (A:=1000000) (B:=1000000) (by omega) (by omega) (by omega) (by omega);have hdd:=b1N d;have w1:IntKind.i64.wrap (d*d)=d*d:=c4 (by omega) (by omega);have hl:=a0E ha hb ha hb;have hl0:=a6f a b;have hc:=a7s ha hb ha hp;have w2:IntKind.i64.wrap (0-j0 a b a p)=-j0 a b a p:=by rw[c4 (by omega) (by omega)];omega
 have w2':IntKind.i64.wrap (-j0 a b a p)=-j0 a b a p:=c4 (by omega) (by omega);have hm:max (j0 a b a p) (-j0 a b a p)*max (j0 a b a p) (-j0 a b a p)=j0 a b a p*j0 a b a p:=by
  rcases Int.le_total (j0 a b a p) (-j0 a b a p)with h|h
  ·rw[Int.max_eq_right h,Int.neg_mul_neg]
  ·rw[Int.max_eq_left h]
 refine oB Tryz.func223 Tryz.ntmps223 Tryz.results223 ?_;refine aW ?_;refine aD ?_ fun K hK=>by simp -dsimp;refine cI (a1a a b ha hb) ?_;simp -dsimp;refine cI (a1a a p ha hp) ?_;simp -dsimp;exact hK
 refine aW ?_ fun K hK=>by simp -dsimp;refine cI (a6V a b a p ha hb ha hp) ?_;simp -dsimp;exact hK
 refine a5 fun K1 hK1=>?_;refine b9 ?_;refine aW ?_;refine a8 rfl (fun hc0=>?_) (fun hc0=>?_)
 ·skip
  try simp at hc0
  refine aW ?_ fun K hK=>by simp -dsimp [w1];refine cI (a6V a p a p ha hp ha hp) ?_;simp -dsimp [w1];refine cI (a1z _ _) ?_;simp -dsimp [w1];exact hK
  exact a9 (by simp[v9,hc0])
 ·skip
  try simp at hc0
  have hc0':¬y5 a b a p≤0:=by omega
  refine aW ?_ fun K hK=>by simp -dsimp;refine cI (a6V a b a b ha hb ha hb) ?_;simp -dsimp;exact hK
  refine a8 rfl (fun hc1=>?_) (fun hc1=>?_)
  ·skip
   try simp at hc1
   refine aW ?_ fun K hK=>by simp -dsimp;refine cI (a1a b p hb hp) ?_;simp -dsimp;exact hK
   refine aW ?_ fun K hK=>by simp -dsimp [w1];refine cI (a6V b p b p hb hp hb hp) ?_;simp -dsimp [w1];refine cI (a1z _ _) ?_;simp -dsimp [w1];exact hK
   exact a9 (by simp[v9,hc0',hc1])
  ·skip
   try simp at hc1
   have hc1':¬y5 a b a b≤y5 a b a p:=by omega
   refine b8 ?_;refine zQ (hK1 _ _ ?_);refine aP [2,7,8] ?_;refine aW ?_ fun K hK=>by simp -dsimp;refine cI (a9z a b a p ha hb ha hp) ?_;simp -dsimp;exact hK
   refine aW ?_ fun K hK=>by simp -dsimp [w2,w2',C1];exact hK
   refine aD ?_ fun K hK=>by simp -dsimp [w1];refine cI (a7j (max (j0 a b a p) (-j0 a b a p)) (max (j0 a b a p) (-j0 a b a p)) (by omega) (by omega) (by omega) (by omega)) ?_;simp -dsimp [w1];refine cI (a6V a b a b ha hb ha hb) ?_;simp -dsimp [w1];refine cI (a7j (d*d) (y5 a b a b) hdd (by omega) hl0 (by omega)) ?_;simp -dsimp [w1];refine cI (b2z _ _) ?_;simp -dsimp [w1];exact hK
   exact a9 (by simp[v9,hc0',hc1',hm])
theorem c0T (a b c d:Spot) (r:Int) (ha:j7 a=true) (hb:j7 b=true) (hc:j7 c=true) (hd:j7 d=true) (h0:0≤r) (h1:r≤1000000):a6 Tryz.prog 220 [seg a b,seg c d,I r] (I (apart a b c d r)):=by
 refine oB Tryz.func220 Tryz.ntmps220 Tryz.results220 ?_;refine aW ?_;refine a5 fun K1 hK1=>?_;refine aW ?_ fun K hK=>by simp -dsimp;refine cI (b4r a b c d ha hb hc hd) ?_;simp -dsimp;exact hK
 refine a8 rfl (fun hc0=>?_) (fun hc0=>?_)
 ·skip
  try simp at hc0
  refine aW ?_ fun K hK=>by simp -dsimp;refine cI (a1z _ _) ?_;simp -dsimp;exact hK
  exact a9 (by simp[apart,hc0])
 ·skip
  try simp at hc0
  refine b8 ?_;refine zQ (hK1 _ _ ?_);refine aP [2,3,4] ?_;refine aD ?_ fun K hK=>by simp -dsimp [O9];refine cI (V8 a b c r ha hb hc h0 h1) ?_;simp -dsimp [O9];refine cI (V8 a b d r ha hb hd h0 h1) ?_;simp -dsimp [O9];refine cI (V8 c d a r hc hd ha h0 h1) ?_;simp -dsimp [O9];refine cI (V8 c d b r hc hd hb h0 h1) ?_;simp -dsimp [O9];exact hK
  exact a9 (by simp[apart,hc0,c1e])
end Go.Tram
end
section
namespace Go.Tram
open Go.AM Go.Proofs
theorem b4j {nt:Nat} {T:Tm} {H:Hp} (g:List (Option Nat)) (hn:J3 g=true):Go.AM.Sub nt T H (T.map fun p=>(p.1,V5 (g6 H) g 3 (Go.AM.i7 T p.1))) (a1w H g):=by
 refine a9X g hn ?_ rfl;have gen:∀l:Tm,a4q H g T (l.map fun p=>(p.1,V5 (g6 H) g 3 (Go.AM.i7 T p.1))):=by
  intro l
  induction l with
  |nil=>trivial
  |cons x l ih=>exact⟨Or.inr rfl,ih⟩
 exact gen T
def S2:AV→Bool
 | .v _=>true
 | .lst _ _=>true
 | .full _ _=>true
 | .iptr _=>true
 |_=>false
theorem N0 {x:AV} (h:S2 x=true) (g:List (Option Nat)) (n:Nat):o4 g n x=x:=by cases x<;>first|(cases n<;>rfl)|cases h
theorem a1Q {x:AV} (h:S2 x=true) (H:Nat→Option k7) (g:List (Option Nat)) (n:Nat):V5 H g n x=x:=by cases x<;>first|(cases n<;>rfl)|cases h
theorem Q4 {x:AV} (h:S2 x=true) (H:Hp) (n:Nat):I6 H n x=x:=by cases x<;>first|(cases n<;>rfl)|cases h
theorem x6 {f:AV→AV} (hf:∀x,S2 x=true→f x=x) {es:List (List AV)} (h:es.all (fun e=>e.all S2)=true):es.map (fun e=>e.map f)=es:=by
 have:es.map (fun e=>e.map f)=es.map id:=by
  refine List.map_congr_left fun e he=>?_;have he':=List.all_eq_true.1 h e he;have:e.map f=e.map id:=List.map_congr_left fun x hx=>hf x (List.all_eq_true.1 he' x hx);simpa using this
 simpa using this
theorem a4Y (l:List Spot):(l.map Spot.cells).all (fun e=>e.all S2)=true:=by simp[S2]
theorem b2U (l:List SS):(l.map SS.cells).all (fun e=>e.all S2)=true:=by simp[S2]
theorem a2l (p:Plan) (n:Nat):(j5 p n).all (fun e=>e.all S2)=true:=by simp[j5,S2]
@[simp high] theorem b5B (l:List Spot) (g:List (Option Nat)) (n:Nat):(l.map Spot.cells).map (fun e=>e.map (o4 g n))=l.map Spot.cells:=x6 (fun x h=>N0 h g n) (a4Y l)
@[simp high] theorem b5p (l:List Spot) (H:Hp) (n:Nat):(l.map Spot.cells).map (fun e=>e.map (I6 H n))=l.map Spot.cells:=x6 (fun x h=>Q4 h H n) (a4Y l)
@[simp high] theorem c0l (l:List SS) (g:List (Option Nat)) (n:Nat):(l.map SS.cells).map (fun e=>e.map (o4 g n))=l.map SS.cells:=x6 (fun x h=>N0 h g n) (b2U l)
@[simp high] theorem b8l (l:List SS) (H:Nat→Option k7) (g:List (Option Nat)) (n:Nat):(l.map SS.cells).map (fun e=>e.map (V5 H g n))=l.map SS.cells:=x6 (fun x h=>a1Q h H g n) (b2U l)
@[simp high] theorem c1v (p:Plan) (k:Nat) (g:List (Option Nat)) (n:Nat):(j5 p k).map (fun e=>e.map (o4 g n))=j5 p k:=x6 (fun x h=>N0 h g n) (a2l p k)
@[simp high] theorem c1b (p:Plan) (k:Nat) (H:Nat→Option k7) (g:List (Option Nat)) (n:Nat):(j5 p k).map (fun e=>e.map (V5 H g n))=j5 p k:=x6 (fun x h=>a1Q h H g n) (a2l p k)
@[simp high] theorem c1l (p:Plan) (k:Nat) (H:Hp) (n:Nat):(j5 p k).map (fun e=>e.map (I6 H n))=j5 p k:=x6 (fun x h=>Q4 h H n) (a2l p k)
theorem a5S (p:Plan) (n:Nat):(j5 p n).length=n:=by simp[j5]
theorem a4L (p:Plan) (n:Nat):j5 p (n+1)=j5 p n++[[.lst 9 ((p.strips (n:Int)).map SS.cells)]]:=by simp[j5,List.range_succ]
theorem a6M {p:Plan} {n k:Nat} (h:k<n):(j5 p n)[k]?=some [.lst 9 ((p.strips (k:Int)).map SS.cells)]:=by simp[j5,h]
theorem a2I (l:List Spot) (r:Int) (n:Nat):(z4 l r n).length=n:=by simp[z4]
theorem a6h (l:List Spot) (r:Int) (n:Nat):z4 l r (n+1)=z4 l r n++[n8 l r n]:=by simp[z4,List.range_succ]
def C8 (l:List Spot) (j m:Nat):List Spot:=(List.range m).flatMap fun i=>I3 l (j+i)
theorem T9 (l:List Spot) (j m:Nat):C8 l j (m+1)=C8 l j m++I3 l (j+m):=by simp[C8,List.range_succ]
theorem a1M (l:List Spot) (j:Nat):∀m,(C8 l j m).length≤m
 |0=>by simp[C8]
 |m+1=>by
  have h1:=a1M l j m;have h2:=a1i l (j+m);rw[T9,List.length_append];omega
theorem U0 (l:List Spot) (j m:Nat):((C8 l j m).map Spot.cells).take (C8 l j m).length=(C8 l j m).map Spot.cells:=List.take_of_length_le (by simp)
theorem a0X (l:List Spot) (r:Int) (n:Nat):((z4 l r n).map SS.cells).take n=(z4 l r n).map SS.cells:=List.take_of_length_le (by simp[z4])
theorem a5N (l:List Spot) (j:Nat):C8 l j 2=I3 l j++I3 l (j+1):=by simp[C8,List.range_succ]
theorem c1M (l:List Spot) (k:Nat) (hk:k<l.length) (hl:l.length≤1000) (hs:l.all j7=true):a6 Tryz.prog 153 [I k, .iptr [.lst 2 (l.map Spot.cells)]] (Bo (a7e l k)):=by
 have hb:∀i,i<l.length→j7 (nth l i)=true:=fun i hi=>List.all_eq_true.1 hs _ (List.mem_of_getElem? (y3 hi));have w1:IntKind.i64.wrap ((l.length:Int)-1)=(l.length:Int)-1:=c4 (by omega) (by omega);have w2:0<k→IntKind.i64.wrap ((k:Int)-1)=((k-1:Nat):Int):=fun h=>by rw[c4 (by omega) (by omega)];omega
 have w3:IntKind.i64.wrap ((k:Int)+1)=((k+1:Nat):Int):=by rw[c4 (by omega) (by omega)];omega
 have g0:(l.map Spot.cells)[k-1]?=some (nth l (k-1)).cells:=by rw[List.getElem?_map,y3 (by omega)];rfl
 have g1:(l.map Spot.cells)[k]?=some (nth l k).cells:=by rw[List.getElem?_map,y3 hk];rfl
 have g2:k+1<l.length→(l.map Spot.cells)[k+1]?=some (nth l (k+1)).cells:=fun h=>by rw[List.getElem?_map,y3 h];rfl
 refine oB Tryz.func153 Tryz.ntmps153 Tryz.results153 ?_;refine aW ?_;refine b5l a2g rfl fun K hK=>?_;simp -dsimp [w1,w3];refine⟨by intros;rw[w2 (by omega)];omega,s7 (nth l (k-1)).cells (fun hm=>by simp at hm;rw[w2 hm.1];exact g0) ?_⟩;simp -dsimp [w3];refine s7 (nth l k).cells (fun _=>g1) ?_;simp -dsimp [w1,w3];refine cY (fun hm=>a1a (nth l (k-1)) (nth l k) (hb _ (by omega)) (hb _ (by omega))) ?_;simp -dsimp [w1,w3];refine s7 (nth l k).cells (fun _=>g1) ?_;simp -dsimp [w1,w3];refine⟨by intros;omega,s7 (nth l (k+1)).cells (fun hm=>by simp at hm;exact g2 (by omega)) ?_⟩;simp -dsimp;refine cY (fun hm=>a1a (nth l k) (nth l (k+1)) (hb _ (by omega)) (hb _ (by simp at hm;omega))) ?_;simp -dsimp [w1,w3];refine cY (fun hm=>b1m (nth l (k-1)) (nth l k) (nth l k) (nth l (k+1)) (hb _ (by omega)) (hb _ (by omega)) (hb _ (by omega)) (hb _ (by simp at hm;omega))) ?_;simp -dsimp [w1,w3];refine hK _ _ _ (by decide+kernel) ?_;clear hK K;have hdec:decide ((k:Int)<(l.length:Int)-1)=decide (k+1<l.length):=decide_eq_decide.2 (by omega);refine a9 ?_;simp[a7e,P8,hdec,Bool.and_assoc]
theorem b4Z (p:Plan) (h:d7 p=true):a6 Tryz.prog 117 [p.av] (.tup [.iptr (a2S p),Bo true]):=by
 have hck:=a0A p;rw[h]at hck;obtain⟨hN,hR,hA,hB,_⟩:=n5 h;refine oB Tryz.func117 Tryz.ntmps117 Tryz.results117 ?_;refine aW ?_;refine a5 fun K1 hK1=>?_;refine aW ?_ fun K hK=>by simp -dsimp;refine cI (hck) ?_;simp -dsimp;exact hK
 refine a8 rfl (fun hc0=>?_) (fun hc0=>?_)
 ·simp at hc0
 ·refine b8 ?_;refine zQ (hK1 _ _ ?_);refine aP [1] ?_;refine aW ?_;refine a5 fun K2 hK2=>?_;refine aW ?_;refine b9 ?_;refine aP [1,4,24,25] ?_;refine c7 [1,4,24] (α:=Nat) (fun k=>[(25,I k)]) (fun k=>[some (.els 2 [p.cells]),some (.els 3 [p.cells++[.row 2 0 (j5 p k).length]]),some (.els 1 (j5 p k))]) (fun k=>k≤p.Rails.length) (fun k=>p.Rails.length-k) 0 ?_ ?_ ?_
  ·simp
  ·exact(a3j 1 0 2 1 (es:=[p.cells++[.v (.slice none 0 0)]]) (e:=p.cells++[.v (.slice none 0 0)]) (by simp) (by simp) (by simp)).trans (c9 (by simp[j5]))
  rintro k k1;refine zN ?_;refine aW ?_;refine a5 fun K3 hK3=>?_;refine a8 rfl (fun hc1=>?_) (fun hc1=>?_)
  ·skip
   try simp at hc1
   have ro:=N5 h (r:=(k:Int)) (by omega) (by omega);have hl:=ro.len;have hs30:=ro.s;have wk:=zW k (by omega);have f1:P4 (k+1) 25:=l9 (by omega) (by omega);have hll:=a5S p k;have htk:(j5 p k).take k=j5 p k:=List.take_of_length_le (by omega);refine b8 ?_;refine zQ (hK3 _ _ ?_);refine aP [1,4,24,25] ?_;refine a5 fun K4 hK4=>?_;refine b9 ?_;refine aW ?_;refine aW ?_ fun K hK=>by simp -dsimp;refine cI (c0x p k h (by omega) (by omega)) ?_;simp -dsimp;exact hK
   refine a5 fun K5 hK5=>?_;refine aW ?_;refine a8 rfl (fun hc2=>?_) (fun hc2=>?_)
   ·simp at hc2
   ·have wl:IntKind.i64.wrap (((p.line k).length:Int)-1)=(((p.rail k).Shape.length+1:Nat):Int):=by rw[c4 (by omega) (by omega)];omega
    refine b8 ?_;refine zQ (hK5 _ _ ?_);refine aP [1,4,5,6,24,25] ?_;refine aW ?_;refine aW ?_;refine aW ?_;refine a5 fun K6 hK6=>?_;refine aW ?_ fun K hK=>by simp -dsimp [wl];exact hK
    refine b9 ?_;refine aP [1,4,5,6,8,9,10,24,25,39,40] ?_;refine c7 [1,4,5,6,8,24,25,39] (α:=Nat) (fun j=>[(9, .row 4 0 j),(10,I (K0 (p.line k) j)),(40,I j)]) (fun j=>[some (.els 2 [p.cells]),some (.els 3 [p.cells++[.row 2 0 (j5 p k).length]]),some (.els 1 (j5 p k)),some (.els 1 [[.lst 2 ((p.line k).map Spot.cells)]]),some (.els 9 ((z4 (p.line k) k j).map SS.cells))]) (fun j=>j≤(p.rail k).Shape.length+1) (fun j=>(p.rail k).Shape.length+1-j) 0 ?_ ?_ ?_
    ·simp
    ·exact(W5 9 9 (by simp)).trans (c9 (by simp[z4,K0]))
    rintro j j1;refine zN ?_;refine aW ?_;refine a5 fun K7 hK7=>?_;refine a8 rfl (fun hc3=>?_) (fun hc3=>?_)
    ·skip
     try simp at hc3
     have g1:=y3 (l:=p.line k) (k:=j) (by omega);have g2:=y3 (l:=p.line k) (k:=j+1) (by omega);have wj:=zW j (by omega);have sa:=ro.spot j (by omega);have sb:=ro.spot (j+1) (by omega);have hd:=a0E sa sb sa sb;have hd0:=a6f (nth (p.line k) j) (nth (p.line k) (j+1));have hsb:=a0U ro j (by omega);have hsb1:=a0U ro (j+1) (by omega);have hseg:isq (y5 (nth (p.line k) j) (nth (p.line k) (j+1)) (nth (p.line k) j) (nth (p.line k) (j+1)))=C2 (p.line k) j:=by rw[a1n];unfold C2 far;rfl
     have wsum:IntKind.i64.wrap (K0 (p.line k) j+isq (y5 (nth (p.line k) j) (nth (p.line k) (j+1)) (nth (p.line k) j) (nth (p.line k) (j+1))))=K0 (p.line k) (j+1):=by rw[hseg];exact c4 (by simp only[K0]at hsb1;omega) (by simp only[K0]at hsb1;omega)
     have f2:P4 (j+1) 89:=l9 (by omega) (by omega);have hsl:=a2I (p.line k) k j;refine b8 ?_;refine zQ (hK7 _ _ ?_);refine aP [1,4,5,6,8,9,10,24,25,39,40] ?_;refine a5 fun K8 hK8=>?_;refine b9 ?_;refine aW ?_;refine aD ?_ fun K hK=>by simp -dsimp [wj,g1,g2];refine⟨by omega,?_⟩;exact hK
     refine aW ?_ fun K hK=>by simp -dsimp;refine cI (a1a _ _ sa sb) ?_;simp -dsimp;exact hK
     refine aW ?_ fun K hK=>by simp -dsimp [wsum];refine cI (a6V _ _ _ _ sa sb sa sb) ?_;simp -dsimp [wsum];refine cI (b8W _ hd0 (by omega)) ?_;simp -dsimp [wsum];exact hK
     refine aW ?_;refine a5 fun K9 hK9=>?_;refine aW ?_ fun K hK=>by simp -dsimp [wj];exact hK
     refine b9 ?_;refine aP [1,4,5,6,8,9,10,12,24,25,39,40,76,77,78] ?_;refine c7 [1,4,5,6,8,9,10,12,24,25,39,40,76,77] (α:=Nat) (fun m=>[(78,I m)]) (fun m=>[some (.els 2 [p.cells]),some (.els 3 [p.cells++[.row 2 0 (j5 p k).length]]),some (.els 1 (j5 p k)),some (.els 1 [[.lst 2 ((p.line k).map Spot.cells)]]),some (.els 9 ((z4 (p.line k) k j).map SS.cells)),some (.els 9 [[I k,I j,I (nth (p.line k) j).X,I (nth (p.line k) j).Y,I (nth (p.line k) (j+1)).X,I (nth (p.line k) (j+1)).Y, .row 6 0 (C8 (p.line k) j m).length,I (K0 (p.line k) j),I (K0 (p.line k) (j+1))]]),some (.els 2 ((C8 (p.line k) j m).map Spot.cells))]) (fun m=>m≤2) (fun m=>2-m) 0 ?_ ?_ ?_
     ·simp
     ·refine(a3j 5 0 6 2 (sz0:=9) (by simp;rfl) (by simp;rfl) (by simp)).trans ?_;exact d9 [some 0,some 1,some 2,some 3,some 4,some 5,some 7] rfl (by simp) (by simp[C8])
     rintro m m1;refine zN ?_;refine aW ?_;refine a5 fun K10 hK10=>?_;refine a8 rfl (fun hc4=>?_) (fun hc4=>?_)
     ·skip
      try simp at hc4
      have hx:([[I (j:Int)],[I ((j:Int)+1)]]:List (List AV))[m]?=some [I ((j:Int)+(m:Int))]:=by
       have:m=0∨m=1:=by omega
       rcases this with rfl|rfl<;>simp
      have gm:=y3 (l:=p.line k) (k:=j+m) (by omega);have wm:=zW m (by omega);have hbl:=a1i (p.line k) j;have hbtl:=a1M (p.line k) j m;have hbt:=U0 (p.line k) j m;have f3:P4 ((C8 (p.line k) j m).length+1) 17:=l9 (by omega) (by omega);have hcb:=c1M (p.line k) (j+m) (by omega) (by omega) ro.spots;rw[Int.natCast_add]at hcb;have htn:((j:Int)+(m:Int)).toNat=j+m:=by omega
      refine b8 ?_;refine zQ (hK10 _ _ ?_);refine aP [1,4,5,6,8,9,10,12,24,25,39,40,76,77,78] ?_;refine a5 fun K11 hK11=>?_;refine b9 ?_;refine aW ?_ fun K hK=>by simp -dsimp [hx];exact hK
      refine aW ?_ fun K hK=>by simp -dsimp;refine cI (hcb) ?_;simp -dsimp;exact hK
      refine a8 rfl (fun hc5=>?_) (fun hc5=>?_)
      ·skip
       try simp at hc5
       refine aE ?_ fun K hK=>by simp -dsimp [gm,f3,htn];refine⟨by omega,?_⟩;exact hK
       refine zQ (hK11 _ _ ?_);refine aP [1,4,5,6,8,9,10,12,24,25,39,40,76,77,78] ?_;refine aV ?_ fun K hK=>by simp -dsimp [wm];exact hK
       refine zQ ?_;exact⟨m+1,by omega,by omega,d9 [some 0,some 1,some 2,some 3,some 4,some 5,some 7] rfl (by simp) (by simp[T9,I3,hc5,hbt])⟩
      ·skip
       try simp at hc5
       refine b8 ?_;refine zQ (hK11 _ _ ?_);refine aP [1,4,5,6,8,9,10,12,24,25,39,40,76,77,78] ?_;refine aV ?_ fun K hK=>by simp -dsimp [wm];exact hK
       refine zQ ?_;exact⟨m+1,by omega,by omega,d9 [some 0,some 1,some 2,some 3,some 4,some 5,some 6] rfl (by simp) (by simp[T9,I3,hc5])⟩
     ·skip
      try simp at hc4
      have hm2:m=2:=by omega
      subst hm2;refine a3d (b4j [some 0,some 1,some 2,some 3,some 4,some 5] rfl) ?_;simp[U0];refine d4 ?_;refine zQ (hK9 _ _ ?_);refine aP [1,4,5,6,8,9,10,12,24,25,39,40] ?_;refine aV ?_ fun K hK=>by simp -dsimp [hsl,f2];exact hK
      refine zQ (hK8 _ _ ?_);refine aP [1,4,5,6,8,9,10,24,25,39,40] ?_;refine aV ?_ fun K hK=>by simp -dsimp [wj];exact hK
      refine zQ ?_;have hso:n8 (p.line k) k j=⟨k,j,nth (p.line k) j,nth (p.line k) (j+1),C8 (p.line k) j 2,K0 (p.line k) j,K0 (p.line k) (j+1)⟩:=by simp[n8,a5N]
      exact⟨j+1,by omega,by omega,d9 [some 0,some 1,some 2,some 3,some 6] rfl (by simp) (by simp[a6h,hso,a0X])⟩
    ·skip
     try simp at hc3
     have hjj:j=(p.rail k).Shape.length+1:=by omega
     subst hjj;refine a3d (b4j [some 0,some 1,some 2,some 3] rfl) ?_;simp[a0X,a2I];refine d4 ?_;refine zQ (hK6 _ _ ?_);refine aP [1,4,9,24,25] ?_;refine aV ?_ fun K hK=>by simp -dsimp [hll,f1];exact hK
     refine zQ (hK4 _ _ ?_);refine aP [1,4,24,25] ?_;refine aV ?_ fun K hK=>by simp -dsimp [wk];exact hK
     refine zQ ?_;exact⟨k+1,by omega,by omega,d9 [some 0,some 1,some 4] rfl (by simp) (by simp[a4L,htk,hll,Plan.strips])⟩
  ·skip
   try simp at hc1
   have hk:k=p.Rails.length:=by omega
   subst hk;have htk:(j5 p p.Rails.length).take (j5 p p.Rails.length).length=j5 p p.Rails.length:=List.take_of_length_le (Nat.le_refl _);refine d4 ?_;refine zQ (hK2 _ _ ?_);refine aP [4] ?_;refine aW ?_;exact a9 (by simp[a2S,htk])
end Go.Tram
end
section
namespace Go.Tram
open Go.AM Go.Proofs
theorem H8 {x:Profile}:y6 x=true↔(1≤x.Half∧x.Half≤2000)∧0≤x.Swing∧x.Swing≤1500:=by simp[y6,g8]
theorem b8X (x:Profile):a6 Tryz.prog 159 [.agg x.cells] (Bo (!y6 x)):=by
 refine oB Tryz.func159 Tryz.ntmps159 Tryz.results159 ?_;refine aW ?_;refine aW ?_;refine a9 ?_;simp[y6,inr];exact Bool.eq_iff_iff.2 (by simp;omega)
theorem a4P (l:List Profile) (hn:l.length≤100000):a6 Tryz.prog 118 [.lst 2 (l.map Profile.cells)] (Bo (l.all y6)):=by
 have hq:(l.any fun x=> !y6 x)= !l.all y6:=(List.not_all_eq_any_not).symm;have hc:=a4M l 159 [] (fun x=> !y6 x) (fun x _=>b8X x) hn;refine oB Tryz.func118 Tryz.ntmps118 Tryz.results118 ?_;refine aW ?_;refine aW ?_ fun K hK=>by simp -dsimp;refine cI (hc) ?_;simp -dsimp;exact hK
 exact a9 (by simp[hq])
theorem c1B (s t:SS) (x y:Profile) (hs:s.Ok) (ht:t.Ok) (hx:y6 x=true) (hy:y6 y=true):a6 Tryz.prog 203 [s.av,x.av,t.av,y.av] (Bo (decide (apart s.a s.b t.a t.b (x.Half+y.Half)≤0))):=by
 rw[H8]at hx hy;have w:IntKind.i64.wrap (x.Half+y.Half)=x.Half+y.Half:=c4 (by omega) (by omega);refine oB Tryz.func203 Tryz.ntmps203 Tryz.results203 ?_;refine aW ?_;refine aW ?_ fun K hK=>by simp -dsimp [w];refine cI (c0T s.a s.b t.a t.b (x.Half+y.Half) hs.a hs.b ht.a ht.b (by omega) (by omega)) ?_;simp -dsimp [w];exact hK
 exact a9 (by simp)
theorem b6E (t:SS) (x y:Profile) (q:Spot) (ht:t.Ok) (hq:j7 q=true) (hx:y6 x=true) (hy:y6 y=true):
  a6 Tryz.prog 222 [.agg q.cells, .iptr t.cells, .iptr x.cells, .iptr y.cells] (Bo (decide (v9 t.a t.b q (x.Half+x.Swing+y.Half)≤0))):=by
 rw[H8]at hx hy;have w1:IntKind.i64.wrap (x.Half+x.Swing)=x.Half+x.Swing:=c4 (by omega) (by omega);have w2:IntKind.i64.wrap (x.Half+x.Swing+y.Half)=x.Half+x.Swing+y.Half:=c4 (by omega) (by omega);refine oB Tryz.func222 Tryz.ntmps222 Tryz.results222 ?_;refine aW ?_;refine aW ?_ fun K hK=>by simp -dsimp [w1,w2];refine cI (V8 t.a t.b q (x.Half+x.Swing+y.Half) ht.a ht.b hq (by omega) (by omega)) ?_;simp -dsimp [w1,w2];exact hK
 exact a9 (by simp)
theorem b4I (s t:SS) (x y:Profile) (hs:s.Ok) (ht:t.Ok) (hx:y6 x=true) (hy:y6 y=true):a6 Tryz.prog 204 [s.av,x.av,t.av,y.av] (Bo (N3 s t (x.Half+x.Swing+y.Half))):=by
 have hsn:=hs.n;have hc:=a9d s.bends 222 [t.cells,x.cells,y.cells] (fun q=>decide (v9 t.a t.b q (x.Half+x.Swing+y.Half)≤0)) (fun q hq=>b6E t x y q ht (List.all_eq_true.1 hs.l q hq) hx hy) (by omega);refine oB Tryz.func204 Tryz.ntmps204 Tryz.results204 ?_;refine aW ?_;refine aW ?_ fun K hK=>by simp -dsimp;refine cI (hc) ?_;simp -dsimp;exact hK
 exact a9 (by simp[N3])
theorem b6W (s t:SS) (x y:Profile) (hs:s.Ok) (ht:t.Ok) (hx:y6 x=true) (hy:y6 y=true):a6 Tryz.prog 205 [s.av,x.av,t.av,y.av] (Bo (N3 t s (y.Half+y.Swing+x.Half))):=by
 refine oB Tryz.func205 Tryz.ntmps205 Tryz.results205 ?_;refine aW ?_;refine aW ?_ fun K hK=>by simp -dsimp;refine cI (b4I t s y x ht hs hy hx) ?_;simp -dsimp;exact hK
 exact a9 (by simp)
theorem c1t (s t:SS) (x y:Profile) (hs:s.Ok) (ht:t.Ok) (hx:y6 x=true) (hy:y6 y=true):a6 Tryz.prog 206 [s.av,x.av,t.av,y.av] (Bo (a4D s t (x.Half+x.Swing+y.Half+y.Swing))):=by
 rw[H8]at hx hy;have w1:IntKind.i64.wrap (x.Half+x.Swing)=x.Half+x.Swing:=c4 (by omega) (by omega);have w2:IntKind.i64.wrap (x.Half+x.Swing+y.Half)=x.Half+x.Swing+y.Half:=c4 (by omega) (by omega);have w3:IntKind.i64.wrap (x.Half+x.Swing+y.Half+y.Swing)=x.Half+x.Swing+y.Half+y.Swing:=c4 (by omega) (by omega);have hsn:=hs.n;have htn:=ht.n;refine oB Tryz.func206 Tryz.ntmps206 Tryz.results206 ?_;refine aW ?_;refine aW ?_ fun K hK=>by simp -dsimp [w1,w2,w3];exact hK
 refine a5 fun K1 hK1=>?_;refine aW ?_;refine b9 ?_;refine aP [6,9,27,28,29] ?_;refine c7 [6,9,27,28] (α:=Nat) (fun k=>[(29,I k)]) (fun _=>[some (.els 9 [s.cells]),some (.els 2 [x.cells]),some (.els 9 [t.cells]),some (.els 2 [y.cells])]) (fun k=>k≤s.bends.length∧((s.bends.take k).any fun q=>t.bends.any fun r=>decide (y5 q r q r≤(x.Half+x.Swing+y.Half+y.Swing)*(x.Half+x.Swing+y.Half+y.Swing)))=false) (fun k=>s.bends.length-k) 0 ?_ ?_ ?_
 ·simp
 ·exact c9 (by simp)
 rintro k ⟨k1,k2⟩;refine zN ?_;refine aW ?_;refine a5 fun K2 hK2=>?_;refine a8 rfl (fun hc0=>?_) (fun hc0=>?_)
 ·skip
  try simp at hc0
  obtain⟨q,hq⟩:=gx (l:=s.bends) (i:=k) hc0;have wk:=zW k (by omega);have sq:=List.all_eq_true.1 hs.l q (List.mem_of_getElem? hq);refine b8 ?_;refine zQ (hK2 _ _ ?_);refine aP [6,9,27,28,29] ?_;refine a5 fun K3 hK3=>?_;refine b9 ?_;refine aW ?_ fun K hK=>by simp -dsimp [hq];exact hK
  refine aW ?_;refine b9 ?_;refine aP [6,9,11,27,28,29,34,35,36] ?_;refine c7 [6,9,11,27,28,29,34,35] (α:=Nat) (fun j=>[(36,I j)]) (fun _=>[some (.els 9 [s.cells]),some (.els 2 [x.cells]),some (.els 9 [t.cells]),some (.els 2 [y.cells]),some (.els 2 [q.cells])]) (fun j=>j≤t.bends.length∧((t.bends.take j).any fun r=>decide (y5 q r q r≤(x.Half+x.Swing+y.Half+y.Swing)*(x.Half+x.Swing+y.Half+y.Swing)))=false) (fun j=>t.bends.length-j) 0 ?_ ?_ ?_
  ·simp
  ·exact c9 (by simp)
  rintro j ⟨j1,j2⟩;refine zN ?_;refine aW ?_;refine a5 fun K4 hK4=>?_;refine a8 rfl (fun hc1=>?_) (fun hc1=>?_)
  ·skip
   try simp at hc1
   obtain⟨r,hr⟩:=gx (l:=t.bends) (i:=j) hc1;have wj:=zW j (by omega);have sr:=List.all_eq_true.1 ht.l r (List.mem_of_getElem? hr);have hdd:=x7 (a:=x.Half+x.Swing+y.Half+y.Swing) (b:=x.Half+x.Swing+y.Half+y.Swing) (A:=7000) (B:=7000) (by omega) (by omega) (by omega) (by omega);have w4:IntKind.i64.wrap ((x.Half+x.Swing+y.Half+y.Swing)*(x.Half+x.Swing+y.Half+y.Swing))=(x.Half+x.Swing+y.Half+y.Swing)*(x.Half+x.Swing+y.Half+y.Swing):=c4 (by omega) (by omega);refine b8 ?_;refine zQ (hK4 _ _ ?_);refine aP [6,9,11,27,28,29,34,35,36] ?_;refine a5 fun K5 hK5=>?_;refine b9 ?_;refine aW ?_ fun K hK=>by simp -dsimp [hr];exact hK
   refine aW ?_ fun K hK=>by simp -dsimp;refine cI (a1a q r sq sr) ?_;simp -dsimp;exact hK
   refine aW ?_ fun K hK=>by simp -dsimp [w4];refine cI (a6V q r q r sq sr sq sr) ?_;simp -dsimp [w4];exact hK
   refine a8 rfl (fun hc2=>?_) (fun hc2=>?_)
   ·skip
    try simp at hc2
    have hb:a4D s t (x.Half+x.Swing+y.Half+y.Swing)=true:=by
     unfold a4D;rw[List.any_eq_true];exact⟨q,List.mem_of_getElem? hq,List.any_eq_true.2 ⟨r,List.mem_of_getElem? hr,by simpa using hc2⟩⟩
    refine aW ?_;exact a9 (by simp[hb])
   ·skip
    try simp at hc2
    refine b8 ?_;refine zQ (hK5 _ _ ?_);refine aP [6,9,11,27,28,29,34,35,36] ?_;refine aV ?_ fun K hK=>by simp -dsimp [wj];exact hK
    refine zQ ?_;exact⟨j+1,⟨by omega,by rw[C4 hr,j2];simp;omega⟩,by omega,aB [some 0,some 1,some 2,some 3,some 4]⟩
  ·skip
   try simp at hc1
   have hin:=r9 (by omega) j2;refine d4 ?_;refine zQ (hK3 _ _ ?_);refine aP [6,9,27,28,29] ?_;refine aV ?_ fun K hK=>by simp -dsimp [wk];exact hK
   refine zQ ?_;exact⟨k+1,⟨by omega,by rw[C4 hq,k2,hin];rfl⟩,by omega,aB [some 0,some 1,some 2,some 3]⟩
 ·skip
  try simp at hc0
  have hall:=r9 (by omega) k2;have hb:a4D s t (x.Half+x.Swing+y.Half+y.Swing)=false:=hall;refine d4 ?_;refine zQ (hK1 _ _ ?_);refine aP [] ?_;refine aW ?_;exact a9 (by simp[hb])
def a0o:List FuncId:=[203,204,205,206]
def a0t (s:SS) (x:Profile) (t:SS) (y:Profile):List Bool:=[decide (apart s.a s.b t.a t.b (x.Half+y.Half)≤0),N3 s t (x.Half+x.Swing+y.Half),N3 t s (y.Half+y.Swing+x.Half),a4D s t (x.Half+x.Swing+y.Half+y.Swing)]
theorem a3E (s:SS) (x:Profile) (t:SS) (y:Profile):(a0t s x t y).any id=V4 s x t y:=by simp[a0t,V4]
theorem b9N:a6 Tryz.prog 186 [] (.full 1 (a0o.map fun f=>[.clo f []])):=by
 refine oB Tryz.func186 Tryz.ntmps186 Tryz.results186 ?_;refine aW ?_;refine aW ?_;exact a9 (by simp[a0o])
theorem c1x (s t:SS) (x y:Profile) (hs:s.Ok) (ht:t.Ok) (hx:y6 x=true) (hy:y6 y=true) {k:Nat} {f:FuncId} {b:Bool} (hf:a0o[k]?=some f) (hb:(a0t s x t y)[k]?=some b):
  a6 Tryz.prog f [s.av,x.av,t.av,y.av] (Bo b):=by
 match k,hf,hb with
 |0,hf,hb=>simp[a0o,a0t]at hf hb;subst hf hb;exact c1B s t x y hs ht hx hy
 |1,hf,hb=>simp[a0o,a0t]at hf hb;subst hf hb;exact b4I s t x y hs ht hx hy
 |2,hf,hb=>simp[a0o,a0t]at hf hb;subst hf hb;exact b6W s t x y hs ht hx hy
 |3,hf,hb=>simp[a0o,a0t]at hf hb;subst hf hb;exact c1t s t x y hs ht hx hy
 |k+4,hf,hb=>simp[a0o]at hf
theorem c1C (s t:SS) (x y:Profile) (hs:s.Ok) (ht:t.Ok) (hx:y6 x=true) (hy:y6 y=true):a6 Tryz.prog 162 [s.av,x.av,t.av,y.av] (Bo (V4 s x t y)):=by
 have hfl:a0o.length=4:=rfl;have hbl:(a0t s x t y).length=4:=rfl;refine oB Tryz.func162 Tryz.ntmps162 Tryz.results162 ?_;refine aW ?_;refine b3m ?_;refine aW ?_;refine c2a ?_;refine a5 fun K1 hK1=>?_;refine aW ?_ fun K hK=>by simp -dsimp [hfl];refine cI (b9N) ?_;simp -dsimp [hfl];exact hK
 refine b9 ?_;refine aP [4,5,6,7,9,12,13,14] ?_;refine c7 [4,5,6,7,12,13] (α:=Nat) (fun k=>[(14,I k),(9,Bo false)]) (fun _=>[some (.els 9 [s.cells]),some (.els 2 [x.cells]),some (.els 9 [t.cells]),some (.els 2 [y.cells])]) (fun k=>k≤4∧((a0t s x t y).take k).any id=false) (fun k=>4-k) 0 ?_ ?_ ?_
 ·simp
 ·exact c9 (by simp)
 rintro k ⟨k1,k2⟩;refine zN ?_;refine aW ?_;refine a5 fun K2 hK2=>?_;refine a8 rfl (fun hc0=>?_) (fun hc0=>?_)
 ·skip
  try simp at hc0
  obtain⟨f,hf⟩:=gx (l:=a0o) (i:=k) (by omega);obtain⟨b,hb⟩:∃b,(a0t s x t y)[k]?=some b:=⟨_,List.getElem?_eq_getElem (by omega)⟩;have wk:=zW k (by omega);refine b8 ?_;refine zQ (hK2 _ _ ?_);refine aP [4,5,6,7,9,12,13,14] ?_;refine a5 fun K3 hK3=>?_;refine b9 ?_;refine aW ?_ fun K hK=>by simp -dsimp [hf];exact hK
  refine aW ?_ fun K hK=>by simp -dsimp;refine cI (c1x s t x y hs ht hx hy hf hb) ?_;simp -dsimp;exact hK
  refine a8 rfl (fun hc1=>?_) (fun hc1=>?_)
  ·skip
   try simp at hc1
   have hv:V4 s x t y=true:=by rw[←a3E,List.any_eq_true];exact⟨b,List.mem_of_getElem? hb,by simpa using hc1⟩
   refine aW ?_;refine d4 ?_;refine zQ (hK1 _ _ ?_);refine aP [9] ?_;refine aW ?_;exact a9 (by simp[hv])
  ·skip
   try simp at hc1
   refine b8 ?_;refine zQ (hK3 _ _ ?_);refine aP [4,5,6,7,9,12,13,14] ?_;refine aV ?_ fun K hK=>by simp -dsimp [wk];exact hK
   refine zQ ?_;exact⟨k+1,⟨by omega,by rw[C4 hb,k2,hc1];rfl⟩,by omega,aB [some 0,some 1,some 2,some 3]⟩
 ·skip
  try simp at hc0
  have hv:V4 s x t y=false:=by rw[←a3E];exact r9 (by omega) k2
  refine d4 ?_;refine zQ (hK1 _ _ ?_);refine aP [9] ?_;refine aW ?_;exact a9 (by simp[hv])
end Go.Tram
end
section
namespace Go.Tram
open Go.AM Go.Proofs
theorem a2w {p:Plan} {r:Int} (h0:0≤r) (h1:r<p.Rails.length):(j5 p p.Rails.length)[r.toNat]?=some [.lst 9 ((p.strips r).map SS.cells)]:=by
 rw[a6M (by omega),show((r.toNat:Nat):Int)=r by omega]
end Go.Tram
end
section
namespace Go.Tram
open Go.AM Go.Proofs
structure Plan.Fit (p:Plan):Prop where
 n:p.Nodes.length≤9223372036854775807
 r:p.Rails.length≤9223372036854775807
def j6:Plan:=
 {Nodes:=[⟨⟨0,0⟩,1,[⟨0,false⟩],0⟩,⟨⟨1000,0⟩,4,[⟨0,true⟩,⟨1,false⟩,⟨2,false⟩],0⟩,⟨⟨2000,0⟩,1,[⟨1,true⟩],0⟩,⟨⟨2000,500⟩,1,[⟨2,true⟩],0⟩]
  Rails:=[⟨0,1,[],8000,0⟩,⟨1,2,[],8000,0⟩,⟨1,3,[⟨1600,0⟩],8000,0⟩]}
def b8J:AV:= .agg [.full 5 [[I 0,I 0,I 1, .full 2 [[I 0,Bo false]],I 0],[I 1000,I 0,I 4, .full 2 [[I 0,Bo true],[I 1,Bo false],[I 2,Bo false]],I 0],[I 2000,I 0,I 1, .full 2 [[I 1,Bo true]],I 0],[I 2000,I 500,I 1, .full 2 [[I 2,Bo true]],I 0]],
 .full 5 [[I 0,I 1, .v (.slice none 0 0),I 8000,I 0],[I 1,I 2, .v (.slice none 0 0),I 8000,I 0],[I 1,I 3, .full 2 [[I 1600,I 0]],I 8000,I 0]]]
theorem b0Y (a b:Spot) (k:Int) (hk:b6r (sqd a b) k):far a b=k:=a9T hk
theorem c4u:C2 (j6.line 0) 0=1000:=by unfold C2;exact b0Y _ _ 1000 (by unfold b6r;decide+kernel)
theorem c4C:C2 (j6.line 1) 0=1000:=by unfold C2;exact b0Y _ _ 1000 (by unfold b6r;decide+kernel)
theorem c5i:C2 (j6.line 2) 0=600:=by unfold C2;exact b0Y _ _ 600 (by unfold b6r;decide+kernel)
theorem c5P:C2 (j6.line 2) 1=640:=by unfold C2;exact b0Y _ _ 640 (by unfold b6r;decide+kernel)
theorem c3J:C9 j6 (j6.rail 0)=true:=by
 have h1:P0 j6 (j6.rail 0)=true:=by decide+kernel
 have h2:(j6.rail 0).Shape=[]:=by decide+kernel
 have e:s8 j6 (j6.rail 0)=j6.line 0:=rfl;simp[C9,h1,h2,e,List.range_succ,a8g,c4u,inr]
theorem c3M:C9 j6 (j6.rail 1)=true:=by
 have h1:P0 j6 (j6.rail 1)=true:=by decide+kernel
 have h2:(j6.rail 1).Shape=[]:=by decide+kernel
 have e:s8 j6 (j6.rail 1)=j6.line 1:=rfl;simp[C9,h1,h2,e,List.range_succ,a8g,c4C,inr]
theorem c3r:C9 j6 (j6.rail 2)=true:=by
 have h1:P0 j6 (j6.rail 2)=true:=by decide+kernel
 have h2:(j6.rail 2).Shape=[⟨1600,0⟩]:=by decide+kernel
 have h3:j7 ⟨1600,0⟩=true:=by decide+kernel
 have e:s8 j6 (j6.rail 2)=j6.line 2:=rfl;simp[C9,h1,h2,h3,e,List.range_succ,a8g,c5i,c5P,inr]
theorem b0M:d7 j6=true:=by
 have h1:j6.Nodes.all B5=true:=by decide+kernel
 have h2:a0v j6=true:=by decide+kernel
 have e:j6.Rails=[j6.rail 0,j6.rail 1,j6.rail 2]:=by unfold Plan.rail;rfl
 have h3:j6.Rails.all (C9 j6)=true:=by rw[e];simp[c3J,c3M,c3r]
 have h4:inr (j6.Nodes.length) 1 300=true:=by decide+kernel
 have h5:inr (j6.Rails.length) 1 400=true:=by decide+kernel
 simp[d7,a0n,h1,h2,h3,h4,h5]
theorem ex_foul:V4 (j6.strip ⟨0,0⟩) ⟨275,50⟩ (j6.strip ⟨2,1⟩) ⟨275,50⟩=true:=by decide+kernel
end Go.Tram
end
section
namespace Go.Tram
open Go.AM Go.Proofs
def RC (w:World) (avs:List AV) (cs:List Value):Prop:=avs.length=cs.length∧∀(i:Nat) c x,avs[i]?=some c→cs[i]?=some x→p9 w (fun _=>False) c x∧F2 x=true
theorem RC.one {w:World} {a:AV} {x:Value} (h:p9 w (fun _=>False) a x) (hc:F2 x=true):RC w [a] [x]:=by
 refine⟨rfl,fun i c y h1 h2=>?_⟩
 cases i with
 |zero=>simp at h1 h2;subst h1 h2;exact⟨h,hc⟩
 |succ i=>simp at h1
theorem RC.app {w:World} {a b:List AV} {x y:List Value} (h:RC w a x) (k:RC w b y):RC w (a++b) (x++y):=by
 refine⟨by simp[h.1,k.1],fun i c u h1 h2=>?_⟩
 by_cases hi:i<a.length
 ·rw[List.getElem?_append_left hi]at h1;rw[List.getElem?_append_left (by rw[←h.1];exact hi)]at h2;exact h.2 i c u h1 h2
 ·rw[List.getElem?_append_right (by omega)]at h1;rw[List.getElem?_append_right (by rw[←h.1];omega),←h.1]at h2;exact k.2 _ c u h1 h2
def b5A:List (Nat×Nat×TypeId)→Nat→Nat→Bool
 |[],o,n=>o==n
 |(off,sz,_)::r,o,n=>off==o&&b5A r (o+sz) n
theorem b3N:∀(fs:List (Nat×Nat×TypeId)) (o n:Nat),b5A fs o n=true→o≤n
 |[],o,n,h=>by simp[b5A]at h;omega
 |(off,sz,t)::r,o,n,h=>by
  simp only[b5A,Bool.and_eq_true]at h;have:=b3N r _ _ h.2;omega
theorem b0j:∀(fs:List (Nat×Nat×TypeId)) (o n:Nat),b5A fs o n=true→∀f∈fs,o≤f.1
 |[],o,n,h,f,hf=>by cases hf
 |(off,sz,t)::r,o,n,h,f,hf=>by
  simp only[b5A,Bool.and_eq_true,beq_iff_eq]at h
  rcases List.mem_cons.1 hf with rfl|hf
  ·simp only[];omega
  ·have:=b0j r _ _ h.2 f hf;omega
theorem b0E {w:World} {Q:(Nat×Nat×TypeId)→List AV→Prop}:∀(fs:List (Nat×Nat×TypeId)) (o N:Nat) (cs:List Value),b5A fs o N=true→cs.length=N→
  (∀f∈fs,∃a,RC w a ((cs.drop f.1).take f.2.1)∧Q f a)→∃avs,RC w avs (cs.drop o)∧∀f∈fs,Q f ((avs.drop (f.1-o)).take f.2.1)
 |[],o,N,cs,h,hl,_=>by
  simp only[b5A,beq_iff_eq]at h;refine⟨[],⟨by simp;omega,fun i c x h1=>by simp at h1⟩,fun f hf=>by cases hf⟩
 |(off,sz,t)::r,o,N,cs,h,hl,hq=>by
  simp only[b5A,Bool.and_eq_true,beq_iff_eq]at h;obtain⟨rfl,h2⟩:=h;have hle:=b3N r _ _ h2;obtain⟨a,ha,hqa⟩:=hq _ (List.mem_cons_self ..);obtain⟨b,hb,hqb⟩:=b0E r (off+sz) N cs h2 hl (fun f hf=>hq f (List.mem_cons_of_mem _ hf));have hal:a.length=sz:=by rw[ha.1];simp;omega
  have hsplit:cs.drop off=(cs.drop off).take sz++cs.drop (off+sz):=by rw[←List.drop_drop,List.take_append_drop]
  refine⟨a++b,by rw[hsplit];exact ha.app hb,fun f hf=>?_⟩
  rcases List.mem_cons.1 hf with rfl|hf
  ·simp only[Nat.sub_self,List.drop_zero];rw[List.take_append_of_le_length (by omega),List.take_of_length_le (by omega)];exact hqa
  ·have ho:=b0j r _ _ h2 f hf;have:=hqb f hf;rw[List.drop_append,List.drop_eq_nil_of_le (by omega),List.nil_append,hal,show f.1-off-sz=f.1-(off+sz)by omega];exact this
section
variable {P:Program}
def b1H (P:Program):Nat→TypeId→Bool
 |0,_=>false
 | n+1,t=>match a4u P t with
  |some _=>true
  |none=>match d5 P t with
   | .slice e=>decide ((d5 P e).size≠0)&&b1H P n e
   | .agg z fs=>b5A fs 0 z.length&&fs.all fun f=>b1H P n f.2.2
   |_=>false
def x9 (P:Program):Nat→TypeId→List AV→Prop
 |0,_,_=>False
 | n+1,t,avs=>match a4u P t with
  |some (.i k)=>∃m,avs=[.v (.int k m)]∧(Lit.int k m).wf=true
  |some .b=>∃b,avs=[.v (.bool b)]
  |none=>match d5 P t with
   | .slice e=>∃els,avs=[.lst (d5 P e).size els]∧els.length≤maxLen∧∀el∈els,x9 P n e el
   | .agg z fs=>avs.length=z.length∧∀f∈fs,x9 P n f.2.2 ((avs.drop f.1).take f.2.1)
   |_=>False
theorem b1o (w:World) {e:TypeId} (h:d5 P e≠ .bad):P.cellsOf e=(d5 P e).size:=by
 obtain⟨i,h1,h2,_⟩:=S4 (P:=P) (w:=w) h;simp[Program.cellsOf,h1,h2]
theorem b0A {w:World} {R:List AV→List Value→Prop} {g:Nat→Option (List Value)}:∀n,(∀i,i<n→∃cs,g i=some cs∧∃a,R a cs)→
  ∃(els:List (List AV)) (css:List (List Value)),els.length=n∧css.length=n∧∀(i:Nat) a cs,els[i]?=some a→css[i]?=some cs→g i=some cs∧R a cs
 |0,_=>⟨[],[],rfl,rfl,fun i a cs h=>by simp at h⟩
 | n+1,h=>by
  obtain⟨els,css,h1,h2,h3⟩:=b0A (w:=w) (R:=R) (g:=g) n (fun i hi=>h i (by omega));obtain⟨cs,hg,a,ha⟩:=h n (by omega);refine⟨els++[a],css++[cs],by simp[h1],by simp[h2],fun i b ds k1 k2=>?_⟩
  by_cases hi:i<n
  ·rw[List.getElem?_append_left (by omega)]at k1 k2;exact h3 i b ds k1 k2
  ·have hn:i=n:=by
    have:=(List.getElem?_eq_some_iff.1 k1).1;simp[h1]at this;omega
   subst hn;rw[List.getElem?_append_right (by omega)]at k1 k2;simp[h1,h2]at k1 k2;subst k1 k2;exact⟨hg,ha⟩
theorem c0e {H:Type} {enc:TypeId×Value→H} {w:World} {spare:Nat→Bool} {held:Bool}:∀(n:Nat) (fuel:Nat) (t:TypeId) (cs:List Value) (x:DataW H×List MemPlace),b1H P n t=true→
  DataW.trod enc P w 0 spare held fuel t cs=some x→∃avs,RC w avs cs∧x9 P n t avs:=by
 intro n
 induction n with
 |zero=>intro fuel t cs x h;simp[b1H]at h
 | succ n ih=>
  intro fuel t cs x hg h;unfold b1H at hg;unfold x9
  cases hk:a4u P t with
  | some kt=>
   have hu:=(E7 hk).2.2.2
   cases kt with
   |i k=>
    obtain⟨m,rfl,rfl,hw⟩:=DataW.trod_int hu h;exact⟨[.v (.int k m)],RC.one (.v _) rfl,m,rfl,hw⟩
   |b=>
    obtain⟨b,rfl,rfl⟩:=DataW.trod_bool hu h;exact⟨[.v (.bool b)],RC.one (.v _) rfl,b,rfl⟩
  | none=>
   rw[hk]at hg;simp only at hg ⊢
   cases ht:d5 P t with
   |cell z=>rw[ht]at hg;simp at hg
   |arr z m e=>rw[ht]at hg;simp at hg
   |bad=>rw[ht]at hg;simp at hg
   | slice e=>
    rw[ht]at hg;simp only[Bool.and_eq_true,decide_eq_true_eq]at hg ⊢;obtain⟨hsz,hge⟩:=hg;have hne:d5 P e≠ .bad:=by intro hb;rw[hb]at hsz;exact hsz rfl
    have hc:=b1o w hne;obtain⟨info,h1,h2,_⟩:=o3 ht
    rcases DataW.trod_slice h2 h with⟨rfl,rfl⟩|⟨a,len,cap,elems,rest,n',rfl,rfl,rfl,hb,hl,hcap,hel,hall,_⟩
    ·exact⟨[.lst (d5 P e).size []],RC.one (.lstNil _ _ _) rfl,[],rfl,by simp,by simp⟩
    ·rw [hc]at hall;obtain⟨els,css,e1,e2,e3⟩:=b0A (w:=w) (R:=fun a cs=>RC w a cs∧x9 P n e a) (g:=fun i=>w.cells? 0 (a.add (i*(d5 P e).size)) (d5 P e).size) len (fun i hi=>by
      have h3:=hall i hi;obtain⟨y,hy⟩:=gx (l:=elems) (i:=i) (by omega);rw[hy,Option.bind_eq_some_iff]at h3;obtain⟨cs,q1,q2⟩:=h3;obtain⟨av,r1,r2⟩:=ih _ _ _ _ hge q2;exact⟨cs,q1,av,r1,r2⟩)
     refine⟨[.lst (d5 P e).size els],?_,els,rfl,by omega,?_⟩
     ·refine RC.one ?_ rfl
      by_cases hlen:len=0
      ·have:els=[]:=List.eq_nil_of_length_eq_zero (by omega);subst this;subst hlen;exact .lstNil _ _ _
      ·have hcell:∀(i j:Nat) cs,css[i]?=some cs→j<(d5 P e).size→w.cell? ((a.add (i*(d5 P e).size)).add j)=cs[j]?∧cs.length=(d5 P e).size:=by
        intro i j cs hi hj;have hil:=(List.getElem?_eq_some_iff.1 hi).1;obtain⟨av,hav⟩:=gx (l:=els) (i:=i) (by omega);have:=World.cells?_some (e3 i av cs hav hi).1;exact⟨this.2.2 j hj,this.2.1⟩
       have hspot:a.spot=none:=by
        obtain⟨cs,hcs⟩:=gx (l:=css) (i:=0) (by omega);obtain⟨k1,k2⟩:=hcell 0 0 cs hcs (by omega);rw[List.getElem?_eq_getElem (by omega)]at k1;have ha:(a.add (0*(d5 P e).size)).add 0=a:=by simp[Addr.add]
        rw[ha]at k1;exact World.cell?_spot k1
       obtain⟨b,off,sp⟩:=a;simp only at hspot;subst hspot;have hcl:∀c∈css,c.length=(d5 P e).size:=by
        intro c hc';obtain⟨i,hi⟩:=List.getElem?_of_mem hc';exact(hcell i 0 c hi (by omega)).2
       have hell:∀c∈els,c.length=(d5 P e).size:=by
        intro c hc';obtain⟨i,hi⟩:=List.getElem?_of_mem hc';have hil:=(List.getElem?_eq_some_iff.1 hi).1;obtain⟨cs,hcs⟩:=gx (l:=css) (i:=i) (by omega);rw[(e3 i c cs hi hcs).2.1.1];exact hcl cs (List.mem_of_getElem? hcs)
       have key:∀(i:Nat) (x:Value),css.flatten[i]?=some x→∃q j cs,i=q*(d5 P e).size+j∧j<(d5 P e).size∧css[q]?=some cs∧cs[j]?=some x:=by
        intro i x hx;have hil:=(List.getElem?_eq_some_iff.1 hx).1;rw[i8 hcl]at hil;have hq:i/ (d5 P e).size<css.length:=by rw[Nat.div_lt_iff_lt_mul (by omega)];exact hil
        have hj:=Nat.mod_lt i (show(d5 P e).size>0 by omega);have hme:i=i/ (d5 P e).size*(d5 P e).size+i % (d5 P e).size:=by rw[Nat.mul_comm];exact(Nat.div_add_mod i _).symm
        obtain⟨cs,hcs⟩:∃cs,css[i/ (d5 P e).size]?=some cs:=⟨_,List.getElem?_eq_getElem hq⟩;refine⟨_,_,cs,hme,hj,hcs,?_⟩;have:=n9 hcl hcs (i % (d5 P e).size) hj;rw[←hme]at this;rw[←this];exact hx
       have hre:els.length=len:=e1;rw[←hre];have hblk:b<w.heap.size:=by
        obtain⟨cs,hcs⟩:=gx (l:=css) (i:=0) (by omega);obtain⟨k1,k2⟩:=hcell 0 0 cs hcs (by omega);rw[List.getElem?_eq_getElem (by omega)]at k1;simp only[Nat.zero_mul,Addr.add_lit,Nat.add_zero]at k1
        rcases Nat.lt_or_ge b w.heap.size with hlt|hge
        ·exact hlt
        ·simp[World.cell?,Array.getElem?_eq_none hge]at k1
       refine p9.lst _ els b off cap css.flatten (fun h=>h) hblk (by omega) hell (by rw[i8 hell,i8 hcl,e1,e2]) ?_ ?_
       ·intro i x hx;obtain⟨q,j,cs,rfl,hj,hcs,hxj⟩:=key i x hx;obtain⟨k1,_⟩:=hcell q j cs hcs hj;rw[Addr.add_lit,Addr.add_lit,hxj]at k1;obtain⟨av,hav⟩:=gx (l:=els) (i:=q) (by have:=(List.getElem?_eq_some_iff.1 hcs).1;omega);have hr:=(e3 q av cs hav hcs).2.1;obtain⟨c,hc'⟩:∃c,av[j]?=some c:=⟨_,List.getElem?_eq_getElem (by rw[hr.1];exact(List.getElem?_eq_some_iff.1 hxj).1)⟩;refine⟨?_,(hr.2 j c x hc' hxj).2⟩;rw[←Nat.add_assoc];exact k1
       ·intro i c x hc' hx;obtain⟨q,j,cs,rfl,hj,hcs,hxj⟩:=key i x hx;obtain⟨av,hav⟩:=gx (l:=els) (i:=q) (by have:=(List.getElem?_eq_some_iff.1 hcs).1;omega);rw[n9 hell hav j hj]at hc';exact((e3 q av cs hav hcs).2.1.2 j c x hc' hxj).1
     ·intro el hel';obtain⟨i,hi⟩:=List.getElem?_of_mem hel';have hil:=(List.getElem?_eq_some_iff.1 hi).1;obtain⟨cs,hcs⟩:=gx (l:=css) (i:=i) (by omega);exact(e3 i el cs hi hcs).2.2
   | agg z fs=>
    rw[ht]at hg;simp only[Bool.and_eq_true]at hg ⊢;obtain⟨hlay,hgf⟩:=hg;obtain⟨info,fa,h1,h2,h3,h4,hfs,_,hall⟩:=F0 ht;obtain⟨xs,n',rfl,rfl,hl,hxl,hf⟩:=DataW.trod_struct h2 h;have hcl:cs.length=z.length:=by rw[hl];simp[Program.cellsOf,h1,h4]
    obtain⟨avs,hr,hq⟩:=b0E (w:=w) (Q:=fun f a=>x9 P n f.2.2 a) fs 0 z.length cs hlay hcl (fun f hff=>by
     have hff':=hff;rw[hfs,List.mem_map]at hff';obtain⟨fd,hfd,rfl⟩:=hff';obtain⟨i,hi⟩:=List.getElem?_of_mem hfd;have hia:fa[i]?=some fd:=by simpa using hi
     have htr:=hf i fd hia;have hil:i<xs.length:=by rw[hxl];exact(Array.getElem?_eq_some_iff.1 hia).1
     rw[List.getElem?_eq_getElem hil]at htr;exact ih _ _ _ _ (List.all_eq_true.1 hgf _ hff) htr)
    rw[List.drop_zero]at hr;refine⟨avs,hr,by rw[hr.1,hcl],fun f hff=>?_⟩;have:=hq f hff
    rwa [Nat.sub_zero]at this
end
end Go.Tram
end
section
namespace Go.Tram
open Go.AM Go.Proofs
section
variable {P:Program}
theorem B9 {n:Nat} {t e:TypeId} {avs:List AV} (hk:a4u P t=none) (ht:d5 P t= .slice e) (h:x9 P (n+1) t avs):∃els,avs=[.lst (d5 P e).size els]∧els.length≤maxLen∧∀el∈els,x9 P n e el:=by
 simp only[x9,hk,ht]at h;exact h
theorem C6 {n:Nat} {t:TypeId} {z:List Value} {fs:List (Nat×Nat×TypeId)} {avs:List AV} (hk:a4u P t=none) (ht:d5 P t= .agg z fs) (h:x9 P (n+1) t avs):avs.length=z.length∧∀f∈fs,x9 P n f.2.2 ((avs.drop f.1).take f.2.1):=by
 simp only[x9,hk,ht]at h;exact h
theorem a5I {n:Nat} {t:TypeId} {k:IntKind} {avs:List AV} (hk:a4u P t=some (.i k)) (h:x9 P (n+1) t avs):∃m,avs=[.v (.int k m)]∧(Lit.int k m).wf=true:=by
 simp only[x9,hk]at h;exact h
theorem a3A {n:Nat} {t:TypeId} {avs:List AV} (hk:a4u P t=some .b) (h:x9 P (n+1) t avs):∃b,avs=[.v (.bool b)]:=by
 simp only[x9,hk]at h;exact h
end
theorem Y5 {α:Type} {c:α→List AV} {R:α→Prop}:∀{els:List (List AV)},(∀el∈els,∃a,el=c a∧R a)→∃l:List α,els=l.map c∧∀a∈l,R a
 |[],_=>⟨[],rfl,by simp⟩
 |e::els,h=>by
  obtain⟨a,rfl,ha⟩:=h e (List.mem_cons_self ..);obtain⟨l,rfl,hl⟩:=Y5 (els:=els) (c:=c) (R:=R) (fun el hel=>h el (List.mem_cons_of_mem _ hel));refine⟨a::l,rfl,fun b hb=>?_⟩
  rcases List.mem_cons.1 hb with rfl|hb
  ·exact ha
  ·exact hl b hb
theorem a7o:(Tryz.prog).underlying 4=some .bool:=by kernel_rfl
theorem c3R:a4u Tryz.prog 3=some (.i .i64):=by kernel_rfl
theorem c2e:a4u Tryz.prog 77=some (.i .i64):=by kernel_rfl
theorem b8z:a4u Tryz.prog 4=some .b:=by kernel_rfl
def I64 (n:Int):Prop:=-9223372036854775808≤n∧n≤9223372036854775807
theorem c2h {m:Int} (h:(Lit.int .i64 m).wf=true):I64 m:=by
 simpa [Lit.wf,IntKind.min,IntKind.max,IntKind.signed,IntKind.bits,I64]using h
theorem Z0 {n:Nat} {avs:List AV} (h:x9 Tryz.prog (n+1) 3 avs):∃m,avs=[I m]∧I64 m:=by
 obtain⟨m,h1,h2⟩:=a5I c3R h;exact⟨m,h1,c2h h2⟩
theorem b3s {α:Type} {l:List α} (h:l.length=2):∃a b,l=[a,b]:=by match l,h with|[a,b],_=>exact⟨a,b,rfl⟩
theorem c1A {α:Type} {l:List α} (h:l.length=5):∃a b c d e,l=[a,b,c,d,e]:=by match l,h with|[a,b,c,d,e],_=>exact⟨a,b,c,d,e,rfl⟩
theorem b3h {n:Nat} {avs:List AV} (h:x9 Tryz.prog (n+2) 76 avs):∃s:Spot,avs=s.cells:=by
 obtain⟨h1,h2⟩:=C6 (by kernel_rfl) c5B h;obtain⟨a,b,rfl⟩:=b3s h1;obtain⟨x,hx,_⟩:=Z0 (h2 (0,1,3) (by simp));obtain⟨y,hy,_⟩:=Z0 (h2 (1,1,3) (by simp));simp at hx hy;subst hx hy;exact⟨⟨x,y⟩,rfl⟩
theorem c1z {n:Nat} {avs:List AV} (h:x9 Tryz.prog (n+2) 161 avs):∃s:D7,avs=s.cells:=by
 obtain⟨h1,h2⟩:=C6 (by kernel_rfl) c3p h;obtain⟨a,b,rfl⟩:=b3s h1;obtain⟨x,hx,_⟩:=Z0 (h2 (0,1,3) (by simp));obtain⟨y,hy⟩:=a3A b8z (h2 (1,1,4) (by simp));simp at hx hy;subst hx hy;exact⟨⟨x,y⟩,rfl⟩
theorem c0H {n:Nat} {avs:List AV} (h:x9 Tryz.prog (n+5) 80 avs):∃s:Node,avs=s.cells:=by
 obtain⟨h1,h2⟩:=C6 (by kernel_rfl) c4i h;obtain⟨a,b,c,d,e,rfl⟩:=c1A h1;obtain⟨s,hs⟩:=b3h (h2 (0,2,76) (by simp));obtain⟨k,hk,_⟩:=a5I c2e (h2 (2,1,77) (by simp));obtain⟨els,hl,_,hels⟩:=B9 (by kernel_rfl) c4I (h2 (3,1,78) (by simp));obtain⟨m,hm,_⟩:=Z0 (h2 (4,1,3) (by simp));obtain⟨l,rfl,_⟩:=Y5 (c:=D7.cells) (R:=fun _=>True) (fun el hel=>by obtain⟨s,hs⟩:=c1z (hels el hel);exact⟨s,hs,trivial⟩);simp at hs hk hl hm;obtain⟨rfl,rfl⟩:=hs;subst hk hl hm;exact⟨⟨s,k,l,m⟩,by simp⟩
theorem b9e {n:Nat} {avs:List AV} (h:x9 Tryz.prog (n+5) 83 avs):∃s:Rail,avs=s.cells:=by
 obtain⟨h1,h2⟩:=C6 (by kernel_rfl) c5l h;obtain⟨a,b,c,d,e,rfl⟩:=c1A h1;obtain⟨x,hx,_⟩:=Z0 (h2 (0,1,3) (by simp));obtain⟨y,hy,_⟩:=Z0 (h2 (1,1,3) (by simp));obtain⟨els,hl,_,hels⟩:=B9 (by kernel_rfl) c5o (h2 (2,1,81) (by simp));obtain⟨u,hu,_⟩:=Z0 (h2 (3,1,3) (by simp));obtain⟨v,hv,_⟩:=Z0 (h2 (4,1,3) (by simp));obtain⟨l,rfl,_⟩:=Y5 (c:=Spot.cells) (R:=fun _=>True) (fun el hel=>by obtain⟨s,hs⟩:=b3h (hels el hel);exact⟨s,hs,trivial⟩);simp at hx hy hl hu hv;subst hx hy hl hu hv;exact⟨⟨x,y,l,u,v⟩,by simp⟩
theorem b9f {n:Nat} {avs:List AV} (h:x9 Tryz.prog (n+8) 25 avs):∃p:Plan,avs=p.cells∧p.Fit:=by
 obtain⟨h1,h2⟩:=C6 (by kernel_rfl) c4y h;obtain⟨a,b,rfl⟩:=b3s h1;obtain⟨e1,hl1,b1,he1⟩:=B9 (by kernel_rfl) c5c (h2 (0,1,22) (by simp));obtain⟨e2,hl2,b2,he2⟩:=B9 (by kernel_rfl) c4g (h2 (1,1,23) (by simp));obtain⟨l1,rfl,_⟩:=Y5 (c:=Node.cells) (R:=fun _=>True) (fun el hel=>by obtain⟨s,hs⟩:=c0H (he1 el hel);exact⟨s,hs,trivial⟩);obtain⟨l2,rfl,_⟩:=Y5 (c:=Rail.cells) (R:=fun _=>True) (fun el hel=>by obtain⟨s,hs⟩:=b9e (he2 el hel);exact⟨s,hs,trivial⟩);simp at hl1 hl2;subst hl1 hl2;rw[List.length_map]at b1 b2;have hm:maxLen=9223372036854775807:=by decide
 exact⟨⟨l1,l2⟩,by simp,⟨by simp only[];omega,by simp only[];omega⟩⟩
theorem c0N {n:Nat} {avs:List AV} (h:x9 Tryz.prog (n+2) 108 avs):∃s:Profile,avs=s.cells∧I64 s.Half∧I64 s.Swing:=by
 obtain⟨h1,h2⟩:=C6 (by kernel_rfl) c3z h;obtain⟨a,b,rfl⟩:=b3s h1;obtain⟨x,hx,bx⟩:=Z0 (h2 (0,1,3) (by simp));obtain⟨y,hy,yb⟩:=Z0 (h2 (1,1,3) (by simp));simp at hx hy;subst hx hy;exact⟨⟨x,y⟩,rfl,bx,yb⟩
theorem b5Z {n:Nat} {avs:List AV} (h:x9 Tryz.prog (n+3) 26 avs):∃l:List Profile,avs=[.lst 2 (l.map Profile.cells)]∧l.length≤maxLen∧∀s∈l,I64 s.Half∧I64 s.Swing:=by
 obtain⟨els,hl,hb,he⟩:=B9 (by kernel_rfl) c4q h;obtain⟨l,rfl,hR⟩:=Y5 (c:=Profile.cells) (R:=fun s=>I64 s.Half∧I64 s.Swing) (fun el hel=>c0N (he el hel));simp at hl hb;exact⟨l,hl,hb,hR⟩
open Go.WideShapes in
theorem b9o {H:Type} {enc:TypeId×Value→H} {W:World} {base n:Nat} {t:TypeId} {v:Value} {d:DataW H} {p:List MemPlace} {z:List Value} {fs:List (Nat×Nat×TypeId)} (hg:b1H Tryz.prog n t=true) (ht:d5 Tryz.prog t= .agg z fs)
  (hv:Value.okWide Tryz.prog W .any base t v) (h:DataW.Trod enc Tryz.prog W 0 (fun _=>true) true t v d p):∃avs,p9 W (fun _=>False) (.agg avs) v∧x9 Tryz.prog n t avs:=by
 obtain⟨fuel,h⟩:=h;obtain⟨avs,hr,hs⟩:=c0e n fuel t _ _ hg h;obtain⟨info,fa,h1,h2,_⟩:=F0 ht;obtain⟨cs,rfl,_⟩:=okWide_struct h2 hv;refine⟨avs,?_,hs⟩;have:=p9.agg (w:=W) (S:=fun _=>False) avs cs.toList hr.1 (fun x hx=>by
  obtain⟨i,hi⟩:=List.getElem?_of_mem hx;have hil:=(List.getElem?_eq_some_iff.1 hi).1;obtain⟨c,hc⟩:=gx (l:=avs) (i:=i) (by rw[hr.1];exact hil);exact(hr.2 i c x hc hi).2) (fun i c x h1 h2=>(hr.2 i c x h1 h2).1)
 simpa using this
theorem c4J:laidOutB Tryz.prog=true:=by kernel_rfl
theorem c1R:mapsRowed Tryz.prog=true:=by kernel_rfl
theorem c5s:Kids Tryz.prog (· <Tryz.prog.types.size):=kids_rows c4J c1R
theorem full:∀t e,t<Tryz.prog.types.size→Tryz.prog.underlying t=some (.slice e)→0<Tryz.prog.cellsOf e:=slices_full_of Tryz.prog (by kernel_rfl)
theorem b5W {w w':World} (h:Ext (fun _=>False) w w') {a:Addr} (ha:a.block<w.heap.size):w'.cell? a=w.cell? a:=A3 (h.block _ ha (fun k=>k))
theorem b5D {H:Type} {enc:TypeId×Value→H} {f:Func} {s:ChangeSpec} {fresh handsOn again:Bool} {W W':World} {args:Array Value} {v:Value} {ds:List (DataW H)} {before:List MemPlace}
  (hvars:s.vars=[]) (hres:(s.fn H ds).results=[.lit (.bool true)]) (hargs:(s.fn H ds).args=ds) (hvs:(s.fn H ds).vars=[]) (hf:f.resultTypes= #[4]) (hts:∀t∈f.params.toList,t<Tryz.prog.types.size)
  (hW:DataW.Whole enc Tryz.prog f.params.toList s.vars false W args.toList ds [] before) (hext:Ext (fun _=>False) W W') (hv:v= .bool true):
  s.post enc Tryz.prog f false fresh handsOn again W args v W':=by
 subst hv;have hlt:=hW.lt;have hW':=hW;obtain⟨p,q,hA,hV,hpq,hz,hn⟩:=hW;rw[hvars]at hV;obtain⟨_,rfl⟩:=Go.ChangeShapes.trodVars_none hV;rw[List.append_nil]at hpq;subst hpq;have carry:∀(ts:List TypeId) (vs:List Value) (ds:List (DataW H)) (ps:List MemPlace),DataW.TrodAll enc Tryz.prog W 0 (fun _=>true) true ts vs ds ps→(∀x∈ps,x.block<W.heap.size)→DataW.TrodAll enc Tryz.prog W' 0 (fun _=>true) true ts vs ds ps:=by
  intro ts
  induction ts with
  |nil=>intro vs ds ps h _;match vs,ds,h with|[],[],h=>exact h
  | cons t ts ih=>
   intro vs ds ps h hl
   match vs,ds,h with
   |v::vs,d::ds,⟨p1,q1,⟨n,h1⟩,h2,he⟩=>
    subst he;refine⟨p1,q1,⟨n,DataW.trod_carry n _ _ _ h1 (fun x hx=>?_)⟩,ih vs ds q1 h2 (fun x hx=>hl x (List.mem_append_right _ hx)),rfl⟩;have hb:=hl x (List.mem_append_left _ hx)
    cases x with
    |cell b off=>exact b5W hext hb
    |map b=>exact hext.block b hb (fun k=>k)
 have hA':=carry _ _ _ _ hA hlt;have hag:∀sp:Nat→Bool,(∀x∈before,sp x.block=true)→DataW.TrodAll enc Tryz.prog W' 0 sp true f.params.toList args.toList (s.fn H (ds++[])).args before:=by
  intro sp hs;rw[List.append_nil,hargs];exact hA'.respare c5s full hts hs
 have hr:∀(b:Nat) (sp:Nat→Bool) (hd:Bool),DataW.TrodAll enc Tryz.prog W' b sp hd f.resultTypes.toList ((Value.bool true).resultList f.resultTypes.size) (s.fn H (ds++[])).results []:=by
  intro b sp hd;rw[List.append_nil,hres,hf];exact Go.ChangeShapes.trodAll_mk1 (Go.RowKit.shut_bool a7o _)
 have hkept:W.keptBut W' (· ∈before):=by
  refine⟨hext.os,hext.output,fun i hi=>?_⟩;rw[hext.block i hi (fun k=>k)]
  cases hb:W.heap[i]? with
  |none=>trivial
  |some o=>cases o<;>simp
 have hv0:∀sp:Nat→Bool,DataW.TrodVars enc Tryz.prog W' sp s.vars (s.fn H (ds++[])).vars []:=by
  intro sp;rw[hvars,List.append_nil,hvs]
  rfl
 have hold:∀x∈before,(fun b=>decide (b<W.heap.size)) x.block=true:=fun x hx=>by simpa using hlt x hx
 refine⟨ds,[],before,[],before,[],hW',hr _ _ _,hag _ hold,hv0 _,World.keptBut_mono (fun x hx=>⟨hx,Or.inr (Or.inl hx)⟩) hkept,fun _=>?_⟩;refine⟨Go.RowKit.ok_one hf rfl (Go.RowKit.okWide_bool_mk a7o _),_,_,([]++before)++[],⟨[]++before,[],Go.ChangeShapes.trodAll_append (hag _ (fun _ _=>rfl)) (hr _ _ _),hv0 _,rfl,?_,?_⟩,?_⟩
 ·intro b off hp;have hp':MemPlace.cell b off∈before:=by simpa using hp
  have hb:=hlt _ hp';have:W'.frozen? ⟨b,off,none⟩=W.frozen? ⟨b,off,none⟩:=by unfold World.frozen?;rw[hext.block b hb (fun k=>k)]
  rw[this];exact hz b off hp'
 ·intro ha;cases ha
 ·intro x hx _;simpa using hx
theorem b4g {P : Program} {f : FuncId} {fn : Func} {c : Code} {avs : List AV} {vs : List Value} {W : World} (hf : P.funcs[f]? = some fn) (hb : fn.body = some c) (hname : (fn.name == "runtime.NumGoroutine") = false)
  (h:a6 P f avs (Bo true)) (hl:avs.length=vs.length) (hr:∀(i:Nat) c x,avs[i]?=some c→vs[i]?=some x→p9 W (fun _=>False) c x):
  Calls P f vs.toArray W fun e W'=>e= .returned (.bool true)∧Ext (fun _=>False) W W':=by
 have hn' : ¬ fn.name = "runtime.NumGoroutine" := by simpa using hname
 rcases h with⟨_,h2⟩|h2
 ·refine(h2 (fun _=>False) W vs (fun b k=>k.elim) hl hr).mono fun e W' ⟨v,q1,q2,q3⟩=>?_
  cases q2
  exact⟨q1,q3⟩
 ·exfalso;obtain⟨v,q1,_⟩:=h2 (fun _=>False) W vs hl hr;have:(callFunc f vs.toArray).run P W= .ok (.enter f vs.toArray) W:=by simp[callFunc,hf,hn',hb]
  rw[this]at q1
  cases q1
theorem b9d {W:World}:∀(i:Nat) c x,([]:List AV)[i]?=some c→([]:List Value)[i]?=some x→p9 W (fun _=>False) c x:=fun i c x h=>by simp at h
theorem b5O {W:World} {a:AV} {v:Value} {xs:List AV} {vs:List Value} (h:p9 W (fun _=>False) a v) (k:∀(i:Nat) c x,xs[i]?=some c→vs[i]?=some x→p9 W (fun _=>False) c x):
  ∀(i:Nat) c x,(a::xs)[i]?=some c→(v::vs)[i]?=some x→p9 W (fun _=>False) c x:=fun i c x h1 h2=>by
 cases i with
 |zero=>simp at h1 h2;subst h1 h2;exact h
 |succ i=>exact k i c x (by simpa using h1) (by simpa using h2)
end Go.Tram
end
section
namespace Go.Tram
open Go.AM Go.Proofs
def ins (x:Int):List Int→List Int
 |[]=>[x]
 |y::l=>if x<y then x::y::l else y::ins x l
def srt (l:List Int):List Int:=l.foldl (fun s x=>ins x s) []
theorem b5m (x:Int):∀l,(ins x l).length=l.length+1
 |[]=>rfl
 |y::l=>by
  simp only[ins]
  split
  ·rfl
  ·simp[b5m x l]
theorem a3Q (x z:Int):∀l,z∈ins x l↔z=x∨z∈l
 |[]=>by simp[ins]
 | y::l=>by
  simp only[ins]
  split
  ·simp
  ·simp only[List.mem_cons,a3Q x z l];constructor
   ·rintro(h|h|h)<;>simp[h]
   ·rintro(h|h|h)<;>simp[h]
theorem a5s (x:Int):∀l:List Int,l.Pairwise (· ≤ ·)→(ins x l).Pairwise (· ≤ ·)
 |[],_=>by simp[ins]
 | y::l,h=>by
  rw[List.pairwise_cons]at h;simp only[ins]
  split
  ·rename_i hx;rw[List.pairwise_cons,List.pairwise_cons];refine⟨fun z hz=>?_,h⟩
   rcases List.mem_cons.1 hz with rfl|hz
   ·omega
   ·have:=h.1 z hz;omega
  ·rename_i hx;rw[List.pairwise_cons];refine⟨fun z hz=>?_,a5s x l h.2⟩
   rcases(a3Q x z l).1 hz with rfl|hz
   ·omega
   ·exact h.1 z hz
theorem a3R (x:Int) (B:List Int) (hB:∀y∈B,x<y):∀A:List Int,(∀y∈A,y≤x)→ins x (A++B)=A++x::B
 |[],_=>by
  cases B with
  |nil=>rfl
  |cons y B=>simp only[List.nil_append,ins];rw[if_pos (hB y (by simp))]
 |a::A,h=>by
  simp only[List.cons_append,ins];rw[if_neg (by have:=h a (by simp);omega),a3R x B hB A fun y hy=>h y (by simp[hy])]
theorem b5H {l:List Int} {i:Nat} {x:Int} (h:l[i]?=some x):srt (l.take (i+1))=ins x (srt (l.take i)):=by
 rw[List.take_add_one,h];simp[srt]
theorem a6i (l:List Int):(srt l).length=l.length:=by
 have gen:∀(l s:List Int),(l.foldl (fun s x=>ins x s) s).length=s.length+l.length:=by
  intro l
  induction l with
  |nil=>simp
  |cons x l ih=>intro s;rw[List.foldl_cons,ih,b5m];simp;omega
 have:=gen l [];simpa [srt]using this
theorem b1T (l:List Int):(srt l).Pairwise (· ≤ ·):=by
 have gen:∀(l s:List Int),s.Pairwise (· ≤ ·)→(l.foldl (fun s x=>ins x s) s).Pairwise (· ≤ ·):=by
  intro l
  induction l with
  |nil=>intro s h;exact h
  |cons x l ih=>intro s h;exact ih _ (a5s x s h)
 exact gen l [] List.Pairwise.nil
theorem c2t {L:List Int} (h:L.Pairwise (· ≤ ·)) {j:Nat} {y:Int} (hy:L[j]?=some y):∀a∈L.take (j+1),a≤y:=by
 intro a ha;obtain⟨hj,he⟩:=List.getElem?_eq_some_iff.1 hy;rw[List.take_add_one,hy]at ha
 rcases List.mem_append.1 ha with ha|ha
 ·have hs:L=L.take j++y::L.drop (j+1):=by rw[←he,List.getElem_cons_drop,List.take_append_drop]
  rw[hs,List.pairwise_append]at h;exact h.2.2 a ha y (by simp)
 ·simp at ha;omega
def a9r (L:List Int) (x:Int) (R:List Int) (j:Nat):List Int:=L.take j++x::(L.drop j++R)
theorem a9c {L:List Int} {x:Int} {R:List Int} {j:Nat} (h:j≤L.length):(a9r L x R j)[j]?=some x:=by
 unfold a9r;rw[List.getElem?_append_right (by simp;omega)];simp[Nat.min_eq_left h]
theorem a9t {L:List Int} {x y:Int} {R:List Int} {j:Nat} (h:L[j]?=some y):(a9r L x R (j+1))[j]?=some y:=by
 have hj:=(List.getElem?_eq_some_iff.1 h).1;unfold a9r;rw[List.getElem?_append_left (by simp;omega),List.getElem?_take];simp[h]
theorem b4n {L:List Int} {x y:Int} {R:List Int} {j:Nat} (h:L[j]?=some y):((a9r L x R (j+1)).set (j+1) y).set j x=a9r L x R j:=by
 obtain⟨hj,hy⟩:=List.getElem?_eq_some_iff.1 h;have h1:L.take (j+1)=L.take j++[y]:=by rw[List.take_add_one,h];rfl
 have h2:L.drop j=y::L.drop (j+1):=by rw[List.drop_eq_getElem_cons hj,hy]
 have hl:(L.take j).length=j:=by rw[List.length_take];omega
 unfold a9r;rw[h1,h2,List.append_assoc,List.set_append,if_neg (by omega),List.set_append,if_neg (by omega),hl];simp
@[simp] def j4 (n:Int):List AV:=[I n]
theorem b3r (l:List Int):(l.map j4).all (fun e=>e.all S2)=true:=by simp[S2]
@[simp high] theorem c1i (l:List Int) (g:List (Option Nat)) (n:Nat):(l.map j4).map (fun e=>e.map (o4 g n))=l.map j4:=x6 (fun x h=>N0 h g n) (b3r l)
@[simp high] theorem c0c (l:List Int) (H:Nat→Option k7) (g:List (Option Nat)) (n:Nat):(l.map j4).map (fun e=>e.map (V5 H g n))=l.map j4:=x6 (fun x h=>a1Q h H g n) (b3r l)
@[simp high] theorem b9k (l:List Int) (H:Hp) (n:Nat):(l.map j4).map (fun e=>e.map (I6 H n))=l.map j4:=x6 (fun x h=>Q4 h H n) (b3r l)
theorem b8k (a b:Int):a6 Tryz.prog 195 [I a,I b] (Bo (decide (a<b))):=by
 refine oB Tryz.func195 Tryz.ntmps195 Tryz.results195 ?_;refine aW ?_;refine aW ?_ fun K hK=>by simp -dsimp;refine cI (a6j a) ?_;simp -dsimp;refine cY (fun hm=>a6j b) ?_;simp -dsimp;exact hK
 exact a9 (by simp)
theorem c0U (xs:List Int) (h1:1≤xs.length) (hn:xs.length≤1000):c6 Tryz.prog 189 [.row 0 0 xs.length,I 0,I xs.length] [some (.els 1 (xs.map j4))] [] (.tup []) [some (.els 1 ((srt xs).map j4))] []:=by
 have w01:IntKind.i64.wrap 1=1:=c4 (by omega) (by omega);have wm1:IntKind.i64.wrap (-1)=-1:=c4 (by omega) (by omega);refine oG [0] Tryz.func189 Tryz.ntmps189 Tryz.results189 ?_;intro J hJ;refine gW ?_ fun K hK=>by simp -dsimp [w01];exact hK
 refine c8 ?_;refine gP [0,1,2,6] ?_;refine i6 [0,1,2] (α:=Nat) (fun i=>[(6,I i)]) (fun i=>[some (.els 1 ((srt (xs.take i)++xs.drop i).map j4))]) (fun i=>1≤i∧i≤xs.length) (fun i=>xs.length-i) 1 ?_ ?_ ?_
 ·exact⟨Nat.le_refl _,h1⟩
 ·refine M9 (d9 [some 0] rfl (by simp) ?_) (by simp);obtain⟨x,l,rfl⟩:∃x l,xs=x::l:=by cases xs with|nil=>simp at h1|cons x l=>exact⟨x,l,rfl⟩
  simp[srt,ins]
 rintro i ⟨i1,i2⟩;refine zN ?_;refine a7 fun K1 hK1=>?_;refine gW ?_;refine c3 rfl (fun hc0=>?_) (fun hc0=>?_)
 ·skip
  try simp at hc0
  have wi:=zW i (by omega);obtain⟨x,hx⟩:=gx (l:=xs) (i:=i) hc0;obtain⟨hxi,hxe⟩:=List.getElem?_eq_some_iff.1 hx;have hdr:xs.drop i=x::xs.drop (i+1):=by rw[List.drop_eq_getElem_cons hxi,hxe]
  have hdm:(xs.map j4).drop i=[I x]::(xs.drop (i+1)).map j4:=by rw[←List.map_drop,hdr];rfl
  have hst:=b5H hx;have hsl:(srt (xs.take i)).length=i:=by rw[a6i,List.length_take];omega
  have hso:=b1T (xs.take i);generalize srt (xs.take i)=L at hst hsl hso ⊢;generalize hR:xs.drop (i+1)=R at hdr hdm ⊢;have hRl:R.length=xs.length-(i+1):=by rw[←hR,List.length_drop]
  refine c5 ?_;refine zQ (hK1 _ _ ?_);refine gP [0,1,2,6] ?_;refine a7 fun K2 hK2=>?_;refine c8 ?_;refine gW ?_;refine c8 ?_;refine gP [0,1,2,6,7] ?_;refine i6 [0,1,2,6] (α:=Nat) (fun j=>[(7,I j)]) (fun j=>[some (.els 1 ((a9r L x R j).map j4))]) (fun j=>j≤i∧∀y∈L.drop j,x<y) (fun j=>j) i ?_ ?_ ?_
  ·exact⟨Nat.le_refl _,by rw[List.drop_of_length_le (by omega)];simp⟩
  ·refine M9 (d9 [some 0] rfl (by simp) ?_) (by simp);simp[a9r,hdm,List.take_of_length_le (show L.length≤i by omega),List.drop_of_length_le (show L.length≤i by omega)]
  rintro j ⟨j1,j2⟩
  rcases j with _|j
  rotate_left
  obtain⟨y,hy⟩:=gx (l:=L) (i:=j) (by omega);have gj:=a9c (L:=L) (x:=x) (R:=R) (j:=j+1) (by omega);have gb:=a9t (x:=x) (R:=R) hy;have wj:IntKind.i64.wrap (j:Int)=j:=c4 (by omega) (by omega);have hj1:j+1<xs.length:=by omega
  have hj0:j<xs.length:=by omega
  have hdj:L.drop j=y::L.drop (j+1):=by obtain⟨hh,he⟩:=List.getElem?_eq_some_iff.1 hy;rw[List.drop_eq_getElem_cons hh,he]
  rotate_left
  ·refine zN ?_;refine a7 fun K3 hK3=>?_;refine gD ?_ fun K hK=>by simp -dsimp [a9c (L:=L) (x:=x) (R:=R) (Nat.zero_le _),wm1];refine cY (fun hm=>b8k x x) ?_;simp -dsimp [a9c (L:=L) (x:=x) (R:=R) (Nat.zero_le _),wm1];exact hK
   refine c3 rfl (fun hc1=>?_) (fun hc1=>?_)
   ·simp at hc1
   ·have hfin:ins x L=x::L:=by have:=a3R x L (by simpa using j2) [] (by simp);simpa using this
    have he:srt (xs.take (i+1))++xs.drop (i+1)=a9r L x R 0:=by rw[hst,hR,hfin];simp[a9r]
    refine p7 ?_;refine zQ (hK2 _ _ ?_);refine gP [0,1,2,6] ?_;refine gV ?_ fun K hK=>by simp -dsimp [wi];exact hK
    refine zQ ?_;exact⟨i+1,⟨by omega,by omega⟩,by omega,M9 (d9 [some 0] rfl (by simp) (by simp only[he];simp)) (by simp)⟩
  ·refine zN ?_;refine a7 fun K4 hK4=>?_;refine b7P a2g rfl (by decide) rfl rfl fun K hK=>?_;simp -dsimp [gj,gb,wj,hj1,hj0];refine⟨by omega,?_⟩
   try simp -dsimp [gj,gb,wj,hj1,hj0]
   refine cY (fun hm=>b8k x y) ?_;simp -dsimp [gj,gb,wj,hj1,hj0];refine hK _ _ _ (by decide+kernel) ?_;clear hK K;refine c3 rfl (fun hc1=>?_) (fun hc1=>?_)
   ·skip
    try simp at hc1
    refine c5 ?_;refine zQ (hK4 _ _ ?_);refine gP [0,1,2,6,7] ?_;refine a7 fun K5 hK5=>?_;refine c8 ?_;refine a6m a2g rfl (by decide) rfl rfl fun K hK=>?_;simp -dsimp [gj,gb,wj,hj1,hj0]
    repeat (refine⟨by omega,?_⟩;try simp -dsimp [gj,gb,wj,hj1,hj0])
    refine hK _ _ _ (by decide+kernel) ?_;clear hK K;refine zQ (hK5 _ _ ?_);refine gP [0,1,2,6,7] ?_;refine gV ?_ fun K hK=>by simp -dsimp [wj];exact hK
    refine zQ ?_;have hsw:(((a9r L x R (j+1)).map j4).set (j+1) [I y]).set j [I x]=(a9r L x R j).map j4:=by rw[←b4n hy,List.map_set,List.map_set];rfl
    exact⟨j,⟨by omega,by intro z hz;rw[hdj]at hz;rcases List.mem_cons.1 hz with rfl|hz;exact hc1;exact j2 z hz⟩,by omega,gB [some 0] (hH:=by simp[hsw])⟩
   ·skip
    try simp at hc1
    have hfin:ins x L=L.take (j+1)++x::L.drop (j+1):=by have:=a3R x (L.drop (j+1)) j2 (L.take (j+1)) (fun a ha=>Int.le_trans (c2t hso hy a ha) hc1);rwa [List.take_append_drop]at this
    have he:srt (xs.take (i+1))++xs.drop (i+1)=a9r L x R (j+1):=by rw[hst,hR,hfin];simp[a9r]
    refine p7 ?_;refine zQ (hK2 _ _ ?_);refine gP [0,1,2,6] ?_;refine gV ?_ fun K hK=>by simp -dsimp [wi];exact hK
    refine zQ ?_;exact⟨i+1,⟨by omega,by omega⟩,by omega,M9 (d9 [some 0] rfl (by simp) (by simp only[he];simp)) (by simp)⟩
 ·skip
  try simp at hc0
  have hie:i=xs.length:=by omega
  subst hie;refine p7 ?_
  try simp only[zT,reduceIte,Nat.reduceEqDiff]
  exact⟨[some 0],rfl,by simp,by simp,by simp[h1],by simp[R3,v7]⟩
theorem b9U:(Tryz.prog).underlying 9=some .string:=by kernel_rfl
theorem b7Y:(Tryz.prog).underlying 5=some (.int .u8):=by kernel_rfl
theorem b6Q:(Tryz.prog).underlying 275=some (.int .u64):=by kernel_rfl
theorem b4T (s:ByteArray) (n:Int) (h0:0≤n) (h1:n.toNat<s.size) (w:World):(Instr.index 9 (.string s) (.int .u8 n)).run Tryz.prog w= .ok (.int .u8 (s[n.toNat]).toNat) w:=by
 have hs:s[n.toNat]?=some s[n.toNat]:=getElem?_pos s n.toNat h1;simp[Instr.index,asIntOf,run_underlying b9U,h0,hs]
theorem b3g (n:Int) (w:World):(convert 3 275 (.int .i64 n)).run Tryz.prog w= .ok (.int .u64 (IntKind.u64.wrap n)) w:=by
 simp[convert,run_underlying a3T,run_underlying b6Q,Conv.intToInt]
theorem b8G (n:Int) (w:World):(convert 305 5 (.int .u64 n)).run Tryz.prog w= .ok (.int .u8 (IntKind.u8.wrap n)) w:=by
 simp[convert,run_underlying b5o,run_underlying b7Y,Conv.intToInt]
theorem b9b (n:Int) (w:World):(convert 5 3 (.int .u8 n)).run Tryz.prog w= .ok (.int .i64 (IntKind.i64.wrap n)) w:=by
 simp[convert,run_underlying a3T,run_underlying b7Y,Conv.intToInt]
theorem c0B (n:Int) (h0:0≤n) (h1:n≤200):∃k,a6 Tryz.prog 199 [U n] (I k):=by
 have w8:IntKind.u8.wrap n=n:=by rw[IntKind.wrap_u8];omega
 have h2:¬4294967296≤n:=by omega
 have h3:¬65536≤n:=by omega
 have h4:¬256≤n:=by omega
 apply Exists.intro;refine oB Tryz.func199 Tryz.ntmps199 Tryz.results199 ?_;refine aW ?_;refine a5 fun K1 hK1=>?_;refine aW ?_;refine a8 rfl (fun hc0=>?_) (fun hc0=>?_)
 ·skip
  try simp at hc0
  omega
 ·skip
  try simp at hc0
  refine b8 ?_;refine zQ (hK1 _ _ ?_);refine aP [0,2] ?_;refine a5 fun K2 hK2=>?_;refine aW ?_;refine a8 rfl (fun hc1=>?_) (fun hc1=>?_)
  ·skip
   try simp at hc1
   omega
  ·skip
   try simp at hc1
   refine b8 ?_;refine zQ (hK2 _ _ ?_);refine aP [0,2] ?_;refine a5 fun K3 hK3=>?_;refine aW ?_;refine a8 rfl (fun hc2=>?_) (fun hc2=>?_)
   ·skip
    try simp at hc2
    omega
   ·skip
    try simp at hc2
    refine b8 ?_;refine zQ (hK3 _ _ ?_);refine aP [0,2] ?_;refine aS fun K hK=>?_;simp -dsimp;refine⟨_,b8G n,?_⟩
    try simp -dsimp [w8]
    refine⟨_,b4T _ n h0 (Nat.lt_of_lt_of_le (show n.toNat<256 by omega) (by decide+kernel)),?_⟩
    try simp -dsimp
    refine⟨_,b9b _,?_⟩
    try simp -dsimp
    apply hK;clear hK K;exact a9 rfl
theorem c1Q (n:Int) (h0:0≤n) (h1:n≤200):∃k,a6 Tryz.prog 169 [U n] (I k):=by
 obtain⟨k,hk⟩:=c0B n h0 h1;refine⟨k,?_⟩;refine oB Tryz.func169 Tryz.ntmps169 Tryz.results169 ?_;refine aW ?_;refine a5 fun K1 hK1=>?_;refine a8 rfl (fun hc0=>?_) (fun hc0=>?_)
 ·simp at hc0
 ·refine b8 ?_;refine zQ (hK1 _ _ ?_);refine aP [0] ?_;refine aW ?_ fun K hK=>by simp -dsimp;refine cI (hk) ?_;simp -dsimp;exact hK
  exact a9 (by simp)
theorem c3d (xs:List Int) (k:Int) (h1:1≤xs.length) (hn:xs.length≤12):c6 Tryz.prog 168 [.row 0 0 xs.length,I 0,I xs.length,I k] [some (.els 1 (xs.map j4))] [] (.tup []) [some (.els 1 ((srt xs).map j4))] []:=by
 have hs:=c0U xs h1 (by omega);have wl:IntKind.i64.wrap (xs.length:Int)=xs.length:=c4 (by omega) (by omega);refine oG [0] Tryz.func168 Tryz.ntmps168 Tryz.results168 ?_;intro J hJ;refine gW ?_;refine gW ?_;refine c8 ?_;refine gP [0,1,2,3,8,9] ?_;refine i6 [0] (α:=Unit) (fun _=>[(1,I 0),(2,I xs.length),(3,I k),(8,Bo true),(9,Bo true)]) (fun _=>[some (.els 1 (xs.map j4))]) (fun _=>True) (fun _=>0) () ?_ ?_ ?_
 ·simp
 ·exact M9 (c9 (by simp)) (by simp)
 rintro u-;refine zN ?_;refine c8 ?_;refine gW ?_ fun K hK=>by simp -dsimp [wl];exact hK
 refine a7 fun K1 hK1=>?_;refine gW ?_;refine c3 rfl (fun hc0=>?_) (fun hc0=>?_)
 ·skip
  try simp at hc0
  refine gW ?_ fun K hK=>by simp -dsimp;refine cM [0] [] (hs) ?_;simp -dsimp;exact hK
  exact g7 ⟨[some 0],rfl,by simp,by simp,by simp[h1],by simp[R3,v7]⟩
 ·skip
  try simp at hc0
  omega
theorem c2v (xs:List Int) (h1:1≤xs.length) (hn:xs.length≤12):c6 Tryz.prog 124 [.row 0 0 xs.length] [some (.els 1 (xs.map j4))] [] (.tup []) [some (.els 1 ((srt xs).map j4))] []:=by
 obtain⟨k,hk⟩:=c1Q xs.length (by omega) (by omega);have hs:=c3d xs k h1 hn;have wu:IntKind.u64.wrap (xs.length:Int)=xs.length:=U4 (by omega) (by omega);refine oG [0] Tryz.func124 Tryz.ntmps124 Tryz.results124 ?_;intro J hJ;refine gW ?_;refine gV ?_ fun K hK=>by simp -dsimp;refine⟨_,b3g _,?_⟩;simp -dsimp [wu];refine cI (hk) ?_;simp -dsimp;refine cM [0] [] (hs) ?_;simp -dsimp;exact hK
 try simp only[zT,reduceIte,Nat.reduceEqDiff]
 exact⟨[some 0],rfl,by simp,by simp,by simp[h1],by simp[R3,v7]⟩
theorem b6f:a6 Tryz.prog 189 [.lst 1 [],I 0,I 0] (.tup []):=by
 have w01:IntKind.i64.wrap 1=1:=c4 (by omega) (by omega);refine oB Tryz.func189 Tryz.ntmps189 Tryz.results189 ?_;refine aW ?_ fun K hK=>by simp -dsimp [w01];exact hK
 refine b9 ?_;refine aP [0,1,2,6] ?_;refine c7 [0,1,2] (α:=Unit) (fun i=>[(6,I 1)]) (fun i=>[]) (fun i=>True) (fun i=>0) () ?_ ?_ ?_
 ·simp
 ·exact c9 (by simp)
 rintro u-;refine zN ?_;refine a5 fun K1 hK1=>?_;refine aW ?_;refine a8 rfl (fun hc0=>?_) (fun hc0=>?_)
 ·simp at hc0
 ·refine d4 ?_
  try simp only[zT,reduceIte,Nat.reduceEqDiff]
  simp[R3,v7]
theorem c2q (k:Int):a6 Tryz.prog 168 [.lst 1 [],I 0,I 0,I k] (.tup []):=by
 have wl:IntKind.i64.wrap 0=0:=c4 (by omega) (by omega);refine oB Tryz.func168 Tryz.ntmps168 Tryz.results168 ?_;refine aW ?_;refine aW ?_;refine b9 ?_;refine aP [0,1,2,3,8,9] ?_;refine c7 [0] (α:=Unit) (fun _=>[(1,I 0),(2,I 0),(3,I k),(8,Bo true),(9,Bo true)]) (fun _=>[]) (fun _=>True) (fun _=>0) () ?_ ?_ ?_
 ·simp
 ·exact c9 (by simp)
 rintro u-;refine zN ?_;refine b9 ?_;refine aW ?_ fun K hK=>by simp -dsimp [wl];exact hK
 refine a5 fun K1 hK1=>?_;refine aW ?_;refine a8 rfl (fun hc0=>?_) (fun hc0=>?_)
 ·refine aW ?_ fun K hK=>by simp -dsimp;refine cI (b6f) ?_;simp -dsimp;exact hK
  exact a9 (by simp[R3,v7])
 ·simp at hc0
theorem b9m:a6 Tryz.prog 124 [.lst 1 []] (.tup []):=by
 obtain⟨k,hk⟩:=c1Q 0 (by omega) (by omega);have wu:IntKind.u64.wrap 0=0:=U4 (by omega) (by omega);refine oB Tryz.func124 Tryz.ntmps124 Tryz.results124 ?_;refine aW ?_;refine aV ?_ fun K hK=>by simp -dsimp;refine⟨_,b3g _,?_⟩;simp -dsimp [wu];refine cI (hk) ?_;simp -dsimp;refine cI (c2q k) ?_;simp -dsimp;exact hK
 try simp only[zT,reduceIte,Nat.reduceEqDiff]
 simp[R3,v7]
end Go.Tram
end
section
namespace Go.Tram
open Go.AM Go.Proofs
structure Move where
 Rail:Int
 Back:Bool
 deriving DecidableEq,Inhabited
@[simp] def Move.cells (m:Move):List AV:=[I m.Rail,Bo m.Back]
abbrev Move.av (m:Move):AV:= .agg m.cells
def V6 (m:Move):D7:=⟨m.Rail, !m.Back⟩
def a9s (m:Move):D7:=⟨m.Rail,m.Back⟩
def a4X (m:Move):Int:=if m.Back then 2*m.Rail+1 else 2*m.Rail
def Y0 (k:Int):Move:=⟨k/2,decide (k % 2=1)⟩
def E3 (p:Plan) (m:Move):Bool:=inr m.Rail 0 (p.Rails.length-1)
theorem D3 (q k:List KC) (u:Value):∀kvs:List (List KC×Value),o7 (I9 kvs k u) q=if q=k then some u else o7 kvs q
 |[]=>by simp[I9,o7]
 | (k0,v0)::r=>by
  simp only[I9]
  split
  ·rename_i e;subst e;simp only[o7]
   split<;>rfl
  ·rename_i e;simp only[o7]
   split
   ·rename_i e2;subst e2;rw[if_neg (fun h=>e h.symm)]
   ·exact D3 q k u r
def c1f (p:Plan) (e:D7):Value:=(o7 (F3 p p.Nodes.length) [.i .i64 e.Rail, .b e.Last]).getD (.int .i64 0)
def plc (p:Plan) (e:D7):Int:=match c1f p e with| .int _ n=>n|_=>0
def b9i (kvs:List (List KC×Value)):Prop:=∀q v,o7 kvs q=some v→∃n:Nat,n≤1000∧v= .int .i64 n
theorem a8b {kvs:List (List KC×Value)} {es:List D7} (h:b9i kvs):∀j,j≤1000→b9i (b5t kvs es j)
 |0,_=>h
 |j+1,hj=>by
  intro q v hq;simp only[b5t]at hq;rw[D3]at hq
  split at hq
  ·simp only[Option.some.injEq]at hq;exact⟨j,by omega,hq.symm⟩
  ·exact a8b h j (by omega) q v hq
theorem a2A {p:Plan} (hE:∀i:Nat,i<p.Nodes.length→(p.node i).Ends.length≤4):∀i,i≤p.Nodes.length→b9i (F3 p i)
 |0,_=>by intro q v h;simp[F3,o7]at h
 |i+1,hi=>by
  simp only[F3];exact a8b (a2A hE i (by omega)) _ (by have:=hE i (by omega);omega)
theorem a3K {p:Plan} (hv:d7 p=true) {i:Int} (h0:0≤i) (h1:i<p.Nodes.length):B5 (p.node i)=true:=List.all_eq_true.1 (n5 hv).2.2.1 _ (List.mem_of_getElem? (p.node_get h0 h1))
theorem a1s {n:Node} (h:B5 n=true):(1≤n.Kind∧n.Kind≤6)∧n.Ends.length≤4∧(0≤n.Normal∧n.Normal≤2):=by
 simp only[B5,Bool.and_eq_true,decide_eq_true_eq]at h;obtain⟨h1,_,h2,h3⟩:=h;unfold P6 at h2 h3;refine⟨by omega,by omega,?_⟩
 split at h1
 ·have:=g8.1 h1;omega
 ·simp only[decide_eq_true_eq]at h1;omega
theorem a9n {p:Plan} (hv:d7 p=true) (e:D7):c1f p e= .int .i64 (plc p e)∧0≤plc p e∧plc p e≤1000:=by
 have hi:=a2A (p:=p) (fun i hi=>(a1s (a3K hv (i:=i) (by omega) (by omega))).2.1) p.Nodes.length (Nat.le_refl _);have key:∃n:Nat,n≤1000∧c1f p e= .int .i64 n:=by
  unfold c1f
  cases hk:o7 (F3 p p.Nodes.length) [.i .i64 e.Rail, .b e.Last]with
  |none=>exact⟨0,by omega,rfl⟩
  |some v=>obtain⟨n,h1,h2⟩:=hi _ v hk;exact⟨n,h1,h2⟩
 obtain⟨n,h1,h2⟩:=key;unfold plc;rw[h2];exact⟨rfl,by show(0:Int)≤n;omega,by show(n:Int)≤1000;omega⟩
def V2 (n:Node) (f t:Int):Bool:=
 if n.Kind=1 then false else if n.Kind=2 then decide (f≠t)else if n.Kind=3 then decide (f≠t)&&decide ((f+t) % 2=0)
 else if n.Kind=4 then decide (f≠t)&&(decide (f=0)||decide (t=0))else if n.Kind=5 then(decide (f≠0)&&decide (t=0))||(decide (f=0)&&decide (t=n.Normal))
 else(decide (f=0)&&decide (t=n.Normal))||(decide (f=n.Normal)&&decide (t=0))
theorem c1L (n:Node) (f t:Int):a6 Tryz.prog 225 [.agg n.cells,I f,I t] (Bo false):=by
 refine oB Tryz.func225 Tryz.ntmps225 Tryz.results225 ?_;refine aW ?_;refine aW ?_;exact a9 (by simp)
theorem b6H (n:Node) (f t:Int):a6 Tryz.prog 226 [.agg n.cells,I f,I t] (Bo (decide (f≠t))):=by
 refine oB Tryz.func226 Tryz.ntmps226 Tryz.results226 ?_;refine aW ?_;refine aW ?_;refine a9 ?_;simp;exact Bool.eq_iff_iff.2 (by simp)
theorem b6V (n:Node) (f t:Int) (hf:0≤f∧f≤1000) (ht:0≤t∧t≤1000):a6 Tryz.prog 227 [.agg n.cells,I f,I t] (Bo (decide (f≠t)&&decide ((f+t) % 2=0))):=by
 have w:IntKind.i64.wrap (f+t)=f+t:=c4 (by omega) (by omega);have w2:(f+t).tmod 2=(f+t) % 2:=Int.tmod_eq_emod_of_nonneg (by omega);refine oB Tryz.func227 Tryz.ntmps227 Tryz.results227 ?_;refine aW ?_;refine aW ?_ fun K hK=>by simp -dsimp [w,w2];exact hK
 refine a9 ?_;simp;exact Bool.eq_iff_iff.2 (by simp)
theorem c1K (n:Node) (f t:Int):a6 Tryz.prog 228 [.agg n.cells,I f,I t] (Bo (decide (f≠t)&&(decide (f=0)||decide (t=0)))):=by
 refine oB Tryz.func228 Tryz.ntmps228 Tryz.results228 ?_;refine aW ?_;refine aW ?_;refine a9 ?_;simp;exact Bool.eq_iff_iff.2 (by simp)
theorem b4L (n:Node) (f t:Int):a6 Tryz.prog 229 [.agg n.cells,I f,I t] (Bo ((decide (f≠0)&&decide (t=0))||(decide (f=0)&&decide (t=n.Normal)))):=by
 refine oB Tryz.func229 Tryz.ntmps229 Tryz.results229 ?_;refine aW ?_;refine aW ?_;refine a9 ?_;simp;exact Bool.eq_iff_iff.2 (by simp)
theorem b3d (n:Node) (f t:Int):a6 Tryz.prog 230 [.agg n.cells,I f,I t] (Bo ((decide (f=0)&&decide (t=n.Normal))||(decide (f=n.Normal)&&decide (t=0)))):=by
 refine oB Tryz.func230 Tryz.ntmps230 Tryz.results230 ?_;refine aW ?_;refine aW ?_;refine a9 ?_;simp;exact Bool.eq_iff_iff.2 (by simp)
theorem c0m (n:Node) (f t:Int) (hf:0≤f∧f≤1000) (ht:0≤t∧t≤1000) (hk:n.Kind=1):a6 Tryz.prog 216 [.agg n.cells,I f,I t] (Bo (V2 n f t)):=by
 have hc:=c1L n f t;unfold V2;simp only[Node.cells,hk,Int.reduceEq,if_false,if_true,reduceIte]at hc ⊢;refine oB Tryz.func216 Tryz.ntmps216 Tryz.results216 ?_;refine aW ?_;refine aW ?_;refine aD ?_ fun K hK=>by simp -dsimp;refine cI (hc) ?_;simp -dsimp;exact hK
 exact a9 (by simp)
theorem c0I (n:Node) (f t:Int) (hf:0≤f∧f≤1000) (ht:0≤t∧t≤1000) (hk:n.Kind=2):a6 Tryz.prog 216 [.agg n.cells,I f,I t] (Bo (V2 n f t)):=by
 have hc:=b6H n f t;unfold V2;simp only[Node.cells,hk,Int.reduceEq,if_false,if_true,reduceIte]at hc ⊢;refine oB Tryz.func216 Tryz.ntmps216 Tryz.results216 ?_;refine aW ?_;refine aW ?_;refine aD ?_ fun K hK=>by simp -dsimp;refine cI (hc) ?_;simp -dsimp;exact hK
 exact a9 (by simp)
theorem b8O (n:Node) (f t:Int) (hf:0≤f∧f≤1000) (ht:0≤t∧t≤1000) (hk:n.Kind=3):a6 Tryz.prog 216 [.agg n.cells,I f,I t] (Bo (V2 n f t)):=by
 have hc:=b6V n f t hf ht;unfold V2;simp only[Node.cells,hk,Int.reduceEq,if_false,if_true,reduceIte]at hc ⊢;refine oB Tryz.func216 Tryz.ntmps216 Tryz.results216 ?_;refine aW ?_;refine aW ?_;refine aD ?_ fun K hK=>by simp -dsimp;refine cI (hc) ?_;simp -dsimp;exact hK
 exact a9 (by simp)
theorem b9I (n:Node) (f t:Int) (hf:0≤f∧f≤1000) (ht:0≤t∧t≤1000) (hk:n.Kind=4):a6 Tryz.prog 216 [.agg n.cells,I f,I t] (Bo (V2 n f t)):=by
 have hc:=c1K n f t;unfold V2;simp only[Node.cells,hk,Int.reduceEq,if_false,if_true,reduceIte]at hc ⊢;refine oB Tryz.func216 Tryz.ntmps216 Tryz.results216 ?_;refine aW ?_;refine aW ?_;refine aD ?_ fun K hK=>by simp -dsimp;refine cI (hc) ?_;simp -dsimp;exact hK
 exact a9 (by simp)
theorem c0i (n:Node) (f t:Int) (hf:0≤f∧f≤1000) (ht:0≤t∧t≤1000) (hk:n.Kind=5):a6 Tryz.prog 216 [.agg n.cells,I f,I t] (Bo (V2 n f t)):=by
 have hc:=b4L n f t;unfold V2;simp only[Node.cells,hk,Int.reduceEq,if_false,if_true,reduceIte]at hc ⊢;refine oB Tryz.func216 Tryz.ntmps216 Tryz.results216 ?_;refine aW ?_;refine aW ?_;refine aD ?_ fun K hK=>by simp -dsimp;refine cI (hc) ?_;simp -dsimp;exact hK
 exact a9 (by simp)
theorem b8Z (n:Node) (f t:Int) (hf:0≤f∧f≤1000) (ht:0≤t∧t≤1000) (hk:n.Kind=6):a6 Tryz.prog 216 [.agg n.cells,I f,I t] (Bo (V2 n f t)):=by
 have hc:=b3d n f t;unfold V2;simp only[Node.cells,hk,Int.reduceEq,if_false,if_true,reduceIte]at hc ⊢;refine oB Tryz.func216 Tryz.ntmps216 Tryz.results216 ?_;refine aW ?_;refine aW ?_;refine aD ?_ fun K hK=>by simp -dsimp;refine cI (hc) ?_;simp -dsimp;exact hK
 exact a9 (by simp)
theorem c1u (n:Node) (f t:Int) (hf:0≤f∧f≤1000) (ht:0≤t∧t≤1000) (hk:1≤n.Kind∧n.Kind≤6):a6 Tryz.prog 216 [.agg n.cells,I f,I t] (Bo (V2 n f t)):=by
 have:n.Kind=1∨n.Kind=2∨n.Kind=3∨n.Kind=4∨n.Kind=5∨n.Kind=6:=by omega
 rcases this with h|h|h|h|h|h
 ·exact c0m n f t hf ht h
 ·exact c0I n f t hf ht h
 ·exact b8O n f t hf ht h
 ·exact b9I n f t hf ht h
 ·exact c0i n f t hf ht h
 ·exact b8Z n f t hf ht h
theorem a3L (m:Move):a6 Tryz.prog 173 [m.av] (.agg [I m.Rail,Bo (!m.Back)]):=by
 refine oB Tryz.func173 Tryz.ntmps173 Tryz.results173 ?_;refine aW ?_;refine aW ?_;exact a9 (by simp)
theorem b6u (m:Move) (h0:0≤m.Rail) (h1:m.Rail≤100000):a6 Tryz.prog 217 [m.av] (I (a4X m)):=by
 have w1:IntKind.i64.wrap (2*m.Rail)=2*m.Rail:=c4 (by omega) (by omega);have w2:IntKind.i64.wrap (2*m.Rail+1)=2*m.Rail+1:=c4 (by omega) (by omega);refine oB Tryz.func217 Tryz.ntmps217 Tryz.results217 ?_;refine aW ?_;refine a5 fun K1 hK1=>?_;refine aW ?_;refine a8 rfl (fun hc0=>?_) (fun hc0=>?_)
 ·skip
  try simp at hc0
  refine aW ?_ fun K hK=>by simp -dsimp [w1,w2];exact hK
  exact a9 (by simp[a4X,hc0])
 ·skip
  try simp at hc0
  refine b8 ?_;refine zQ (hK1 _ _ ?_);refine aP [1] ?_;refine aW ?_ fun K hK=>by simp -dsimp [w1];exact hK
  exact a9 (by simp[a4X,hc0])
theorem c2c (k:Int) (h0:0≤k) (h1:k≤1000000):a6 Tryz.prog 218 [I k] (.agg [I (Y0 k).Rail,Bo (Y0 k).Back]):=by
 have w1:k.tdiv 2=k/2:=Int.tdiv_eq_ediv_of_nonneg h0;have w2:k.tmod 2=k % 2:=Int.tmod_eq_emod_of_nonneg h0;have w3:IntKind.i64.wrap (k/2)=k/2:=c4 (by omega) (by omega);refine oB Tryz.func218 Tryz.ntmps218 Tryz.results218 ?_;refine aW ?_;refine aW ?_ fun K hK=>by simp -dsimp [w1,w2,w3];exact hK
 refine a9 ?_;simp[Y0];exact Bool.eq_iff_iff.2 (by simp)
theorem c0K (p:Plan) (m:Move):a6 Tryz.prog 200 [.iptr (net p),m.av] (.clo 215 [.iptr [.iptr (net p)], .iptr m.cells]):=by
 generalize net p=sh;refine oB Tryz.func200 Tryz.ntmps200 Tryz.results200 ?_;refine aW ?_;refine aW ?_;exact a9 (by simp)
end Go.Tram
end
section
namespace Go.Tram
open Go.AM Go.Proofs Go.ChangeShapes Go.WideShapes
theorem b8P {n:Nat} {avs:List AV} (h:x9 Tryz.prog (n+1) 4 avs):∃b,avs=[Bo b]:=a3A b8z h
theorem b8B {n:Nat} {avs:List AV} (h:x9 Tryz.prog (n+2) 56 avs):∃s:Move,avs=s.cells∧I64 s.Rail:=by
 obtain⟨h1,h2⟩:=C6 (by kernel_rfl) c4S h;obtain⟨a,b,rfl⟩:=b3s h1;obtain⟨x,hx,bx⟩:=Z0 (h2 (0,1,3) (by simp));obtain⟨y,hy⟩:=b8P (h2 (1,1,4) (by simp));simp at hx hy;subst hx hy;exact⟨⟨x,y⟩,rfl,bx⟩
theorem b6c {n:Nat} {avs:List AV} (h:x9 Tryz.prog (n+3) 49 avs):∃l:List Move,avs=[.lst 2 (l.map Move.cells)]∧l.length≤maxLen∧∀s∈l,I64 s.Rail:=by
 obtain⟨els,hl,hb,he⟩:=B9 (by kernel_rfl) c5z h;obtain⟨l,rfl,hR⟩:=Y5 (c:=Move.cells) (R:=fun s=>I64 s.Rail) (fun el hel=>b8B (he el hel));simp at hl hb;exact⟨l,hl,hb,hR⟩
end Go.Tram
end
section
namespace Go.Tram
open Go.AM Go.Proofs
structure Fnd where
 Move:Int
 Len:Int
 Mv:Int
 deriving DecidableEq,Inhabited
@[simp] def Fnd.cells (x:Fnd):List AV:=[I x.Move,I x.Len,I x.Mv]
abbrev Fnd.av (x:Fnd):AV:= .agg x.cells
section
variable {α:Type} [Inhabited α] (lt:α→α→Bool)
def gd (l:List α) (i:Nat):α:=l.getD i default
def c4n (l:List α) (i j:Nat):List α:=(l.set i (gd l j)).set j (gd l i)
def c3f (l:List α) (i n:Nat):Nat:=if 2*i+2<n∧lt (gd l (2*i+2)) (gd l (2*i+1))=true then 2*i+2 else 2*i+1
def b9n:Nat→List α→Nat→Nat→List α
 |0,l,_,_=>l
 |k+1,l,i,n=>if n≤2*i+1∨lt (gd l (c3f lt l i n)) (gd l i)=false then l else b9n k (c4n l i (c3f lt l i n)) (c3f lt l i n) n
end
end Go.Tram
end
section
namespace Go.Tram
open Go.AM Go.Proofs
abbrev j9 (r n:Nat):Option k7:=some (.els 1 [[.row r 0 n]])
end Go.Tram
end
section
namespace Go.Tram
open Go.AM Go.Proofs
def A1 (p:Plan) (m:Move):Node:=p.node (p.at (V6 m))
def nxK (p:Plan) (m:Move) (k:Nat):List Int:=match (A1 p m).Ends[k]? with
 |some e=>if V2 (A1 p m) (plc p (V6 m)) k then [a4X ⟨e.Rail,e.Last⟩]else []
 |none=>[]
def a7B (p:Plan) (m:Move) (j:Nat):List Int:=(List.range j).flatMap (nxK p m)
def a8M (p:Plan) (m:Move):List Move:=(srt (a7B p m (A1 p m).Ends.length)).map Y0
theorem a7T (p:Plan) (m:Move) (j:Nat):a7B p m (j+1)=a7B p m j++nxK p m j:=by
 simp only[a7B,List.range_succ,List.flatMap_append,List.flatMap_cons,List.flatMap_nil,List.append_nil]
theorem b7g (p:Plan) (m:Move) (j:Nat):(a7B p m j).length≤j:=by
 induction j with
 |zero=>simp[a7B]
 |succ j ih=>
  rw[a7T,List.length_append];have:(nxK p m j).length≤1:=by unfold nxK;split<;>(try split)<;>simp
  omega
theorem N1 {p:Plan} (hv:d7 p=true) {i:Nat} (hi:i<p.Nodes.length) {j:Nat} {e:D7} (he:(p.node i).Ends[j]?=some e):(0≤e.Rail∧e.Rail<p.Rails.length)∧p.at e=i:=by
 obtain⟨r,hr⟩:=a5R hi he;have hE:=(n5 hv).2.2.2.2;simp only[a0v,Bool.and_eq_true,List.all_eq_true]at hE;have:=hE.1 (i,e) (by rw[hr];simp);simp only[endB,Bool.and_eq_true,decide_eq_true_eq,g8]at this;exact⟨by omega,this.2⟩
theorem b9Y {p:Plan} (hv:d7 p=true) {e:D7} (h0:0≤e.Rail) (h1:e.Rail<p.Rails.length):0≤p.at e∧p.at e<p.Nodes.length:=by
 have ro:=N5 hv h0 h1;unfold Plan.at
 split
 ·exact ro.t
 ·exact ro.f
theorem J9 {p:Plan} {m:Move}:E3 p m=true↔0≤m.Rail∧m.Rail<p.Rails.length:=by
 unfold E3;rw[g8];omega
theorem b6F {p:Plan} (hv:d7 p=true) {m:Move} (hm:E3 p m=true):∀j,∀k∈a7B p m j,0≤k∧k≤100000∧E3 p (Y0 k)=true:=by
 have hm':=J9.1 hm;have ha:=b9Y hv (e:=V6 m) hm'.1 hm'.2;have hR:=(n5 hv).2.1;intro j k hk;simp only[a7B,List.mem_flatMap,List.mem_range]at hk;obtain⟨i,hi,hk⟩:=hk;unfold nxK at hk
 split at hk
 ·rename_i e he
  split at hk
  ·obtain rfl:k=a4X ⟨e.Rail,e.Last⟩:=by simpa using hk
   have hn:A1 p m=p.node ((p.at (V6 m)).toNat:Nat):=by unfold A1;rw[show(((p.at (V6 m)).toNat:Nat):Int)=p.at (V6 m)by omega]
   rw[hn]at he;have:=N1 hv (i:=(p.at (V6 m)).toNat) (by omega) he;rw[J9];simp only[a4X,Y0]
   split<;>omega
  ·simp at hk
 ·simp at hk
theorem a6l {l:List Int}:∀{z:Int},z∈srt l↔z∈l:=by
 have gen:∀(l s:List Int) (z:Int),z∈l.foldl (fun s x=>ins x s) s↔z∈s∨z∈l:=by
  intro l
  induction l with
  |nil=>simp
  |cons x l ih=>
   intro s z;rw[List.foldl_cons,ih,a3Q];simp only[List.mem_cons];constructor
   ·rintro((h|h)|h)<;>simp[h]
   ·rintro(h|h|h)<;>simp[h]
 intro z;have:=gen l [] z;simpa [srt]using this
theorem b9h (p:Plan) (m:Move) (hv:d7 p=true) (hm:E3 p m=true):a0g Tryz.prog 215 [.iptr [.iptr (net p)], .iptr m.cells] ((a8M p m).map fun k=>[k.av]):=by
 have hm':=J9.1 hm;have ha:=b9Y hv (e:=V6 m) hm'.1 hm'.2;have hnode:=p.node_get ha.1 ha.2;have hnf:=a1s (a3K hv ha.1 ha.2);have hb:=b6F hv hm;have hplc:=a9n hv (V6 m);have hcar:=a3L m;have hce:=a6K p (V6 m) hm'.1 hm'.2;have hna:p.node (p.at (V6 m))=A1 p m:=rfl;have hno:∀(j:Nat) (e:D7),(A1 p m).Ends[j]?=some e→(0≤e.Rail∧e.Rail<p.Rails.length):=by
  intro j e he;have hn:A1 p m=p.node ((p.at (V6 m)).toNat:Nat):=by unfold A1;rw[show(((p.at (V6 m)).toNat:Nat):Int)=p.at (V6 m)by omega]
  rw[hn]at he;exact(N1 hv (i:=(p.at (V6 m)).toNat) (by omega) he).1
 have hR:=(n5 hv).2.1;have hxk:∀(j:Nat) (e:D7),(A1 p m).Ends[j]?=some e→nxK p m j=if V2 (A1 p m) (plc p (V6 m)) j then [a4X ⟨e.Rail,e.Last⟩]else []:=by intro j e he;unfold nxK;rw[he]
 have hnl:a8M p m=(srt (a7B p m (A1 p m).Ends.length)).map Y0:=rfl;rw[hna]at hnode hnf;generalize A1 p m=n at hnode hnf hno hxk hnl;unfold net;refine N4.of_body Tryz.func215 rfl (by decide) (by simp[Tryz.ntmps215]) (by simp[Tryz.ntmps215]) (by simp[Tryz.results215]) ?_;intro J l hmk hY;simp only[Tryz.ntmps215,Tryz.results215];refine gD ?_ fun K hK=>by simp -dsimp [hnode,ha.1];refine cI (hcar) ?_;simp -dsimp [hnode,ha.1];refine cI (hce) ?_;simp -dsimp [hnode,ha.1];exact hK
 refine gW ?_;refine a7 fun K1 hK1=>?_;refine gW ?_;refine c8 ?_;refine v6 [0,1,2,4,5,25,26,27,999999] (Or.inl (by decide)) ?_;refine zN ?_;refine i6 [0,1,2,4,25,26] (α:=Nat) (fun j=>[(27,I j),(5, .row 1 0 (a7B p m j).length),(999999,W9 0)]) (fun j=>[some (.els 5 [n.cells]),some (.els 1 ((a7B p m j).map j4))]) (fun j=>j≤n.Ends.length) (fun j=>n.Ends.length-j) 0 ?_ ?_ ?_
 ·simp
 ·exact M9 ((W5 5 1 (by simp)).trans (d9 [some 0,some 1] rfl (by simp[a7B]) (by simp[a7B]))) (by simp)
 rintro j j1;have hsu:=a7T p m j;have hlj:=b7g p m j;have hbj:=hb j;refine zN ?_;refine gW ?_;refine a7 fun K2 hK2=>?_;refine c3 rfl (fun hc0=>?_) (fun hc0=>?_)
 ·skip
  try simp at hc0
  obtain⟨e,he⟩:=gx (l:=n.Ends) (i:=j) hc0;have wj:=zW j (by omega);have her:=hno j e he;rw[hxk j e he]at hsu;generalize hA:a7B p m j=A at hsu hlj hbj ⊢;have f1:P4 (A.length+1) 9:=l9 (by omega) (by omega);have hot:(A.map j4).take A.length=A.map j4:=List.take_of_length_le (by simp);refine c5 ?_;refine zQ (hK2 _ _ ?_);refine v6 [0,1,2,4,5,25,26,27,999999] (Or.inl (by decide)) ?_;refine zN ?_;refine a7 fun K3 hK3=>?_;refine c8 ?_;refine gW ?_ fun K hK=>by simp -dsimp [he];exact hK
  refine gD ?_ fun K hK=>by simp -dsimp;refine cI (hcar) ?_;simp -dsimp;refine d6 (I (plc p (V6 m))) (fun hm=>congrArg AV.v hplc.1) ?_;simp -dsimp;refine cI (c1u n (plc p (V6 m)) j ⟨hplc.2.1,hplc.2.2⟩ ⟨by omega,by omega⟩ hnf.1) ?_;simp -dsimp;exact hK
  refine c3 rfl (fun hc1=>?_) (fun hc1=>?_)
  ·rw[hc1,if_pos rfl]at hsu;refine gV ?_ fun K hK=>by simp -dsimp [f1];refine cI (b6u ⟨e.Rail,e.Last⟩ her.1 (by have:=her.2;show e.Rail≤100000;omega)) ?_;simp -dsimp [f1];exact hK
   refine zQ (hK3 _ _ ?_);refine v6 [0,1,2,4,5,25,26,27,999999] (Or.inl (by decide)) ?_;refine zN ?_;refine gV ?_ fun K hK=>by simp -dsimp [wj];exact hK
   refine zQ ?_;exact⟨j+1,by omega,by omega,M9 (d9 [some 0,some 3] rfl (by simp[hsu]) (by simp[hsu,hot])) (by simp)⟩
  ·rw[hc1,if_neg (by simp)]at hsu;refine c5 ?_;refine zQ (hK3 _ _ ?_);refine v6 [0,1,2,4,5,25,26,27,999999] (Or.inl (by decide)) ?_;refine zN ?_;refine gV ?_ fun K hK=>by simp -dsimp [wj];exact hK
   refine zQ ?_;exact⟨j+1,by omega,by omega,M9 (d9 [some 0,some 1] rfl (by simp[hsu]) (by simp[hsu])) (by simp)⟩
 ·skip
  try simp at hc0
  have hje:j=n.Ends.length:=by omega
  subst hje;generalize hA:a7B p m n.Ends.length=A at hlj hbj hnl ⊢;refine p7 ?_;refine zQ (hK1 _ _ ?_);refine v6 [0,5,999999] (Or.inl (by decide)) ?_;refine zN ?_
  rcases Decidable.em (A=[])with rfl|hA0
  ·refine gW ?_ fun K hK=>by simp -dsimp;refine cI (b9m) ?_;simp -dsimp;exact hK
   refine gW ?_;refine c8 ?_;refine v6 [0,55,56,57,999999] (Or.inl (by decide)) ?_;refine zN ?_;refine i6 [0,55,56] (α:=Nat) (fun i=>[(57,I i),(999999,W9 i)]) (fun i=>[some (.els 5 [n.cells]),some (.els 1 [])]) (fun i=>i≤0) (fun i=>0) 0 ?_ ?_ ?_
   ·simp
   ·exact M9 (c9 (by simp)) (by simp)
   rintro i i1;refine zN ?_;refine gW ?_;refine a7 fun K4 hK4=>?_;refine c3 rfl (fun hc2=>?_) (fun hc2=>?_)
   ·simp at hc2;omega
   ·refine p7 ?_
    try simp only[zT,reduceIte,Nat.reduceEqDiff]
    have hi0:i=0:=by omega
    simp[hnl,srt,hi0]
  ·refine gW ?_ fun K hK=>by simp -dsimp;refine cM [1] [] (c2v A (List.length_pos_iff.2 hA0) (by omega)) ?_;simp -dsimp;exact hK
   refine gW ?_;refine c8 ?_;refine v6 [0,55,56,57,999999] (Or.inl (by decide)) ?_;refine zN ?_;refine i6 [0,55,56] (α:=Nat) (fun i=>[(57,I i),(999999,W9 i)]) (fun i=>[some (.els 5 [n.cells]),some (.els 1 ((srt A).map j4))]) (fun i=>i≤(srt A).length) (fun i=>(srt A).length-i) 0 ?_ ?_ ?_
   ·simp
   ·exact M9 (c9 (by simp)) (by simp)
   rintro i i1;refine zN ?_;refine gW ?_;refine a7 fun K5 hK5=>?_;refine c3 rfl (fun hc2=>?_) (fun hc2=>?_)
   ·have hsl:=a6i A;obtain⟨k,hk⟩:∃k,(srt A)[i]?=some k:=⟨_,List.getElem?_eq_getElem (by simpa [hsl]using hc2)⟩;have hkb:=hbj k (a6l.1 (List.mem_of_getElem? hk));have wi:=zW i (by omega);have hiA:i<A.length:=by simpa using hc2
    refine c5 ?_;refine zQ (hK5 _ _ ?_);refine v6 [0,55,56,57,999999] (Or.inl (by decide)) ?_;refine zN ?_;refine a7 fun K6 hK6=>?_;refine c8 ?_;refine gW ?_ fun K hK=>by simp -dsimp [hk];refine⟨hiA,?_⟩;exact hK
    refine b7J hmk hY rfl (by decide) rfl rfl fun K hK=>?_;simp -dsimp;refine cI (c2c k hkb.1 (by omega)) ?_;simp -dsimp;refine b0m (by rw[hnl,List.getElem?_map,List.getElem?_map,hk];rfl) ?_ ?_
    ·apply hK;clear hK K;refine c3 rfl (fun hc3=>?_) (fun hc3=>?_)
     ·simp at hc3
     ·refine c5 ?_;refine zQ (hK6 _ _ ?_);refine v6 [0,55,56,57,999999] (Or.inl (by decide)) ?_;refine zN ?_;refine gV ?_ fun K hK=>by simp -dsimp [wi];exact hK
      refine zQ ?_;exact⟨i+1,by omega,by omega,gB [some 0,some 1]⟩
    ·apply hK;clear hK K;refine c3 rfl (fun hc3=>?_) (fun hc3=>?_)
     ·exact g7 (by simp)
     ·simp at hc3
   ·refine p7 ?_
    try simp only[zT,reduceIte,Nat.reduceEqDiff]
    have hie:i=A.length:=by have:=a6i A;simp at hc2;omega
    simp[hnl,a6i,hie]
def H4 (p:Plan) (m k:Move):Bool:=(a8M p m).any fun x=>decide (x=k)
theorem a3O (p:Plan) (m k:Move) (hv:d7 p=true) (hm:E3 p m=true):a6 Tryz.prog 172 [.iptr (net p),m.av,k.av] (Bo (H4 p m k)):=by
 have hit:=b9h p m hv hm;have hnx:=c0K p m;generalize net p=sh at hit hnx;refine a6.of_bodyG Tryz.func172 rfl (by decide) (by simp[Tryz.ntmps172]) ?_;intro J hJ;simp only[Tryz.ntmps172,Tryz.results172];refine gW ?_;refine a7 fun K1 hK1=>?_;refine gW ?_ fun K hK=>by simp -dsimp;refine cI (hnx) ?_;simp -dsimp;exact hK
 refine c8 ?_;refine gP [5,6,10] ?_;refine a3s hJ [5,6,10] (fun _=>[some (.els 2 [m.cells]),some (.els 2 [k.cells]),some (.els 1 [[Bo false]])]) (fun n=>((a8M p m).take n).any (fun x=>decide (x=k))=false) rfl (hit) rfl (by simp) (by decide) (by decide) (by decide) (by intro z hz;obtain⟨q,_,rfl⟩:=List.mem_map.1 hz;rfl) ?_ ?_ ?_ ?_
 ·trivial
 ·exact c9 (by simp)
 ·intro n xv hxn hi l1 J1 hJ1;obtain⟨q,hq,rfl⟩:∃q,(a8M p m)[n]?=some q∧[q.av]=xv:=by simpa using hxn
  simp only[List.zip_cons_cons,List.zip_nil_left,List.zip_nil_right,List.cons_append,List.nil_append];refine gV ?_;simp only[b1S];intro J2 hJ2;refine gP [5,6,7,10] ?_;refine c8 ?_;refine gW ?_;refine c3 rfl (fun hc0=>?_) (fun hc0=>?_)
  ·have hqe:q=k:=by simp at hc0;cases q;cases k;simp_all
   have hany:(a8M p m).any (fun x=>decide (x=k))=true:=List.any_eq_true.2 ⟨q,List.mem_of_getElem? hq,by simpa using hqe⟩;refine gW ?_;exact g7 ⟨[some (.els 2 [m.cells]),some (.els 2 [k.cells]),some (.els 1 [[Bo true]])],aB [some 0,some 1,some 2],by simp[H4,hany]⟩
  ·have hne:decide (q=k)=false:=by rw[decide_eq_false_iff_not];rintro rfl;simp at hc0
   refine c5 ?_;simp only[Y4,G3,a5c,reduceIte,Nat.reduceEqDiff,eq_self];refine⟨?_,aB [some 0,some 1,some 2]⟩;rw[List.take_add_one,List.any_append,hi,hq];simp[hne]
 ·intro hdone;refine zQ (hK1 _ _ ?_);refine gP [6] ?_;refine gW ?_;refine g7 ?_;rw[List.take_of_length_le (by simp)]at hdone;simp[H4,hdone]
def a2q (p:Plan) (l:List Move) (i:Nat):Bool:=E3 p (l[i]?.getD default)&&(decide (i=0)||H4 p (l[i-1]?.getD default) (l[i]?.getD default))
def wayB (p:Plan) (l:List Move):Bool:=(List.range l.length).all (a2q p l)&&inr l.length 1 2000
theorem a8m (f:Nat→Bool) (n:Nat):(List.range (n+1)).all f=((List.range n).all f&&f n):=by
 rw[List.range_succ,List.all_append];simp
theorem a1I {f:Nat→Bool} {n k:Nat} (h:(List.range n).all f=true) (hk:k<n):f k=true:=List.all_eq_true.1 h k (List.mem_range.2 hk)
theorem b0Z (a f:Bool) (i:Nat):(!a||(decide (0<i)&& !f))= !(a&&(decide (i=0)||f)):=by cases a<;>cases f<;>by_cases h:i=0<;>simp[h]<;>omega
theorem b9O (p:Plan) (l:List Move) (hv:d7 p=true) (hn:l.length≤100000):a6 Tryz.prog 129 [.iptr (net p), .lst 2 (l.map Move.cells)] (Bo (wayB p l)):=by
 have hhas:=fun r b=>a5i p r b hv;have hfol:=fun m k=>a3O p m k hv;generalize net p=sh at hhas hfol;refine oB Tryz.func129 Tryz.ntmps129 Tryz.results129 ?_;refine aW ?_;refine a5 fun K1 hK1=>?_;refine aW ?_;refine b9 ?_;refine aP [0,1,7,8,9] ?_;refine c7 [0,1,7,8] (α:=Nat) (fun i=>[(9,I i)]) (fun i=>[]) (fun i=>i≤l.length∧(List.range i).all (a2q p l)=true) (fun i=>l.length-i) 0 ?_ ?_ ?_
 ·simp
 ·exact c9 (by simp)
 rintro i ⟨i1,i2⟩;refine zN ?_;refine aW ?_;refine a5 fun K2 hK2=>?_;refine a8 rfl (fun hc0=>?_) (fun hc0=>?_)
 ·skip
  try simp at hc0
  obtain⟨m,hgm⟩:=gx (l:=l) (i:=i) hc0;have wi:=zW i (by omega);have w1:IntKind.i64.wrap ((i:Int)-1)=(i:Int)-1:=c4 (by omega) (by omega);have hprev:0<i→l[i-1]?=some (l[i-1]?.getD default):=fun h=>by rw[List.getElem?_eq_getElem (by omega)];rfl
  have hpm:0<i→E3 p (l[i-1]?.getD default)=true:=fun h=>(Bool.and_eq_true_iff.1 (a1I i2 (show i-1<i by omega))).1;have hst:a2q p l i=(E3 p m&&(decide (i=0)||H4 p (l[i-1]?.getD default) m)):=by unfold a2q;rw[hgm];rfl
  generalize l[i-1]?.getD default=m' at hprev hpm hst;have hmv:E3 p m=inr m.Rail 0 (p.Rails.length-1):=rfl;refine b8 ?_;refine zQ (hK2 _ _ ?_);refine aP [0,1,7,8,9] ?_;refine a5 fun K3 hK3=>?_;refine b9 ?_;refine aW ?_ fun K hK=>by simp -dsimp [hgm];exact hK
  refine b5l a2g rfl fun K hK=>?_;simp -dsimp [w1];refine cI (hhas m.Rail m.Back) ?_;simp -dsimp [w1];refine⟨fun _ h=>by omega,?_⟩
  try simp -dsimp
  refine s7 m'.cells (fun hq=>by simp at hq;rw[List.getElem?_map,hprev hq.2];rfl) ?_;simp -dsimp [w1];refine cY (fun hm=>(hfol m' m (hpm (by simp at hm;exact hm.2)))) ?_;simp -dsimp [w1];refine hK _ _ _ (by decide+kernel) ?_;clear hK K;refine a8 rfl (fun hc1=>?_) (fun hc1=>?_)
  ·rw[b0Z,←hmv,←hst]at hc1;have hsf:a2q p l i=false:=by simpa using hc1
   have hb:wayB p l=false:=by unfold wayB;rw[show(List.range l.length).all (a2q p l)=false from by rw[List.all_eq_false];exact⟨i,List.mem_range.2 hc0,by simp[hsf]⟩];rfl
   refine aW ?_;exact a9 (by simp[hb])
  ·rw[b0Z,←hmv,←hst]at hc1;have hst1:a2q p l i=true:=by simpa using hc1
   refine b8 ?_;refine zQ (hK3 _ _ ?_);refine aP [0,1,7,8,9] ?_;refine aV ?_ fun K hK=>by simp -dsimp [wi];exact hK
   refine zQ ?_;exact⟨i+1,⟨by omega,by rw[a8m,i2,hst1];rfl⟩,by omega,aB []⟩
 ·skip
  try simp at hc0
  have hie:i=l.length:=by omega
  subst hie;refine d4 ?_;refine zQ (hK1 _ _ ?_);refine aP [1] ?_;refine aW ?_ fun K hK=>by simp -dsimp;refine cI (C5 l.length 1 2000) ?_;simp -dsimp;exact hK
  exact a9 (by simp[wayB,i2])
end Go.Tram
end
section
namespace Go.Tram
open Go.AM Go.Proofs
def V0 (l:List Move) (i:Nat):Move:=l[i]?.getD default
def a0V (p:Plan) (l:List Move):Nat→Int
 |0=>0
 |i+1=>a0V p l i+p.len (V0 l i).Rail
theorem c1O {p:Plan} (hv:d7 p=true) {r:Int} (h0:0≤r) (h1:r<p.Rails.length):1≤p.len r∧p.len r≤31000000:=by
 have ro:=N5 hv h0 h1;have hl:=ro.len;have hs:=ro.s;have h:=a0U ro ((p.rail r).Shape.length+1) (by omega);unfold Plan.len;omega
theorem R8 {p:Plan} {l:List Move} (h:wayB p l=true):∀i,i<l.length→E3 p (V0 l i)=true:=by
 intro i hi;have:=(Bool.and_eq_true_iff.1 h).1;exact(Bool.and_eq_true_iff.1 (a1I this hi)).1
theorem I5 {p:Plan} {l:List Move} (h:wayB p l=true):1≤l.length∧l.length≤2000:=by
 have:=g8.1 (Bool.and_eq_true_iff.1 h).2;omega
theorem a9L {p:Plan} {l:List Move} (hv:d7 p=true) (h:wayB p l=true):∀i,i≤l.length→0≤a0V p l i∧a0V p l i≤31000000*i
 |0,_=>by simp[a0V]
 |i+1,hi=>by
  have h1:=a9L hv h i (by omega);have h2:=J9.1 (R8 h i (by omega));have h3:=c1O hv h2.1 h2.2;simp only[a0V];omega
theorem a8F (p:Plan) (l:List Move) (hv:d7 p=true) (hw:wayB p l=true):a6 Tryz.prog 170 [.iptr (net p), .lst 2 (l.map Move.cells)] (I (a0V p l l.length)):=by
 have hl:=I5 hw;unfold net;refine oB Tryz.func170 Tryz.ntmps170 Tryz.results170 ?_;refine aW ?_;refine aW ?_;refine a5 fun K1 hK1=>?_;refine aW ?_;refine b9 ?_;refine aP [0,5,8,9,10] ?_;refine c7 [0,8,9] (α:=Nat) (fun i=>[(10,I i),(5,I (a0V p l i))]) (fun i=>[]) (fun i=>i≤l.length) (fun i=>l.length-i) 0 ?_ ?_ ?_
 ·simp
 ·exact c9 (by simp[a0V])
 rintro i i1;refine zN ?_;refine aW ?_;refine a5 fun K2 hK2=>?_;refine a8 rfl (fun hc0=>?_) (fun hc0=>?_)
 ·skip
  try simp at hc0
  obtain⟨m,hgm⟩:=gx (l:=l) (i:=i) hc0;have wi:=zW i (by omega);have hma:V0 l i=m:=by simp[V0,hgm]
  have hmv:=R8 hw i hc0;have hb1:=a9L hv hw (i+1) (by omega);have hbs:a0V p l (i+1)=a0V p l i+p.len m.Rail:=by simp only[a0V];rw[hma]
  rw[hma]at hmv;have hmr:=J9.1 hmv;have hlg:(I0 p p.Rails.length)[m.Rail.toNat]?=some [I (p.len m.Rail)]:=by rw[b5n (by omega),show((m.Rail.toNat:Nat):Int)=m.Rail by omega]
  have ws:IntKind.i64.wrap (a0V p l i+p.len m.Rail)=a0V p l (i+1):=by rw[←hbs];exact c4 (by omega) (by omega)
  refine b8 ?_;refine zQ (hK2 _ _ ?_);refine aP [0,5,8,9,10] ?_;refine a5 fun K3 hK3=>?_;refine b9 ?_;refine aW ?_ fun K hK=>by simp -dsimp [hgm];exact hK
  refine aE ?_ fun K hK=>by simp -dsimp [hlg,ws,hmr.1];exact hK
  refine zQ (hK3 _ _ ?_);refine aP [0,5,8,9,10] ?_;refine aV ?_ fun K hK=>by simp -dsimp [wi];exact hK
  refine zQ ?_;exact⟨i+1,by omega,by omega,aB []⟩
 ·skip
  try simp at hc0
  have hie:i=l.length:=by omega
  subst hie;refine d4 ?_;refine zQ (hK1 _ _ ?_);refine aP [5] ?_;refine aW ?_;exact a9 (by simp)
end Go.Tram
end
section
namespace Go.Tram
open Go.AM Go.Proofs
def nxF (p:Plan) (x:Fnd) (k:Nat):Fnd:=⟨k,x.Len+p.len (x.Move/2),x.Mv+1⟩
end Go.Tram
end
section
namespace Go.Tram
open Go.AM Go.Proofs
theorem b8v (l:List Move):(l.map Move.cells).all (fun e=>e.all S2)=true:=by simp[S2]
@[simp high] theorem c0Z (l:List Move) (g:List (Option Nat)) (n:Nat):(l.map Move.cells).map (fun e=>e.map (o4 g n))=l.map Move.cells:=x6 (fun x h=>N0 h g n) (b8v l)
@[simp high] theorem b9F (l:List Move) (H:Hp) (n:Nat):(l.map Move.cells).map (fun e=>e.map (I6 H n))=l.map Move.cells:=x6 (fun x h=>Q4 h H n) (b8v l)
abbrev a6b (l:List Move):AV:= .lst 2 (l.map Move.cells)
@[simp] theorem c5H (l:List Move):List.take l.length (l.map Move.cells)=l.map Move.cells:=List.take_of_length_le (by simp)
theorem a7Z (p:Plan) (m k:Move) (hv:d7 p=true) (hm:E3 p m=true) (hk:E3 p k=true):a6 Tryz.prog 175 [p.av,m.av,k.av] (.tup [Bo (H4 p m k),I 0]):=by
 have hop:=a0c p hv;have hh:=a5i p m.Rail m.Back hv;have hhk:=a5i p k.Rail k.Back hv;rw[show inr m.Rail 0 (p.Rails.length-1)=true from hm]at hh;rw[show inr k.Rail 0 (p.Rails.length-1)=true from hk]at hhk;have hf:=a3O p m k hv hm;generalize net p=sh at hop hh hhk hf;refine oB Tryz.func175 Tryz.ntmps175 Tryz.results175 ?_;refine aW ?_;refine aW ?_ fun K hK=>by simp -dsimp;refine cI (hop) ?_;simp -dsimp;exact hK
 refine a5 fun K1 hK1=>?_;refine aW ?_ fun K hK=>by simp -dsimp;refine cY (fun hm=>hh) ?_;simp -dsimp;refine cY (fun hm=>hhk) ?_;simp -dsimp;exact hK
 refine a8 rfl (fun hc0=>?_) (fun hc0=>?_)
 ·simp at hc0
 ·refine b8 ?_;refine zQ (hK1 _ _ ?_);refine aP [4,5,8] ?_;refine aW ?_ fun K hK=>by simp -dsimp;refine cI (hf) ?_;simp -dsimp;exact hK
  exact a9 (by simp)
theorem a4O (p:Plan) (l:List Move) (hv:d7 p=true) (h:wayB p l=true):a6 Tryz.prog 126 [p.av,a6b l] (.tup [I (a0V p l l.length),I 0]):=by
 have hl:=I5 h;have hop:=a0c p hv;have hh:=b9O p l hv (by omega);have hw:=a8F p l hv h;rw[h]at hh;generalize net p=sh at hop hh hw;refine oB Tryz.func126 Tryz.ntmps126 Tryz.results126 ?_;refine aW ?_;refine aW ?_ fun K hK=>by simp -dsimp;refine cI (hop) ?_;simp -dsimp;exact hK
 refine a5 fun K1 hK1=>?_;refine aW ?_ fun K hK=>by simp -dsimp;refine cY (fun hm=>hh) ?_;simp -dsimp;exact hK
 refine a8 rfl (fun hc0=>?_) (fun hc0=>?_)
 ·simp at hc0
 ·refine b8 ?_;refine zQ (hK1 _ _ ?_);refine aP [1,6] ?_;refine aW ?_ fun K hK=>by simp -dsimp;refine cI (hw) ?_;simp -dsimp;exact hK
  exact a9 (by simp)
end Go.Tram
end
section
namespace Go.Tram
open Go.AM Go.Proofs
theorem b0e {α:Type} [DecidableEq α]:∀(l u:List α),l.Nodup→(∀x∈l,x∈u)→u.length≤l.length→∀x∈u,x∈l
 |[],u,_,_,h,x,hx=>by
  have:u=[]:=List.length_eq_zero_iff.1 (by simpa using h);rw[this]at hx;cases hx
 | a::l,u,hn,hs,h,x,hx=>by
  rw[List.nodup_cons]at hn
  by_cases e:x=a
  ·simp[e]
  ·have ha:a∈u:=hs a (by simp);have hlen:=List.length_erase_of_mem ha;have hup:0<u.length:=List.length_pos_of_mem ha;refine List.mem_cons_of_mem _ (b0e l (u.erase a) hn.2 (fun y hy=>?_) (by simp at h;omega) x ((List.mem_erase_of_ne e).2 hx));have hya:y≠a:=by rintro rfl;exact hn.1 hy
   exact(List.mem_erase_of_ne hya).2 (hs y (by simp[hy]))
theorem a4Z {p:Plan}:∀{n:Nat} {x:Nat×D7},x∈q9 p n→x.1<n∧∃j:Nat,(p.node x.1).Ends[j]?=some x.2
 |0,x,h=>by simp[q9]at h
 |n+1,x,h=>by
  simp only[q9,List.mem_append,List.mem_map]at h
  rcases h with h|⟨e,he,rfl⟩
  ·obtain⟨h1,h2⟩:=a4Z h;exact⟨by omega,h2⟩
  ·obtain⟨j,hj⟩:=List.getElem?_of_mem he;exact⟨by simp,j,hj⟩
theorem b3x {p:Plan} (hv:d7 p=true):(∀x∈q9 p p.Nodes.length,endB p x=true)∧((q9 p p.Nodes.length).map (·.2)).Nodup∧(q9 p p.Nodes.length).length=2*p.Rails.length:=by
 have h:=(n5 hv).2.2.2.2;simp only[a0v,Bool.and_eq_true,List.all_eq_true,decide_eq_true_eq]at h;exact⟨h.1,h.2.1,h.2.2⟩
theorem b3Y {p:Plan} (hv:d7 p=true) {e:D7} (h0:0≤e.Rail) (h1:e.Rail<p.Rails.length):∃i:Nat,i<p.Nodes.length∧p.at e=i∧∃j:Nat,(p.node i).Ends[j]?=some e:=by
 obtain⟨hall,hnd,hlen⟩:=b3x hv;have hfull:=b0e ((q9 p p.Nodes.length).map (·.2)) ((List.range p.Rails.length).flatMap fun(r:Nat)=>[(⟨r,false⟩:D7),⟨r,true⟩]) hnd (fun x hx=>by
  obtain⟨y,hy,rfl⟩:=List.mem_map.1 hx;have:=hall y hy;simp only[endB,Bool.and_eq_true,decide_eq_true_eq,g8]at this;rw[List.mem_flatMap];refine⟨y.2.Rail.toNat,List.mem_range.2 (by omega),?_⟩;obtain⟨y1,⟨r,b⟩⟩:=y;simp only at this ⊢;rw[show((r.toNat:Nat):Int)=r by omega]
  cases b<;>simp) (by
   have gen:∀n:Nat,((List.range n).flatMap fun(r:Nat)=>[(⟨r,false⟩:D7),⟨r,true⟩]).length=2*n:=by
    intro n
    induction n with
    |zero=>rfl
    |succ n ih=>rw[List.range_succ,List.flatMap_append,List.length_append,ih];simp;omega
   rw[gen,List.length_map,hlen];exact Nat.le_refl _) e (by
  rw[List.mem_flatMap];refine⟨e.Rail.toNat,List.mem_range.2 (by omega),?_⟩;obtain⟨r,b⟩:=e;simp only at h0 h1 ⊢;rw[show((r.toNat:Nat):Int)=r by omega]
  cases b<;>simp)
 obtain⟨x,hx,rfl⟩:=List.mem_map.1 hfull;obtain⟨h2,j,hj⟩:=a4Z hx;exact⟨x.1,h2,(N1 hv h2 hj).2,j,hj⟩
theorem b1a {p:Plan} (hv:d7 p=true) {i:Nat} (hi:i<p.Nodes.length) {j j':Nat} {e:D7} (h:(p.node i).Ends[j]?=some e) (h':(p.node i).Ends[j']?=some e):j=j':=by
 have key:∀{j j':Nat},(p.node i).Ends[j]?=some e→(p.node i).Ends[j']?=some e→¬j'<j:=by
  intro j j' h h' hlt;have hm:(i,e)∈a0m p i j:=by
   unfold a0m;rw[List.mem_append,List.mem_map];refine Or.inr ⟨e,?_,rfl⟩;have:((p.node i).Ends.take j)[j']?=some e:=by rw[List.getElem?_take,if_pos hlt];exact h'
   exact List.mem_of_getElem? this
  obtain⟨m,hmm⟩:=List.getElem?_of_mem hm;have:=W7 hi h hmm rfl;rw[hv]at this;cases this
 have h1:=key h h';have h2:=key h' h;omega
theorem a7A {kvs:List (List KC×Value)} {es:List D7} {e:D7}:∀n,n≤es.length→(∀j:Nat,j<n→es[j]?≠some e)→o7 (b5t kvs es n) (a1W e)=o7 kvs (a1W e)
 |0,_,_=>rfl
 |n+1,hn,h=>by
  simp only[b5t];rw[D3,if_neg,a7A n (by omega) fun j hj=>h j (by omega)];intro hk;have:=a1f.1 hk;have h2:=h n (by omega);rw[List.getElem?_eq_getElem (by omega)]at this h2;simp only[Option.getD_some]at this;exact h2 (by rw[this])
theorem a7H {kvs:List (List KC×Value)} {es:List D7} {e:D7} {j:Nat} (hj:es[j]?=some e):∀n,n≤es.length→j<n→(∀j':Nat,es[j']?=some e→j'=j)→o7 (b5t kvs es n) (a1W e)=some (.int .i64 j)
 |0,_,h,_=>by omega
 |n+1,hn,h,hu=>by
  simp only[b5t];rw[D3]
  by_cases e1:n=j
  ·subst e1;rw[hj];exact if_pos rfl
  ·rw[if_neg,a7H hj n (by omega) (by omega) hu];intro hk;have:=a1f.1 hk;rw[List.getElem?_eq_getElem (by omega)]at this;simp only[Option.getD_some]at this;exact e1 (hu n (by rw[List.getElem?_eq_getElem (by omega),this]))
theorem a5U {p:Plan} (hv:d7 p=true) {i:Nat} (hi:i<p.Nodes.length) {j:Nat} {e:D7} (h:(p.node i).Ends[j]?=some e):plc p e=j:=by
 have hat:=(N1 hv hi h).2;have gen:∀k,k≤p.Nodes.length→i<k→o7 (F3 p k) (a1W e)=some (.int .i64 j):=by
  intro k
  induction k with
  |zero=>intro _ h;omega
  |succ k ih=>
   intro hk hik;simp only[F3]
   by_cases e1:k=i
   ·subst e1;exact a7H h _ (Nat.le_refl _) (List.getElem?_eq_some_iff.1 h).1 fun j' hj'=>b1a hv hi hj' h
   ·rw[a7A _ (Nat.le_refl _),ih (by omega) (by omega)];intro j' _ hj';have:=(N1 hv (i:=k) (by omega) hj').2;omega
 have hg:=gen p.Nodes.length (Nat.le_refl _) hi;have hp:c1f p e= .int .i64 j:=by
  unfold c1f;have:o7 (F3 p p.Nodes.length) [.i .i64 e.Rail, .b e.Last]=some (.int .i64 j):=hg;rw[this];rfl
 unfold plc;rw[hp]
def b1P (e:D7):List D7→Int→Int
 |[],_=>-1
 |x::l,i=>if x=e then i else b1P e l (i+1)
def b6w (n:Node) (e:D7):Int:=b1P e n.Ends 0
theorem a5C {e:D7}:∀(l:List D7) (i:Int) (j:Nat),l[j]?=some e→(∀j':Nat,l[j']?=some e→j'=j)→b1P e l i=i+j
 |[],i,j,h,_=>by simp at h
 | x::l,i,j,h,hu=>by
  simp only[b1P]
  split
  ·rename_i hx;have:=hu 0 (by simp[hx]);omega
  ·rename_i hx
   cases j with
   |zero=>simp at h;exact absurd h hx
   |succ j=>
    rw[a5C l (i+1) j (by simpa using h) fun j' hj'=>by have:=hu (j'+1) (by simpa using hj');omega];omega
theorem a1J {e:D7}:∀(l:List D7) (i:Int),(∀j:Nat,l[j]?≠some e)→b1P e l i=-1
 |[],i,_=>rfl
 |x::l,i,h=>by
  simp only[b1P];rw[if_neg (by rintro rfl;exact h 0 (by simp))];exact a1J l _ fun j=>by have:=h (j+1);simpa using this
theorem a1x {p:Plan} (hv:d7 p=true) {i:Nat} (hi:i<p.Nodes.length) {j:Nat} {e:D7} (h:(p.node i).Ends[j]?=some e):b6w (p.node i) e=j:=by
 unfold b6w;rw[a5C _ 0 j h fun j' hj'=>b1a hv hi hj' h];omega
def b1u (p:Plan) (m k:Move):Bool:=decide (0≤b6w (A1 p m) (V6 m))&&(decide (0≤b6w (A1 p m) (a9s k))&&V2 (A1 p m) (b6w (A1 p m) (V6 m)) (b6w (A1 p m) (a9s k)))
theorem b4s {p:Plan} (hv:d7 p=true) {m:Move} (hm:E3 p m=true):∃i:Nat,i<p.Nodes.length∧p.at (V6 m)=i∧A1 p m=p.node i∧∃j:Nat,(p.node i).Ends[j]?=some (V6 m)∧plc p (V6 m)=j∧b6w (p.node i) (V6 m)=j:=by
 have hm':=J9.1 hm;obtain⟨i,hi,ha,j,hj⟩:=b3Y hv (e:=V6 m) hm'.1 hm'.2;exact⟨i,hi,ha,by unfold A1;rw[ha],j,hj,a5U hv hi hj,a1x hv hi hj⟩
theorem a2k {m:Move} (h:0≤m.Rail):Y0 (a4X m)=m:=by
 obtain⟨r,b⟩:=m;simp only at h
 cases b
 ·simp only[a4X,Y0,Bool.false_eq_true,if_false];rw[show 2*r/2=r by omega,decide_eq_false (by omega)]
 ·simp only[a4X,Y0,if_true];rw[show(2*r+1)/2=r by omega,decide_eq_true (by omega)]
theorem b1n {k:Int} (h:0≤k):a4X (Y0 k)=k:=by
 simp only[a4X,Y0,decide_eq_true_eq]
 split<;>omega
theorem b8d {p:Plan} (hv:d7 p=true) {m:Move} (hm:E3 p m=true) {k:Int}:k∈a7B p m (A1 p m).Ends.length↔0≤k∧k<2*p.Rails.length∧b1u p m (Y0 k)=true:=by
 obtain⟨i,hi,ha,hn,j,hj,hp,hx⟩:=b4s hv hm;simp only[a7B,List.mem_flatMap,List.mem_range];constructor
 ·rintro⟨t,ht,hk⟩;unfold nxK at hk;rw[hn]at hk ht;rw[List.getElem?_eq_getElem ht]at hk;simp only at hk
  split at hk
  ·rename_i hl;simp only[List.mem_singleton]at hk;have hte:=List.getElem?_eq_getElem ht;generalize (p.node i).Ends[t]=e at hk hte;have her:=(N1 hv hi hte).1;have hb:0≤a4X ⟨e.Rail,e.Last⟩∧a4X ⟨e.Rail,e.Last⟩<2*p.Rails.length:=by simp only[a4X];split<;>omega
   subst hk;refine⟨hb.1,hb.2,?_⟩;rw[a2k her.1];have hle:a9s ⟨e.Rail,e.Last⟩=e:=rfl;simp only[b1u,hn,hle,hx,a1x hv hi hte,Bool.and_eq_true,decide_eq_true_eq];rw[hp]at hl;exact⟨by omega,by omega,hl⟩
  ·simp at hk
 ·rintro⟨h0,h1,hf⟩;simp only[b1u,hn,Bool.and_eq_true,decide_eq_true_eq]at hf;obtain⟨_,hb,hl⟩:=hf;have:∃t:Nat,(p.node i).Ends[t]?=some (a9s (Y0 k)):=by
   by_cases h:∃t:Nat,(p.node i).Ends[t]?=some (a9s (Y0 k))
   ·exact h
   ·have:=a1J (e:=a9s (Y0 k)) (p.node i).Ends 0 fun j hj=>h ⟨j,hj⟩;unfold b6w at hb;omega
  obtain⟨t,ht⟩:=this;rw[hx,a1x hv hi ht]at hl;refine⟨t,by rw[hn];exact(List.getElem?_eq_some_iff.1 ht).1,?_⟩;unfold nxK;rw[hn,ht,hp];simp only;rw[if_pos hl,List.mem_singleton];show k=a4X (Y0 k);rw[b1n h0]
theorem b9G {p:Plan} (hv:d7 p=true) {m k:Move} (hm:E3 p m=true) (hk:E3 p k=true):H4 p m k=b1u p m k:=by
 have hk':=J9.1 hk;have hnb:0≤a4X k∧a4X k<2*p.Rails.length:=by unfold a4X;split<;>omega
 rw[Bool.eq_iff_iff];unfold H4 a8M;rw[List.any_eq_true];constructor
 ·rintro⟨x,hx,hxk⟩;simp only[decide_eq_true_eq]at hxk;subst hxk;obtain⟨q,hq,rfl⟩:=List.mem_map.1 hx;exact((b8d hv hm).1 (a6l.1 hq)).2.2
 ·intro h;refine⟨k,List.mem_map.2 ⟨a4X k,a6l.2 ((b8d hv hm).2 ⟨hnb.1,hnb.2,?_⟩),a2k hk'.1⟩,by simp⟩;rw[a2k hk'.1];exact h
theorem a7F {x:Int}:∀{l:List Int},l.Nodup→x∉l→(ins x l).Nodup
 |[],_,_=>by simp[ins]
 |y::l,h,hx=>by
  rw[List.nodup_cons]at h;simp only[List.mem_cons,not_or]at hx;simp only[ins]
  split
  ·simp[List.nodup_cons,hx,h]
  ·rw[List.nodup_cons,a3Q];exact⟨by rintro(rfl|h1);exact hx.1 rfl;exact h.1 h1,a7F h.2 hx.2⟩
theorem srt_nodup {l:List Int} (h:l.Nodup):(srt l).Nodup:=by
 have gen:∀(l s:List Int),s.Nodup→l.Nodup→(∀x∈l,x∉s)→(l.foldl (fun s x=>ins x s) s).Nodup:=by
  intro l
  induction l with
  |nil=>intro s h _ _;exact h
  |cons x l ih=>
   intro s hs hl hd;rw[List.nodup_cons]at hl;refine ih _ (a7F hs (hd x (by simp))) hl.2 fun y hy=>?_;rw[a3Q];rintro(rfl|h)
   ·exact hl.1 hy
   ·exact hd y (by simp[hy]) h
 exact gen l [] (by simp) h (by simp)
end Go.Tram
end
section
namespace Go.Tram
open Go.AM Go.Proofs
theorem c0Q (p:Plan):a6 Tryz.prog 34 [p.av] (Bo (d7 p)):=by
 refine oB Tryz.func34 Tryz.ntmps34 Tryz.results34 ?_;refine aW ?_;refine a5 fun K1 hK1=>?_;refine aW ?_ fun K hK=>by simp -dsimp;refine cI (b2O _ _ _) ?_;simp -dsimp;refine cY (fun hm=>b2O _ _ _) ?_;simp -dsimp;exact hK
 refine a8 rfl (fun hc0=>?_) (fun hc0=>?_)
 ·skip
  try simp at hc0
  refine aW ?_;refine a9 ?_;have:d7 p=false:=by simp[d7,a0n];intro h1 h2;rcases hc0 with hc0|hc0<;>simp_all
  simp[this]
 ·skip
  try simp at hc0
  have hN:=g8.1 hc0.1;have hR:=g8.1 hc0.2;refine b8 ?_;refine zQ (hK1 _ _ ?_);refine aP [1] ?_;refine a5 fun K2 hK2=>?_;refine aW ?_;refine b9 ?_;refine aP [1,3] ?_;refine c7 [1] (α:=Nat) (fun k=>[(3,I k)]) (fun _=>[some (.els 2 [p.cells])]) (fun k=>k≤p.Nodes.length∧(p.Nodes.take k).all B5=true) (fun k=>p.Nodes.length-k) 0 ?_ ?_ ?_
  ·simp
  ·exact c9 (by simp)
  rintro k ⟨k1,k2⟩;refine zN ?_;refine a5 fun K3 hK3=>?_;refine aW ?_;refine a8 rfl (fun hc1=>?_) (fun hc1=>?_)
  ·skip
   try simp at hc1
   have g0:=p.node_get (i:=(k:Int)) (by omega) (by omega);simp only[Int.toNat_natCast]at g0;have wi:=zW k (by omega);refine b8 ?_;refine zQ (hK3 _ _ ?_);refine aP [1,3] ?_;refine a5 fun K4 hK4=>?_;refine b9 ?_;refine aW ?_ fun K hK=>by simp -dsimp [g0];exact hK
   refine aW ?_;refine a5 fun K5 hK5=>?_;refine aW ?_;refine a8 rfl (fun hc2=>?_) (fun hc2=>?_)
   ·skip
    try simp at hc2
    refine aV ?_ fun K hK=>by simp -dsimp;refine cI (b2O _ _ _) ?_;simp -dsimp;exact hK
    refine zQ (hK5 _ _ ?_);refine aP [1,3,4,5] ?_;refine aD ?_ fun K hK=>by simp -dsimp;refine cI (b3i (p.node k).Spot) ?_;simp -dsimp;refine cY (fun hm=>b1g (p.node k).Kind) ?_;simp -dsimp;refine cY (fun hm=>b1g (p.node k).Kind) ?_;simp -dsimp;exact hK
    refine a8 rfl (fun hc3=>?_) (fun hc3=>?_)
    ·skip
     try simp at hc3
     refine aW ?_;refine a9 ?_;have:B5 (p.node k)=false:=by simp[B5,hc2];intro h1 h2 h3;simp_all
     simp[a0Q g0 this]
    ·skip
     try simp at hc3
     refine b8 ?_;refine zQ (hK4 _ _ ?_);refine aP [1,3] ?_;refine aV ?_ fun K hK=>by simp -dsimp [wi];exact hK
     refine zQ ?_;refine⟨k+1,⟨by omega,?_⟩,by omega,aB [some 0]⟩;rw[W8 g0,k2];simp[B5,hc2,hc3]
   ·skip
    try simp at hc2
    refine b8 ?_;refine zQ (hK5 _ _ ?_);refine aP [1,3,4,5] ?_;refine aD ?_ fun K hK=>by simp -dsimp;refine cI (b3i (p.node k).Spot) ?_;simp -dsimp;refine cY (fun hm=>b1g (p.node k).Kind) ?_;simp -dsimp;refine cY (fun hm=>b1g (p.node k).Kind) ?_;simp -dsimp;exact hK
    refine a8 rfl (fun hc3=>?_) (fun hc3=>?_)
    ·skip
     try simp at hc3
     refine aW ?_;refine a9 ?_;have:B5 (p.node k)=false:=by simp[B5,hc2];intro h1 h2 h3;simp_all
     simp[a0Q g0 this]
    ·skip
     try simp at hc3
     refine b8 ?_;refine zQ (hK4 _ _ ?_);refine aP [1,3] ?_;refine aV ?_ fun K hK=>by simp -dsimp [wi];exact hK
     refine zQ ?_;refine⟨k+1,⟨by omega,?_⟩,by omega,aB [some 0]⟩;rw[W8 g0,k2];simp[B5,hc2,hc3]
  ·skip
   try simp at hc1
   have hA:=R7 (by omega) k2;refine d4 ?_;refine zQ (hK2 _ _ ?_);refine aP [1] ?_;refine a5 fun K6 hK6=>?_;refine aW ?_;refine b9 ?_;refine aP [1,6] ?_;refine c7 [1] (α:=Nat) (fun k=>[(6,I k)]) (fun _=>[some (.els 2 [p.cells])]) (fun k=>k≤p.Rails.length∧(p.Rails.take k).all (C9 p)=true) (fun k=>p.Rails.length-k) 0 ?_ ?_ ?_
   ·simp
   ·exact c9 (by simp)
   rintro u ⟨u1,u2⟩;refine zN ?_;refine a5 fun K7 hK7=>?_;refine aW ?_;refine a8 rfl (fun hc4=>?_) (fun hc4=>?_)
   ·skip
    try simp at hc4
    have r0:=p.rail_get (i:=(u:Int)) (by omega) (by omega);simp only[Int.toNat_natCast]at r0;have wu:=zW u (by omega);have wn:IntKind.i64.wrap ((p.Nodes.length:Int)-1)=(p.Nodes.length:Int)-1:=c4 (by omega) (by omega);refine b8 ?_;refine zQ (hK7 _ _ ?_);refine aP [1,6] ?_;refine a5 fun K8 hK8=>?_;refine b9 ?_;refine aW ?_ fun K hK=>by simp -dsimp [r0];exact hK
    refine a5 fun K9 hK9=>?_;refine aW ?_ fun K hK=>by simp -dsimp [wn];refine cI (b2O _ _ _) ?_;simp -dsimp [wn];refine cY (fun hm=>b2O _ _ _) ?_;simp -dsimp [wn];refine cY (fun hm=>b2O _ _ _) ?_;simp -dsimp [wn];refine cY (fun hm=>b2O _ _ _) ?_;simp -dsimp [wn];exact hK
    refine a8 rfl (fun hc5=>?_) (fun hc5=>?_)
    ·skip
     try simp at hc5
     have hra:P0 p (p.rail u)=false:=by
      cases hq:P0 p (p.rail u)with
      |false=>rfl
      |true=>simp[P0]at hq;simp[hq]at hc5;omega
     refine aW ?_;exact a9 (by simp[R2 r0 (by simp[C9,hra]:C9 p (p.rail u)=false)])
    ·skip
     try simp at hc5
     have hra:P0 p (p.rail u)=true:=by simp[P0,hc5];omega
     have hF:=g8.1 hc5.1.1.1.1;have hT:=g8.1 hc5.1.1.1.2;have hlen:(p.rail u).Shape.length≤30:=by omega
     have sF:=L2 (B8 hA (i:=(p.rail u).From) (by omega) (by omega));have sT:=L2 (B8 hA (i:=(p.rail u).To) (by omega) (by omega));refine b8 ?_;refine zQ (hK9 _ _ ?_);refine aP [1,6,7] ?_;refine a5 fun K10 hK10=>?_;refine aW ?_;refine b9 ?_;refine aP [1,6,7,8] ?_;refine c7 [1,6,7] (α:=Nat) (fun j=>[(8,I j)]) (fun _=>[some (.els 2 [p.cells]),some (.els 5 [(p.rail u).cells])]) (fun j=>j≤(p.rail u).Shape.length∧((p.rail u).Shape.take j).all j7=true) (fun j=>(p.rail u).Shape.length-j) 0 ?_ ?_ ?_
     ·simp
     ·exact c9 (by simp)
     rintro j ⟨j1,j2⟩;refine zN ?_;refine a5 fun K11 hK11=>?_;refine aW ?_;refine a8 rfl (fun hc6=>?_) (fun hc6=>?_)
     ·skip
      try simp at hc6
      have s0:(p.rail u).Shape[j]?=some (nth (p.rail u).Shape j):=y3 hc6;have wj:=zW j (by omega);refine b8 ?_;refine zQ (hK11 _ _ ?_);refine aP [1,6,7,8] ?_;refine a5 fun K12 hK12=>?_;refine b9 ?_;refine aW ?_ fun K hK=>by simp -dsimp [s0];refine cI (b3i (nth (p.rail u).Shape j)) ?_;simp -dsimp [s0];exact hK
      refine a8 rfl (fun hc7=>?_) (fun hc7=>?_)
      ·skip
       try simp at hc7
       refine aW ?_;exact a9 (by simp[R2 r0 (by simp[C9,a9G s0 hc7]:C9 p (p.rail u)=false)])
      ·skip
       try simp at hc7
       refine b8 ?_;refine zQ (hK12 _ _ ?_);refine aP [1,6,7,8] ?_;refine aV ?_ fun K hK=>by simp -dsimp [wj];exact hK
       refine zQ ?_;refine⟨j+1,⟨by omega,?_⟩,by omega,c9 (by simp)⟩;rw[W8 s0,j2];simp[hc7]
     ·skip
      try simp at hc6
      have hS:=R7 (by omega) j2;have hls:(p.line u).all j7=true:=a4W sF sT hS;have hll:=b0g p u;have hb:∀m,m<(p.line u).length→j7 (nth (p.line u) m)=true:=fun m hm=>List.all_eq_true.1 hls _ (List.mem_of_getElem? (y3 hm));refine d4 ?_;refine zQ (hK10 _ _ ?_);refine aP [1,6] ?_;refine aW ?_ fun K hK=>by simp -dsimp;refine cI (b3K p u (by omega) (by omega) ⟨by omega,by omega⟩ ⟨by omega,by omega⟩ (by omega)) ?_;simp -dsimp;exact hK
      refine aW ?_;refine b9 ?_;refine aP [1,6,9,10] ?_;refine c7 [1,6,9] (α:=Nat) (fun j=>[(10,I j)]) (fun _=>[some (.els 2 [p.cells]),some (.els 5 [(p.rail u).cells])]) (fun j=>1≤j∧j≤(p.line u).length∧∀m,m+1<j→a8g (p.line u) m=true) (fun j=>(p.line u).length-j) 1 ?_ ?_ ?_
      ·refine⟨by omega,by omega,fun m hm=>by omega⟩
      ·exact c9 (by simp)
      rintro j ⟨j1,j2,j3⟩;refine zN ?_;refine a5 fun K13 hK13=>?_;refine aW ?_;refine a8 rfl (fun hc8=>?_) (fun hc8=>?_)
      ·skip
       try simp at hc8
       have wk:IntKind.i64.wrap ((j:Int)-1)=((j-1:Nat):Int):=by rw[c4 (by omega) (by omega)];omega
       have wj:=zW j (by omega);have l1:=y3 (l:=p.line u) (k:=j-1) (by omega);have l2:=y3 (l:=p.line u) (k:=j) (by omega);refine b8 ?_;refine zQ (hK13 _ _ ?_);refine aP [1,6,9,10] ?_;refine a5 fun K14 hK14=>?_;refine b9 ?_;refine aD ?_ fun K hK=>by simp -dsimp [wk,l1,l2];refine cI (c3E (nth (p.line u) (j-1)) (nth (p.line u) j) (hb _ (by omega)) (hb _ (by omega))) ?_;simp -dsimp [wk,l1,l2];refine cI (b2O _ _ _) ?_;simp -dsimp [wk,l1,l2];exact hK
       refine a8 rfl (fun hc9=>?_) (fun hc9=>?_)
       ·simp at hc9;have hseg:a8g (p.line u) (j-1)=inr (far (nth (p.line u) (j-1)) (nth (p.line u) j)) 1 1000000:=by simp only[a8g,C2];rw[show j-1+1=j by omega]
        have hfs:C9 p (p.rail u)=false:=by
         have:(List.range ((p.rail u).Shape.length+1)).all (a8g (s8 p (p.rail u)))=false:=by rw[List.all_eq_false];exact⟨j-1,by simp;omega,by rw[show s8 p (p.rail u)=p.line u from rfl,hseg];simp[hc9]⟩
         simp[C9,this]
        refine aW ?_;exact a9 (by simp[R2 r0 hfs])
       ·simp at hc9;have hseg:a8g (p.line u) (j-1)=inr (far (nth (p.line u) (j-1)) (nth (p.line u) j)) 1 1000000:=by simp only[a8g,C2];rw[show j-1+1=j by omega]
        refine b8 ?_;refine zQ (hK14 _ _ ?_);refine aP [1,6,9,10] ?_;refine aV ?_ fun K hK=>by simp -dsimp [wj];exact hK
        refine zQ ?_;refine⟨j+1,⟨by omega,by omega,fun m hm=>?_⟩,by omega,c9 (by simp)⟩
        by_cases hmj:m+1<j
        ·exact j3 m hmj
        ·rw[show m=j-1 by omega,hseg];exact hc9
      ·skip
       try simp at hc8
       refine d4 ?_;refine zQ (hK8 _ _ ?_);refine aP [1,6] ?_;refine aV ?_ fun K hK=>by simp -dsimp [wu];exact hK
       refine zQ ?_;refine⟨u+1,⟨by omega,?_⟩,by omega,aB [some 0]⟩;rw[W8 r0,u2,C9,hra,hS];simp only[Bool.true_and];rw[List.all_eq_true];intro m hm;simp only[List.mem_range]at hm;exact j3 m (by omega)
   ·skip
    try simp at hc4
    have hB:=R7 (by omega) u2;refine d4 ?_;refine zQ (hK6 _ _ ?_);refine aP [1] ?_;refine aW ?_;refine a5 fun K15 hK15=>?_;refine aW ?_;refine b9 ?_;refine aP [1,11,12] ?_;refine c7 [1] (α:=Nat) (fun i=>[(11, .row 1 0 (q9 p i).length),(12,I i)]) (fun i=>[some (.els 2 [p.cells]),some (.els 2 (b2V (q9 p i)))]) (fun i=>i≤p.Nodes.length∧(q9 p i).all (endB p)=true∧((q9 p i).map (·.2)).Nodup) (fun i=>p.Nodes.length-i) 0 ?_ ?_ ?_
    ·simp[q9]
    ·exact(W5 11 2 (by simp)).trans (c9 (by simp[q9]))
    rintro i ⟨i1,i2,i3⟩;refine zN ?_;refine a5 fun K16 hK16=>?_;refine aW ?_;refine a8 rfl (fun hc10=>?_) (fun hc10=>?_)
    ·skip
     try simp at hc10
     have n0:=p.node_get (i:=(i:Int)) (by omega) (by omega);simp only[Int.toNat_natCast]at n0;have wi:=zW i (by omega);have wr:IntKind.i64.wrap ((p.Rails.length:Int)-1)=(p.Rails.length:Int)-1:=c4 (by omega) (by omega);have hle:=W6 (B8 hA (i:=(i:Int)) (by omega) (by omega));refine b8 ?_;refine zQ (hK16 _ _ ?_);refine aP [1,11,12] ?_;refine a5 fun K17 hK17=>?_;refine b9 ?_;refine aW ?_;refine b9 ?_;refine aP [1,11,12,13] ?_;refine c7 [1,12] (α:=Nat) (fun j=>[(11, .row 1 0 (a0m p i j).length),(13,I j)]) (fun j=>[some (.els 2 [p.cells]),some (.els 2 (b2V (a0m p i j)))]) (fun j=>j≤(p.node i).Ends.length∧(a0m p i j).all (endB p)=true∧((a0m p i j).map (·.2)).Nodup) (fun j=>(p.node i).Ends.length-j) 0 ?_ ?_ ?_
     ·rw[a1e];exact⟨by omega,i2,i3⟩
     ·simp only[a1e];exact c9 (by simp)
     rintro j ⟨j1,j2,j3⟩;refine zN ?_;refine a5 fun K18 hK18=>?_;refine aW ?_ fun K hK=>by simp -dsimp [n0];exact hK
     refine a8 rfl (fun hc11=>?_) (fun hc11=>?_)
     ·skip
      try simp at hc11
      obtain⟨e,he⟩:∃e,(p.node i).Ends[j]?=some e:=⟨_,List.getElem?_eq_getElem hc11⟩;have hcl:=b5V hA (j:=j) hc10;have wj:=zW j (by omega);have f1:P4 ((a0m p i j).length+1) 17:=l9 (by omega) (by omega);have f2:P4 ((a0m p i j).length+1) 25:=l9 (by omega) (by omega);refine b8 ?_;refine zQ (hK18 _ _ ?_);refine aP [1,11,12,13] ?_;refine a5 fun K19 hK19=>?_;refine b9 ?_;refine aW ?_ fun K hK=>by simp -dsimp [n0,he];exact hK
      refine a5 fun K20 hK20=>?_;refine aW ?_ fun K hK=>by simp -dsimp [wr];refine cI (b2O _ _ _) ?_;simp -dsimp [wr];refine cY (fun hm=>c5v p e (by simp[g8]at hm;omega) (by simp[g8]at hm;omega)) ?_;simp -dsimp [wr];exact hK
      refine a8 rfl (fun hc12=>?_) (fun hc12=>?_)
      ·skip
       try simp at hc12
       have hef:endB p (i,e)=false:=by
        cases hq:endB p (i,e)with
        |false=>rfl
        |true=>simp[endB]at hq;simp[hq]at hc12
       refine aW ?_;exact a9 (by simp[a2t hc10 he hef])
      ·skip
       try simp at hc12
       refine b8 ?_;refine zQ (hK20 _ _ ?_);refine aP [1,11,12,13,14] ?_;refine a5 fun K21 hK21=>?_;refine aW ?_;refine b9 ?_;refine aP [1,11,12,13,14,15] ?_;refine c7 [1,11,12,13,14] (α:=Nat) (fun m=>[(15,I m)]) (fun _=>[some (.els 2 [p.cells]),some (.els 2 (b2V (a0m p i j))),some (.els 2 [e.cells])]) (fun m=>m≤(a0m p i j).length∧∀x∈(a0m p i j).take m,x.2≠e) (fun m=>(a0m p i j).length-m) 0 ?_ ?_ ?_
       ·simp
       ·exact c9 (by simp)
       rintro m ⟨m1,m2⟩;refine zN ?_;refine a5 fun K22 hK22=>?_;refine aW ?_;refine a8 rfl (fun hc13=>?_) (fun hc13=>?_)
       ·skip
        try simp at hc13
        obtain⟨x,hx⟩:∃x,(a0m p i j)[m]?=some x:=⟨_,List.getElem?_eq_getElem hc13⟩;have wm:=zW m (by omega);refine b8 ?_;refine zQ (hK22 _ _ ?_);refine aP [1,11,12,13,14,15] ?_;refine a5 fun K23 hK23=>?_;refine b9 ?_;refine aD ?_ fun K hK=>by simp -dsimp [hx,hc13];exact hK
        refine a8 rfl (fun hc14=>?_) (fun hc14=>?_)
        ·skip
         try simp at hc14
         refine aW ?_;have hxe:x.2=e:=by cases hxx:x.2;cases e;simp_all
         exact a9 (by simp[W7 hc10 he hx hxe])
        ·skip
         try simp at hc14
         refine b8 ?_;refine zQ (hK23 _ _ ?_);refine aP [1,11,12,13,14,15] ?_;refine aV ?_ fun K hK=>by simp -dsimp [wm];exact hK
         refine zQ ?_;refine⟨m+1,⟨by omega,?_⟩,by omega,c9 (by simp)⟩;intro y hy;rw[List.take_add_one,hx]at hy
         rcases List.mem_append.1 hy with hy|hy
         ·exact m2 y hy
         ·simp only[Option.toList_some,List.mem_singleton]at hy;subst hy;intro hh;rw[←hh]at hc14;have hxm:(a0m p i j)[m]=y:=(List.getElem?_eq_some_iff.1 hx).2;simp[hxm]at hc14
       ·skip
        try simp at hc13
        have hne:∀x∈a0m p i j,x.2≠e:=by intro x hx;exact m2 x (by rw[List.take_of_length_le (by omega)];exact hx)
        refine d4 ?_;refine zQ (hK21 _ _ ?_);refine aP [1,11,12,13,14] ?_;refine aV ?_ fun K hK=>by simp -dsimp [f1,f2];exact hK
        refine zQ (hK19 _ _ ?_);refine aP [1,11,12,13] ?_;refine aV ?_ fun K hK=>by simp -dsimp [wj];exact hK
        refine zQ ?_;refine⟨j+1,⟨by omega,?_,?_⟩,by omega,d9 [some 0,some 3] rfl (by simp[N9 he]) (by simp[N9 he,Function.comp_def,List.take_of_length_le])⟩
        ·rw[N9 he,List.all_append,j2];simp[endB,hc12]
        ·rw[N9 he,List.map_append,List.nodup_append];refine⟨j3,by simp,?_⟩;intro a ha b hb;simp only[List.map_cons,List.map_nil,List.mem_singleton]at hb;subst hb;obtain⟨y,hy,rfl⟩:=List.mem_map.1 ha;exact hne y hy
     ·skip
      try simp at hc11
      have hce:=b0N (p:=p) (i:=i) (j:=j) (by omega);refine d4 ?_;refine zQ (hK17 _ _ ?_);refine aP [1,11,12] ?_;refine aV ?_ fun K hK=>by simp -dsimp [wi];exact hK
      refine zQ ?_;exact⟨i+1,⟨by omega,by rw[←hce];exact j2,by rw[←hce];exact j3⟩,by omega,by simp only[←hce];exact c9 (by simp)⟩
    ·skip
     try simp at hc10
     have hii:i=p.Nodes.length:=by omega
     subst hii;have hle:=Z5 hA p.Nodes.length (Nat.le_refl _);have w2:IntKind.i64.wrap (2*(p.Rails.length:Int))=2*(p.Rails.length:Int):=c4 (by omega) (by omega);refine d4 ?_;refine zQ (hK15 _ _ ?_);refine aP [1,11] ?_;refine aW ?_ fun K hK=>by simp -dsimp [w2];exact hK
     refine a9 ?_;have hv:d7 p=decide ((q9 p p.Nodes.length).length=2*p.Rails.length):=by simp[d7,a0n,a0v,hc0,hA,hB,i2,i3]
     simp only[hv];simp;exact Bool.eq_iff_iff.2 (by simp;omega)
end Go.Tram
end
section
namespace Go.Tram
open Go.AM Go.Proofs
theorem b9p (p:Plan) (m:Move) (hR:p.Rails.length≤100000):a6 Tryz.prog 36 [p.av,m.av] (Bo (E3 p m)):=by
 have w:IntKind.i64.wrap ((p.Rails.length:Int)-1)=(p.Rails.length:Int)-1:=c4 (by omega) (by omega);refine oB Tryz.func36 Tryz.ntmps36 Tryz.results36 ?_;refine aW ?_;refine aW ?_ fun K hK=>by simp -dsimp [w];refine cI (b2O m.Rail 0 _) ?_;simp -dsimp [w];exact hK
 exact a9 (by simp[E3])
structure Y7 where
 Node:Int
 Leg:Int
 deriving DecidableEq,Inhabited
@[simp] def Y7.cells (s:Y7):List AV:=[I s.Node,I s.Leg]
def a0B (p:Plan) (m:Move):Bool:=decide ((A1 p m).Kind=4)
end Go.Tram
end
section
namespace Go.Tram
open Go.AM Go.Proofs
def V7 (p:Plan) (m k:Move):Y7:=⟨p.at (V6 m),b2l (plc p (V6 m)) (plc p (a9s k))⟩
theorem b4c (m:Move):a6 Tryz.prog 174 [m.av] (.agg [I m.Rail,Bo m.Back]):=by
 refine oB Tryz.func174 Tryz.ntmps174 Tryz.results174 ?_;refine aW ?_;refine aW ?_;exact a9 (by simp)
theorem a5E (p:Plan) (m k:Move) (hv:d7 p=true) (hm:E3 p m=true):a6 Tryz.prog 130 [.iptr (net p),m.av,k.av] (.tup [.agg (if a0B p m then V7 p m k else⟨0,0⟩).cells,Bo (a0B p m)]):=by
 have hm':=J9.1 hm;have ha:=b9Y hv (e:=V6 m) hm'.1 hm'.2;have hnode:=p.node_get ha.1 ha.2;have hce:=a6K p (V6 m) hm'.1 hm'.2;have hna:p.node (p.at (V6 m))=A1 p m:=rfl;rw[hna]at hnode;have hp1:=a9n hv (V6 m);have hp2:=a9n hv (a9s k);have hrb:V7 p m k=⟨p.at (V6 m),b2l (plc p (V6 m)) (plc p (a9s k))⟩:=rfl;have his:a0B p m=decide ((A1 p m).Kind=4):=rfl;rw[hrb,his];generalize A1 p m=n at*
 unfold net;refine oB Tryz.func130 Tryz.ntmps130 Tryz.results130 ?_;refine aW ?_;refine aD ?_ fun K hK=>by simp -dsimp;refine cI (a3L m) ?_;simp -dsimp;refine cI (hce) ?_;simp -dsimp;exact hK
 refine a5 fun K1 hK1=>?_;refine aW ?_ fun K hK=>by simp -dsimp [hnode,ha.1];exact hK
 refine a8 rfl (fun hc0=>?_) (fun hc0=>?_)
 ·skip
  try simp at hc0
  refine aW ?_;exact a9 (by simp_all)
 ·skip
  try simp at hc0
  refine b8 ?_;refine zQ (hK1 _ _ ?_);refine aP [0,4,5,6,8] ?_;refine aD ?_ fun K hK=>by simp -dsimp;refine cI (a3L m) ?_;simp -dsimp;refine d6 (I (plc p (V6 m))) (fun hm=>congrArg AV.v hp1.1) ?_;simp -dsimp;refine cI (b4c k) ?_;simp -dsimp;refine d6 (I (plc p (a9s k))) (fun hm=>congrArg AV.v hp2.1) ?_;simp -dsimp;exact hK
  exact a9 (by simp_all)
theorem a7Q (p:Plan) (m k:Move) (hv:d7 p=true) (hm:E3 p m=true) (hk:E3 p k=true):a6 Tryz.prog 139 [p.av,m.av,k.av] (.tup [.agg (if H4 p m k&&a0B p m then V7 p m k else⟨0,0⟩).cells,I (if H4 p m k&&a0B p m then 0 else 4)]):=by
 have hop:=a0c p hv;have hh:=a5i p m.Rail m.Back hv;have hhk:=a5i p k.Rail k.Back hv;rw[show inr m.Rail 0 (p.Rails.length-1)=true from hm]at hh;rw[show inr k.Rail 0 (p.Rails.length-1)=true from hk]at hhk;have hf:=a3O p m k hv hm;have hb:=a5E p m k hv hm;generalize net p=sh at hop hh hhk hf hb;refine oB Tryz.func139 Tryz.ntmps139 Tryz.results139 ?_;refine aW ?_;refine aW ?_ fun K hK=>by simp -dsimp;refine cI (hop) ?_;simp -dsimp;exact hK
 refine a5 fun K1 hK1=>?_;refine aW ?_ fun K hK=>by simp -dsimp;refine cY (fun hm=>hh) ?_;simp -dsimp;refine cY (fun hm=>hhk) ?_;simp -dsimp;exact hK
 refine a8 rfl (fun hc0=>?_) (fun hc0=>?_)
 ·simp at hc0
 ·refine b8 ?_;refine zQ (hK1 _ _ ?_);refine aP [4,5,6,8] ?_;refine a5 fun K2 hK2=>?_;refine aW ?_ fun K hK=>by simp -dsimp;refine cI (hf) ?_;simp -dsimp;exact hK
  refine a8 rfl (fun hc1=>?_) (fun hc1=>?_)
  ·skip
   try simp at hc1
   refine aW ?_ fun K hK=>by simp -dsimp;refine cI (hb) ?_;simp -dsimp;exact hK
   refine aW ?_;refine a8 rfl (fun hc2=>?_) (fun hc2=>?_)
   ·skip
    try simp at hc2
    refine aW ?_;exact a9 (by simp_all)
   ·skip
    try simp at hc2
    refine b8 ?_;refine zQ (hK2 _ _ ?_);refine aP [6] ?_;refine aW ?_;exact a9 (by simp_all)
  ·skip
   try simp at hc1
   refine b8 ?_;refine zQ (hK2 _ _ ?_);refine aP [6] ?_;refine aW ?_;exact a9 (by simp_all)
end Go.Tram
end
section
namespace Go.Tram
open Go.AM Go.Proofs
theorem b7p:a6 Tryz.prog 65 [] b8J:=by
 refine oB Tryz.func65 Tryz.ntmps65 Tryz.results65 ?_;refine aW ?_;refine aW ?_;exact a9 (by simp[b8J])
theorem b2y:a6 Tryz.prog 65 [] j6.av:=by
 have e:wkN 2 6 b8J=j6.av:=by rfl
 refine b7p.res fun w S y h=>?_;rw[←e];exact a8Z 2 6 _ _ h
end Go.Tram
end
section
namespace Go.Tram
open Go.AM Go.Proofs
theorem b5v {p:Plan} (hv:d7 p=true) {m k:Move} (hm:E3 p m=true) (hf:b1u p m k=true):∃i:Nat,i<p.Nodes.length∧p.at (V6 m)=i∧p.at (a9s k)=i∧A1 p m=p.node i∧∃a b:Nat,(p.node i).Ends[a]?=some (V6 m)∧(p.node i).Ends[b]?=some (a9s k)∧V2 (p.node i) a b=true:=by
 obtain⟨i,hi,ha,hn,j,hj,hp,hx⟩:=b4s hv hm;simp only[b1u,hn,Bool.and_eq_true,decide_eq_true_eq]at hf;have:∃t:Nat,(p.node i).Ends[t]?=some (a9s k):=by
  by_cases h:∃t:Nat,(p.node i).Ends[t]?=some (a9s k)
  ·exact h
  ·have:=a1J (e:=a9s k) (p.node i).Ends 0 fun j hj=>h ⟨j,hj⟩;have h2:=hf.2.1;unfold b6w at h2;omega
 obtain⟨t,ht⟩:=this;refine⟨i,hi,ha,(N1 hv hi ht).2,hn,j,t,hj,ht,?_⟩;have:=hf.2.2;rw[hx,a1x hv hi ht]at this;exact this
def c2J (K N f t:Int):Bool:=
 if K=1 then false else if K=2 then decide (f≠t)else if K=3 then decide (f≠t)&&decide ((f+t) % 2=0)
 else if K=4 then decide (f≠t)&&(decide (f=0)||decide (t=0))else if K=5 then(decide (f≠0)&&decide (t=0))||(decide (f=0)&&decide (t=N))
 else(decide (f=0)&&decide (t=N))||(decide (f=N)&&decide (t=0))
theorem b7o (n:Node) (f t:Int):V2 n f t=c2J n.Kind n.Normal f t:=rfl
end Go.Tram
end
section
namespace Go.Tram
open Go.AM Go.Proofs
attribute [-simp] b7F b2l
theorem a7q (p:Plan) (r:Int) (h0:0≤r) (h1:r<p.Rails.length) (hs:(p.rail r).Shape.length≤1000):a6 Tryz.prog 121 [p.av,I r] (I ((p.rail r).Shape.length+1)):=by
 have g0:=p.rail_get h0 h1;have w:IntKind.i64.wrap (((p.rail r).Shape.length:Int)+1)=((p.rail r).Shape.length:Int)+1:=c4 (by omega) (by omega);refine oB Tryz.func121 Tryz.ntmps121 Tryz.results121 ?_;refine aW ?_;refine aW ?_ fun K hK=>by simp -dsimp [g0,h0,w];exact hK
 exact a9 (by simp)
theorem a6E (p:Plan) (r:Int) (k:Nat) (h0:0≤r) (h1:r<p.Rails.length) (ro:X7 p r) (hk:k<(p.rail r).Shape.length+1):
  a6 Tryz.prog 164 [p.av, .agg [I r,I k]] (.tup [(nth (p.line r) k).av,(nth (p.line r) (k+1)).av]):=by
 have hl:=ro.len;have hs:=ro.s;have g1:=y3 (l:=p.line r) (k:=k) (by omega);have g2:=y3 (l:=p.line r) (k:=k+1) (by omega);have wk:=zW k (by omega);refine oB Tryz.func164 Tryz.ntmps164 Tryz.results164 ?_;refine aW ?_;refine aW ?_ fun K hK=>by simp -dsimp;refine cI (b3K p r h0 h1 ro.f ro.t (by omega)) ?_;simp -dsimp;exact hK
 refine aD ?_ fun K hK=>by simp -dsimp [g1,g2,wk];refine⟨by omega,?_⟩;exact hK
 exact a9 (by simp)
theorem a3N {a b:Int} (h:0≤a):a.tdiv b=a/b:=Int.tdiv_eq_ediv_of_nonneg h
theorem a4i {a b:Int} (h:0≤a):a.tmod b=a % b:=Int.tmod_eq_emod_of_nonneg h
theorem a5t (a b:Int) (ha:0≤a) (ha':a<4611686018427387904) (hb:0≤b) (hb':b<4611686018427387904):
  a6 Tryz.prog 208 [I a,I b] (.tup [I (a*b/4611686018427387904),I (a*b % 4611686018427387904)]):=by
 obtain⟨p1,p2⟩:=c2E ha ha' hb hb';have hab:=r8 ha ha' hb hb';have a1:=r8 (a:=a/2147483648) (b:=b/2147483648) (A:=2147483648) (B:=2147483648) (by omega) (by omega) (by omega) (by omega);have a2:=r8 (a:=a/2147483648) (b:=b % 2147483648) (A:=2147483648) (B:=2147483648) (by omega) (by omega) (by omega) (by omega);have a3:=r8 (a:=a % 2147483648) (b:=b/2147483648) (A:=2147483648) (B:=2147483648) (by omega) (by omega) (by omega) (by omega);have a4:=r8 (a:=a % 2147483648) (b:=b % 2147483648) (A:=2147483648) (B:=2147483648) (by omega) (by omega) (by omega) (by omega);have t1:=a3N (b:=2147483648) ha;have t2:=a4i (b:=2147483648) ha;have t3:=a3N (b:=2147483648) hb;have t4:=a4i (b:=2147483648) hb;have v1:IntKind.i64.wrap (a/2147483648)=a/2147483648:=c4 (by omega) (by omega);have v2:IntKind.i64.wrap (b/2147483648)=b/2147483648:=c4 (by omega) (by omega);generalize hp:a/2147483648*(b/2147483648)=p at*
 generalize hq:a/2147483648*(b % 2147483648)=q at*
 generalize hr:a % 2147483648*(b/2147483648)=r at*
 generalize hs:a % 2147483648*(b % 2147483648)=s at*
 have w1:IntKind.i64.wrap s=s:=c4 (by omega) (by omega);have w2:IntKind.i64.wrap q=q:=c4 (by omega) (by omega);have w3:IntKind.i64.wrap r=r:=c4 (by omega) (by omega);have w4:IntKind.i64.wrap p=p:=c4 (by omega) (by omega);have t5:=a3N (b:=2147483648) a4.1;have v3:IntKind.i64.wrap (s/2147483648)=s/2147483648:=c4 (by omega) (by omega);have w5:IntKind.i64.wrap (q+s/2147483648)=q+s/2147483648:=c4 (by omega) (by omega);have t6:=a3N (a:=q+s/2147483648) (b:=2147483648) (by omega);have v4:IntKind.i64.wrap ((q+s/2147483648)/2147483648)=(q+s/2147483648)/2147483648:=c4 (by omega) (by omega);have w6:IntKind.i64.wrap (p+(q+s/2147483648)/2147483648)=p+(q+s/2147483648)/2147483648:=c4 (by omega) (by omega);have t7:=a4i (a:=q+s/2147483648) (b:=2147483648) (by omega);have w7:IntKind.i64.wrap ((q+s/2147483648) % 2147483648+r)=(q+s/2147483648) % 2147483648+r:=c4 (by omega) (by omega);have t8:=a3N (a:=(q+s/2147483648) % 2147483648+r) (b:=2147483648) (by omega);have t9:=a4i (a:=(q+s/2147483648) % 2147483648+r) (b:=2147483648) (by omega);have t10:=a4i (b:=2147483648) a4.1;have v5:IntKind.i64.wrap (((q+s/2147483648) % 2147483648+r)/2147483648)=((q+s/2147483648) % 2147483648+r)/2147483648:=c4 (by omega) (by omega);have w8:IntKind.i64.wrap (p+(q+s/2147483648)/2147483648+((q+s/2147483648) % 2147483648+r)/2147483648)=a*b/4611686018427387904:=by rw[p1];exact c4 (by omega) (by omega)
 have w9:IntKind.i64.wrap (((q+s/2147483648) % 2147483648+r) % 2147483648*2147483648)=((q+s/2147483648) % 2147483648+r) % 2147483648*2147483648:=c4 (by omega) (by omega);have w10:IntKind.i64.wrap (((q+s/2147483648) % 2147483648+r) % 2147483648*2147483648+s % 2147483648)=a*b % 4611686018427387904:=by rw[p2];exact c4 (by omega) (by omega)
 have nm:((q+s/2147483648) % 2147483648+r) % 2147483648=(q+s/2147483648+r) % 2147483648:=by omega
 rw[nm]at w9 w10;refine oB Tryz.func208 Tryz.ntmps208 Tryz.results208 ?_;refine aW ?_ fun K hK=>by simp -dsimp [t1,t2,t3,t4,t5,t6,t7,t8,t9,t10,v1,v2,v3,v4,v5,hp,hq,hr,hs,w1,w2,w3,w4,w5,w6,w7,w8,w9,w10];exact hK
 refine aW ?_ fun K hK=>by simp -dsimp [t1,t2,t3,t4,t5,t6,t7,t8,t9,t10,v1,v2,v3,v4,v5,hp,hq,hr,hs,w1,w2,w3,w4,w5,w6,w7,w8,w9,w10];exact hK
 refine aW ?_ fun K hK=>by simp -dsimp [t1,t2,t3,t4,t5,t6,t7,t8,t9,t10,v1,v2,v3,v4,v5,hp,hq,hr,hs,w1,w2,w3,w4,w5,w6,w7,w8,w9,w10];exact hK
 refine aW ?_ fun K hK=>by simp -dsimp [t1,t2,t3,t4,t5,t6,t7,t8,t9,t10,v1,v2,v3,v4,v5,hp,hq,hr,hs,w1,w2,w3,w4,w5,w6,w7,w8,w9,w10];exact hK
 refine aW ?_ fun K hK=>by simp -dsimp [t1,t2,t3,t4,t5,t6,t7,t8,t9,t10,v1,v2,v3,v4,v5,hp,hq,hr,hs,w1,w2,w3,w4,w5,w6,w7,w8,w9,w10];exact hK
 refine aW ?_ fun K hK=>by simp -dsimp [t1,t2,t3,t4,t5,t6,t7,t8,t9,t10,v1,v2,v3,v4,v5,hp,hq,hr,hs,w1,w2,w3,w4,w5,w6,w7,w8,w9,w10];exact hK
 refine aW ?_ fun K hK=>by simp -dsimp [t1,t2,t3,t4,t5,t6,t7,t8,t9,t10,v1,v2,v3,v4,v5,hp,hq,hr,hs,w1,w2,w3,w4,w5,w6,w7,w8,w9,w10];exact hK
 refine aW ?_ fun K hK=>by simp -dsimp [t1,t2,t3,t4,t5,t6,t7,t8,t9,t10,v1,v2,v3,v4,v5,hp,hq,hr,hs,w1,w2,w3,w4,w5,w6,w7,w8,w9,w10];exact hK
 exact a9 (by simp)
theorem a4x (less:Bool) (a b:Int):a0l less (L7 a b)=if less then decide (a<b)else decide (a≤b):=by
 unfold a0l
 cases less
 ·simp only[Bool.false_eq_true,if_false];exact decide_eq_decide.2 c0b
 ·simp only[if_true];exact decide_eq_decide.2 a3a
theorem b7a (a b c d:Int) (less:Bool) (ha:0≤a) (ha':a<4611686018427387904) (hb:0≤b) (hb':b<4611686018427387904) (hc:0≤c) (hc':c<4611686018427387904) (hd:0≤d) (hd':d<4611686018427387904):
  a6 Tryz.prog 188 [I a,I b,I c,I d,Bo less] (Bo (a0l less (L7 (a*b) (c*d)))):=by
 refine oB Tryz.func188 Tryz.ntmps188 Tryz.results188 ?_;refine aW ?_;refine aW ?_ fun K hK=>by simp -dsimp;refine cI (a5t a b ha ha' hb hb') ?_;simp -dsimp;exact hK
 refine aW ?_ fun K hK=>by simp -dsimp;refine cI (a5t c d hc hc' hd hd') ?_;simp -dsimp;exact hK
 refine aW ?_;refine a9 ?_;rw[a4x];generalize a*b=m;generalize c*d=n
 cases less<;>simp<;>exact Bool.eq_iff_iff.2 (by simp;omega)
theorem a9R (a b c:Spot) (ha:j7 a=true) (hb:j7 b=true) (hc:j7 c=true):a6 Tryz.prog 207 [a.av,b.av,c.av] (I (I8 a b c)):=by
 have h1:=z6 ha hb;have h2:=z6 ha hc;have m1:=x7 (a:=b.X-a.X) (b:=c.Y-a.Y) (A:=20000000) (B:=20000000) (by omega) (by omega) (by omega) (by omega);have m2:=x7 (a:=b.Y-a.Y) (b:=c.X-a.X) (A:=20000000) (B:=20000000) (by omega) (by omega) (by omega) (by omega);have u1:IntKind.i64.wrap (b.X-a.X)=b.X-a.X:=c4 (by omega) (by omega);have u2:IntKind.i64.wrap (b.Y-a.Y)=b.Y-a.Y:=c4 (by omega) (by omega);have u3:IntKind.i64.wrap (c.X-a.X)=c.X-a.X:=c4 (by omega) (by omega);have u4:IntKind.i64.wrap (c.Y-a.Y)=c.Y-a.Y:=c4 (by omega) (by omega);have w1:IntKind.i64.wrap ((b.X-a.X)*(c.Y-a.Y))=(b.X-a.X)*(c.Y-a.Y):=c4 (by omega) (by omega);have w2:IntKind.i64.wrap ((b.Y-a.Y)*(c.X-a.X))=(b.Y-a.Y)*(c.X-a.X):=c4 (by omega) (by omega);have w3:IntKind.i64.wrap ((b.X-a.X)*(c.Y-a.Y)-(b.Y-a.Y)*(c.X-a.X))=j0 a b a c:=c4 (by omega) (by omega);refine oB Tryz.func207 Tryz.ntmps207 Tryz.results207 ?_;refine aW ?_ fun K hK=>by simp -dsimp [u1,u2,u3,u4,w1,w2,w3,O9];exact hK
 refine aW ?_ fun K hK=>by simp -dsimp [u1,u2,u3,u4,w1,w2,w3,O9];exact hK
 refine a5 fun K1 hK1=>?_;refine aW ?_ fun K hK=>by simp -dsimp [u1,u2,u3,u4,w1,w2,w3,O9];exact hK
 refine a8 rfl (fun hc0=>?_) (fun hc0=>?_)
 ·skip
  try simp at hc0
  refine aW ?_ fun K hK=>by simp -dsimp [u1,u2,u3,u4,w1,w2,w3,O9];exact hK
  exact a9 (by simp[I8,L7];omega)
 ·skip
  try simp at hc0
  refine b8 ?_;refine zQ (hK1 _ _ ?_);refine aP [7] ?_;refine aW ?_ fun K hK=>by simp -dsimp [u1,u2,u3,u4,w1,w2,w3,O9];exact hK
  exact a9 (by simp[I8,L7];split<;>(try split)<;>omega)
theorem a9O (less:Bool) (s d:Int):(decide (s<d)||(decide (s=d)&& !less))=a0l less (L7 s d):=by
 rw[a4x]
 cases less<;>simp
 exact Bool.eq_iff_iff.2 (by simp;omega)
theorem b3U (a b c d:Spot):y5 a b c d=y5 c d a b:=by
 unfold y5;rw[Int.mul_comm (b.X-a.X),Int.mul_comm (b.Y-a.Y)]
theorem L6 (s a b:Spot) (d:Int) (less:Bool) (hs:j7 s=true) (ha:j7 a=true) (hb:j7 b=true) (h0:0≤d) (h1:d≤1000000):
  a6 Tryz.prog 166 [s.av,a.av,b.av,I d,Bo less] (Bo (a0l less (v9 a b s d))):=by
 have d1:=z6 ha hs;have d2:=z6 ha hb;have d3:=z6 hb hs;have mm:∀{x y:Int},(-20000000≤x∧x≤20000000)→(-20000000≤y∧y≤20000000)→IntKind.i64.wrap (x*y)=x*y:=by
  intro x y hx hy;have:=x7 (a:=x) (b:=y) (A:=20000000) (B:=20000000) hx.1 hx.2 hy.1 hy.2;exact c4 (by omega) (by omega)
 have u1:IntKind.i64.wrap (s.X-a.X)=s.X-a.X:=c4 (by omega) (by omega);have u2:IntKind.i64.wrap (s.Y-a.Y)=s.Y-a.Y:=c4 (by omega) (by omega);have u3:IntKind.i64.wrap (b.X-a.X)=b.X-a.X:=c4 (by omega) (by omega);have u4:IntKind.i64.wrap (b.Y-a.Y)=b.Y-a.Y:=c4 (by omega) (by omega);have u5:IntKind.i64.wrap (s.X-b.X)=s.X-b.X:=c4 (by omega) (by omega);have u6:IntKind.i64.wrap (s.Y-b.Y)=s.Y-b.Y:=c4 (by omega) (by omega);have m1:=mm d2.1 d2.1;have m2:=mm d2.2 d2.2;have m3:=mm d1.1 d2.1;have m4:=mm d1.2 d2.2;have m5:=mm d1.1 d1.1;have m6:=mm d1.2 d1.2;have m7:=mm d3.1 d3.1;have m8:=mm d3.2 d3.2;have m9:=mm d1.1 d2.2;have m10:=mm d1.2 d2.1;have b1:=a0E ha hb ha hb;have b2:=a0E ha hs ha hb;have b3:=a0E ha hs ha hs;have b4:=a0E hb hs hb hs;have b5:=a7s ha hs ha hb;have n1:=a6f a b;have s1:IntKind.i64.wrap ((b.X-a.X)*(b.X-a.X)+(b.Y-a.Y)*(b.Y-a.Y))=y5 a b a b:=c4 (by unfold y5 at b1;omega) (by unfold y5 at b1;omega);have s2:IntKind.i64.wrap ((s.X-a.X)*(b.X-a.X)+(s.Y-a.Y)*(b.Y-a.Y))=y5 a s a b:=c4 (by unfold y5 at b2;omega) (by unfold y5 at b2;omega);have s3:IntKind.i64.wrap ((s.X-a.X)*(s.X-a.X)+(s.Y-a.Y)*(s.Y-a.Y))=y5 a s a s:=c4 (by unfold y5 at b3;omega) (by unfold y5 at b3;omega);have s4:IntKind.i64.wrap ((s.X-b.X)*(s.X-b.X)+(s.Y-b.Y)*(s.Y-b.Y))=y5 b s b s:=c4 (by unfold y5 at b4;omega) (by unfold y5 at b4;omega);have s5:IntKind.i64.wrap ((s.X-a.X)*(b.Y-a.Y)-(s.Y-a.Y)*(b.X-a.X))=j0 a s a b:=c4 (by unfold j0 at b5;omega) (by unfold j0 at b5;omega);have md:=x7 (a:=d) (b:=d) (A:=1000000) (B:=1000000) (by omega) (by omega) (by omega) (by omega);have hdd:=b1N d;have wd:IntKind.i64.wrap (d*d)=d*d:=c4 (by omega) (by omega);have ec:y5 a s a b=y5 a b a s:=b3U _ _ _ _;have wn:IntKind.i64.wrap (0-j0 a s a b)=-j0 a s a b:=by rw[c4 (by omega) (by omega)];omega
 have wn':IntKind.i64.wrap (-j0 a s a b)=-j0 a s a b:=c4 (by omega) (by omega);have hx:j0 a s a b=-j0 a b a s:=by
  simp only[j0];rw[Int.mul_comm (s.X-a.X),Int.mul_comm (s.Y-a.Y)];omega
 have hm:max (j0 a s a b) (-j0 a s a b)*max (j0 a s a b) (-j0 a s a b)=j0 a b a s*j0 a b a s:=by
  rcases Int.le_total (j0 a s a b) (-j0 a s a b)with h|h
  ·rw[Int.max_eq_right h,hx,Int.neg_neg]
  ·rw[Int.max_eq_left h,hx,Int.neg_mul_neg]
 refine oB Tryz.func166 Tryz.ntmps166 Tryz.results166 ?_;refine aW ?_ fun K hK=>by simp -dsimp [u1,u2,u3,u4,u5,u6,m1,m2,m3,m4,m5,m6,m7,m8,m9,m10,s1,s2,s3,s4,s5,wd,wn,wn',C1];exact hK
 refine aD ?_ fun K hK=>by simp -dsimp [u1,u2,u3,u4,u5,u6,m1,m2,m3,m4,m5,m6,m7,m8,m9,m10,s1,s2,s3,s4,s5,wd,wn,wn',C1];exact hK
 refine aD ?_ fun K hK=>by simp -dsimp [u1,u2,u3,u4,u5,u6,m1,m2,m3,m4,m5,m6,m7,m8,m9,m10,s1,s2,s3,s4,s5,wd,wn,wn',C1];exact hK
 refine aW ?_ fun K hK=>by simp -dsimp [u1,u2,u3,u4,u5,u6,m1,m2,m3,m4,m5,m6,m7,m8,m9,m10,s1,s2,s3,s4,s5,wd,wn,wn',C1];exact hK
 refine aW ?_ fun K hK=>by simp -dsimp [u1,u2,u3,u4,u5,u6,m1,m2,m3,m4,m5,m6,m7,m8,m9,m10,s1,s2,s3,s4,s5,wd,wn,wn',C1];exact hK
 refine aW ?_ fun K hK=>by simp -dsimp [u1,u2,u3,u4,u5,u6,m1,m2,m3,m4,m5,m6,m7,m8,m9,m10,s1,s2,s3,s4,s5,wd,wn,wn',C1];exact hK
 refine a5 fun K1 hK1=>?_;refine aW ?_ fun K hK=>by simp -dsimp [u1,u2,u3,u4,u5,u6,m1,m2,m3,m4,m5,m6,m7,m8,m9,m10,s1,s2,s3,s4,s5,wd,wn,wn',C1];exact hK
 refine a8 rfl (fun hc0=>?_) (fun hc0=>?_)
 ·skip
  try simp at hc0
  have hf:a0l less (v9 a b s d)=a0l less (L7 (y5 b s b s) (d*d)):=by unfold v9;rw[if_neg (by omega),if_pos (by omega)]
  refine aD ?_ fun K hK=>by simp -dsimp [u1,u2,u3,u4,u5,u6,m1,m2,m3,m4,m5,m6,m7,m8,m9,m10,s1,s2,s3,s4,s5,wd,wn,wn',C1];exact hK
  refine aV ?_ fun K hK=>by simp -dsimp [u1,u2,u3,u4,u5,u6,m1,m2,m3,m4,m5,m6,m7,m8,m9,m10,s1,s2,s3,s4,s5,wd,wn,wn',C1];exact hK
  refine zQ (hK1 _ _ ?_);refine aP [3,4,11,12,13,14,15,16,17] ?_;refine a5 fun K2 hK2=>?_;refine aW ?_ fun K hK=>by simp -dsimp [u1,u2,u3,u4,u5,u6,m1,m2,m3,m4,m5,m6,m7,m8,m9,m10,s1,s2,s3,s4,s5,wd,wn,wn',C1,hc0];exact hK
  refine a8 rfl (fun hc1=>?_) (fun hc1=>?_)
  ·refine aW ?_ fun K hK=>by simp -dsimp [u1,u2,u3,u4,u5,u6,m1,m2,m3,m4,m5,m6,m7,m8,m9,m10,s1,s2,s3,s4,s5,wd,wn,wn',C1];exact hK
   exact a9 (by simp;rw[hf,←a9O];rfl)
  ·simp at hc1
 ·skip
  try simp at hc0
  have hc0':¬y5 a b a b<y5 a s a b:=by omega
  refine b8 ?_;refine zQ (hK1 _ _ ?_);refine aP [3,4,11,12,13,14,15,16,17] ?_;refine a5 fun K3 hK3=>?_;refine aW ?_ fun K hK=>by simp -dsimp [u1,u2,u3,u4,u5,u6,m1,m2,m3,m4,m5,m6,m7,m8,m9,m10,s1,s2,s3,s4,s5,wd,wn,wn',C1,hc0'];exact hK
  refine a8 rfl (fun hc1=>?_) (fun hc1=>?_)
  ·simp at hc1;refine aW ?_ fun K hK=>by simp -dsimp [u1,u2,u3,u4,u5,u6,m1,m2,m3,m4,m5,m6,m7,m8,m9,m10,s1,s2,s3,s4,s5,wd,wn,wn',C1];exact hK
   refine a9 ?_;have hf:a0l less (v9 a b s d)=a0l less (L7 (y5 a s a s) (d*d)):=by unfold v9;rw[if_pos (by omega)]
   simp;rw[hf,←a9O];rfl
  ·simp at hc1;refine b8 ?_;refine zQ (hK3 _ _ ?_);refine aP [3,4,11,12,13,14,15] ?_;refine aW ?_ fun K hK=>by simp -dsimp [u1,u2,u3,u4,u5,u6,m1,m2,m3,m4,m5,m6,m7,m8,m9,m10,s1,s2,s3,s4,s5,wd,wn,wn',C1];exact hK
   refine aW ?_ fun K hK=>by simp -dsimp [u1,u2,u3,u4,u5,u6,m1,m2,m3,m4,m5,m6,m7,m8,m9,m10,s1,s2,s3,s4,s5,wd,wn,wn',C1];refine cI (b7a (max (j0 a s a b) (-j0 a s a b)) (max (j0 a s a b) (-j0 a s a b)) (d*d) (y5 a b a b) less (by omega) (by omega) (by omega) (by omega) hdd (by omega) n1 (by omega)) ?_;simp -dsimp [u1,u2,u3,u4,u5,u6,m1,m2,m3,m4,m5,m6,m7,m8,m9,m10,s1,s2,s3,s4,s5,wd,wn,wn',C1];exact hK
   refine a9 ?_;have hf:L7 (j0 a b a s*j0 a b a s) (d*d*y5 a b a b)=v9 a b s d:=by
    unfold v9;rw[if_neg (by omega)]
    split
    ·exact a6S (by omega) (by omega)
    ·rfl
   simp[hm,hf]
theorem c0R (a b c d:Spot) (r:Int) (less:Bool) (ha:j7 a=true) (hb:j7 b=true) (hc:j7 c=true) (hd:j7 d=true) (h0:0≤r) (h1:r≤1000000):
  a6 Tryz.prog 187 [a.av,b.av,c.av,d.av,I r,Bo less] (Bo (a0l less (apart a b c d r))):=by
 have w:∀{x y:Int},-1≤x∧x≤1→ -1≤y∧y≤1→IntKind.i64.wrap (x*y)=x*y:=by
  intro x y hx hy;have:=x7 (a:=x) (b:=y) (A:=1) (B:=1) hx.1 hx.2 hy.1 hy.2;exact c4 (by omega) (by omega)
 have w1:IntKind.i64.wrap (I8 a b c*I8 a b d)=I8 a b c*I8 a b d:=w W0 W0;have w2:IntKind.i64.wrap (I8 c d a*I8 c d b)=I8 c d a*I8 c d b:=w W0 W0;refine oB Tryz.func187 Tryz.ntmps187 Tryz.results187 ?_;refine aW ?_;refine a5 fun K1 hK1=>?_;refine aD ?_ fun K hK=>by simp -dsimp [w1,w2];refine cI (a9R a b c ha hb hc) ?_;simp -dsimp [w1,w2];refine cI (a9R a b d ha hb hd) ?_;simp -dsimp [w1,w2];refine cY (fun hm=>a9R c d a hc hd ha) ?_;simp -dsimp [w1,w2];refine cY (fun hm=>a9R c d b hc hd hb) ?_;simp -dsimp [w1,w2];exact hK
 refine a8 rfl (fun hc0=>?_) (fun hc0=>?_)
 ·skip
  try simp at hc0
  have hcr:S5 a b c d=true:=by simp[S5,hc0]
  refine aW ?_;refine a9 ?_;simp[apart,hcr,a4x]
  cases less<;>simp[h0]
 ·skip
  try simp at hc0
  have hcr:S5 a b c d=false:=by unfold S5;simp;simpa using hc0
  refine b8 ?_;refine zQ (hK1 _ _ ?_);refine aP [4,5,6,7,8,9] ?_;refine aW ?_ fun K hK=>by simp -dsimp;refine cI (L6 a c d r less ha hc hd h0 h1) ?_;simp -dsimp;refine cY (fun hm=>L6 b c d r less hb hc hd h0 h1) ?_;simp -dsimp;refine cY (fun hm=>L6 c a b r less hc ha hb h0 h1) ?_;simp -dsimp;refine cY (fun hm=>L6 d a b r less hd ha hb h0 h1) ?_;simp -dsimp;exact hK
  refine a9 ?_;simp[apart,hcr]
  cases less<;>simp[a0l]<;>exact Bool.eq_iff_iff.2 (by simp[b9R,b0w];omega)
end Go.Tram
end
section
namespace Go.Tram
open Go.AM Go.Proofs
@[simp] def sAV (r:Int) (k:Nat):AV:= .agg [I r,I k]
theorem b3l (p:Plan) (r:Int) (k:Nat) (r':Int) (k':Nat) (d:Int) (h0:0≤r) (h1:r<p.Rails.length) (ro:X7 p r) (hk:k<(p.rail r).Shape.length+1)
  (h0':0≤r') (h1':r'<p.Rails.length) (ro':X7 p r') (hk':k'<(p.rail r').Shape.length+1) (d0:0≤d) (d1:d≤1000000):
  a6 Tryz.prog 163 [p.av,sAV r k,sAV r' k',I d] (Bo (decide (apart (nth (p.line r) k) (nth (p.line r) (k+1)) (nth (p.line r') k') (nth (p.line r') (k'+1)) d≤0))):=by
 have hl:=ro.len;have hl':=ro'.len;refine oB Tryz.func163 Tryz.ntmps163 Tryz.results163 ?_;refine aW ?_;refine aW ?_ fun K hK=>by simp -dsimp;refine cI (a6E p r k h0 h1 ro hk) ?_;simp -dsimp;exact hK
 refine aW ?_ fun K hK=>by simp -dsimp;refine cI (a6E p r' k' h0' h1' ro' hk') ?_;simp -dsimp;exact hK
 refine aW ?_ fun K hK=>by simp -dsimp;refine cI (c0R _ _ _ _ d false (ro.spot k (by omega)) (ro.spot (k+1) (by omega)) (ro'.spot k' (by omega)) (ro'.spot (k'+1) (by omega)) d0 d1) ?_;simp -dsimp;exact hK
 exact a9 (by simp[a0l])
theorem b0z (p:Plan) (r:Int) (k:Nat) (h0:0≤r) (h1:r<p.Rails.length) (ro:X7 p r) (hk:k<(p.rail r).Shape.length+1):
  a6 Tryz.prog 165 [p.av,sAV r k] (.lst 2 ((I3 (p.line r) k++I3 (p.line r) (k+1)).map Spot.cells)):=by
 have hl:=ro.len;have hs:=ro.s;have wk:=zW k (by omega);have wl:IntKind.i64.wrap (((p.line r).length:Int)-1)=((p.line r).length:Int)-1:=c4 (by omega) (by omega);rw[←a5N];refine oB Tryz.func165 Tryz.ntmps165 Tryz.results165 ?_;refine aW ?_;refine aW ?_ fun K hK=>by simp -dsimp;refine cI (b3K p r h0 h1 ro.f ro.t (by omega)) ?_;simp -dsimp;exact hK
 refine aW ?_;refine a5 fun K1 hK1=>?_;refine aW ?_;refine b9 ?_;refine aP [3,5,6,7] ?_;refine c7 [3,5] (α:=Nat) (fun i=>[(7,I i),(6, .row 2 0 (C8 (p.line r) k (i-k)).length)]) (fun i=>[some (.els 2 [p.cells]),some (.els 2 [[I r,I k]]),some (.els 2 ((C8 (p.line r) k (i-k)).map Spot.cells))]) (fun i=>k≤i∧i≤k+2) (fun i=>k+2-i) k ?_ ?_ ?_
 ·exact⟨by omega,by omega⟩
 ·exact(W5 6 2 (by simp)).trans (d9 [some 0,some 1,some 2] rfl (by simp[C8]) (by simp[C8]))
 rintro i ⟨i1,i2⟩;have hbt:=U0 (p.line r) k (i-k);refine zN ?_;refine a5 fun K2 hK2=>?_;refine aW ?_ fun K hK=>by simp -dsimp [wk];exact hK
 refine a8 rfl (fun hc0=>?_) (fun hc0=>?_)
 ·skip
  try simp at hc0
  have hi2:i≤k+1:=by omega
  have wi:=zW i (by omega);have hsucc:C8 (p.line r) k (i+1-k)=C8 (p.line r) k (i-k)++I3 (p.line r) i:=by rw[show i+1-k=i-k+1 by omega,T9,show k+(i-k)=i by omega]
  refine b8 ?_;refine zQ (hK2 _ _ ?_);refine aP [3,5,6,7] ?_;refine a5 fun K3 hK3=>?_;refine b9 ?_;refine a5 fun K4 hK4=>?_;refine aW ?_ fun K hK=>by simp -dsimp [wl];exact hK
  refine a8 rfl (fun hc1=>?_) (fun hc1=>?_)
  ·skip
   try simp at hc1
   have hnb:I3 (p.line r) i=[]:=by
    have:a7e (p.line r) i=false:=by simp[a7e];omega
    simp[I3,this]
   refine d4 ?_;refine zQ (hK3 _ _ ?_);refine aP [3,5,6,7] ?_;refine aV ?_ fun K hK=>by simp -dsimp [wi];exact hK
   refine zQ ?_;exact⟨i+1,⟨by omega,by omega⟩,by omega,d9 [some 0,some 1,some 2] rfl (by simp[hsucc,hnb]) (by simp[hsucc,hnb])⟩
  ·skip
   try simp at hc1
   have hi0:0<i:=by omega
   have hi3:i+1<(p.line r).length:=by omega
   have qi:IntKind.i64.wrap ((i:Int)-1)=((i-1:Nat):Int):=by rw[c4 (by omega) (by omega)];omega
   have g0:=y3 (l:=p.line r) (k:=i-1) (by omega);have g1:=y3 (l:=p.line r) (k:=i) (by omega);have g2:=y3 (l:=p.line r) (k:=i+1) (by omega);have sa:=ro.spot (i-1) (by omega);have sb:=ro.spot i (by omega);have sc:=ro.spot (i+1) (by omega);have d1:=z6 sa sb;have d2:=z6 sb sc;have mm:∀{x y:Int},(-20000000≤x∧x≤20000000)→(-20000000≤y∧y≤20000000)→IntKind.i64.wrap (x*y)=x*y:=by
    intro x y hx hy;have:=x7 (a:=x) (b:=y) (A:=20000000) (B:=20000000) hx.1 hx.2 hy.1 hy.2;exact c4 (by omega) (by omega)
   have u1:IntKind.i64.wrap ((nth (p.line r) i).X-(nth (p.line r) (i-1)).X)=(nth (p.line r) i).X-(nth (p.line r) (i-1)).X:=c4 (by omega) (by omega);have u2:IntKind.i64.wrap ((nth (p.line r) i).Y-(nth (p.line r) (i-1)).Y)=(nth (p.line r) i).Y-(nth (p.line r) (i-1)).Y:=c4 (by omega) (by omega);have u3:IntKind.i64.wrap ((nth (p.line r) (i+1)).X-(nth (p.line r) i).X)=(nth (p.line r) (i+1)).X-(nth (p.line r) i).X:=c4 (by omega) (by omega);have u4:IntKind.i64.wrap ((nth (p.line r) (i+1)).Y-(nth (p.line r) i).Y)=(nth (p.line r) (i+1)).Y-(nth (p.line r) i).Y:=c4 (by omega) (by omega);have m1:=mm d1.1 d2.2;have m2:=mm d1.2 d2.1;have m3:=mm d1.1 d2.1;have m4:=mm d1.2 d2.2;have bd:=a0E sa sb sb sc;have ws:IntKind.i64.wrap (((nth (p.line r) i).X-(nth (p.line r) (i-1)).X)*((nth (p.line r) (i+1)).X-(nth (p.line r) i).X)+((nth (p.line r) i).Y-(nth (p.line r) (i-1)).Y)*((nth (p.line r) (i+1)).Y-(nth (p.line r) i).Y))=y5 (nth (p.line r) (i-1)) (nth (p.line r) i) (nth (p.line r) i) (nth (p.line r) (i+1)):=c4 (by unfold y5 at bd;omega) (by unfold y5 at bd;omega);have hst:=b5M (ro.seg (i-1) (by omega)).1 (ro.seg i (by omega)).1 hi0;have f3:P4 ((C8 (p.line r) k (i-k)).length+1) 17:=l9 (by have:=a1M (p.line r) k (i-k);omega) (by omega);refine b8 ?_;refine zQ (hK4 _ _ ?_);refine aP [3,5,6,7] ?_;refine aD ?_ fun K hK=>by simp -dsimp [qi,g0,g1,u1,u2];exact hK
   refine aD ?_ fun K hK=>by simp -dsimp [wi,g1,g2,u3,u4];refine⟨by omega,?_⟩;exact hK
   refine aW ?_ fun K hK=>by simp -dsimp [m1,m2,m3,m4,ws];exact hK
   refine a8 rfl (fun hc2=>?_) (fun hc2=>?_)
   ·have hb:I3 (p.line r) i=[nth (p.line r) i]:=by
     have:P8 (p.line r) i=false:=by
      rw[hst];simp only[Bool.not_eq_false',Bool.or_eq_true,decide_eq_true_eq];simp at hc2
      rcases hc2 with h|h
      ·left;unfold j0;omega
      ·right;exact h
     simp[I3,a7e,hi0,hi3,this]
    refine aV ?_ fun K hK=>by simp -dsimp [g1,f3];exact hK
    refine zQ (hK3 _ _ ?_);refine aP [3,5,6,7] ?_;refine aV ?_ fun K hK=>by simp -dsimp [wi];exact hK
    refine zQ ?_;exact⟨i+1,⟨by omega,by omega⟩,by omega,d9 [some 0,some 1,some 3] rfl (by simp[hsucc,hb]) (by simp[hsucc,hb,hbt])⟩
   ·have hb:I3 (p.line r) i=[]:=by
     have:P8 (p.line r) i=true:=by
      rw[hst];simp only[Bool.not_eq_true',Bool.or_eq_false_iff,decide_eq_false_iff_not];simp at hc2;refine⟨?_,?_⟩
      ·unfold j0;omega
      ·omega
     simp[I3,a7e,this]
    refine b8 ?_;refine zQ (hK3 _ _ ?_);refine aP [3,5,6,7] ?_;refine aV ?_ fun K hK=>by simp -dsimp [wi];exact hK
    refine zQ ?_;exact⟨i+1,⟨by omega,by omega⟩,by omega,d9 [some 0,some 1,some 2] rfl (by simp[hsucc,hb]) (by simp[hsucc,hb])⟩
 ·skip
  try simp at hc0
  have hi:i-k=2:=by omega
  refine d4 ?_;refine zQ (hK1 _ _ ?_);refine aP [6] ?_;refine aW ?_;exact a9 (by simp[hi,U0])
end Go.Tram
end
section
namespace Go.Tram
open Go.AM Go.Proofs
theorem b9y (p:Plan) (r:Int) (k:Nat) (x:Profile) (r':Int) (k':Nat) (y:Profile) (h0:0≤r) (h1:r<p.Rails.length) (ro:X7 p r) (hk:k<(p.rail r).Shape.length+1)
  (h0':0≤r') (h1':r'<p.Rails.length) (ro':X7 p r') (hk':k'<(p.rail r').Shape.length+1) (hx:y6 x=true) (hy:y6 y=true):
  a6 Tryz.prog 122 [p.av,sAV r k,x.av,sAV r' k',y.av] (Bo (V4 (n8 (p.line r) r k) x (n8 (p.line r') r' k') y)):=by
 have hl:=ro.len;have hl':=ro'.len;have os:=a6z ro hk;have ot:=a6z ro' hk';have hw:=b3l p r k r' k' (x.Half+y.Half) h0 h1 ro hk h0' h1' ro' hk' (by have:=H8.1 hx;have:=H8.1 hy;omega) (by have:=H8.1 hx;have:=H8.1 hy;omega);have he:=a6E p r k h0 h1 ro hk;have he':=a6E p r' k' h0' h1' ro' hk';have hb:=b0z p r k h0 h1 ro hk;have hb':=b0z p r' k' h0' h1' ro' hk';have f1:V4 (n8 (p.line r) r k) x (n8 (p.line r') r' k') y=(decide (apart (nth (p.line r) k) (nth (p.line r) (k+1)) (nth (p.line r') k') (nth (p.line r') (k'+1)) (x.Half+y.Half)≤0)||(N3 (n8 (p.line r) r k) (n8 (p.line r') r' k') (x.Half+x.Swing+y.Half)||(N3 (n8 (p.line r') r' k') (n8 (p.line r) r k) (x.Half+y.Half+y.Swing)||a4D (n8 (p.line r) r k) (n8 (p.line r') r' k') (x.Half+x.Swing+y.Half+y.Swing)))):=by
  unfold V4;rw[show y.Half+y.Swing+x.Half=x.Half+y.Half+y.Swing by omega]
  rfl
 have ea:(n8 (p.line r) r k).a=nth (p.line r) k:=rfl;have eb:(n8 (p.line r) r k).b=nth (p.line r) (k+1):=rfl;have ec:(n8 (p.line r') r' k').a=nth (p.line r') k':=rfl;have ed:(n8 (p.line r') r' k').b=nth (p.line r') (k'+1):=rfl;have el:(n8 (p.line r) r k).bends=I3 (p.line r) k++I3 (p.line r) (k+1):=rfl;have el':(n8 (p.line r') r' k').bends=I3 (p.line r') k'++I3 (p.line r') (k'+1):=rfl;rw[f1];rw[←el]at hb;rw[←el']at hb';generalize n8 (p.line r) r k=S at*
 generalize n8 (p.line r') r' k'=T at*
 rw[←ea,←eb]at he;rw[←ec,←ed]at he';rw[←ea,←eb,←ec,←ed]at hw ⊢;clear f1 ea eb ec ed el el';rw[H8]at hx hy;have sn:=os.n;have tn:=ot.n;have w1:IntKind.i64.wrap (x.Half+y.Half)=x.Half+y.Half:=c4 (by omega) (by omega);have w2:IntKind.i64.wrap (x.Half+x.Swing)=x.Half+x.Swing:=c4 (by omega) (by omega);have w3:IntKind.i64.wrap (x.Half+x.Swing+y.Half)=x.Half+x.Swing+y.Half:=c4 (by omega) (by omega);have w4:IntKind.i64.wrap (x.Half+x.Swing+y.Half+y.Swing)=x.Half+x.Swing+y.Half+y.Swing:=c4 (by omega) (by omega);have w5:IntKind.i64.wrap (x.Half+y.Half+y.Swing)=x.Half+y.Half+y.Swing:=c4 (by omega) (by omega);have hdd:=x7 (a:=x.Half+x.Swing+y.Half+y.Swing) (b:=x.Half+x.Swing+y.Half+y.Swing) (A:=7000) (B:=7000) (by omega) (by omega) (by omega) (by omega);have w6:IntKind.i64.wrap ((x.Half+x.Swing+y.Half+y.Swing)*(x.Half+x.Swing+y.Half+y.Swing))=(x.Half+x.Swing+y.Half+y.Swing)*(x.Half+x.Swing+y.Half+y.Swing):=c4 (by omega) (by omega);refine oB Tryz.func122 Tryz.ntmps122 Tryz.results122 ?_;refine aW ?_;refine a5 fun K1 hK1=>?_;refine aW ?_ fun K hK=>by simp -dsimp [w1];refine cI (hw) ?_;simp -dsimp [w1];exact hK
 refine a8 rfl (fun hc0=>?_) (fun hc0=>?_)
 ·skip
  try simp at hc0
  have hv:(decide (apart S.a S.b T.a T.b (x.Half+y.Half)≤0)||(N3 S T (x.Half+x.Swing+y.Half)||(N3 T S (x.Half+y.Half+y.Swing)||a4D S T (x.Half+x.Swing+y.Half+y.Swing))))=true:=by simp[hc0]
  refine aW ?_;exact a9 (by simp[hc0])
 ·skip
  try simp at hc0
  refine b8 ?_;refine zQ (hK1 _ _ ?_);refine aP [5,6,7,8,9] ?_;refine aW ?_ fun K hK=>by simp -dsimp;refine cI (he) ?_;simp -dsimp;exact hK
  refine aW ?_ fun K hK=>by simp -dsimp;refine cI (he') ?_;simp -dsimp;exact hK
  refine aD ?_ fun K hK=>by simp -dsimp;refine cI (hb) ?_;simp -dsimp;refine cI (hb') ?_;simp -dsimp;exact hK
  refine a5 fun K2 hK2=>?_;refine aW ?_;refine b9 ?_;refine aP [7,9,11,12,13,14,15,16,17] ?_;refine c7 [7,9,11,12,13,14,15,16] (α:=Nat) (fun i=>[(17,I i)]) (fun _=>[some (.els 2 [p.cells]),some (.els 2 [[I r,I k]]),some (.els 2 [x.cells]),some (.els 2 [[I r',I k']]),some (.els 2 [y.cells]),some (.els 2 [S.a.cells]),some (.els 2 [S.b.cells]),some (.els 2 [T.a.cells]),some (.els 2 [T.b.cells])]) (fun i=>i≤S.bends.length∧((S.bends.take i).any fun q=>decide (v9 T.a T.b q (x.Half+x.Swing+y.Half)≤0))=false∧((S.bends.take i).any fun q=>T.bends.any fun t=>decide (y5 q t q t≤(x.Half+x.Swing+y.Half+y.Swing)*(x.Half+x.Swing+y.Half+y.Swing)))=false) (fun i=>S.bends.length-i) 0 ?_ ?_ ?_
  ·simp
  ·exact c9 (by simp)
  rintro i ⟨i1,i2,i3⟩;refine zN ?_;refine a5 fun K3 hK3=>?_;refine aW ?_;refine a8 rfl (fun hc1=>?_) (fun hc1=>?_)
  ·skip
   try simp at hc1
   obtain⟨q,hq⟩:=gx (l:=S.bends) (i:=i) hc1;have wi:=zW i (by omega);have sq:=List.all_eq_true.1 os.l q (List.mem_of_getElem? hq);refine b8 ?_;refine zQ (hK3 _ _ ?_);refine aP [7,9,11,12,13,14,15,16,17] ?_;refine a5 fun K4 hK4=>?_;refine b9 ?_;refine a5 fun K5 hK5=>?_;refine aD ?_ fun K hK=>by simp -dsimp [hq,w2,w3];refine cI (L6 q T.a T.b (x.Half+x.Swing+y.Half) false sq ot.a ot.b (by omega) (by omega)) ?_;simp -dsimp [hq,w2,w3];exact hK
   refine a8 rfl (fun hc2=>?_) (fun hc2=>?_)
   ·simp[a0l]at hc2;have hv:N3 S T (x.Half+x.Swing+y.Half)=true:=List.any_eq_true.2 ⟨q,List.mem_of_getElem? hq,by simp[hc2]⟩;refine aW ?_;exact a9 (by simp[hv])
   ·simp[a0l]at hc2;refine b8 ?_;refine zQ (hK5 _ _ ?_);refine aP [7,9,11,12,13,14,15,16,17] ?_;refine aW ?_;refine b9 ?_;refine aP [7,9,11,12,13,14,15,16,17,18] ?_;refine c7 [7,9,11,12,13,14,15,16,17] (α:=Nat) (fun j=>[(18,I j)]) (fun _=>[some (.els 2 [p.cells]),some (.els 2 [[I r,I k]]),some (.els 2 [x.cells]),some (.els 2 [[I r',I k']]),some (.els 2 [y.cells]),some (.els 2 [S.a.cells]),some (.els 2 [S.b.cells]),some (.els 2 [T.a.cells]),some (.els 2 [T.b.cells])]) (fun j=>j≤T.bends.length∧((T.bends.take j).any fun t=>decide (y5 q t q t≤(x.Half+x.Swing+y.Half+y.Swing)*(x.Half+x.Swing+y.Half+y.Swing)))=false) (fun j=>T.bends.length-j) 0 ?_ ?_ ?_
    ·simp
    ·exact c9 (by simp)
    rintro j ⟨j1,j2⟩;refine zN ?_;refine a5 fun K6 hK6=>?_;refine aW ?_;refine a8 rfl (fun hc3=>?_) (fun hc3=>?_)
    ·skip
     try simp at hc3
     obtain⟨t,ht⟩:=gx (l:=T.bends) (i:=j) hc3;have wj:=zW j (by omega);have st:=List.all_eq_true.1 ot.l t (List.mem_of_getElem? ht);have d1:=z6 st sq;have u1:IntKind.i64.wrap (q.X-t.X)=q.X-t.X:=c4 (by omega) (by omega);have u2:IntKind.i64.wrap (q.Y-t.Y)=q.Y-t.Y:=c4 (by omega) (by omega);have b1:=x7 (a:=q.X-t.X) (b:=q.X-t.X) (A:=20000000) (B:=20000000) (by omega) (by omega) (by omega) (by omega);have b2:=x7 (a:=q.Y-t.Y) (b:=q.Y-t.Y) (A:=20000000) (B:=20000000) (by omega) (by omega) (by omega) (by omega);have u3:IntKind.i64.wrap ((q.X-t.X)*(q.X-t.X))=(q.X-t.X)*(q.X-t.X):=c4 (by omega) (by omega);have u4:IntKind.i64.wrap ((q.Y-t.Y)*(q.Y-t.Y))=(q.Y-t.Y)*(q.Y-t.Y):=c4 (by omega) (by omega);have u5:IntKind.i64.wrap ((q.X-t.X)*(q.X-t.X)+(q.Y-t.Y)*(q.Y-t.Y))=y5 q t q t:=by rw[b6m];exact c4 (by omega) (by omega)
     refine b8 ?_;refine zQ (hK6 _ _ ?_);refine aP [7,9,11,12,13,14,15,16,17,18] ?_;refine a5 fun K7 hK7=>?_;refine b9 ?_;refine aD ?_ fun K hK=>by simp -dsimp [hq,ht,u1,u2];exact hK
     refine aW ?_ fun K hK=>by simp -dsimp [w2,w3,w4];exact hK
     refine aW ?_ fun K hK=>by simp -dsimp [u3,u4,u5,w6];exact hK
     refine a8 rfl (fun hc4=>?_) (fun hc4=>?_)
     ·skip
      try simp at hc4
      have hv:a4D S T (x.Half+x.Swing+y.Half+y.Swing)=true:=List.any_eq_true.2 ⟨q,List.mem_of_getElem? hq,List.any_eq_true.2 ⟨t,List.mem_of_getElem? ht,by simpa using hc4⟩⟩;refine aW ?_;exact a9 (by simp[hv])
     ·skip
      try simp at hc4
      refine b8 ?_;refine zQ (hK7 _ _ ?_);refine aP [7,9,11,12,13,14,15,16,17,18] ?_;refine aV ?_ fun K hK=>by simp -dsimp [wj];exact hK
      refine zQ ?_;exact⟨j+1,⟨by omega,by rw[C4 ht,j2];simp;omega⟩,by omega,c9 (by simp)⟩
    ·skip
     try simp at hc3
     have hin:=r9 (by omega) j2;refine d4 ?_;refine zQ (hK4 _ _ ?_);refine aP [7,9,11,12,13,14,15,16,17] ?_;refine aV ?_ fun K hK=>by simp -dsimp [wi];exact hK
     refine zQ ?_;exact⟨i+1,⟨by omega,by rw[C4 hq,i2];simp[hc2],by rw[C4 hq,i3,hin];rfl⟩,by omega,c9 (by simp)⟩
  ·skip
   try simp at hc1
   have v1:N3 S T (x.Half+x.Swing+y.Half)=false:=r9 (by omega) i2;have v2:a4D S T (x.Half+x.Swing+y.Half+y.Swing)=false:=r9 (by omega) i3;refine d4 ?_;refine zQ (hK2 _ _ ?_);refine aP [7,9,11,12,16] ?_;refine a5 fun K8 hK8=>?_;refine aW ?_;refine b9 ?_;refine aP [7,9,11,12,16,22] ?_;refine c7 [7,9,11,12,16] (α:=Nat) (fun j=>[(22,I j)]) (fun _=>[some (.els 2 [p.cells]),some (.els 2 [[I r,I k]]),some (.els 2 [x.cells]),some (.els 2 [[I r',I k']]),some (.els 2 [y.cells]),some (.els 2 [S.a.cells]),some (.els 2 [S.b.cells]),some (.els 2 [T.a.cells]),some (.els 2 [T.b.cells])]) (fun j=>j≤T.bends.length∧((T.bends.take j).any fun t=>decide (v9 S.a S.b t (x.Half+y.Half+y.Swing)≤0))=false) (fun j=>T.bends.length-j) 0 ?_ ?_ ?_
   ·simp
   ·exact c9 (by simp)
   rintro j ⟨j1,j2⟩;refine zN ?_;refine a5 fun K9 hK9=>?_;refine aW ?_;refine a8 rfl (fun hc5=>?_) (fun hc5=>?_)
   ·skip
    try simp at hc5
    obtain⟨t,ht⟩:=gx (l:=T.bends) (i:=j) hc5;have wj:=zW j (by omega);have st:=List.all_eq_true.1 ot.l t (List.mem_of_getElem? ht);refine b8 ?_;refine zQ (hK9 _ _ ?_);refine aP [7,9,11,12,16,22] ?_;refine a5 fun K10 hK10=>?_;refine b9 ?_;refine aD ?_ fun K hK=>by simp -dsimp [ht,w1,w5];refine cI (L6 t S.a S.b (x.Half+y.Half+y.Swing) false st os.a os.b (by omega) (by omega)) ?_;simp -dsimp [ht,w1,w5];exact hK
    refine a8 rfl (fun hc6=>?_) (fun hc6=>?_)
    ·simp[a0l]at hc6;have hv:N3 T S (x.Half+y.Half+y.Swing)=true:=List.any_eq_true.2 ⟨t,List.mem_of_getElem? ht,by simp[hc6]⟩;refine aW ?_;exact a9 (by simp[hv])
    ·simp[a0l]at hc6;refine b8 ?_;refine zQ (hK10 _ _ ?_);refine aP [7,9,11,12,16,22] ?_;refine aV ?_ fun K hK=>by simp -dsimp [wj];exact hK
     refine zQ ?_;exact⟨j+1,⟨by omega,by rw[C4 ht,j2];simp[hc6]⟩,by omega,c9 (by simp)⟩
   ·skip
    try simp at hc5
    have v3:N3 T S (x.Half+y.Half+y.Swing)=false:=r9 (by omega) j2;refine d4 ?_;refine zQ (hK8 _ _ ?_);refine aP [] ?_;refine aW ?_;exact a9 (by simp[v1,v2,v3,hc0])
end Go.Tram
end
section
namespace Go.Tram
open Go.AM Go.Proofs
theorem c2d (l:List Y7):(l.map Y7.cells).all (fun e=>e.all S2)=true:=by simp[S2]
@[simp high] theorem c1d (l:List Y7) (g:List (Option Nat)) (n:Nat):(l.map Y7.cells).map (fun e=>e.map (o4 g n))=l.map Y7.cells:=x6 (fun x h=>N0 h g n) (c2d l)
@[simp] theorem c4T (l:List Y7):List.take l.length (l.map Y7.cells)=l.map Y7.cells:=List.take_of_length_le (by simp)
def a0Z (p:Plan) (l:List Move) (i:Nat):List Y7:=if a0B p (V0 l i)then [V7 p (V0 l i) (V0 l (i+1))]else []
def a0Y (p:Plan) (l:List Move) (n:Nat):List Y7:=(List.range n).flatMap (a0Z p l)
@[simp] theorem c1p (p:Plan) (l:List Move):a0Y p l 0=[]:=rfl
theorem a4g (p:Plan) (l:List Move) (n:Nat):a0Y p l (n+1)=a0Y p l n++a0Z p l n:=by
 simp only[a0Y,List.range_succ,List.flatMap_append,List.flatMap_cons,List.flatMap_nil,List.append_nil]
theorem b0b (p:Plan) (l:List Move) (n:Nat):(a0Y p l n).length≤n:=by
 induction n with
 |zero=>simp
 |succ n ih=>
  rw[a4g,List.length_append];have:(a0Z p l n).length≤1:=by unfold a0Z;split<;>simp
  omega
theorem b7E {p:Plan} {l:List Move} (h:wayB p l=true) {i:Nat} (hi:i+1<l.length):H4 p (V0 l i) (V0 l (i+1))=true:=by
 have:=a1I (Bool.and_eq_true_iff.1 h).1 hi;unfold a2q at this;have h2:=(Bool.and_eq_true_iff.1 this).2;simp at h2;exact h2
end Go.Tram
end
section
namespace Go.Tram
open Go.AM Go.Proofs
def b0t (q:SS×SS):List AV:=[q.1.av,q.2.av]
theorem b2s (p:Plan) (a b:Int):∀z∈(a2m p a b).map b0t,z.length=2:=by
 intro z hz;obtain⟨q,_,rfl⟩:=List.mem_map.1 hz
 rfl
theorem c3e (p:Plan) (a b:Int):a6 Tryz.prog 161 [.iptr (a2S p),I a,I b] (.clo 185 [.iptr [.iptr (a2S p)], .iptr [I a], .iptr [I b]]):=by
 generalize a2S p=sh;refine oB Tryz.func161 Tryz.ntmps161 Tryz.results161 ?_;refine aW ?_;refine aW ?_;exact a9 (by simp)
theorem c1H (p : Plan) (a b : Int) (ha : inr a 0 (p.Rails.length-1)=true) (hb:inr b 0 (p.Rails.length-1)=true) (hla:(p.strips a).length≤1000000) (hlb:(p.strips b).length≤1000000):
    a0g Tryz.prog 185 [.iptr [.iptr (a2S p)], .iptr [I a], .iptr [I b]] ((a2m p a b).map b0t):=by
  have ia:=g8.1 ha
  have ib:=g8.1 hb
  have ga:=a2w (p:=p) (r:=a) (by omega) (by omega)
  have gb:=a2w (p:=p) (r:=b) (by omega) (by omega)
  have hpl:=b5b p a b
  unfold a2S
  refine N4.of_body Tryz.func185 rfl (by decide) (by simp[Tryz.ntmps185]) (by simp[Tryz.ntmps185]) (by simp[Tryz.results185]) ?_
  intro J l hmk hY
  simp only[Tryz.ntmps185,Tryz.results185]
  refine gD ?_ fun K hK=>by simp -dsimp [ga,ia.1];exact hK
  refine c8 ?_
  refine v6 [0,1,3,15,16,17,999999] (Or.inl (by decide)) ?_
  refine zN ?_
  refine i6 [0,1,3,15,16] (α:=Nat) (fun k=>[(17,I k),(999999,W9 (k*(p.strips b).length))]) (fun k=>[]) (fun k=>k≤(p.strips a).length) (fun k=>(p.strips a).length-k) 0 ?_ ?_ ?_
  · simp
  · exact M9 (c9 (by simp)) (by simp)
  rintro k k1
  refine zN ?_
  refine gW ?_
  refine a7 fun K1 hK1=>?_
  refine c3 rfl (fun hc0=>?_) (fun hc0=>?_)
  · skip
    try simp at hc0
    obtain⟨s,hs⟩:∃s,(p.strips a)[k]?=some s:=⟨_,List.getElem?_eq_getElem (by simpa using hc0)⟩
    have wk:=zW k (by omega)
    refine c5 ?_
    refine zQ (hK1 _ _ ?_)
    refine v6 [0,1,3,15,16,17,999999] (Or.inl (by decide)) ?_
    refine zN ?_
    refine a7 fun K2 hK2=>?_
    refine c8 ?_
    refine gW ?_ fun K hK=>by simp -dsimp [hs];exact hK
    refine gD ?_ fun K hK=>by simp -dsimp [gb,ib.1];exact hK
    refine c8 ?_
    refine v6 [0,1,3,6,15,16,17,27,28,29,999999] (Or.inl (by decide)) ?_
    refine zN ?_
    refine i6 [0,1,3,6,15,16,17,27,28] (α:=Nat) (fun j=>[(29,I j),(999999,W9 (k*(p.strips b).length+j))]) (fun j=>[some (.els 9 [s.cells])]) (fun j=>j≤(p.strips b).length) (fun j=>(p.strips b).length-j) 0 ?_ ?_ ?_
    · simp
    · exact M9 (c9 (by simp)) (by simp)
    rintro j j1
    refine zN ?_
    refine gW ?_
    refine a7 fun K3 hK3=>?_
    refine c3 rfl (fun hc1=>?_) (fun hc1=>?_)
    · skip
      try simp at hc1
      obtain⟨t,ht⟩:∃t,(p.strips b)[j]?=some t:=⟨_,List.getElem?_eq_getElem (by simpa using hc1)⟩
      have wj:=zW j (by omega)
      refine c5 ?_
      refine zQ (hK3 _ _ ?_)
      refine v6 [0,1,3,6,15,16,17,27,28,29,999999] (Or.inl (by decide)) ?_
      refine zN ?_
      refine a7 fun K4 hK4=>?_
      refine c8 ?_
      refine gW ?_ fun K hK=>by simp -dsimp [ht];exact hK
      refine b7J hmk hY rfl (by decide) rfl rfl fun K hK=>?_
      simp -dsimp
      refine b0m (by rw[List.getElem?_map,b7b hs ht];rfl) ?_ ?_
      · apply hK;clear hK K
        refine c3 rfl (fun hc2=>?_) (fun hc2=>?_)
        · skip
          skip
          simp at hc2
        · skip
          skip
          refine c5 ?_
          refine zQ (hK4 _ _ ?_)
          refine v6 [0,1,3,6,15,16,17,27,28,29,999999] (Or.inl (by decide)) ?_
          refine zN ?_
          refine gV ?_ fun K hK=>by simp -dsimp [wj];exact hK
          refine zQ ?_
          exact⟨j+1,by omega,by omega,M9 (d9 [some 0] rfl (by simp[Nat.add_assoc]) (by simp)) (by simp[Nat.add_assoc])⟩
      · apply hK;clear hK K
        refine c3 rfl (fun hc2=>?_) (fun hc2=>?_)
        · skip
          skip
          exact g7 (by simp)
        · skip
          skip
          simp at hc2
    · skip
      try simp at hc1
      have hje : j = (p.strips b).length := by have:¬j<(p.strips b).length:=by simpa using hc1
                                               omega
      refine p7 ?_
      refine zQ (hK2 _ _ ?_)
      refine v6 [0,1,3,15,16,17,999999] (Or.inl (by decide)) ?_
      refine zN ?_
      refine gV ?_ fun K hK=>by simp -dsimp [wk];exact hK
      refine zQ ?_
      exact⟨k+1,by omega,by omega,M9 (d9 [] rfl (by simp[hje,Nat.succ_mul]) (by simp)) (by simp[hje,Nat.succ_mul])⟩
  · skip
    try simp at hc0
    have hke : k = (p.strips a).length := by have:¬k<(p.strips a).length:=by simpa using hc0
                                             omega
    refine p7 ?_
    try simp only[zT,reduceIte,Nat.reduceEqDiff]
    simp[hpl,hke]
end Go.Tram
end
section
namespace Go.Tram
open Go.AM Go.Proofs
theorem a9I {p:Plan} {r:Int} (hr:inr r 0 (p.Rails.length-1)=true):p.Rails[r.toNat]?=some (p.rail r):=by
 have:=g8.1 hr;exact Plan.rail_get (by omega) (by omega)
theorem c1n (p:Plan) (a b:Int) (ha:inr a 0 (p.Rails.length-1)=true) (hb:inr b 0 (p.Rails.length-1)=true):a6 Tryz.prog 160 [.iptr (a2S p),I a,I b] (Bo (b2Z p a b)):=by
 have ia:=g8.1 ha;have ib:=g8.1 hb;have ga:=a9I ha;have gb:=a9I hb;unfold a2S;refine oB Tryz.func160 Tryz.ntmps160 Tryz.results160 ?_;refine aW ?_;refine aD ?_ fun K hK=>by simp -dsimp [ga,gb,ia.1,ib.1];exact hK
 refine aW ?_;refine a9 ?_;simp[b2Z];exact Bool.eq_iff_iff.2 (by simp;try omega)
theorem c0w (p:Plan) (a:Int) (x:Profile) (b:Int) (y:Profile) (hv:d7 p=true) (ha:inr a 0 (p.Rails.length-1)=true) (hb:inr b 0 (p.Rails.length-1)=true) (hx:y6 x=true) (hy:y6 y=true):
  a6 Tryz.prog 119 [.iptr (a2S p),I a,x.av,I b,y.av] (Bo (U8 p a x b y)):=by
 have ia:=g8.1 ha;have ib:=g8.1 hb;have ra:=N5 hv (r:=a) (by omega) (by omega);have rb:=N5 hv (r:=b) (by omega) (by omega);have sa:=ra.s;have sb:=rb.s;have la:=a5w p a;have lb:=a5w p b;have hm:=c1n p a b ha hb;have hall:=c3e p a b;have hit:=c1H p a b ha hb (by omega) (by omega);generalize hsh:a2S p=sh at hm hall hit;refine a6.of_bodyG Tryz.func119 rfl (by decide) (by simp[Tryz.ntmps119]) ?_;intro J hJ;simp only[Tryz.ntmps119,Tryz.results119];refine gW ?_;refine a7 fun K1 hK1=>?_;refine gW ?_ fun K hK=>by simp -dsimp;refine cI (hm) ?_;simp -dsimp;exact hK
 refine c3 rfl (fun hc0=>?_) (fun hc0=>?_)
 ·skip
  try simp at hc0
  refine gW ?_;exact g7 (by simp[a4V hv ha hb hx hy hc0])
 ·skip
  try simp at hc0
  refine c5 ?_;refine zQ (hK1 _ _ ?_);refine gP [0,1,3,7,9,10] ?_;refine a7 fun K2 hK2=>?_;refine gW ?_ fun K hK=>by simp -dsimp;refine cI (hall) ?_;simp -dsimp;exact hK
  refine c8 ?_;refine gP [7,9,10,20] ?_;refine a3s hJ [7,9,10,20] (fun _=>[some (.els 2 [x.cells]),some (.els 2 [y.cells]),some (.els 1 [[Bo false]])]) (fun n=>((a2m p a b).take n).any (fun q=>V4 q.1 x q.2 y)=false) rfl (hit) rfl (by simp) (by decide) (by decide) (by decide) (b2s p a b) ?_ ?_ ?_ ?_
  ·trivial
  ·exact c9 (by simp)
  ·intro n xv hxn hi l1 J1 hJ1;obtain⟨q,hq,rfl⟩:∃q,(a2m p a b)[n]?=some q∧b0t q=xv:=by simpa using hxn
   have hmq:=b3S (List.mem_of_getElem? hq);have os:=R0 ra hmq.1;have ot:=R0 rb hmq.2;have hcf:=c1C q.1 q.2 x y os ot hx hy;obtain⟨s,t⟩:=q;simp only[b0t]at hcf ⊢;simp only[List.zip_cons_cons,List.zip_nil_left,List.zip_nil_right,List.cons_append,List.nil_append];refine gW ?_;refine gV ?_;simp only[b1S];intro J2 hJ2;refine gP [7,9,10,11,12,20] ?_;refine c8 ?_;refine gW ?_ fun K hK=>by simp -dsimp;refine cI (hcf) ?_;simp -dsimp;exact hK
   refine c3 rfl (fun hc1=>?_) (fun hc1=>?_)
   ·skip
    try simp at hc1
    have hany:(a2m p a b).any (fun q=>V4 q.1 x q.2 y)=true:=List.any_eq_true.2 ⟨(s,t),List.mem_of_getElem? hq,hc1⟩;refine gW ?_;exact g7 ⟨[some (.els 2 [x.cells]),some (.els 2 [y.cells]),some (.els 1 [[Bo true]])],aB [some 0,some 1,some 2],by simp[U8,hany]⟩
   ·skip
    try simp at hc1
    refine c5 ?_;simp only[Y4,G3,a5c,reduceIte,Nat.reduceEqDiff,eq_self];refine⟨?_,aB [some 0,some 1,some 2]⟩;rw[List.take_add_one,List.any_append,hi,hq];simp[hc1]
  ·intro hdone;refine zQ (hK2 _ _ ?_);refine gP [10] ?_;refine gW ?_;refine g7 ?_;rw[List.take_of_length_le (by simp)]at hdone;simp[U8,hdone]
end Go.Tram
end
section
namespace Go.Tram
open Go.AM Go.Proofs
theorem b3W (l:List O1):(l.map O1.cells).all (fun e=>e.all S2)=true:=by simp[S2]
@[simp high] theorem c0D (l:List O1) (g:List (Option Nat)) (n:Nat):(l.map O1.cells).map (fun e=>e.map (o4 g n))=l.map O1.cells:=x6 (fun x h=>N0 h g n) (b3W l)
@[simp high] theorem b7W (l:List O1) (H:Hp) (n:Nat):(l.map O1.cells).map (fun e=>e.map (I6 H n))=l.map O1.cells:=x6 (fun x h=>Q4 h H n) (b3W l)
theorem a6s (l:List O1):(l.map O1.cells).take l.length=l.map O1.cells:=List.take_of_length_le (by simp)
def E2 (l:List Profile):Bool:=decide (1≤l.length)&&(decide (l.length≤6)&&l.all y6)
theorem b3L (p:Plan) (l:List Profile) (hv:d7 p=true) (h:E2 l=false) (hn:l.length≤100000):a6 Tryz.prog 68 [p.av, .lst 2 (l.map Profile.cells)] (.tup [.v (.slice none 0 0),I 2]):=by
 refine oB Tryz.func68 Tryz.ntmps68 Tryz.results68 ?_;refine aW ?_;refine aW ?_ fun K hK=>by simp -dsimp;refine cI (b4Z p hv) ?_;simp -dsimp;exact hK
 refine a5 fun K1 hK1=>?_;refine aW ?_ fun K hK=>by simp -dsimp;refine cY (fun hm=>a4P l hn) ?_;simp -dsimp;exact hK
 refine a8 rfl (fun hc0=>?_) (fun hc0=>?_)
 ·refine aW ?_;exact a9 (by simp)
 ·exfalso;have hb:E2 l=true:=by simp at hc0;simp[E2];exact⟨by omega,by omega,hc0.2⟩
  rw[h]at hb;cases hb
theorem a5f (p:Plan) (l:List Profile) (hv:d7 p=true) (h:E2 l=true) (hN:p.Rails.length≤20):a6 Tryz.prog 68 [p.av, .lst 2 (l.map Profile.cells)] (.tup [.lst 4 ((D2 p l).map O1.cells),I 0]):=by
 have hl:1≤l.length∧l.length≤6∧∀x∈l,y6 x=true:=by simpa [E2]using h
 obtain⟨hl1,hl6,hpr⟩:=hl;have hpa:l.all y6=true:=by simpa using hpr
 have hcp:=a4P l (by omega);rw[hpa]at hcp;have hb:=b4Z p hv;have hcf:=fun a x b y=>c0w p a x b y hv;generalize a2S p=sh at hb hcf;refine oB Tryz.func68 Tryz.ntmps68 Tryz.results68 ?_;refine aW ?_;refine aW ?_ fun K hK=>by simp -dsimp;refine cI (hb) ?_;simp -dsimp;exact hK
 refine a5 fun K1 hK1=>?_;refine aW ?_ fun K hK=>by simp -dsimp;refine cY (fun hm=>hcp) ?_;simp -dsimp;exact hK
 refine a8 rfl (fun hc0=>?_) (fun hc0=>?_)
 ·simp at hc0;omega
 ·refine b8 ?_;refine zQ (hK1 _ _ ?_);refine aP [1,2,6] ?_;refine aW ?_;refine a5 fun K2 hK2=>?_;refine aW ?_;refine b9 ?_;refine aP [1,2,6,8,39,40] ?_;refine c7 [1,2,6,39] (α:=Nat) (fun a=>[(40,I a),(8, .row 1 0 (fA p l a).length)]) (fun a=>[some (.els 2 [p.cells]),some (.els 4 ((fA p l a).map O1.cells))]) (fun a=>a≤p.Rails.length) (fun a=>p.Rails.length-a) 0 ?_ ?_ ?_
  ·simp
  ·exact(W5 8 4 (by simp)).trans (d9 [some 0,some 1] rfl (by simp[fA]) (by simp[fA]))
  rintro a a1;refine zN ?_;refine aW ?_;refine a5 fun K3 hK3=>?_;refine a8 rfl (fun hc1=>?_) (fun hc1=>?_)
  ·skip
   try simp at hc1
   have wa:=zW a (by omega);refine b8 ?_;refine zQ (hK3 _ _ ?_);refine aP [1,2,6,8,39,40] ?_;refine a5 fun K4 hK4=>?_;refine b9 ?_;refine aW ?_;refine aW ?_;refine b9 ?_;refine aP [1,2,6,8,9,39,40,43,44,45] ?_;refine c7 [1,2,6,9,39,40,43,44] (α:=Nat) (fun i=>[(45,I i),(8, .row 1 0 (fA p l a++fI p l a i).length)]) (fun i=>[some (.els 2 [p.cells]),some (.els 4 ((fA p l a++fI p l a i).map O1.cells))]) (fun i=>i≤l.length) (fun i=>l.length-i) 0 ?_ ?_ ?_
   ·simp
   ·exact d9 [some 0,some 1] rfl (by simp[fI]) (by simp[fI])
   rintro i i1;refine zN ?_;refine aW ?_;refine a5 fun K5 hK5=>?_;refine a8 rfl (fun hc2=>?_) (fun hc2=>?_)
   ·skip
    try simp at hc2
    have wi:=zW i (by omega);obtain⟨x,hx⟩:=gx (l:=l) (i:=i) hc2;have px:=hpr x (List.mem_of_getElem? hx);refine b8 ?_;refine zQ (hK5 _ _ ?_);refine aP [1,2,6,8,9,39,40,43,44,45] ?_;refine a5 fun K6 hK6=>?_;refine b9 ?_;refine aW ?_ fun K hK=>by simp -dsimp [hx];exact hK
    refine aW ?_;refine b9 ?_;refine aP [1,2,6,8,9,10,11,12,39,40,43,44,45] ?_;refine c7 [1,2,6,9,10,11,39,40,43,44,45] (α:=Nat) (fun d=>[(12,I ((a:Int)+d)),(8, .row 1 0 (fA p l a++fI p l a i++fB p l a i d).length)]) (fun d=>[some (.els 2 [p.cells]),some (.els 4 ((fA p l a++fI p l a i++fB p l a i d).map O1.cells)),some (.els 2 [x.cells])]) (fun d=>d≤p.Rails.length-a) (fun d=>p.Rails.length-a-d) 0 ?_ ?_ ?_
    ·simp
    ·exact d9 [some 0,some 1,some 2] rfl (by simp[fB]) (by simp[fB])
    rintro d d1;refine zN ?_;refine a5 fun K7 hK7=>?_;refine aW ?_;refine a8 rfl (fun hc3=>?_) (fun hc3=>?_)
    ·skip
     try simp at hc3
     have wd:IntKind.i64.wrap ((a:Int)+d+1)=(a:Int)+d+1:=c4 (by omega) (by omega);refine b8 ?_;refine zQ (hK7 _ _ ?_);refine aP [1,2,6,8,9,10,11,12,39,40,43,44,45] ?_;refine a5 fun K8 hK8=>?_;refine b9 ?_;refine aW ?_;refine b9 ?_;refine aP [1,2,6,8,9,10,11,12,39,40,43,44,45,58,59,60] ?_;refine c7 [1,2,6,9,10,11,12,39,40,43,44,45,58,59] (α:=Nat) (fun k=>[(60,I k),(8, .row 1 0 (fA p l a++fI p l a i++fB p l a i d++fK p l a i (a+d) k).length)]) (fun k=>[some (.els 2 [p.cells]),some (.els 4 ((fA p l a++fI p l a i++fB p l a i d++fK p l a i (a+d) k).map O1.cells)),some (.els 2 [x.cells])]) (fun k=>k≤l.length) (fun k=>l.length-k) 0 ?_ ?_ ?_
     ·simp
     ·exact d9 [some 0,some 1,some 2] rfl (by simp[fK]) (by simp[fK])
     rintro k k1;have hbd:=b0D p l (N:=20) (a:=a) (i:=i) (d:=d) (k:=k) hN (by omega) hc1 i1 (by omega) k1;have hsK:=b3u p l a i (a+d) k;have hsB:=b3D p l a i d;have hsI:=a3Y p l a i;generalize hout:fA p l a++fI p l a i++fB p l a i d++fK p l a i (a+d) k=out at hbd ⊢;have f1:P4 (out.length+1) 33:=l9 (by omega) (by omega);have hot:=a6s out;refine zN ?_;refine aW ?_;refine a5 fun K9 hK9=>?_;refine a8 rfl (fun hc4=>?_) (fun hc4=>?_)
     ·skip
      try simp at hc4
      have wk:=zW k (by omega);obtain⟨y,hy⟩:=gx (l:=l) (i:=k) hc4;have py:=hpr y (List.mem_of_getElem? hy);have hF:a9K p l a i (a+d) k=((decide ((a:Int)<a+d)||decide (i≤k))&&U8 p a x ((a:Int)+d) y):=by unfold a9K;rw[b0G hx,b0G hy,Int.natCast_add,show decide (a<a+d)=decide ((a:Int)<a+d)from decide_eq_decide.2 (by omega)]
      refine b8 ?_;refine zQ (hK9 _ _ ?_);refine aP [1,2,6,8,9,10,11,12,39,40,43,44,45,58,59,60] ?_;refine a5 fun K10 hK10=>?_;refine b9 ?_;refine aW ?_ fun K hK=>by simp -dsimp [hy];exact hK
      refine aW ?_ fun K hK=>by simp -dsimp;refine cY (fun hm=>hcf a x ((a:Int)+d) y (g8.2 (by omega)) (g8.2 (by omega)) px py) ?_;simp -dsimp;exact hK
      refine a8 rfl (fun hc5=>?_) (fun hc5=>?_)
      ·have hh:a9K p l a i (a+d) k=true:=hF.trans hc5;refine aV ?_ fun K hK=>by simp -dsimp [f1];exact hK
       refine zQ (hK10 _ _ ?_);refine aP [1,2,6,8,9,10,11,12,39,40,43,44,45,58,59,60] ?_;refine aV ?_ fun K hK=>by simp -dsimp [wk];exact hK
       refine zQ ?_;exact⟨k+1,by omega,by omega,d9 [some 0,some 4,some 2] rfl (by simp[hsK,hh,←hout];omega) (by simp[hsK,hh,←List.append_assoc,hout,hot])⟩
      ·have hh:a9K p l a i (a+d) k=false:=hF.trans hc5;refine b8 ?_;refine zQ (hK10 _ _ ?_);refine aP [1,2,6,8,9,10,11,12,39,40,43,44,45,58,59,60] ?_;refine aV ?_ fun K hK=>by simp -dsimp [wk];exact hK
       refine zQ ?_;exact⟨k+1,by omega,by omega,d9 [some 0,some 1,some 2] rfl (by simp only[hsK,hh,Bool.false_eq_true,if_false,List.append_nil,hout];simp) (by simp only[hsK,hh,Bool.false_eq_true,if_false,List.append_nil,hout];simp[hot])⟩
     ·skip
      try simp at hc4
      have hke:k=l.length:=by omega
      subst hke;refine d4 ?_;refine zQ (hK8 _ _ ?_);refine aP [1,2,6,8,9,10,11,12,39,40,43,44,45] ?_;refine aV ?_ fun K hK=>by simp -dsimp [wd];exact hK
      refine zQ ?_;exact⟨d+1,by omega,by omega,d9 [some 0,some 1,some 2] rfl (by simp[hsB,←hout,Int.add_assoc]) (by simp[hsB,←hout])⟩
    ·skip
     try simp at hc3
     have hde:d=p.Rails.length-a:=by omega
     subst hde;refine d4 ?_;refine zQ (hK6 _ _ ?_);refine aP [1,2,6,8,9,39,40,43,44,45] ?_;refine aV ?_ fun K hK=>by simp -dsimp [wi];exact hK
     refine zQ ?_;exact⟨i+1,by omega,by omega,d9 [some 0,some 1] rfl (by simp[a3Y]) (by simp[a3Y])⟩
   ·skip
    try simp at hc2
    have hie:i=l.length:=by omega
    subst hie;refine d4 ?_;refine zQ (hK4 _ _ ?_);refine aP [1,2,6,8,39,40] ?_;refine aV ?_ fun K hK=>by simp -dsimp [wa];exact hK
    refine zQ ?_;exact⟨a+1,by omega,by omega,d9 [some 0,some 1] rfl (by simp[a6I]) (by simp[a6I])⟩
  ·skip
   try simp at hc1
   have hae:a=p.Rails.length:=by omega
   subst hae;refine d4 ?_;refine zQ (hK2 _ _ ?_);refine aP [8] ?_;refine aW ?_;exact a9 (by simp[D2,a6s])
end Go.Tram
end
section
namespace Go.Tram.Lk
open Go.AM
structure Car where
 Name:Int
 Profile:Int
 Way:List Move
 Front:Int
 deriving DecidableEq,Inhabited
structure l5 where
 Plan:Plan
 Profiles:List Profile
 Singles:List (List Move)
 deriving Inhabited
structure b2I where
 Kind:Int
 Car:Int
 deriving DecidableEq,Inhabited
@[simp] def Car.cells (c:Car):List AV:=[I c.Name,I c.Profile,a6b c.Way,I c.Front]
abbrev Car.av (c:Car):AV:= .agg c.cells
@[simp] def p8 (l:List Move):List AV:=[a6b l]
@[simp] def l5.cells (s:l5):List AV:=[.lst 5 (s.Plan.Nodes.map Node.cells), .lst 5 (s.Plan.Rails.map Rail.cells), .lst 2 (s.Profiles.map Profile.cells), .lst 1 (s.Singles.map p8)]
abbrev l5.av (s:l5):AV:= .agg s.cells
@[simp] def b2I.cells (r:b2I):List AV:=[I r.Kind,I r.Car]
abbrev b2I.av (r:b2I):AV:= .agg r.cells
def a8s (p:Plan) (l:List (List Move)):Bool:=l.all (fun x=>inr x.length 1 100)&&(l.flatten.all (E3 p)&&decide (l.flatten.map (·.Rail)).Nodup)
def R1 (s:l5):Bool:=d7 s.Plan&&(E2 s.Profiles&&(decide (s.Singles.length≤30)&&a8s s.Plan s.Singles))
def a4w (s:l5) (r:Int):Option Nat:=s.Singles.findIdx? fun l=>l.any fun m=>decide (m.Rail=r)
def a6N (s:l5) (m:Move):Int:=match a4w s m.Rail with|some i=>i|none=>-1
def a7M (s:l5) (m:Move):Int:=match a4w s m.Rail with|some i=>if s.Singles.flatten.contains m then 1 else 2|none=>0
def V9 (s:l5) (m n:Move):Bool:=decide (0≤a6N s m)&&(decide (a6N s m=a6N s n)&&decide (a7M s m≠a7M s n))
def P3 (s:l5) (a x b y:Int):Bool:=(D2 s.Plan s.Profiles).any fun f=>decide (f=⟨a,x,b,y⟩)||decide (f=⟨b,y,a,x⟩)
def E4 (l:List Move):List Int:=l.map (·.Rail)
def b0J (s:l5) (l:List Move):Bool:=decide (1≤l.length)&&(decide (l.length≤20)&&(decide (E4 l).Nodup&&wayB s.Plan l))
def a8p (s:l5) (c:Car):Bool:=inr c.Name 1 1000000&&(inr c.Profile 0 (s.Profiles.length-1)&&(b0J s c.Way&&inr c.Front 0 (c.Way.length-1)))
def a0k (s:l5) (c:Car):List Y7:=if wayB s.Plan c.Way then a0Y s.Plan c.Way (c.Way.length-1)else []
def u9 (p:Plan):List Int:=p.Nodes.map fun n=>if n.Kind=4 then 1 else 0
def a5B (s:l5) (a b:Car):Bool:=a.Way.all fun m=>b.Way.all fun n=> !P3 s m.Rail a.Profile n.Rail b.Profile&& !V9 s m n
structure Sta where
 Cars:List Car
 Points:List Int
 deriving DecidableEq,Inhabited
def Srt (l:List Car):Prop:=(l.map (·.Name)).Pairwise (· < ·)
def Y6 (l:List Car) (n:Int):Option Car:=l.find? fun c=>decide (c.Name=n)
def B7 (c:Car):Move:=c.Way.getLast?.getD default
def I7 (s:l5) (c:Car) (m:Move):Bool:=decide (c.Way≠[])&&(H4 s.Plan (B7 c) m&&a0B s.Plan (B7 c))
def D1 (s:l5) (c:Car) (m:Move):Y7:=if I7 s c m then V7 s.Plan (B7 c) m else⟨0,0⟩
def r6 (s:l5) (c:Car) (x:Y7):Bool:=(a0k s c).any fun y=>decide (y.Node=x.Node)&&decide (y.Leg≠x.Leg)
def endB (s:l5) (c:Car) (m:Move):Bool:=decide (c.Way≠[])&& !H4 s.Plan (B7 c) m
def b3o (c:Car) (m:Move):Bool:=(E4 c.Way).contains m.Rail
def a4C (l:List Car) (c:Car) (f:Car→Move→Bool):Option Int:=(l.find? fun x=>decide (x.Name≠c.Name)&&x.Way.any (f x)).map (·.Name)
def B4 (l:List Car) (c:Car):List Car:=l.takeWhile (fun x=>decide (x.Name<c.Name))++c::l.dropWhile (fun x=>decide (x.Name≤c.Name))
def r7 (s:l5) (x:Sta) (c:Car) (m:Move):b2I:=
 if endB s c m then⟨1,0⟩
 else if b3o c m then⟨2,0⟩
 else match a4C x.Cars c (fun o n=>P3 s m.Rail c.Profile n.Rail o.Profile)with
  |some k=>⟨3,k⟩
  | none=>match (if I7 s c m then((B4 x.Cars c).find? fun o=>r6 s o (D1 s c m)).map (·.Name)else none)with
   |some k=>⟨4,k⟩
   |none=>match a4C x.Cars c (fun _ n=>V9 s m n)with
    |some k=>⟨5,k⟩
    |none=>if 20≤c.Way.length then⟨6,0⟩else⟨0,0⟩
def a2U (s:l5) (c:Car) (m:Move) (p:List Int):List Int:=if I7 s c m then p.set (D1 s c m).Node.toNat (D1 s c m).Leg else p
def o9 (c:Car) (m:Move):Car:={c with Way:=c.Way++[m]}
end Go.Tram.Lk
end
section
namespace Go.Tram.Lk
open Go.AM Go.Proofs
theorem u0 (x lo hi:Int):a6 Tryz.prog 42 [I x,I lo,I hi] (Bo (inr x lo hi)):=by
 refine oB Tryz.func42 Tryz.ntmps42 Tryz.results42 ?_;refine aW ?_;refine aW ?_;exact a9 (by simp_all [inr])
theorem r4 (k c:Int):a6 Tryz.prog 131 [Bo false,I k,I c] (.tup []):=by
 refine oB Tryz.func131 Tryz.ntmps131 Tryz.results131 ?_;refine aW ?_;refine a8 rfl (fun hc0=>?_) (fun hc0=>?_)
 ·simp at hc0
 ·refine b8 ?_
  try simp only[zT,reduceIte,Nat.reduceEqDiff]
  simp
def b1j (k c:Int):Value:= .iface 222 (.agg #[.int .i64 k, .int .i64 c])
theorem J7 (k c:Int):k9 Tryz.prog 131 [Bo true,I k,I c] [] [] (b1j k c) [] []:=by
 refine k9.of_bodyG [] Tryz.func131 rfl (by decide) (by simp[Tryz.ntmps131]) rfl rfl ?_;intro J hJ;simp only[Tryz.ntmps131,Tryz.results131];refine gW ?_;refine c3 rfl (fun hc0=>?_) (fun hc0=>?_)
 ·refine c2D (List.cons_ne_nil _ _) rfl (by decide) rfl rfl rfl rfl fun K hK=>?_;simp only[List.dropLast];simp -dsimp;refine hK _ _ _ _ _ rfl ?_;clear hK K;exact⟨rfl,[],rfl,by simp,by simp,by simp⟩
 ·simp at hc0
end Go.Tram.Lk
end
section
namespace Go.Tram.Lk
open Go.AM Go.Proofs
abbrev Kvs:=List (List KC×Value)
structure b2J (s:l5) (fo si up:Kvs):Prop where
 fo:∀a x b y:Int,(o7 fo [.i .i64 a, .i .i64 x, .i .i64 b, .i .i64 y]).getD (.bool false)= .bool (P3 s a x b y)
 si:∀r:Int,o7 si [.i .i64 r]=(a4w s r).map fun(i:Nat)=>(.int .i64 i:Value)
 up:∀m:Move,(a4w s m.Rail).isSome=true→(o7 up [.i .i64 m.Rail, .b m.Back]).getD (.bool false)= .bool (s.Singles.flatten.contains m)
def e8 (s:l5) (fo si up:Kvs) (x y:AV):List AV:=s.cells++[.mpc true [.i .i64, .i .i64, .i .i64, .i .i64] fo, .mpc false [.i .i64] si, .mpc true [.i .i64, .b] up,x,y]
theorem b8K {s:l5} {fo si up:Kvs} (h:b2J s fo si up) (x y:AV) (a b:Car) (m n:Move):a6 Tryz.prog 85 [.iptr (e8 s fo si up x y),a.av,m.av,b.av,n.av] (Bo (P3 s m.Rail a.Profile n.Rail b.Profile)):=by
 have hf:=h.fo m.Rail a.Profile n.Rail b.Profile;refine oB Tryz.func85 Tryz.ntmps85 Tryz.results85 ?_;refine aW ?_ fun K hK=>by simp -dsimp [e8];exact hK
 refine aD ?_ fun K hK=>by simp -dsimp [e8];refine d6 (Bo (P3 s m.Rail a.Profile n.Rail b.Profile)) (fun hm=>congrArg AV.v hf) ?_;simp -dsimp [e8];exact hK
 exact a9 (by simp)
theorem b4x {s:l5} {fo si up:Kvs} (h:b2J s fo si up) (x y:AV) (m:Move) (hn:a4w s m.Rail=none):a6 Tryz.prog 127 [.iptr (e8 s fo si up x y),m.av] (.tup [I (a6N s m),I (a7M s m)]):=by
 have hs:=h.si m.Rail;rw[hn]at hs;refine oB Tryz.func127 Tryz.ntmps127 Tryz.results127 ?_;refine aW ?_ fun K hK=>by simp -dsimp [e8];exact hK
 refine aD ?_ fun K hK=>by simp -dsimp [e8];refine d6 (.tup [I 0,Bo false]) (fun hm=>by simp[hs]) ?_;simp -dsimp [e8];exact hK
 refine a5 fun K1 hK1=>?_;refine b9 ?_;refine aW ?_ fun K hK=>by simp -dsimp [e8];exact hK
 refine a8 rfl (fun hc0=>?_) (fun hc0=>?_)
 ·refine aW ?_ fun K hK=>by simp -dsimp [e8];exact hK
  exact a9 (by simp[a6N,a7M,hn])
 ·simp at hc0
theorem b3O {s:l5} {fo si up:Kvs} (h:b2J s fo si up) (x y:AV) (m:Move) (i:Nat) (hn:a4w s m.Rail=some i):a6 Tryz.prog 127 [.iptr (e8 s fo si up x y),m.av] (.tup [I (a6N s m),I (a7M s m)]):=by
 have hs:=h.si m.Rail;rw[hn]at hs;have hu:=h.up m (by rw[hn];rfl);refine oB Tryz.func127 Tryz.ntmps127 Tryz.results127 ?_;refine aW ?_ fun K hK=>by simp -dsimp [e8];exact hK
 refine aD ?_ fun K hK=>by simp -dsimp [e8];refine d6 (.tup [I i,Bo true]) (fun hm=>by simp[hs]) ?_;simp -dsimp [e8];exact hK
 refine a5 fun K1 hK1=>?_;refine b9 ?_;refine aW ?_ fun K hK=>by simp -dsimp [e8];exact hK
 refine a8 rfl (fun hc0=>?_) (fun hc0=>?_)
 ·simp at hc0
 ·refine aD ?_ fun K hK=>by simp -dsimp [e8];refine d6 (Bo (s.Singles.flatten.contains m)) (fun hm=>congrArg AV.v hu) ?_;simp -dsimp [e8];exact hK
  refine a8 rfl (fun hc1=>?_) (fun hc1=>?_)
  ·refine aW ?_ fun K hK=>by simp -dsimp [e8];exact hK
   exact a9 (by simp_all [a6N,a7M])
  ·refine b8 ?_;refine zQ (hK1 _ _ ?_);refine aP [6] ?_;refine aW ?_ fun K hK=>by simp -dsimp [e8];exact hK
   exact a9 (by simp_all [a6N,a7M])
theorem b4f {s:l5} {fo si up:Kvs} (h:b2J s fo si up) (x y:AV) (m:Move):a6 Tryz.prog 127 [.iptr (e8 s fo si up x y),m.av] (.tup [I (a6N s m),I (a7M s m)]):=by
 cases hn:a4w s m.Rail with
 |none=>exact b4x h x y m hn
 |some i=>exact b3O h x y m i hn
theorem c0P {s:l5} {fo si up:Kvs} (h:b2J s fo si up) (x y:AV) (m n:Move):a6 Tryz.prog 86 [.iptr (e8 s fo si up x y),m.av,n.av] (Bo (V9 s m n)):=by
 have h1:=b4f h x y m;have h2:=b4f h x y n;refine oB Tryz.func86 Tryz.ntmps86 Tryz.results86 ?_;refine aW ?_;refine aW ?_ fun K hK=>by simp -dsimp;refine cI (h1) ?_;simp -dsimp;exact hK
 refine aW ?_ fun K hK=>by simp -dsimp;refine cI (h2) ?_;simp -dsimp;exact hK
 refine aW ?_;exact a9 (by simp[V9,Bool.beq_eq_decide_eq,bne,Bool.and_assoc])
end Go.Tram.Lk
end
section
namespace Go.Tram.Lk
open Go.AM Go.Proofs
theorem b3V (l:List Move) (f:FuncId) (cl:List (List AV)) (q:Move→Bool) (h:∀x∈l,a6 Tryz.prog f (.agg x.cells::J4 cl) (Bo (q x))) (hn:l.length≤100000):
  a6 Tryz.prog 140 [.lst 2 (l.map Move.cells), .clo f (J4 cl)] (I (U7 l q)):=by
 refine oB Tryz.func140 Tryz.ntmps140 Tryz.results140 ?_;refine aW ?_;refine a5 fun K1 hK1=>?_;refine aW ?_;refine b9 ?_;refine aP [0,1,7,8] ?_;refine c7 [0,1,7] (α:=Nat) (fun k=>[(8,I k)]) (fun _=>[]) (fun k=>k≤l.length∧(l.take k).any q=false) (fun k=>l.length-k) 0 ?_ ?_ ?_
 ·simp
 ·exact c9 (by simp)
 rintro k ⟨k1,k2⟩;refine zN ?_;refine aW ?_;refine a5 fun K2 hK2=>?_;refine a8 rfl (fun hc0=>?_) (fun hc0=>?_)
 ·skip
  try simp at hc0
  obtain⟨x,hx⟩:=gx (l:=l) (i:=k) hc0;have wk:=zW k (by omega);refine b8 ?_;refine zQ (hK2 _ _ ?_);refine aP [0,1,7,8] ?_;refine a5 fun K3 hK3=>?_;refine b9 ?_;refine aW ?_;refine aW ?_ fun K hK=>by simp -dsimp [hx];refine cI (h x (List.mem_of_getElem? hx)) ?_;simp -dsimp [hx];exact hK
  refine a8 rfl (fun hc1=>?_) (fun hc1=>?_)
  ·skip
   try simp at hc1
   refine aW ?_;exact a9 (by simp[L8 hx hc1 k2])
  ·skip
   try simp at hc1
   refine b8 ?_;refine zQ (hK3 _ _ ?_);refine aP [0,1,7,8] ?_;refine aV ?_ fun K hK=>by simp -dsimp [wk];exact hK
   refine zQ ?_;exact⟨k+1,⟨by omega,by rw[C4 hx,k2,hc1];rfl⟩,by omega,c9 (by simp)⟩
 ·skip
  try simp at hc0
  have hall:=r9 (by omega) k2;refine d4 ?_;refine zQ (hK1 _ _ ?_);refine aP [] ?_;refine aW ?_;exact a9 (by simp[D9 hall])
theorem a0h (l:List Move) (f:FuncId) (cl:List (List AV)) (q:Move→Bool) (h:∀x∈l,a6 Tryz.prog f (.agg x.cells::J4 cl) (Bo (q x))) (hn:l.length≤100000):
  a6 Tryz.prog 102 [.lst 2 (l.map Move.cells), .clo f (J4 cl)] (Bo (l.any q)):=by
 refine oB Tryz.func102 Tryz.ntmps102 Tryz.results102 ?_;refine aW ?_;refine aW ?_ fun K hK=>by simp -dsimp;refine cI (b3V l f cl q h hn) ?_;simp -dsimp;exact hK
 exact a9 (by simp[Q6])
theorem b8e (m x:Move):a6 Tryz.prog 133 [x.av, .iptr m.cells] (Bo (decide (x.Rail=m.Rail))):=by
 refine oB Tryz.func133 Tryz.ntmps133 Tryz.results133 ?_;refine aW ?_;refine aW ?_;exact a9 (by simp[Bool.beq_eq_decide_eq])
theorem b3T (c:Car) (m:Move):c.Way.any (fun x=>decide (x.Rail=m.Rail))=b3o c m:=by
 rw[Bool.eq_iff_iff,List.any_eq_true];simp only[b3o,E4,List.contains_iff_mem,List.mem_map,decide_eq_true_eq]
end Go.Tram.Lk
end
section
namespace Go.Tram.Lk
open Go.AM Go.Proofs
theorem b1q (v:Value) (w:World):CallsDIn Fence.wide 0 Tryz.prog 93 #[v] .returning w (fun e u w1=>(∃x,e= .returned x)∧u= .returning∧w1=w):=by
 refine callsDIn_of_wpSIn Tryz.func93 rfl trivial fun c₀ cs hu=>?_;apply wpSIn_seq;apply wpSIn_region;simp[wpOpsSIn,go_sem,recoverD,hu,Tryz.ntmps93,Exit.thenS];apply wpSIn_seq;apply wpSIn_region;simp[wpOpsSIn,go_sem,Exit.thenS];refine wpSIn_cond (t:=false) (by simp[Act.eval,Array.replicate]) ?_;simp only[Bool.false_eq_true,if_false];refine wpSIn_of_wpIn rfl (wpIn_skip ?_)
 cases c₀
 simp_all [bodyPostS,results,Tryz.results93]
theorem b9P {J:Jt} (hJ:JOk J) {nt:Nat} {kp:List Nat} {kv:Nat→Value} {T:Tm} {H:Hp} {a:Act} {w w':World} (hs:SG J nt kp kv T H a w) (he:Ext (fun _=>False) w w'):SG J nt kp kv T H a w':=by
 obtain⟨⟨S0,ρ,L,hc,hL,hj,Ds,h1,h2,h3⟩,hk⟩:=hs;refine⟨⟨S0,ρ,L,hc.foreign he.size (fun b hb _=>he.block b hb (fun h=>h)) (fun b hb=>⟨Nat.lt_of_lt_of_le (hc.wf.low b hb) he.size,Or.inl hb⟩),hL,
  hJ _ _ _ _ _ _ hj hc.wf.low hc.owned (he.mono (fun _ _ h=>h.elim)) (fun b hb=>⟨Nat.lt_of_lt_of_le (hc.owned b hb).1 he.size,Or.inl hb⟩),Ds,h1,h2,fun D hD=>⟨(h3 D hD).1,(h3 D hD).2.1,?_⟩⟩,hk⟩
 rw[he.block D (hc.wf.low D (h3 D hD).1) (fun h=>h)];exact(h3 D hD).2.2
def b8y (w:World):Jt:={rel:=fun _ S' O w'=>S'=(fun b=>b<w.heap.size)∧Ext (fun b=>w.heap.size≤b) w w'∧∀b,O b→w.heap.size≤b,mark:=fun _=>False,base:=[]}
theorem c0g (w:World):JOk (b8y w):=by
 rintro y S' O O' A A' ⟨rfl,h1,h2⟩ _ _ he ho;refine⟨rfl,h1.trans (he.mono fun b _ hb=>h2 b hb),fun b hb=>?_⟩
 rcases(ho b hb).2 with h|h
 ·exact h2 b h
 ·exact Nat.le_trans h1.size h
theorem b6B {w w':World} (h:Ext (fun b=>w.heap.size≤b) w w'):Ext (fun _=>False) w w':=
 ⟨h.os,h.tape,h.output,h.size,fun b hb _=>h.block b hb (by omega),h.cells⟩
theorem c2H (w:World) {ty:TypeId} {x y p:Value} (hx:x.oneCell'=true) (hy:y.oneCell'=true) {a:Act} (hsz:a.tmps.size=20) (hd:a.defers=[]) (h0:a.tmps.getD 0 undef=p) (h2:a.tmps.getD 2 undef= .iface ty (.agg #[x,y])):
  SG (b8y w) 20 [] (fun _=>undef) [(2, .ifc ty (.agg [.v x, .v y])),(0, .v p)] [] a w:=by
 have ic:∀v:Value,v.oneCell'=true→F2 v=true:=by intro v h;cases v<;>simp_all [Value.oneCell',F2]
 refine⟨⟨fun b=>b<w.heap.size,fun _=>none,fun _=>False,⟨⟨(by intro r r' l l' b h;cases h),(by intro r l b h;cases h),(by intro r l h;cases h),fun b h=>h,fun _ _=>trivial⟩,hsz,rfl,?_,(by intro r row h;cases r<;>cases h),(by intro r h;rfl)⟩,fun r h=>h.elim,⟨rfl,Ext.refl _ _,?_⟩,[],by simp[hd,b8y],List.nodup_nil,by simp⟩,by simp⟩
 ·intro t;show d8 _ _ _ _ _ (a.tmps.getD t undef);simp only[Go.AM.i7]
  split
  ·rename_i e;subst e;rw[h2];refine .ifc _ _ _ (.pure _ _ (.agg _ [x,y] rfl (by intro v hv;simp at hv;rcases hv with rfl|rfl;exact ic _ hx;exact ic _ hy) ?_));intro i c z h1 h3
   match i,h1,h3 with
   |0,h1,h3=>simp at h1 h3;subst h1 h3;exact .v _
   |1,h1,h3=>simp at h1 h3;subst h1 h3;exact .v _
   |i+2,h1,_=>simp at h1
  ·split
   ·rename_i e;subst e;rw[h0];exact .pure _ _ (.v _)
   ·exact .pure _ _ (.any _)
 ·rintro b ⟨r,l,h,_⟩;cases h
theorem b1f {J:Jt} {nt:Nat} {kp:List Nat} {kv:Nat→Value} {T T':Tm} {H:Hp} {a:Act} {w:World} (hs:SG J nt kp kv T H a w) (h:∀p∈T',Go.AM.i7 T p.1=p.2) (hy:Go.AM.i7 T' 999999=Go.AM.i7 T 999999):SG J nt kp kv T' H a w:=by
 obtain⟨⟨S0,ρ,L,hc,hL,hj,hm⟩,hk⟩:=hs;refine⟨⟨S0,ρ,L,⟨hc.wf,hc.size,hc.defers,fun t=>?_,hc.rows,hc.dead⟩,hL,by rw[hy];exact hj,hm⟩,hk⟩;have gen:∀l:Tm,(∀p∈l,Go.AM.i7 T p.1=p.2)→d8 w (Sx S0 ρ) ρ L (Go.AM.i7 l t) ((a1G a).tmps.getD t undef):=by
  intro l
  induction l with
  |nil=>intro _;exact .pure _ _ (.any _)
  |cons q l ih=>
   intro hq;obtain⟨i,x⟩:=q;simp only[Go.AM.i7];have h9:=hq (i,x) (by simp);simp only at h9
   split
   ·rename_i e;subst e;rw[←h9];exact hc.tmps _
   ·exact ih fun p hp=>hq p (by simp[hp])
 exact gen T' h
theorem b4z (k:Nat) {F:Fence} {P:Program} {ops:Array Oper} {Q:Exit→Act→World→Prop} {l:List Oper} {a:Act} {w:World} (h:wpListIn F 0 P ops Q (l.take k++l.drop k) a w):wpListIn F 0 P ops Q l a w:=by rwa [List.take_append_drop]at h
theorem a7S {J:Jt} {nt:Nat} {kp:List Nat} {kv:Nat→Value} {T:Tm} {H:Hp} {a:Act} {w:World} (t r:Nat) (row:List AV) (x y:Value) (hJ:JOk J) (hnt:nt≤999999) (hs:SG J nt kp kv T H a w) (ht:Go.AM.i7 T t=AV.ptr r 0 0) (hr:g6 H r=some (.els 2 [row])) (j9:row.length=2) (hx:x.oneCell'=true) (hy:y.oneCell'=true):
  CallsDIn Fence.wide 0 Tryz.prog 93 #[a.tmps.getD t undef] (.panicking [{v:= .iface 222 (.agg #[x,y]),recovered:=false}]) w (fun e u w1=>(∃x,e= .returned x)∧settle u= .returning∧SG J nt kp kv T (p6 H r (some (.els 2 [[.v x, .v y]]))) a w1):=by
 obtain⟨p,hp⟩:∃p,p=a.tmps.getD t undef:=⟨_,rfl⟩;rw[←hp];refine callsDIn_of_wpSIn Tryz.func93 rfl trivial fun c₀ cs hu=>?_;apply wpSIn_seq;apply wpSIn_region;simp[wpOpsSIn,go_sem,recoverD,hu,Tryz.ntmps93,Exit.thenS];apply wpSIn_seq;apply wpSIn_region;simp[wpOpsSIn,go_sem,Exit.thenS];refine wpSIn_cond (t:=true) (by simp[Act.eval,Array.replicate]) ?_;simp only[if_true];refine wpSIn_of_wpIn rfl ?_;have hJ1:=c0g w;refine wpIn_seq (wpIn_mono (Q:=fun e a' w'=>e=Exit.normal∧SG (b8y w) 20 [] (fun _=>undef) [(4,Bo true),(3, .ptr 0 0 0),(0, .v p)] [some (.els 2 [[.v x, .v y]])] a' w') ?_ ?_)
 ·refine wpIn_mono (b8V (J:=b8y w) (kp:=[]) (T:=[(2, .ifc 222 (.agg [.v x, .v y])),(0, .v p)]) (H:=[]) (Q:=fun e T' H'=>e=Exit.normal∧Go.AM.i7 T' 4=Bo true∧Go.AM.i7 T' 3= .ptr 0 0 0∧Go.AM.i7 T' 0= .v p∧Go.AM.i7 T' 999999= .any∧H'=[some (.els 2 [[.v x, .v y]])]) rfl (by decide) rfl rfl (fun K hK=>?_) hJ1 (fun _=>undef) _ w (c2H w hx hy (by simp) rfl (by simp) (by simp))) ?_
  ·simp -dsimp;refine hK _ _ ?_;exact⟨rfl,by simp,by simp,by simp,by simp,by simp⟩
  rintro e a' w' ⟨T',H',⟨rfl,h4,h3,h0,h9,rfl⟩,hs'⟩;exact⟨rfl,b1f hs' (by simp[h4,h3,h0]) (by rw[h9];rfl)⟩
 rintro e a1 w1 ⟨rfl,hs1⟩;refine wpIn_seq (wpIn_mono (Q:=fun e a' w'=>e=Exit.normal∧SG (b8y w) 20 [] (fun _=>undef) [(3, .ptr 0 0 0),(0, .v p)] [some (.els 2 [[.v x, .v y]])] a' w') ?_ ?_)
 ·refine wpIn_mono (a7 (J:=b8y w) (kp:=[]) (T:=[(4,Bo true),(3, .ptr 0 0 0),(0, .v p)]) (H:=[some (.els 2 [[.v x, .v y]])]) (Q:=fun e T' H'=>e=Exit.normal∧Go.AM.i7 T' 3= .ptr 0 0 0∧Go.AM.i7 T' 0= .v p∧Go.AM.i7 T' 999999= .any∧H'=[some (.els 2 [[.v x, .v y]])]) (fun K1 hK1=>?_) hJ1 (fun _=>undef) a1 w1 hs1) ?_
  ·refine gR fun K hK=>?_;simp -dsimp;apply hK;clear hK K;refine hK1 _ _ (c3 rfl (fun hc0=>?_) (fun hc0=>?_))
   ·simp at hc0
   ·exact c5 ⟨rfl,by simp,by simp,by simp,by simp⟩
  rintro e a' w' ⟨T',H',⟨rfl,h3,h0,h9,rfl⟩,hs'⟩;exact⟨rfl,b1f hs' (by simp[h3,h0]) (by rw[h9];rfl)⟩
 rintro e a2 w2 ⟨rfl,hs2⟩;show Code.wpIn Fence.wide 0 _ _ _ a2 w2;refine wpIn_region_lit (b4z 3 ?_);simp only[List.take,List.drop];refine z8 (ro:=none) (J:=b8y w) (kp:=[]) (kv:=fun _=>undef) hJ1 (nt:=20) (by decide) (dsts:=[some 16,some 17,some 18,some 19,none]) (K:=fun T' H'=>Go.AM.i7 T' 16= .v p∧Go.AM.i7 T' 18= .agg [.v x, .v y]) (by intro j;match j with|0=>rfl|1=>rfl|2=>rfl|3=>rfl|4=>rfl|j+5=>rfl) rfl ?_ _ (by simp[n6]) _ _ a2 w2 ?_ hs2
 ·rintro T3 H3 a3 w3 ⟨k1,k2⟩ hs3;have hlt:=T7 hr;obtain⟨⟨S3,ρ3,L3,hc3,_,⟨_,he3,_⟩,Ds,hd3,_,hD3⟩,_⟩:=hs3;have hdef:a3.defers=[]:=by
   cases Ds with
   |nil=>exact hd3
   |cons D Ds=>exact(hD3 D (by simp)).2.1.elim
  have e16:a3.tmps.getD 16 undef=p:=by have:=hc3.tmps 16;rw[k1]at this;exact i9 this
  have e18:a3.tmps.getD 18 undef= .agg #[x,y]:=by
   have:=hc3.tmps 18;rw[k2]at this;obtain⟨vs,hv,hl,hcs⟩:=z7 this
   match vs,hl with
   |[u,v],_=>
    have h1:=i9 (hcs 0 _ _ rfl rfl).2;have h2:=i9 (hcs 1 _ _ rfl rfl).2;have:(a1G a3).tmps.getD 18 undef=a3.tmps.getD 18 undef:=rfl;rw[←this,hv,h1,h2]
  have hsz:a3.tmps.size=20:=hc3.size;have hout:=b9P hJ hs (b6B he3);obtain⟨q,hq⟩:∃q,p= .pointer (some q):=by
   obtain⟨⟨S0,ρ,L,hc,_⟩,_⟩:=hs;have h1:=hc.tmps t;rw[ht]at h1;obtain⟨l,hl,_⟩:=hc.rows r _ hr;have e:(a1G a).tmps.getD t undef=p:=hp.symm;rw[e]at h1
   cases h1 with
   |pure _ _ h=>cases h
   |ptr _ _ _ _ _ _ h3=>obtain⟨b,_,h⟩:=h3 l hl;exact⟨_,h⟩
  obtain⟨w4,hrun,hs4⟩:=b7d (P:=Tryz.prog) (ty:=62) hJ hnt hout ht hr hlt j9 hx hy (by simp) (by simp);rw[←hp]at hrun;refine wpListIn_plain rfl fun K hK=>A8 (by simp[n6]) ?_;unfold Oper.wp;rw[show(execOp a3.eval _).run Tryz.prog w3= .ok (.value p) w3 by simp[execOp,Act.eval,e16,hq],Oper.upon_value];refine hK _ _ (wpListIn_plain rfl fun K hK=>A8 (by simp[n6]) ?_);unfold Oper.wp;have g19:(a3.put (some 19) p).tmps.getD 19 undef=p:=by rw[a1u a3 (some 19) p 19 (fun k e=>by cases e;rw[hsz];decide)];simp
  have g18:(a3.put (some 19) p).tmps.getD 18 undef= .agg #[x,y]:=by rw[a1u a3 (some 19) p 18 (fun k e=>by cases e;rw[hsz];decide)];simp[e18]
  rw[show(execOp (a3.put (some 19) p).eval _).run Tryz.prog w3= .ok .skip w4 by simp[execOp,Act.eval,g19,g18,hrun],Oper.upon_skip];refine hK _ _ ?_;exact⟨hdef,_,rfl, .tuple #[],by simp[results,Tryz.results93],⟨_,rfl⟩,rfl,hs4⟩
 ·simp -dsimp
theorem a3g:b2W Tryz.prog 93 222:=
 ⟨fun w vs=>by simp[callFunc,Tryz.func93];rfl,b1q,fun t r row x y h1 h2 h3 h4 h5 h6 h7 h8=>a7S t r row x y h1 h2 h3 h4 h5 h6 h7 h8⟩
end Go.Tram.Lk
end
