import Derived.Test.YtlgdbddegopphaaGreatN4
import Derived.OpenShut
import Derived.ProofKit
import Derived.WalkKit
import Derived.Test.YtlgdbddegopphaaGreatRows
set_option maxRecDepth 100000
set_option maxHeartbeats 8000000
set_option linter.unusedVariables false
set_option linter.unusedSimpArgs false
section
namespace Go.Tram
open Go.AM Go.Proofs
theorem b5s (p:Plan) (r:Rail) (hf:0≤r.From∧r.From<p.Nodes.length) (ht:0≤r.To∧r.To<p.Nodes.length) (hs:r.Shape.length≤900):
  a8 Tryz.prog 150 [p.av,r.av] (.lst 2 ((u7 p r).map Spot.cells)):=by
 have e2:p.Nodes[r.From.toNat]?=some (p.node r.From):=Plan.node_get hf.1 hf.2;have e3:p.Nodes[r.To.toNat]?=some (p.node r.To):=Plan.node_get ht.1 ht.2;have hc:=(b8u [[(p.node r.From).Spot],r.Shape,[(p.node r.To).Spot]] (by simp) (by simp;omega) (by simp)).wk (args:=[.full 1 [[.full 2 [[I (p.node r.From).Spot.X,I (p.node r.From).Spot.Y]]],[.lst 2 (r.Shape.map Spot.cells)],[.full 2 [[I (p.node r.To).Spot.X,I (p.node r.To).Spot.Y]]]]]) (by simp[AM.wk,b0f,Function.comp_def]);refine oB Tryz.func150 Tryz.ntmps150 Tryz.results150 ?_;refine aW ?_;refine aD ?_ fun K hK=>by simp -dsimp [e2,e3,hf.1,ht.1];refine cI (hc) ?_;simp -dsimp [e2,e3,hf.1,ht.1];exact hK
 exact a7 (by simp[u7])
theorem b3U (s:Spot):a8 Tryz.prog 147 [s.av] (Bo (j9 s)):=by
 refine oB Tryz.func147 Tryz.ntmps147 Tryz.results147 ?_;refine aW ?_;refine aW ?_ fun K hK=>by simp -dsimp;refine cI (D4 _ _ _) ?_;simp -dsimp;refine cY (fun hm=>D4 _ _ _) ?_;simp -dsimp;exact hK
 exact a7 (by simp[j9])
theorem c0V:a8 Tryz.prog 148 [] (.agg [I 0,I 1,I 2,I 4,I 3,I 3,I 3]):=by
 refine oB Tryz.func148 Tryz.ntmps148 Tryz.results148 ?_;refine aW ?_;refine aW ?_ fun K hK=>by simp -dsimp [Value.oneCell'];exact hK
 exact a7 (by simp)
theorem a6O (p:Plan) (e:E1) (h0:0≤e.Rail) (h1:e.Rail<p.Rails.length):a8 Tryz.prog 116 [p.av,e.av] (I (p.at e)):=by
 have e1:p.Rails[e.Rail.toNat]?=some (p.rail e.Rail):=Plan.rail_get h0 h1;refine oB Tryz.func116 Tryz.ntmps116 Tryz.results116 ?_;refine aW ?_;refine a5 fun K1 hK1=>?_;refine aW ?_;refine a6 rfl (fun hc0=>?_) (fun hc0=>?_)
 ·skip
  try simp at hc0
  refine aW ?_ fun K hK=>by simp -dsimp [e1,h0];exact hK
  exact a7 (by simp[Plan.at,hc0])
 ·skip
  try simp at hc0
  refine b8 ?_;refine zQ (hK1 _ _ ?_);refine aP [2,3] ?_;refine aW ?_ fun K hK=>by simp -dsimp [e1,h0];exact hK
  exact a7 (by simp[Plan.at,hc0])
theorem c2t (n:Nat) (h:n<2^50):∃r x:Nat,a8 Tryz.prog 202 [.v (.float .f64 (FloatKind.f64.nearest n))] (.v (.float .f64 r))∧floatToIntVal .f64 r .i64=some (x:Int)∧x≤2^30:=by
 obtain⟨r,x,h1,h2,h3⟩:=Sq.sqrt_bd h;have hs:a8 Tryz.prog 219 [.v (.float .f64 (FloatKind.f64.nearest n))] (.v (.float .f64 r)):=by
  refine a8.of_ext (us:=[.float .f64 (FloatKind.f64.nearest n)]) (e:=Extern.MathSqrt.sqrt) Tryz.func219 (by rfl) (by rfl) (by rfl) (by rfl) (fun w=>?_);have e:Extern.MathSqrt.sqrt #[.float .f64 (FloatKind.f64.nearest n)]=(match FloatKind.f64.format.sqrt (FloatKind.f64.nearest n)with
   |some r=>pure (.float .f64 r)
   |none=>do pure (.float .f64 (←choose (.nanBits .f64 (FloatKind.f64.nearest n) (FloatKind.f64.nearest n))))):=rfl
  rw[h1]at e;show(Extern.MathSqrt.sqrt #[.float .f64 (FloatKind.f64.nearest n)]).run _ w=_;rw[e]
  rfl
 refine⟨r,x,?_,h2,h3⟩;refine oB Tryz.func202 Tryz.ntmps202 Tryz.results202 ?_;refine aW ?_;refine aW ?_ fun K hK=>by simp -dsimp;refine cI (hs) ?_;simp -dsimp;exact hK
 exact a7 (by simp)
theorem a4R:(Tryz.prog).underlying 3=some (.int .i64):=by kernel_rfl
theorem b5M:(Tryz.prog).underlying 311=some (.float .f64):=by kernel_rfl
theorem b9Q (n:Int) (w:World):(convert 3 311 (.int .i64 n)).run Tryz.prog w= .ok (.float .f64 (FloatKind.f64.nearest n)) w:=by
 simp[convert,run_underlying a4R,run_underlying b5M,Conv.intToFloat]
theorem b7E {a b:Int} (h0:0≤a) (h:a≤b):a*a≤b*b:=Int.mul_le_mul h h h0 (by omega)
theorem c0s (n:Int) (h0:0≤n) (h1:n<1000000000000000):a8 Tryz.prog 180 [I n] (I (isq n)):=by
 obtain⟨m,rfl⟩:∃m:Nat,n=m:=⟨n.toNat,by omega⟩;obtain⟨r,x,hs,hx,hxb⟩:=c2t m (by omega);have hsq:=a7o h0;obtain⟨s1,s2,s3⟩:=hsq;generalize hq:isq (m:Int)=q at s1 s2 s3;have hqb:q≤40000000:=by
  rcases Int.lt_or_le 40000000 q with h|h
  ·have:=b7E (by omega) (Int.le_of_lt h);omega
  ·exact h
 refine oB Tryz.func180 Tryz.ntmps180 Tryz.results180 ?_;refine aW ?_;refine aS fun K hK=>?_;simp -dsimp;refine⟨_,b9Q m,?_⟩;simp;refine cI (hs) ?_;simp -dsimp;refine⟨_,fun w=>run_convert_float_int w _ _ .f64 .i64 r x (by rw[b5M];rfl) a4R hx,?_⟩
 try simp
 apply hK;clear hK K;refine a5 fun K1 hK1=>?_;refine a9 ?_;refine aP [0,3] ?_;refine c5 [0] (α:=Int) (fun x=>[(3,I x)]) (fun _=>[]) (fun x=>0≤x∧x≤1100000000) (fun x=>x.toNat) (x:Int) ?_ ?_ ?_
 ·omega
 ·exact c7 (by simp)
 rintro y ⟨y1,y2⟩;have b1:=y3 (a:=y) (b:=y) (A:=1100000000) (B:=1100000000) (by omega) (by omega) (by omega) (by omega);have w1:IntKind.i64.wrap (y*y)=y*y:=c4 (by omega) (by omega);have w2:IntKind.i64.wrap (y-1)=y-1:=c4 (by omega) (by omega);refine zN ?_;refine a5 fun K2 hK2=>?_;refine aW ?_ fun K hK=>by simp -dsimp [w1];exact hK
 refine a6 rfl (fun hc0=>?_) (fun hc0=>?_)
 ·skip
  try simp at hc0
  have y0:y≠0:=by rintro rfl;simp at hc0;omega
  refine b8 ?_;refine zQ (hK2 _ _ ?_);refine aP [0,3] ?_;refine a9 ?_;refine aV ?_ fun K hK=>by simp -dsimp [w2];exact hK
  refine zQ ?_;exact⟨y-1,⟨by omega,by omega⟩,by omega,c7 (by simp)⟩
 ·skip
  try simp at hc0
  have hyq:y≤q:=by
   rcases Int.lt_or_le q y with h|h
   ·have:=b7E (a:=q+1) (b:=y) (by omega) (by omega);omega
   ·exact h
  refine c9 ?_;refine zQ (hK1 _ _ ?_);refine aP [0,3] ?_;refine a5 fun K3 hK3=>?_;refine a9 ?_;refine aP [0,3] ?_;refine c5 [0] (α:=Int) (fun x=>[(3,I x)]) (fun _=>[]) (fun x=>0≤x∧x≤q) (fun x=>(q-x).toNat) y ?_ ?_ ?_
  ·omega
  ·exact c7 (by simp)
  rintro z ⟨z1,z2⟩;have b2:=y3 (a:=z+1) (b:=z+1) (A:=1100000000) (B:=1100000000) (by omega) (by omega) (by omega) (by omega);have w3:IntKind.i64.wrap (z+1)=z+1:=c4 (by omega) (by omega);have w4:IntKind.i64.wrap ((z+1)*(z+1))=(z+1)*(z+1):=c4 (by omega) (by omega);refine zN ?_;refine a5 fun K4 hK4=>?_;refine aW ?_ fun K hK=>by simp -dsimp [w3,w4];exact hK
  refine a6 rfl (fun hc1=>?_) (fun hc1=>?_)
  ·skip
   try simp at hc1
   have hzq:z+1≤q:=by
    rcases Int.lt_or_le q (z+1)with h|h
    ·have:=b7E (a:=q+1) (b:=z+1) (by omega) (by omega);omega
    ·exact h
   refine b8 ?_;refine zQ (hK4 _ _ ?_);refine aP [0,3] ?_;refine a9 ?_;refine aV ?_ fun K hK=>by simp -dsimp [w3];exact hK
   refine zQ ?_;exact⟨z+1,⟨by omega,by omega⟩,by omega,c7 (by simp)⟩
  ·skip
   try simp at hc1
   have hzq:z=q:=by
    rcases Int.lt_or_le z q with h|h
    ·have:=b7E (a:=z+1) (b:=q) (by omega) (by omega);omega
    ·omega
   refine c9 ?_;refine zQ (hK3 _ _ ?_);refine aP [3] ?_;refine aW ?_;exact a7 (by simp[hq,hzq])
end Go.Tram
end
section
namespace Go.Tram
open Go.AM Go.Proofs
theorem b9h (a b:Spot) (ha:j9 a=true) (hb:j9 b=true):a8 Tryz.prog 151 [a.av,b.av] (I (far a b)):=by
 have hs:=b5Z ha hb;have ha':=I3.1 ha;have hb':=I3.1 hb;have w1:IntKind.i64.wrap (a.X-b.X)=a.X-b.X:=c4 (by omega) (by omega);have w2:IntKind.i64.wrap (a.Y-b.Y)=a.Y-b.Y:=c4 (by omega) (by omega);have h1:=y3 (a:=a.X-b.X) (b:=a.X-b.X) (A:=20000000) (B:=20000000) (by omega) (by omega) (by omega) (by omega);have h2:=y3 (a:=a.Y-b.Y) (b:=a.Y-b.Y) (A:=20000000) (B:=20000000) (by omega) (by omega) (by omega) (by omega);have w3:IntKind.i64.wrap ((a.X-b.X)*(a.X-b.X))=(a.X-b.X)*(a.X-b.X):=c4 (by omega) (by omega);have w4:IntKind.i64.wrap ((a.Y-b.Y)*(a.Y-b.Y))=(a.Y-b.Y)*(a.Y-b.Y):=c4 (by omega) (by omega);have w5:IntKind.i64.wrap ((a.X-b.X)*(a.X-b.X)+(a.Y-b.Y)*(a.Y-b.Y))=sqd a b:=c4 (by unfold sqd at hs;omega) (by unfold sqd at hs;omega);refine oB Tryz.func151 Tryz.ntmps151 Tryz.results151 ?_;refine aW ?_ fun K hK=>by simp -dsimp [w1,w2,w3,w4,w5];exact hK
 refine aD ?_ fun K hK=>by simp -dsimp [w1,w2,w3,w4,w5];exact hK
 refine aW ?_ fun K hK=>by simp -dsimp [w1,w2,w3,w4,w5];refine cI (c0s _ hs.1 (by omega)) ?_;simp -dsimp [w1,w2,w3,w4,w5];exact hK
 exact a7 (by simp[far])
theorem b4M {k:Int} (h1:1≤k) (h6:k≤6):(List.take 1 (List.drop k.toNat [I 0,I 1,I 2,I 4,I 3,I 3,I 3])).head?.getD AV.any=I (S4 k):=by
 have:k=1∨k=2∨k=3∨k=4∨k=5∨k=6:=by omega
 rcases this with rfl|rfl|rfl|rfl|rfl|rfl<;>rfl
theorem b9M (n:Node):a8 Tryz.prog 112 [n.av] (Bo (C0 n)):=by
 refine oB Tryz.func112 Tryz.ntmps112 Tryz.results112 ?_;refine aW ?_;refine a5 fun K1 hK1=>?_;refine aD ?_ fun K hK=>by simp -dsimp;refine cY (fun hm=>b3U n.Spot) ?_;simp -dsimp;refine cY (fun hm=>c0V) ?_;simp -dsimp;refine⟨by omega,d7 (I (S4 n.Kind)) (fun hm=>by simp at hm;exact b4M (by omega) (by omega)) ?_⟩;simp;exact hK
 refine a6 rfl (fun hc0=>?_) (fun hc0=>?_)
 ·skip
  try simp at hc0
  refine aW ?_;refine a7 ?_;have:C0 n=false:=by
   cases hq:C0 n with
   |false=>rfl
   |true=>
    simp[C0]at hq;have hk:1≤n.Kind∧n.Kind≤6:=by have:=hq.2.2.1;unfold S4 at this;repeat (split at this;omega);omega
    simp[hq]at hc0;omega
  simp[this]
 ·skip
  try simp at hc0
  have he:S4 n.Kind≠0:=by have:=hc0.1.1;unfold S4;repeat (split;omega);omega
  refine b8 ?_;refine zQ (hK1 _ _ ?_);refine aP [1] ?_;refine a5 fun K2 hK2=>?_;refine aW ?_;refine a6 rfl (fun hc1=>?_) (fun hc1=>?_)
  ·skip
   try simp at hc1
   refine aW ?_ fun K hK=>by simp -dsimp;refine cI (D4 _ _ _) ?_;simp -dsimp;exact hK
   refine a7 ?_;simp[C0,hc0,hc1,he]
  ·skip
   try simp at hc1
   refine b8 ?_;refine zQ (hK2 _ _ ?_);refine aP [1] ?_;refine aW ?_;refine a7 ?_;simp[C0,hc0,hc1,he];exact Bool.eq_iff_iff.2 (by simp)
theorem a8z {p:Plan} {r:Rail} (h:R2 p r=true):(0≤r.From∧r.From<p.Nodes.length)∧(0≤r.To∧r.To<p.Nodes.length)∧r.Shape.length≤30:=by
 simp only[R2,Bool.and_eq_true,g6,decide_eq_true_eq]at h;omega
theorem a5r {p:Plan} {r:Rail} (hA:p.Nodes.all C0=true):D9 p r=(R2 p r&&((u7 p r).all j9&&(List.range (r.Shape.length+1)).all (a8X (u7 p r)))):=by
 cases h:R2 p r with
 |false=>simp[D9,h]
 |true=>
  obtain⟨h1,h2,_⟩:=a8z h;have sF:=N5 (D1 hA (i:=r.From) h1.1 h1.2);have sT:=N5 (D1 hA (i:=r.To) h2.1 h2.2);simp only[D9,h,u7,List.all_cons,List.all_append,List.all_nil,sF,sT,Bool.true_and,Bool.and_true]
theorem b2R (p:Plan) (r:Rail):(u7 p r).length=r.Shape.length+2:=by simp[u7]
theorem b9T (p:Plan) (r:Rail) (hA:p.Nodes.all C0=true) (hN:p.Nodes.length≤300):a8 Tryz.prog 115 [p.av,r.av] (Bo (D9 p r)):=by
 have wn:IntKind.i64.wrap ((p.Nodes.length:Int)-1)=(p.Nodes.length:Int)-1:=c4 (by omega) (by omega);have hl:=b2R p r;refine oB Tryz.func115 Tryz.ntmps115 Tryz.results115 ?_;refine aW ?_;refine a5 fun K1 hK1=>?_;refine aW ?_ fun K hK=>by simp -dsimp [wn];refine cI (D4 _ _ _) ?_;simp -dsimp [wn];refine cY (fun hm=>D4 _ _ _) ?_;simp -dsimp [wn];refine cY (fun hm=>D4 _ _ _) ?_;simp -dsimp [wn];refine cY (fun hm=>D4 _ _ _) ?_;simp -dsimp [wn];exact hK
 refine a6 rfl (fun hc0=>?_) (fun hc0=>?_)
 ·skip
  try simp at hc0
  refine aW ?_;refine a7 ?_;have hra:R2 p r=false:=by
   cases hq:R2 p r with
   |false=>rfl
   |true=>simp[R2]at hq;simp[hq,wn]at hc0;omega
  simp[D9,hra]
 ·skip
  try simp at hc0
  have hra:R2 p r=true:=by simp[R2,hc0];omega
  obtain⟨hF,hT,hsl⟩:=a8z hra;refine b8 ?_;refine zQ (hK1 _ _ ?_);refine aP [2,3] ?_;refine aW ?_ fun K hK=>by simp -dsimp;refine cI (b5s p r hF hT (by omega)) ?_;simp -dsimp;exact hK
  refine a5 fun K2 hK2=>?_;refine aW ?_;refine a9 ?_;refine aP [5,47,48,49] ?_;refine c5 [5,47,48] (α:=Nat) (fun k=>[(49,I k)]) (fun _=>[some (.els 2 [p.cells]),some (.els 5 [r.cells])]) (fun k=>k≤(u7 p r).length∧∀m,m<k→j9 (nth (u7 p r) m)=true∧(0<m→a8X (u7 p r) (m-1)=true)) (fun k=>(u7 p r).length-k) 0 ?_ ?_ ?_
  ·exact⟨by omega,fun m hm=>by omega⟩
  ·exact c7 (by simp)
  rintro k ⟨k1,k2⟩;refine zN ?_;refine aW ?_;refine a5 fun K3 hK3=>?_;refine a6 rfl (fun hc1=>?_) (fun hc1=>?_)
  ·skip
   try simp at hc1
   have g0:=y5 (l:=u7 p r) (k:=k) (by omega);have wk:=zW k (by omega);have wm:0<k→IntKind.i64.wrap ((k:Int)-1)=((k-1:Nat):Int):=fun h=>by rw[c4 (by omega) (by omega)];omega
   refine b8 ?_;refine zQ (hK3 _ _ ?_);refine aP [5,47,48,49] ?_;refine a5 fun K4 hK4=>?_;refine a9 ?_;refine aW ?_ fun K hK=>by simp -dsimp [g0];exact hK
   refine aD ?_ fun K hK=>by simp -dsimp;refine cI (b3U (nth (u7 p r) k)) ?_;simp -dsimp;refine⟨fun _ h=>by rw[wm h];omega,k7 (Spot.cells (nth (u7 p r) (k-1))) (fun hm=>by simp at hm;rw[wm hm.2];simp[y5 (l:=u7 p r) (k:=k-1) (by omega)]) ?_⟩;simp;refine cY (fun hm=>b9h (nth (u7 p r) (k-1)) (nth (u7 p r) k) (by simp at hm;exact(k2 (k-1) (by omega)).1) (by simp at hm;exact hm.1)) ?_;simp -dsimp;refine cY (fun hm=>D4 _ _ _) ?_;simp -dsimp;exact hK
   refine a6 rfl (fun hc2=>?_) (fun hc2=>?_)
   ·skip
    try simp at hc2
    have hB:D9 p r=false:=by
     rw[a5r hA]
     by_cases hs:j9 (nth (u7 p r) k)=true
     ·have h3:0<k∧inr (far (nth (u7 p r) (k-1)) (nth (u7 p r) k)) 1 1000000=false:=by simp[hs]at hc2;exact hc2
      have hseg:a8X (u7 p r) (k-1)=false:=by simp only[a8X,C8];rw[show k-1+1=k by omega];exact h3.2
      have:(List.range (r.Shape.length+1)).all (a8X (u7 p r))=false:=by rw[List.all_eq_false];exact⟨k-1,by simp;omega,by simp[hseg]⟩
      simp[this]
     ·have:(u7 p r).all j9=false:=b0K g0 (by simpa using hs);simp only[this,Bool.false_and,Bool.and_false]
    refine aW ?_;exact a7 (by simp[hB])
   ·skip
    try simp at hc2
    refine b8 ?_;refine zQ (hK4 _ _ ?_);refine aP [5,47,48,49] ?_;refine aV ?_ fun K hK=>by simp -dsimp [wk];exact hK
    refine zQ ?_;refine⟨k+1,⟨by omega,fun m hm=>?_⟩,by omega,e8 [some 0,some 1] rfl (by simp) (by simp[Function.comp_def])⟩
    by_cases hmk:m<k
    ·exact k2 m hmk
    ·obtain rfl:m=k:=by omega
     refine⟨hc2.1,fun h=>?_⟩;simp only[a8X,C8];rw[show m-1+1=m by omega];exact hc2.2 h
  ·skip
   try simp at hc1
   have hB:D9 p r=true:=by
    rw[a5r hA,hra];simp only[Bool.true_and,Bool.and_eq_true,List.all_eq_true,List.mem_range];refine⟨fun s hs=>?_,fun m hm=>?_⟩
    ·obtain⟨m,hm⟩:=List.getElem?_of_mem hs;have hml:=(List.getElem?_eq_some_iff.1 hm).1;have:=(k2 m (by omega)).1;rw[y5 hml]at hm;simp only[Option.some.injEq]at hm
     rwa [hm]at this
    ·exact(k2 (m+1) (by omega)).2 (by omega)
   refine c9 ?_;refine zQ (hK2 _ _ ?_);refine aP [] ?_;refine aW ?_;exact a7 (by simp[hB])
end Go.Tram
end
section
namespace Go.Tram
open Go.AM Go.Proofs
def L7:List (List AV)→List AV
 |[]=>[]
 |c::cs=> .iptr c::L7 cs
@[simp] theorem b8m (H:Nat→Option l7) (n:Nat):∀cl:List (List AV),(L7 cl).map (frz H n)=L7 cl
 |[]=>rfl
 |c::cs=>by simp only[L7,List.map_cons,b8m H n cs,List.cons.injEq,and_true];cases n<;>rfl
@[simp] theorem b2c (n:Nat):∀cl:List (List AV),(L7 cl).all (AV.noRef n)=true
 |[]=>rfl
 |c::cs=>by simp only[L7,List.all_cons,b2c n cs,Bool.and_true];cases n<;>rfl
@[simp] theorem b9N (H:Nat→Option l7) (n:Nat):∀cl:List (List AV),(L7 cl).flatMap (B2 H n)=[]
 |[]=>rfl
 |c::cs=>by simp only[L7,List.flatMap_cons,b9N H n cs,List.append_nil];cases n<;>rfl
def W6 {α:Type} (l:List α) (q:α→Bool):Int:=match l.findIdx? q with|some i=>i|none=>-1
theorem E6 {α:Type} {l:List α} {q:α→Bool} (h:l.any q=false):W6 l q=-1:=by
 have:l.findIdx? q=none:=by
  rw[List.findIdx?_eq_none_iff];intro x hx;rw[List.any_eq_false]at h;simpa using h x hx
 unfold W6;rw[this]
theorem N6 {α:Type} {l:List α} {q:α→Bool} {k:Nat} {x:α} (hx:l[k]?=some x) (hq:q x=true) (hn:(l.take k).any q=false):W6 l q=k:=by
 obtain⟨hk,he⟩:=List.getElem?_eq_some_iff.1 hx;have:l.findIdx? q=some k:=by
  rw[List.findIdx?_eq_some_iff_getElem];refine⟨hk,by rw[he];exact hq,fun j hj=>?_⟩;rw[List.any_eq_false]at hn;have:=hn l[j] (by rw[List.mem_take_iff_getElem];exact⟨j,by omega,rfl⟩);simpa using this
 unfold W6;rw[this]
theorem R5 {α:Type} (l:List α) (q:α→Bool):decide (0≤W6 l q)=l.any q:=by
 cases h:l.any q with
 |false=>rw[E6 h];rfl
 |true=>
  rw[List.any_eq_true]at h;obtain⟨x,hx,hq⟩:=h;unfold W6
  cases hi:l.findIdx? q with
  |none=>rw[List.findIdx?_eq_none_iff]at hi;exact absurd hq (by simp[hi x hx])
  |some i=>simp
theorem any_take {α:Type} {l:List α} {q:α→Bool} {k:Nat} {x:α} (h:l[k]?=some x):(l.take (k+1)).any q=((l.take k).any q||q x):=by
 rw[List.take_add_one,List.any_append,h];simp
theorem u0 {α:Type} {l:List α} {q:α→Bool} {k:Nat} (hk:l.length≤k) (h:(l.take k).any q=false):l.any q=false:=by rwa [List.take_of_length_le hk]at h
theorem a7x (l:List Node) (f:FuncId) (cl:List (List AV)) (q:Node→Bool) (h:∀x∈l,a8 Tryz.prog f (.agg x.cells::L7 cl) (Bo (q x))) (hn:l.length≤100000):
  a8 Tryz.prog 146 [.lst 5 (l.map Node.cells), .clo f (L7 cl)] (I (W6 l q)):=by
 refine oB Tryz.func146 Tryz.ntmps146 Tryz.results146 ?_;refine aW ?_;refine a5 fun K1 hK1=>?_;refine aW ?_;refine a9 ?_;refine aP [0,1,7,8] ?_;refine c5 [0,1,7] (α:=Nat) (fun k=>[(8,I k)]) (fun _=>[]) (fun k=>k≤l.length∧(l.take k).any q=false) (fun k=>l.length-k) 0 ?_ ?_ ?_
 ·simp
 ·exact c7 (by simp)
 rintro k ⟨k1,k2⟩;refine zN ?_;refine aW ?_;refine a5 fun K2 hK2=>?_;refine a6 rfl (fun hc0=>?_) (fun hc0=>?_)
 ·skip
  try simp at hc0
  obtain⟨x,hx⟩:=gx (l:=l) (i:=k) hc0;have wk:=zW k (by omega);refine b8 ?_;refine zQ (hK2 _ _ ?_);refine aP [0,1,7,8] ?_;refine a5 fun K3 hK3=>?_;refine a9 ?_;refine aW ?_;refine aW ?_ fun K hK=>by simp -dsimp [hx];refine cI (h x (List.mem_of_getElem? hx)) ?_;simp -dsimp [hx];exact hK
  refine a6 rfl (fun hc1=>?_) (fun hc1=>?_)
  ·skip
   try simp at hc1
   refine aW ?_;exact a7 (by simp[N6 hx hc1 k2])
  ·skip
   try simp at hc1
   refine b8 ?_;refine zQ (hK3 _ _ ?_);refine aP [0,1,7,8] ?_;refine aV ?_ fun K hK=>by simp -dsimp [wk];exact hK
   refine zQ ?_;exact⟨k+1,⟨by omega,by rw[any_take hx,k2,hc1];rfl⟩,by omega,c7 (by simp)⟩
 ·skip
  try simp at hc0
  have hall:=u0 (by omega) k2;refine c9 ?_;refine zQ (hK1 _ _ ?_);refine aP [] ?_;refine aW ?_;exact a7 (by simp[E6 hall])
theorem b0g (l:List Node) (f:FuncId) (cl:List (List AV)) (q:Node→Bool) (h:∀x∈l,a8 Tryz.prog f (.agg x.cells::L7 cl) (Bo (q x))) (hn:l.length≤100000):
  a8 Tryz.prog 110 [.lst 5 (l.map Node.cells), .clo f (L7 cl)] (Bo (l.any q)):=by
 refine oB Tryz.func110 Tryz.ntmps110 Tryz.results110 ?_;refine aW ?_;refine aW ?_ fun K hK=>by simp -dsimp;refine cI (a7x l f cl q h hn) ?_;simp -dsimp;exact hK
 exact a7 (by simp[R5])
theorem a8s (l:List Rail) (f:FuncId) (cl:List (List AV)) (q:Rail→Bool) (h:∀x∈l,a8 Tryz.prog f (.agg x.cells::L7 cl) (Bo (q x))) (hn:l.length≤100000):
  a8 Tryz.prog 149 [.lst 5 (l.map Rail.cells), .clo f (L7 cl)] (I (W6 l q)):=by
 refine oB Tryz.func149 Tryz.ntmps149 Tryz.results149 ?_;refine aW ?_;refine a5 fun K1 hK1=>?_;refine aW ?_;refine a9 ?_;refine aP [0,1,7,8] ?_;refine c5 [0,1,7] (α:=Nat) (fun k=>[(8,I k)]) (fun _=>[]) (fun k=>k≤l.length∧(l.take k).any q=false) (fun k=>l.length-k) 0 ?_ ?_ ?_
 ·simp
 ·exact c7 (by simp)
 rintro k ⟨k1,k2⟩;refine zN ?_;refine aW ?_;refine a5 fun K2 hK2=>?_;refine a6 rfl (fun hc0=>?_) (fun hc0=>?_)
 ·skip
  try simp at hc0
  obtain⟨x,hx⟩:=gx (l:=l) (i:=k) hc0;have wk:=zW k (by omega);refine b8 ?_;refine zQ (hK2 _ _ ?_);refine aP [0,1,7,8] ?_;refine a5 fun K3 hK3=>?_;refine a9 ?_;refine aW ?_;refine aW ?_ fun K hK=>by simp -dsimp [hx];refine cI (h x (List.mem_of_getElem? hx)) ?_;simp -dsimp [hx];exact hK
  refine a6 rfl (fun hc1=>?_) (fun hc1=>?_)
  ·skip
   try simp at hc1
   refine aW ?_;exact a7 (by simp[N6 hx hc1 k2])
  ·skip
   try simp at hc1
   refine b8 ?_;refine zQ (hK3 _ _ ?_);refine aP [0,1,7,8] ?_;refine aV ?_ fun K hK=>by simp -dsimp [wk];exact hK
   refine zQ ?_;exact⟨k+1,⟨by omega,by rw[any_take hx,k2,hc1];rfl⟩,by omega,c7 (by simp)⟩
 ·skip
  try simp at hc0
  have hall:=u0 (by omega) k2;refine c9 ?_;refine zQ (hK1 _ _ ?_);refine aP [] ?_;refine aW ?_;exact a7 (by simp[E6 hall])
theorem a9Q (l:List Rail) (f:FuncId) (cl:List (List AV)) (q:Rail→Bool) (h:∀x∈l,a8 Tryz.prog f (.agg x.cells::L7 cl) (Bo (q x))) (hn:l.length≤100000):
  a8 Tryz.prog 113 [.lst 5 (l.map Rail.cells), .clo f (L7 cl)] (Bo (l.any q)):=by
 refine oB Tryz.func113 Tryz.ntmps113 Tryz.results113 ?_;refine aW ?_;refine aW ?_ fun K hK=>by simp -dsimp;refine cI (a8s l f cl q h hn) ?_;simp -dsimp;exact hK
 exact a7 (by simp[R5])
theorem a7H (l:List Spot) (f:FuncId) (cl:List (List AV)) (q:Spot→Bool) (h:∀x∈l,a8 Tryz.prog f (.agg x.cells::L7 cl) (Bo (q x))) (hn:l.length≤100000):
  a8 Tryz.prog 233 [.lst 2 (l.map Spot.cells), .clo f (L7 cl)] (I (W6 l q)):=by
 refine oB Tryz.func233 Tryz.ntmps233 Tryz.results233 ?_;refine aW ?_;refine a5 fun K1 hK1=>?_;refine aW ?_;refine a9 ?_;refine aP [0,1,7,8] ?_;refine c5 [0,1,7] (α:=Nat) (fun k=>[(8,I k)]) (fun _=>[]) (fun k=>k≤l.length∧(l.take k).any q=false) (fun k=>l.length-k) 0 ?_ ?_ ?_
 ·simp
 ·exact c7 (by simp)
 rintro k ⟨k1,k2⟩;refine zN ?_;refine aW ?_;refine a5 fun K2 hK2=>?_;refine a6 rfl (fun hc0=>?_) (fun hc0=>?_)
 ·skip
  try simp at hc0
  obtain⟨x,hx⟩:=gx (l:=l) (i:=k) hc0;have wk:=zW k (by omega);refine b8 ?_;refine zQ (hK2 _ _ ?_);refine aP [0,1,7,8] ?_;refine a5 fun K3 hK3=>?_;refine a9 ?_;refine aW ?_;refine aW ?_ fun K hK=>by simp -dsimp [hx];refine cI (h x (List.mem_of_getElem? hx)) ?_;simp -dsimp [hx];exact hK
  refine a6 rfl (fun hc1=>?_) (fun hc1=>?_)
  ·skip
   try simp at hc1
   refine aW ?_;exact a7 (by simp[N6 hx hc1 k2])
  ·skip
   try simp at hc1
   refine b8 ?_;refine zQ (hK3 _ _ ?_);refine aP [0,1,7,8] ?_;refine aV ?_ fun K hK=>by simp -dsimp [wk];exact hK
   refine zQ ?_;exact⟨k+1,⟨by omega,by rw[any_take hx,k2,hc1];rfl⟩,by omega,c7 (by simp)⟩
 ·skip
  try simp at hc0
  have hall:=u0 (by omega) k2;refine c9 ?_;refine zQ (hK1 _ _ ?_);refine aP [] ?_;refine aW ?_;exact a7 (by simp[E6 hall])
theorem a9K (l:List Spot) (f:FuncId) (cl:List (List AV)) (q:Spot→Bool) (h:∀x∈l,a8 Tryz.prog f (.agg x.cells::L7 cl) (Bo (q x))) (hn:l.length≤100000):
  a8 Tryz.prog 221 [.lst 2 (l.map Spot.cells), .clo f (L7 cl)] (Bo (l.any q)):=by
 refine oB Tryz.func221 Tryz.ntmps221 Tryz.results221 ?_;refine aW ?_;refine aW ?_ fun K hK=>by simp -dsimp;refine cI (a7H l f cl q h hn) ?_;simp -dsimp;exact hK
 exact a7 (by simp[R5])
theorem a4k (l:List Profile) (f:FuncId) (cl:List (List AV)) (q:Profile→Bool) (h:∀x∈l,a8 Tryz.prog f (.agg x.cells::L7 cl) (Bo (q x))) (hn:l.length≤100000):
  a8 Tryz.prog 184 [.lst 2 (l.map Profile.cells), .clo f (L7 cl)] (I (W6 l q)):=by
 refine oB Tryz.func184 Tryz.ntmps184 Tryz.results184 ?_;refine aW ?_;refine a5 fun K1 hK1=>?_;refine aW ?_;refine a9 ?_;refine aP [0,1,7,8] ?_;refine c5 [0,1,7] (α:=Nat) (fun k=>[(8,I k)]) (fun _=>[]) (fun k=>k≤l.length∧(l.take k).any q=false) (fun k=>l.length-k) 0 ?_ ?_ ?_
 ·simp
 ·exact c7 (by simp)
 rintro k ⟨k1,k2⟩;refine zN ?_;refine aW ?_;refine a5 fun K2 hK2=>?_;refine a6 rfl (fun hc0=>?_) (fun hc0=>?_)
 ·skip
  try simp at hc0
  obtain⟨x,hx⟩:=gx (l:=l) (i:=k) hc0;have wk:=zW k (by omega);refine b8 ?_;refine zQ (hK2 _ _ ?_);refine aP [0,1,7,8] ?_;refine a5 fun K3 hK3=>?_;refine a9 ?_;refine aW ?_;refine aW ?_ fun K hK=>by simp -dsimp [hx];refine cI (h x (List.mem_of_getElem? hx)) ?_;simp -dsimp [hx];exact hK
  refine a6 rfl (fun hc1=>?_) (fun hc1=>?_)
  ·skip
   try simp at hc1
   refine aW ?_;exact a7 (by simp[N6 hx hc1 k2])
  ·skip
   try simp at hc1
   refine b8 ?_;refine zQ (hK3 _ _ ?_);refine aP [0,1,7,8] ?_;refine aV ?_ fun K hK=>by simp -dsimp [wk];exact hK
   refine zQ ?_;exact⟨k+1,⟨by omega,by rw[any_take hx,k2,hc1];rfl⟩,by omega,c7 (by simp)⟩
 ·skip
  try simp at hc0
  have hall:=u0 (by omega) k2;refine c9 ?_;refine zQ (hK1 _ _ ?_);refine aP [] ?_;refine aW ?_;exact a7 (by simp[E6 hall])
theorem a5f (l:List Profile) (f:FuncId) (cl:List (List AV)) (q:Profile→Bool) (h:∀x∈l,a8 Tryz.prog f (.agg x.cells::L7 cl) (Bo (q x))) (hn:l.length≤100000):
  a8 Tryz.prog 158 [.lst 2 (l.map Profile.cells), .clo f (L7 cl)] (Bo (l.any q)):=by
 refine oB Tryz.func158 Tryz.ntmps158 Tryz.results158 ?_;refine aW ?_;refine aW ?_ fun K hK=>by simp -dsimp;refine cI (a4k l f cl q h hn) ?_;simp -dsimp;exact hK
 exact a7 (by simp[R5])
theorem b7v (n:Node):a8 Tryz.prog 111 [.agg n.cells] (Bo (!C0 n)):=by
 refine oB Tryz.func111 Tryz.ntmps111 Tryz.results111 ?_;refine aW ?_;refine aW ?_ fun K hK=>by simp -dsimp;refine cI (b9M n) ?_;simp -dsimp;exact hK
 exact a7 (by simp)
theorem b6x (p:Plan) (r:Rail) (hA:p.Nodes.all C0=true) (hN:p.Nodes.length≤300):a8 Tryz.prog 114 [.agg r.cells, .iptr p.cells] (Bo (!D9 p r)):=by
 refine oB Tryz.func114 Tryz.ntmps114 Tryz.results114 ?_;refine aW ?_;refine aW ?_ fun K hK=>by simp -dsimp;refine cI (b9T p r hA hN) ?_;simp -dsimp;exact hK
 exact a7 (by simp)
end Go.Tram
end
section
namespace Go.Tram
open Go.AM Go.Proofs
def a2y (e:E1):List KC:=[.i .i64 e.Rail, .b e.Last]
theorem a1I {a b:E1}:a2y a=a2y b↔a=b:=by
 cases a;cases b;simp[a2y]
def a3k (l:List (Nat×E1)):List (List KC×Value):=l.map fun x=>(a2y x.2,Value.bool true)
theorem a6k (e:E1):∀l:List (Nat×E1),p6 (a3k l) [.i .i64 e.Rail, .b e.Last]=if e∈l.map (·.2)then some (.bool true)else none
 |[]=>by simp[a3k,p6]
 |x::l=>by
  have ih:=a6k e l;have hk:([.i .i64 e.Rail, .b e.Last]:List KC)=a2y x.2↔e=x.2:=a1I (a:=e);simp only[a3k,List.map_cons,p6,List.mem_cons]at ih ⊢
  by_cases h:e=x.2
  ·rw[if_pos (hk.2 h),if_pos (Or.inl h)]
  ·rw[if_neg (fun q=>h (hk.1 q)),ih];simp only[h,false_or]
theorem a5Q {e:E1} {i:Nat}:∀{l:List (Nat×E1)},e∉l.map (·.2)→L5 (a3k l) [.i .i64 e.Rail, .b e.Last] (.bool true)=a3k (l++[(i,e)])
 |[],_=>by simp[a3k,L5,a2y]
 |x::l,h=>by
  simp only[List.map_cons,List.mem_cons,not_or]at h;have ih:=a5Q (i:=i) h.2;have hk:([.i .i64 e.Rail, .b e.Last]:List KC)=a2y x.2↔e=x.2:=a1I (a:=e);simp only[a3k,List.map_cons,L5,List.cons_append]at ih ⊢;rw[if_neg (fun q=>h.1 (hk.1 q)),ih]
theorem a0S (p:Plan):a8 Tryz.prog 67 [p.av] (I (if d8 p then 0 else 2)):=by
 refine oB Tryz.func67 Tryz.ntmps67 Tryz.results67 ?_;refine aW ?_;refine a5 fun K1 hK1=>?_;refine aW ?_ fun K hK=>by simp -dsimp;refine cI (D4 _ _ _) ?_;simp -dsimp;refine cY (fun hm=>D4 _ _ _) ?_;simp -dsimp;exact hK
 refine a6 rfl (fun hc0=>?_) (fun hc0=>?_)
 ·skip
  try simp at hc0
  have hv:d8 p=false:=by simp[d8,a0M];intro h1 h2;simp_all
  refine aW ?_;exact a7 (by simp[hv])
 ·skip
  try simp at hc0
  have hN:=g6.1 hc0.1;have hR:=g6.1 hc0.2;refine b8 ?_;refine zQ (hK1 _ _ ?_);refine aP [1] ?_;refine a5 fun K2 hK2=>?_;refine aW ?_ fun K hK=>by simp -dsimp;refine cI (b0g p.Nodes 111 [] (fun n=> !C0 n) (fun n _=>b7v n) (by omega)) ?_;simp -dsimp;refine cY (fun hm=>a9Q p.Rails 114 [p.cells] (fun r=> !D9 p r) (fun r _=>b6x p r (by simp at hm;exact List.all_eq_true.2 hm) (by omega)) (by omega)) ?_;simp -dsimp;exact hK
  refine a6 rfl (fun hc1=>?_) (fun hc1=>?_)
  ·have hv:d8 p=false:=by
    cases hq:d8 p with
    |false=>rfl
    |true=>
     obtain⟨_,_,hA,hB,_⟩:=j7 hq;rw[List.all_eq_true]at hA hB;have e1:(p.Nodes.any fun n=> !C0 n)=false:=by rw[List.any_eq_false];intro x hx;simp[hA x hx]
     have e2:(p.Rails.any fun r=> !D9 p r)=false:=by rw[List.any_eq_false];intro x hx;simp[hB x hx]
     simp[e1,e2]at hc1
   refine aW ?_;exact a7 (by simp[hv])
  ·have hA:p.Nodes.all C0=true:=by simp at hc1;exact List.all_eq_true.2 hc1.1
   have hB:p.Rails.all (D9 p)=true:=by simp at hc1;exact List.all_eq_true.2 hc1.2
   refine b8 ?_;refine zQ (hK2 _ _ ?_);refine aP [1] ?_;refine aW ?_;refine a5 fun K3 hK3=>?_;refine aW ?_;refine a9 ?_;refine aP [1,3,31,32,33] ?_;refine c5 [1,3,31,32] (α:=Nat) (fun i=>[(33,I i)]) (fun i=>[some (.els 2 [p.cells]),some (.map true [.i .i64, .b] (a3k (r5 p i)))]) (fun i=>i≤p.Nodes.length∧(r5 p i).all (endB p)=true∧((r5 p i).map (·.2)).Nodup) (fun i=>p.Nodes.length-i) 0 ?_ ?_ ?_
   ·simp[r5]
   ·exact c7 (by simp[r5,a3k])
   rintro i ⟨i1,i2,i3⟩;refine zN ?_;refine aW ?_;refine a5 fun K4 hK4=>?_;refine a6 rfl (fun hc2=>?_) (fun hc2=>?_)
   ·skip
    try simp at hc2
    have n0:=p.node_get (i:=(i:Int)) (by omega) (by omega);simp only[Int.toNat_natCast]at n0;have wi:=zW i (by omega);have wr:IntKind.i64.wrap ((p.Rails.length:Int)-1)=(p.Rails.length:Int)-1:=c4 (by omega) (by omega);have hle:=Y5 (D1 hA (i:=(i:Int)) (by omega) (by omega));refine b8 ?_;refine zQ (hK4 _ _ ?_);refine aP [1,3,31,32,33] ?_;refine a5 fun K5 hK5=>?_;refine a9 ?_;refine aW ?_ fun K hK=>by simp -dsimp [n0];exact hK
    refine aW ?_;refine a9 ?_;refine aP [1,3,4,31,32,33,39,40,41] ?_;refine c5 [1,3,4,31,32,33,39,40] (α:=Nat) (fun j=>[(41,I j)]) (fun j=>[some (.els 2 [p.cells]),some (.map true [.i .i64, .b] (a3k (a0F p i j)))]) (fun j=>j≤(p.node i).Ends.length∧(a0F p i j).all (endB p)=true∧((a0F p i j).map (·.2)).Nodup) (fun j=>(p.node i).Ends.length-j) 0 ?_ ?_ ?_
    ·rw[a1M];exact⟨by omega,i2,i3⟩
    ·simp only[a1M];exact aB [some 0,some 1]
    rintro j ⟨j1,j2,j3⟩;refine zN ?_;refine aW ?_;refine a5 fun K6 hK6=>?_;refine a6 rfl (fun hc3=>?_) (fun hc3=>?_)
    ·skip
     try simp at hc3
     obtain⟨e,he⟩:∃e,(p.node i).Ends[j]?=some e:=⟨_,List.getElem?_eq_getElem hc3⟩;have wj:=zW j (by omega);refine b8 ?_;refine zQ (hK6 _ _ ?_);refine aP [1,3,4,31,32,33,39,40,41] ?_;refine a5 fun K7 hK7=>?_;refine a9 ?_;refine aW ?_ fun K hK=>by simp -dsimp [he];exact hK
     refine a5 fun K8 hK8=>?_;refine aS fun K hK=>?_;simp -dsimp [wr];refine cI (D4 _ _ _) ?_;simp -dsimp [wr];refine d7 (Bo (decide (e∈(a0F p i j).map (·.2)))) (fun hm=>by rw[a6k];split<;>simp_all) ?_
     simp -dsimp [wr];refine cY (fun hm=>a6O p e (by simp[g6]at hm;omega) (by simp[g6]at hm;omega)) ?_;simp -dsimp [wr];apply hK;clear hK K;refine a6 rfl (fun hc4=>?_) (fun hc4=>?_)
     ·have hv:d8 p=false:=by
       by_cases hb:endB p (i,e)=true
       ·have hb':=hb;simp only[endB,Bool.and_eq_true,decide_eq_true_eq]at hb';simp[hb'.1,hb'.2]at hc4;obtain⟨a,ha⟩:=hc4;obtain⟨m,hm⟩:=List.getElem?_of_mem ha;exact Y1 hc2 he hm rfl
       ·exact a2N hc2 he (by simpa using hb)
      refine aW ?_;exact a7 (by simp[hv])
     ·have hc4':inr e.Rail 0 (p.Rails.length-1)=true∧e∉ (a0F p i j).map (·.2)∧p.at e=(i:Int):=by simp at hc4;simp;grind
      obtain⟨q1,q2,q3⟩:=hc4';have p9:=a5Q (i:=i) q2;refine b8 ?_;refine zQ (hK8 _ _ ?_);refine aP [1,3,4,7,31,32,33,39,40,41] ?_;refine aV ?_ fun K hK=>by simp -dsimp [p9];exact hK
      refine zQ (hK7 _ _ ?_);refine aP [1,3,4,31,32,33,39,40,41] ?_;refine aV ?_ fun K hK=>by simp -dsimp [wj];exact hK
      refine zQ ?_;refine⟨j+1,⟨by omega,?_,?_⟩,by omega,e8 [some 0,some 1] rfl (by simp) (by simp[O0 he])⟩
      ·rw[O0 he,List.all_append,j2];simp[endB,q1,q3]
      ·rw[O0 he,List.map_append,List.nodup_append];refine⟨j3,by simp,?_⟩;intro a ha b hb;simp only[List.map_cons,List.map_nil,List.mem_singleton]at hb;subst hb;intro hab;exact q2 (hab▸ha)
    ·skip
     try simp at hc3
     have hce:=b0U (p:=p) (i:=i) (j:=j) (by omega);refine c9 ?_;refine zQ (hK5 _ _ ?_);refine aP [1,3,31,32,33] ?_;refine aV ?_ fun K hK=>by simp -dsimp [wi];exact hK
     refine zQ ?_;exact⟨i+1,⟨by omega,by rw[←hce];exact j2,by rw[←hce];exact j3⟩,by omega,by simp only[←hce];exact c7 (by simp)⟩
   ·skip
    try simp at hc2
    have hii:i=p.Nodes.length:=by omega
    subst hii;have hle:=a0p hA p.Nodes.length (Nat.le_refl _);have w2:IntKind.i64.wrap (2*(p.Rails.length:Int))=2*(p.Rails.length:Int):=c4 (by omega) (by omega);have hsl:(a3k (r5 p p.Nodes.length)).length=(r5 p p.Nodes.length).length:=by simp[a3k]
    refine c9 ?_;refine zQ (hK3 _ _ ?_);refine aP [1,3] ?_;refine a5 fun K9 hK9=>?_;refine aW ?_ fun K hK=>by simp -dsimp [w2,hsl];exact hK
    refine a6 rfl (fun hc5=>?_) (fun hc5=>?_)
    ·have hv:d8 p=decide ((r5 p p.Nodes.length).length=2*p.Rails.length):=by simp[d8,a0M,a0O,hc0,hA,hB,i2,i3]
     try simp at hc5
     refine aW ?_;exact a7 (by simp[hv];omega)
    ·have hv:d8 p=decide ((r5 p p.Nodes.length).length=2*p.Rails.length):=by simp[d8,a0M,a0O,hc0,hA,hB,i2,i3]
     try simp at hc5
     refine b8 ?_;refine zQ (hK9 _ _ ?_);refine aP [] ?_;refine aW ?_;exact a7 (by simp[hv];omega)
end Go.Tram
end
section
namespace Go.Tram
open Go.AM Go.Proofs
def b3X (kvs:List (List KC×Value)) (es:List E1):Nat→List (List KC×Value)
 |0=>kvs
 |j+1=>L5 (b3X kvs es j) (a2y (es[j]?.getD default)) (.int .i64 j)
def G6 (p:Plan):Nat→List (List KC×Value)
 |0=>[]
 |i+1=>b3X (G6 p i) (p.node i).Ends (p.node i).Ends.length
def I2 (p:Plan) (n:Nat):List (List AV):=(List.range n).map fun(r:Nat)=>[I (p.len r)]
def net (p:Plan):List AV:=p.cells++[.lst 1 (I2 p p.Rails.length), .mpc true [.i .i64, .b] (G6 p p.Nodes.length)]
theorem b5Q (p:Plan) (n:Nat):(I2 p n).length=n:=by simp[I2]
theorem b2i (p:Plan) (n:Nat):I2 p (n+1)=I2 p n++[[I (p.len n)]]:=by simp[I2,List.range_succ]
theorem b5c {p:Plan} {n k:Nat} (h:k<n):(I2 p n)[k]?=some [I (p.len k)]:=by simp[I2,h]
theorem a1H (p:Plan) (n:Nat) (g:List (Option Nat)):(I2 p n).map (fun e=>e.map (o9 g 3))=I2 p n:=by unfold I2;rw[List.map_map];exact List.map_congr_left fun s _=>rfl
theorem b4F (p:Plan) (n m:Nat) (H:Hp):(I2 p n).map (fun e=>e.map (J4 H (m+1)))=I2 p n:=by unfold I2;rw[List.map_map];exact List.map_congr_left fun s _=>rfl
theorem b5Y (p:Plan) (r:Int) (ro:Z3 p r):a8 Tryz.prog 150 [p.av,(p.rail r).av] (.lst 2 ((p.line r).map Spot.cells)):=
 b5s p (p.rail r) ro.f ro.t (by have:=ro.s;omega)
theorem c_open_f (p:Plan) (h:d8 p=false):a8 Tryz.prog 128 [p.av] (.tup [.v (.pointer none),Bo false]):=by
 have hc:=a0S p;rw[h]at hc;refine oB Tryz.func128 Tryz.ntmps128 Tryz.results128 ?_;refine aW ?_;refine a5 fun K1 hK1=>?_;refine aW ?_ fun K hK=>by simp -dsimp;refine cI (hc) ?_;simp -dsimp;exact hK
 refine a6 rfl (fun hc0=>?_) (fun hc0=>?_)
 ·refine aW ?_;exact a7 (by simp)
 ·simp at hc0
theorem U0 (p:Plan) (h:d8 p=true):a8 Tryz.prog 128 [p.av] (.tup [.iptr (net p),Bo true]):=by
 have hck:=a0S p;rw[h]at hck;obtain⟨hN,hR,hA,hB,_⟩:=j7 h;refine oB Tryz.func128 Tryz.ntmps128 Tryz.results128 ?_;refine aW ?_;refine a5 fun K1 hK1=>?_;refine aW ?_ fun K hK=>by simp -dsimp;refine cI (hck) ?_;simp -dsimp;exact hK
 refine a6 rfl (fun hc0=>?_) (fun hc0=>?_)
 ·simp at hc0
 ·refine b8 ?_;refine zQ (hK1 _ _ ?_);refine aP [1] ?_;refine aW ?_;refine a5 fun K2 hK2=>?_;refine aW ?_;refine a9 ?_;refine aP [1,4,22,23,24] ?_;refine c5 [1,4,22,23] (α:=Nat) (fun k=>[(24,I k)]) (fun k=>[some (.els 2 [p.cells]),some (.map true [.i .i64, .b] []),some (.els 4 [p.cells++[.row 3 0 (I2 p k).length, .mp 1]]),some (.els 1 (I2 p k))]) (fun k=>k≤p.Rails.length) (fun k=>p.Rails.length-k) 0 ?_ ?_ ?_
  ·simp
  ·exact(a3y 2 0 2 1 (es:=[p.cells++[.v (.slice none 0 0), .mp 1]]) (e:=p.cells++[.v (.slice none 0 0), .mp 1]) (by simp) (by simp) (by simp)).trans (c7 (by simp[I2]))
  rintro k k1;refine zN ?_;refine aW ?_;refine a5 fun K3 hK3=>?_;refine a6 rfl (fun hc1=>?_) (fun hc1=>?_)
  ·skip
   try simp at hc1
   have g0:=p.rail_get (i:=(k:Int)) (by omega) (by omega);simp only[Int.toNat_natCast]at g0;have ro:=P0 h (r:=(k:Int)) (by omega) (by omega);have hl:=ro.len;have hs30:=ro.s;have wk:=zW k (by omega);have f1:Q5 (k+1) 9:=l8 (by omega) (by omega);have hll:=b5Q p k;have htk:(I2 p k).take k=I2 p k:=List.take_of_length_le (by omega);refine b8 ?_;refine zQ (hK3 _ _ ?_);refine aP [1,4,22,23,24] ?_;refine a5 fun K4 hK4=>?_;refine a9 ?_;refine aW ?_ fun K hK=>by simp -dsimp [g0];exact hK
   refine aW ?_ fun K hK=>by simp -dsimp;refine cI (b5Y p k ro) ?_;simp -dsimp;exact hK
   refine aW ?_;refine a5 fun K5 hK5=>?_;refine aW ?_;refine a9 ?_;refine aP [1,4,7,8,9,22,23,24] ?_;refine c5 [1,4,7,22,23,24] (α:=Nat) (fun i=>[(8,I (L9 (p.line k) (i-1))),(9,I i)]) (fun _=>[some (.els 2 [p.cells]),some (.map true [.i .i64, .b] []),some (.els 4 [p.cells++[.row 3 0 (I2 p k).length, .mp 1]]),some (.els 1 (I2 p k))]) (fun i=>1≤i∧i≤(p.line k).length) (fun i=>(p.line k).length-i) 1 ?_ ?_ ?_
   ·omega
   ·exact e8 [some 0,some 1,some 2,some 3] rfl (by simp[L9]) (by simp[a1H])
   rintro i ⟨j1,j2⟩;refine zN ?_;refine a5 fun K6 hK6=>?_;refine aW ?_;refine a6 rfl (fun hc2=>?_) (fun hc2=>?_)
   ·skip
    try simp at hc2
    have wi:IntKind.i64.wrap ((i:Int)-1)=((i-1:Nat):Int):=by rw[c4 (by omega) (by omega)];omega
    have wj:=zW i (by omega);have g1:=y5 (l:=p.line k) (k:=i-1) (by omega);have g2:=y5 (l:=p.line k) (k:=i) (by omega);have q1:=a1p ro (i-1) (by omega);have q2:=c3e (ro.spot (i-1) (by omega)) (ro.spot i (by omega));have wa:IntKind.i64.wrap (L9 (p.line k) (i-1)+far (nth (p.line k) (i-1)) (nth (p.line k) i))=L9 (p.line k) (i-1)+far (nth (p.line k) (i-1)) (nth (p.line k) i):=c4 (by omega) (by omega);refine b8 ?_;refine zQ (hK6 _ _ ?_);refine aP [1,4,7,8,9,22,23,24] ?_;refine a5 fun K7 hK7=>?_;refine a9 ?_;refine aE ?_ fun K hK=>by simp -dsimp [wi,g1,g2,wa];refine cI (b9h (nth (p.line k) (i-1)) (nth (p.line k) i) (ro.spot _ (by omega)) (ro.spot _ (by omega))) ?_;simp -dsimp [wi,g1,g2,wa];exact hK
    refine zQ (hK7 _ _ ?_);refine aP [1,4,7,8,9,22,23,24] ?_;refine aV ?_ fun K hK=>by simp -dsimp [wj];exact hK
    refine zQ ?_;obtain⟨j,rfl⟩:∃j,i=j+1:=⟨i-1,by omega⟩;exact⟨j+2,⟨by omega,by omega⟩,by omega,c7 (by simp[L9,C8]<;>omega)⟩
   ·skip
    try simp at hc2
    have hlen:L9 (p.line k) (i-1)=p.len k:=by unfold Plan.len;congr 1;omega
    refine c9 ?_;refine zQ (hK5 _ _ ?_);refine aP [1,4,8,22,23,24] ?_;refine aV ?_ fun K hK=>by simp -dsimp [hlen,hll,f1];exact hK
    refine zQ (hK4 _ _ ?_);refine aP [1,4,22,23,24] ?_;refine aV ?_ fun K hK=>by simp -dsimp [wk];exact hK
    refine zQ ?_;exact⟨k+1,by omega,by omega,e8 [some 0,some 1,some 2,some 4] rfl (by simp) (by simp[b2i,a1H,hll,htk])⟩
  ·skip
   try simp at hc1
   have hk:k=p.Rails.length:=by omega
   subst hk;refine c9 ?_;refine zQ (hK2 _ _ ?_);refine aP [1,4] ?_;refine a5 fun K8 hK8=>?_;refine aW ?_;refine a9 ?_;refine aP [4,61,62,63] ?_;refine c5 [4,61,62] (α:=Nat) (fun i=>[(63,I i)]) (fun i=>[some (.els 2 [p.cells]),some (.map true [.i .i64, .b] (G6 p i)),some (.els 4 [p.cells++[.row 3 0 (I2 p p.Rails.length).length, .mp 1]]),some (.els 1 (I2 p p.Rails.length))]) (fun i=>i≤p.Nodes.length) (fun i=>p.Nodes.length-i) 0 ?_ ?_ ?_
   ·simp
   ·exact c7 (by simp)
   rintro i i1;refine zN ?_;refine aW ?_;refine a5 fun K9 hK9=>?_;refine a6 rfl (fun hc3=>?_) (fun hc3=>?_)
   ·skip
    try simp at hc3
    have n0:=p.node_get (i:=(i:Int)) (by omega) (by omega);simp only[Int.toNat_natCast]at n0;have wi:=zW i (by omega);have hle:=Y5 (D1 hA (i:=(i:Int)) (by omega) (by omega));refine b8 ?_;refine zQ (hK9 _ _ ?_);refine aP [4,61,62,63] ?_;refine a5 fun K10 hK10=>?_;refine a9 ?_;refine aW ?_ fun K hK=>by simp -dsimp [n0];exact hK
    refine aW ?_;refine a9 ?_;refine aP [4,61,62,63,68,69,70] ?_;refine c5 [4,61,62,63,68,69] (α:=Nat) (fun j=>[(70,I j)]) (fun j=>[some (.els 2 [p.cells]),some (.map true [.i .i64, .b] (b3X (G6 p i) (p.node i).Ends j)),some (.els 4 [p.cells++[.row 3 0 (I2 p p.Rails.length).length, .mp 1]]),some (.els 1 (I2 p p.Rails.length))]) (fun j=>j≤(p.node i).Ends.length) (fun j=>(p.node i).Ends.length-j) 0 ?_ ?_ ?_
    ·simp
    ·exact e8 [some 0,some 1,some 2,some 3] rfl (by simp) (by simp[b3X,a1H])
    rintro j j1;refine zN ?_;refine aW ?_;refine a5 fun K11 hK11=>?_;refine a6 rfl (fun hc4=>?_) (fun hc4=>?_)
    ·skip
     try simp at hc4
     obtain⟨e,he⟩:∃e,(p.node i).Ends[j]?=some e:=⟨_,List.getElem?_eq_getElem hc4⟩;have wj:=zW j (by omega);refine b8 ?_;refine zQ (hK11 _ _ ?_);refine aP [4,61,62,63,68,69,70] ?_;refine a5 fun K12 hK12=>?_;refine a9 ?_;refine aW ?_ fun K hK=>by simp -dsimp [he];exact hK
     refine aE ?_;refine zQ (hK12 _ _ ?_);refine aP [4,61,62,63,68,69,70] ?_;refine aV ?_ fun K hK=>by simp -dsimp [wj];exact hK
     refine zQ ?_;exact⟨j+1,by omega,by omega,e8 [some 0,some 1,some 2,some 3] rfl (by simp) (by simp[b3X,he,a2y,a1H])⟩
    ·skip
     try simp at hc4
     have hj:j=(p.node i).Ends.length:=by omega
     subst hj;refine c9 ?_;refine zQ (hK10 _ _ ?_);refine aP [4,61,62,63] ?_;refine aV ?_ fun K hK=>by simp -dsimp [wi];exact hK
     refine zQ ?_;exact⟨i+1,by omega,by omega,c7 (by simp[G6])⟩
   ·skip
    try simp at hc3
    have hi:i=p.Nodes.length:=by omega
    subst hi;refine c9 ?_;refine zQ (hK8 _ _ ?_);refine aP [4] ?_;refine aW ?_;exact a7 (by simp[net,b4F])
theorem a5A (p:Plan) (r:Int) (b:Bool) (h:d8 p=true):a8 Tryz.prog 171 [.iptr (net p), .agg [I r,Bo b]] (Bo (inr r 0 (p.Rails.length-1))):=by
 obtain⟨hN,hR,_⟩:=j7 h;have w:IntKind.i64.wrap ((p.Rails.length:Int)-1)=(p.Rails.length:Int)-1:=c4 (by omega) (by omega);unfold net;refine oB Tryz.func171 Tryz.ntmps171 Tryz.results171 ?_;refine aW ?_;refine aD ?_ fun K hK=>by simp -dsimp [w];refine cI (D4 _ _ _) ?_;simp -dsimp [w];exact hK
 exact a7 (by simp)
theorem c1s (p:Plan) (r:Int) (h:d8 p=true) (h0:0≤r) (h1:r<p.Rails.length):a8 Tryz.prog 152 [p.av,I r] (.tup [.lst 2 ((p.line r).map Spot.cells),I 0]):=by
 have ro:=P0 h h0 h1;have g0:=p.rail_get h0 h1;have hin:inr r 0 (p.Rails.length-1)=true:=g6.2 (by omega);refine oB Tryz.func152 Tryz.ntmps152 Tryz.results152 ?_;refine aW ?_;refine aW ?_ fun K hK=>by simp -dsimp;refine cI (U0 p h) ?_;simp -dsimp;exact hK
 refine a5 fun K1 hK1=>?_;refine aW ?_ fun K hK=>by simp -dsimp;refine cY (fun hm=>a5A p r false h) ?_;simp -dsimp;exact hK
 refine a6 rfl (fun hc0=>?_) (fun hc0=>?_)
 ·simp[hin]at hc0
 ·refine b8 ?_;refine zQ (hK1 _ _ ?_);refine aP [1,2] ?_;refine aD ?_ fun K hK=>by simp -dsimp [g0,h0];refine cI (b5Y p r ro) ?_;simp -dsimp [g0,h0];exact hK
  exact a7 (by simp)
end Go.Tram
end
section
namespace Go.Tram
open Go.AM Go.Proofs
@[simp] def vec (a b:Spot):AV:= .agg [I (b.X-a.X),I (b.Y-a.Y)]
theorem A1 {a b:Spot} (ha:j9 a=true) (hb:j9 b=true):(-20000000≤b.X-a.X∧b.X-a.X≤20000000)∧(-20000000≤b.Y-a.Y∧b.Y-a.Y≤20000000):=by
 rw[I3]at ha hb;omega
theorem a1G (a b:Spot) (ha:j9 a=true) (hb:j9 b=true):a8 Tryz.prog 155 [a.av,b.av] (vec a b):=by
 have hd:=A1 ha hb;have w1:IntKind.i64.wrap (b.X-a.X)=b.X-a.X:=c4 (by omega) (by omega);have w2:IntKind.i64.wrap (b.Y-a.Y)=b.Y-a.Y:=c4 (by omega) (by omega);refine oB Tryz.func155 Tryz.ntmps155 Tryz.results155 ?_;refine aW ?_;refine aW ?_ fun K hK=>by simp -dsimp [w1,w2];exact hK
 exact a7 (by simp)
theorem a7u (a b c d:Spot) (ha:j9 a=true) (hb:j9 b=true) (hc:j9 c=true) (hd:j9 d=true):a8 Tryz.prog 157 [vec a b,vec c d] (I (y6 a b c d)):=by
 have h1:=A1 ha hb;have h2:=A1 hc hd;have m1:=y3 (a:=b.X-a.X) (b:=d.X-c.X) (A:=20000000) (B:=20000000) (by omega) (by omega) (by omega) (by omega);have m2:=y3 (a:=b.Y-a.Y) (b:=d.Y-c.Y) (A:=20000000) (B:=20000000) (by omega) (by omega) (by omega) (by omega);have w1:IntKind.i64.wrap ((b.X-a.X)*(d.X-c.X))=(b.X-a.X)*(d.X-c.X):=c4 (by omega) (by omega);have w2:IntKind.i64.wrap ((b.Y-a.Y)*(d.Y-c.Y))=(b.Y-a.Y)*(d.Y-c.Y):=c4 (by omega) (by omega);have w3:IntKind.i64.wrap ((b.X-a.X)*(d.X-c.X)+(b.Y-a.Y)*(d.Y-c.Y))=y6 a b c d:=c4 (by omega) (by omega);refine oB Tryz.func157 Tryz.ntmps157 Tryz.results157 ?_;refine aW ?_;refine aW ?_ fun K hK=>by simp -dsimp [w1,w2,w3];exact hK
 exact a7 (by simp)
theorem a9d (a b c d:Spot) (ha:j9 a=true) (hb:j9 b=true) (hc:j9 c=true) (hd:j9 d=true):a8 Tryz.prog 181 [vec a b,vec c d] (I (j4 a b c d)):=by
 have h1:=A1 ha hb;have h2:=A1 hc hd;have m1:=y3 (a:=b.X-a.X) (b:=d.Y-c.Y) (A:=20000000) (B:=20000000) (by omega) (by omega) (by omega) (by omega);have m2:=y3 (a:=b.Y-a.Y) (b:=d.X-c.X) (A:=20000000) (B:=20000000) (by omega) (by omega) (by omega) (by omega);have w1:IntKind.i64.wrap ((b.X-a.X)*(d.Y-c.Y))=(b.X-a.X)*(d.Y-c.Y):=c4 (by omega) (by omega);have w2:IntKind.i64.wrap ((b.Y-a.Y)*(d.X-c.X))=(b.Y-a.Y)*(d.X-c.X):=c4 (by omega) (by omega);have w3:IntKind.i64.wrap ((b.X-a.X)*(d.Y-c.Y)-(b.Y-a.Y)*(d.X-c.X))=j4 a b c d:=c4 (by omega) (by omega);refine oB Tryz.func181 Tryz.ntmps181 Tryz.results181 ?_;refine aW ?_;refine aW ?_ fun K hK=>by simp -dsimp [w1,w2,w3];exact hK
 exact a7 (by simp)
theorem b3q (a b c d:Spot) (ha:j9 a=true) (hb:j9 b=true) (hc:j9 c=true) (hd:j9 d=true):a8 Tryz.prog 154 [vec a b,vec c d] (Bo (decide (j4 a b c d=0)&&decide (0<y6 a b c d))):=by
 refine oB Tryz.func154 Tryz.ntmps154 Tryz.results154 ?_;refine aW ?_;refine aW ?_ fun K hK=>by simp -dsimp;refine cI (a9d a b c d ha hb hc hd) ?_;simp -dsimp;refine cY (fun hm=>a7u a b c d ha hb hc hd) ?_;simp -dsimp;exact hK
 exact a7 (by simp;rfl)
theorem b1U (B:Int) (f:FuncId) (cl:List (List AV)) (q:Int→Bool) (hB:0≤B) (hB':B≤1000000000) (h:∀x,0≤x→x≤B→a8 Tryz.prog f (I x::L7 cl) (Bo (q x))):
  a8 Tryz.prog 182 [I B, .clo f (L7 cl)] (I (bis q (B+1).toNat 0 (B+1))):=by
 have w0:IntKind.i64.wrap (B+1)=B+1:=c4 (by omega) (by omega);refine oB Tryz.func182 Tryz.ntmps182 Tryz.results182 ?_;refine aW ?_;refine aW ?_ fun K hK=>by simp -dsimp [w0];exact hK
 refine a5 fun K1 hK1=>?_;refine a9 ?_;refine aP [1,5,6] ?_;refine c5 [1] (α:=Int×Int) (fun x=>[(5,I x.1),(6,I x.2)]) (fun x=>[]) (fun x=>0≤x.1∧x.1<x.2∧x.2≤B+1∧bis q (B+1).toNat 0 (B+1)=bis q (B+1).toNat x.1 x.2) (fun x=>(x.2-x.1).toNat) (0,B+1) ?_ ?_ ?_
 ·simp;omega
 ·exact c7 (by simp)
 rintro⟨lo,hi⟩ ⟨i1,i2,i3,i4⟩;simp only[]at i1 i2 i3 i4;have w1:IntKind.i64.wrap (hi-lo)=hi-lo:=c4 (by omega) (by omega);have w2:IntKind.i64.wrap (lo+hi)=lo+hi:=c4 (by omega) (by omega);have w3:(lo+hi).tdiv 2=(lo+hi)/2:=Int.tdiv_eq_ediv_of_nonneg (by omega);have w4:IntKind.i64.wrap ((lo+hi)/2)=(lo+hi)/2:=c4 (by omega) (by omega);refine zN ?_;refine a5 fun K2 hK2=>?_;refine aW ?_ fun K hK=>by simp -dsimp [w1];exact hK
 refine a6 rfl (fun hc0=>?_) (fun hc0=>?_)
 ·skip
  try simp at hc0
  have hstep:bis q (B+1).toNat lo hi=if q ((lo+hi)/2)then bis q (B+1).toNat ((lo+hi)/2) hi else bis q (B+1).toNat lo ((lo+hi)/2):=by
   rw[a6L (B+1).toNat ((B+1).toNat+1) lo hi (by omega) (by omega)]
   conv=>lhs;unfold bis
   rw[if_pos (by omega)]
  refine b8 ?_;refine zQ (hK2 _ _ ?_);refine aP [1,5,6] ?_;refine a9 ?_;refine aW ?_ fun K hK=>by simp -dsimp [w2,w3,w4];exact hK
  refine aW ?_ fun K hK=>by simp -dsimp;refine cI (h ((lo+hi)/2) (by omega) (by omega)) ?_;simp -dsimp;exact hK
  refine a6 rfl (fun hc1=>?_) (fun hc1=>?_)
  ·skip
   try simp at hc1
   have hs2:bis q (B+1).toNat 0 (B+1)=bis q (B+1).toNat ((lo+hi)/2) hi:=by rw[i4,hstep,if_pos hc1]
   refine aV ?_;refine zQ ?_;exact⟨((lo+hi)/2,hi),⟨by simp only[];omega,by simp only[];omega,by simp only[];omega,hs2⟩,by simp only[];omega,c7 (by simp)⟩
  ·skip
   try simp at hc1
   have hs3:bis q (B+1).toNat 0 (B+1)=bis q (B+1).toNat lo ((lo+hi)/2):=by rw[i4,hstep,if_neg (by rw[hc1];simp)]
   refine aV ?_;refine zQ ?_;exact⟨(lo,(lo+hi)/2),⟨by simp only[];omega,by simp only[];omega,by simp only[];omega,hs3⟩,by simp only[];omega,c7 (by simp)⟩
 ·skip
  try simp at hc0
  refine c9 ?_;refine zQ (hK1 _ _ ?_);refine aP [5] ?_;refine aW ?_;refine a7 ?_;have hb:bis q (B+1).toNat 0 (B+1)=lo:=by rw[i4,a6N (by omega)]
  simp[hb]
theorem c1i (x n:Int) (h0:0≤x) (h1:x≤30000000):a8 Tryz.prog 183 [I x, .iptr [I n]] (Bo (decide (x*x≤n))):=by
 have b1:=y3 (a:=x) (b:=x) (A:=30000000) (B:=30000000) (by omega) (by omega) (by omega) (by omega);have w1:IntKind.i64.wrap (x*x)=x*x:=c4 (by omega) (by omega);refine oB Tryz.func183 Tryz.ntmps183 Tryz.results183 ?_;refine aW ?_;refine aW ?_ fun K hK=>by simp -dsimp [w1];exact hK
 exact a7 (by simp)
theorem c0E (n:Int) (h0:0≤n) (h1:n<900000000000000):a8 Tryz.prog 156 [I n] (I (isq n)):=by
 have hq:bis (fun x=>decide (x*x≤n)) (30000000+1:Int).toNat 0 (30000000+1)=isq n:=by
  obtain⟨k1,k2,k3,k4⟩:=a6D (f:=fun x=>decide (x*x≤n)) (30000000+1:Int).toNat 0 (30000000+1) (by omega) (by omega);generalize bis (fun x=>decide (x*x≤n)) (30000000+1:Int).toNat 0 (30000000+1)=r at*
  refine(b0r ⟨k1,?_,?_⟩).symm
  ·rcases k3 with rfl|k3
   ·omega
   ·simpa using k3
  ·rcases k4 with k4|k4
   ·rw[k4];omega
   ·simpa using k4
 refine oB Tryz.func156 Tryz.ntmps156 Tryz.results156 ?_;refine aW ?_;refine aW ?_ fun K hK=>by simp -dsimp;refine cI (b1U 30000000 183 [[I n]] (fun x=>decide (x*x≤n)) (by omega) (by omega) (fun x h0 h1=>c1i x n h0 h1)) ?_;simp -dsimp;exact hK
 have hq':=hq;simp at hq';exact a7 (by simp[hq'])
abbrev U (n:Int):AV:= .v (.int .u64 n)
theorem W5 {n:Int} (h0:0≤n) (h1:n<18446744073709551616):IntKind.u64.wrap n=n:=by rw[IntKind.wrap_u64];omega
theorem b9L (x y:Int) (hx:0≤x) (hx':x<18446744073709551616) (hy:0≤y) (hy':y<18446744073709551616):
  a8 Tryz.prog 237 [U x,U y] (.tup [U (x*y/18446744073709551616),U (x*y % 18446744073709551616)]):=by
 have hi:=c2I hx hx' hy hy';have hxy:=s6 hx hx' hy hy';have a1:=s6 (a:=x/4294967296) (b:=y/4294967296) (A:=4294967296) (B:=4294967296) (by omega) (by omega) (by omega) (by omega);have a2:=s6 (a:=x/4294967296) (b:=y % 4294967296) (A:=4294967296) (B:=4294967296) (by omega) (by omega) (by omega) (by omega);have a3:=s6 (a:=x % 4294967296) (b:=y/4294967296) (A:=4294967296) (B:=4294967296) (by omega) (by omega) (by omega) (by omega);have a4:=s6 (a:=x % 4294967296) (b:=y % 4294967296) (A:=4294967296) (B:=4294967296) (by omega) (by omega) (by omega) (by omega);have m1:=b5C hx hx';have m2:=b5C hy hy';have wlo:IntKind.u64.wrap (x*y)=x*y % 18446744073709551616:=by rw[IntKind.wrap_u64]
 generalize hp:(x/4294967296)*(y/4294967296)=p at*
 generalize hq:(x/4294967296)*(y % 4294967296)=q at*
 generalize hr:(x % 4294967296)*(y/4294967296)=r at*
 generalize hs:(x % 4294967296)*(y % 4294967296)=s at*
 have w1:IntKind.u64.wrap s=s:=W5 (by omega) (by omega);have w2:IntKind.u64.wrap q=q:=W5 (by omega) (by omega);have w3:IntKind.u64.wrap r=r:=W5 (by omega) (by omega);have w4:IntKind.u64.wrap p=p:=W5 (by omega) (by omega);have w5:IntKind.u64.wrap (q+s/4294967296)=q+s/4294967296:=W5 (by omega) (by omega);have m3:=b5C (m:=q+s/4294967296) (by omega) (by omega);have w6:IntKind.u64.wrap ((q+s/4294967296) % 4294967296+r)=(q+s/4294967296) % 4294967296+r:=W5 (by omega) (by omega);have w7:IntKind.u64.wrap (p+(q+s/4294967296)/4294967296)=p+(q+s/4294967296)/4294967296:=W5 (by omega) (by omega);have w8:IntKind.u64.wrap (p+(q+s/4294967296)/4294967296+((q+s/4294967296) % 4294967296+r)/4294967296)=x*y/18446744073709551616:=by rw[hi];exact W5 (by omega) (by omega)
 have sh:(2:Int)^(Int.toNat 32)=4294967296:=by decide
 refine oB Tryz.func237 Tryz.ntmps237 Tryz.results237 ?_;refine aW ?_ fun K hK=>by simp -dsimp [m1,m2,m3,hp,hq,hr,hs,w1,w2,w3,w4,w5,w6,w7,w8,wlo,IntKind.bits];exact hK
 refine aW ?_ fun K hK=>by simp -dsimp [m1,m2,m3,hp,hq,hr,hs,w1,w2,w3,w4,w5,w6,w7,w8,wlo,IntKind.bits];exact hK
 refine aW ?_ fun K hK=>by simp -dsimp [m1,m2,m3,hp,hq,hr,hs,w1,w2,w3,w4,w5,w6,w7,w8,wlo,IntKind.bits];exact hK
 refine aW ?_ fun K hK=>by simp -dsimp [m1,m2,m3,hp,hq,hr,hs,w1,w2,w3,w4,w5,w6,w7,w8,wlo,IntKind.bits];exact hK
 refine aW ?_ fun K hK=>by simp -dsimp [m1,m2,m3,hp,hq,hr,hs,w1,w2,w3,w4,w5,w6,w7,w8,wlo,IntKind.bits];exact hK
 refine aW ?_ fun K hK=>by simp -dsimp [m1,m2,m3,hp,hq,hr,hs,w1,w2,w3,w4,w5,w6,w7,w8,wlo,IntKind.bits];exact hK
 refine aW ?_ fun K hK=>by simp -dsimp [m1,m2,m3,hp,hq,hr,hs,w1,w2,w3,w4,w5,w6,w7,w8,wlo,IntKind.bits];exact hK
 refine aW ?_ fun K hK=>by simp -dsimp [m1,m2,m3,hp,hq,hr,hs,w1,w2,w3,w4,w5,w6,w7,w8,wlo,IntKind.bits];exact hK
 refine aW ?_ fun K hK=>by simp -dsimp [m1,m2,m3,hp,hq,hr,hs,w1,w2,w3,w4,w5,w6,w7,w8,wlo,IntKind.bits];exact hK
 refine aW ?_ fun K hK=>by simp -dsimp [m1,m2,m3,hp,hq,hr,hs,w1,w2,w3,w4,w5,w6,w7,w8,wlo,IntKind.bits];exact hK
 refine aW ?_ fun K hK=>by simp -dsimp [m1,m2,m3,hp,hq,hr,hs,w1,w2,w3,w4,w5,w6,w7,w8,wlo,IntKind.bits];exact hK
 refine aW ?_ fun K hK=>by simp -dsimp [m1,m2,m3,hp,hq,hr,hs,w1,w2,w3,w4,w5,w6,w7,w8,wlo,IntKind.bits];exact hK
 exact a7 (by simp)
end Go.Tram
end
section
namespace Go.Tram
open Go.AM Go.Proofs
attribute [-simp] b7I a9x
theorem Q9 (a b:Int):b7I a b=min a b:=by unfold b7I;split<;>omega
theorem C6 (a b:Int):a9x a b=max a b:=by unfold a9x;split<;>omega
def orI:List Int→Int
 |[]=>0
 |x::r=>if x≠0 then x else orI r
theorem b4A:∀{l:List Int} {k:Nat} {x:Int},l[k]?=some x→x≠0→(l.take k).all (· ==0)=true→orI l=x
 |[],k,x,h,_,_=>by simp at h
 |y::l,0,x,h,hx,_=>by simp at h;subst h;simp[orI,hx]
 |y::l,k+1,x,h,hx,ha=>by
  simp at h ha;unfold orI;rw[if_neg (by simp[ha.1])];exact b4A h hx (by simpa using ha.2)
theorem b1s:∀{l:List Int},l.all (· ==0)=true→orI l=0
 |[],_=>rfl
 |y::l,ha=>by
  simp at ha;unfold orI;rw[if_neg (by simp[ha.1])];exact b1s (by simpa using ha.2)
theorem c6E (l:List Int) (hn:l.length≤1000):a8 Tryz.prog 238 [.full 1 (l.map fun x=>[I x])] (I (orI l)):=by
 refine oB Tryz.func238 Tryz.ntmps238 Tryz.results238 ?_;refine aW ?_;refine aW ?_;refine a5 fun K1 hK1=>?_;refine aW ?_;refine a9 ?_;refine aP [3,6,7,8] ?_;refine c5 [3,6,7] (α:=Nat) (fun k=>[(8,I k)]) (fun _=>[]) (fun k=>k≤l.length∧(l.take k).all (· ==0)=true) (fun k=>l.length-k) 0 ?_ ?_ ?_
 ·simp
 ·exact c7 (by simp)
 rintro k ⟨k1,k2⟩;refine zN ?_;refine aW ?_;refine a5 fun K2 hK2=>?_;refine a6 rfl (fun hc0=>?_) (fun hc0=>?_)
 ·skip
  try simp at hc0
  obtain⟨x,hx⟩:=gx (l:=l) (i:=k) hc0;have wk:=zW k (by omega);refine b8 ?_;refine zQ (hK2 _ _ ?_);refine aP [3,6,7,8] ?_;refine a5 fun K3 hK3=>?_;refine a9 ?_;refine aW ?_ fun K hK=>by simp -dsimp [hx];exact hK
  refine aW ?_;refine a6 rfl (fun hc1=>?_) (fun hc1=>?_)
  ·skip
   try simp at hc1
   have ho:=b4A hx hc1 k2;refine aW ?_;exact a7 (by simp[ho])
  ·skip
   try simp at hc1
   refine b8 ?_;refine zQ (hK3 _ _ ?_);refine aP [3,6,7,8] ?_;refine aV ?_ fun K hK=>by simp -dsimp [wk];exact hK
   refine zQ ?_;exact⟨k+1,⟨by omega,by rw[a0k hx,k2];simp[hc1]⟩,by omega,c7 (by simp)⟩
 ·skip
  try simp at hc0
  have ho:=b1s (V5 (by omega) k2);refine c9 ?_;refine zQ (hK1 _ _ ?_);refine aP [3] ?_;refine aW ?_;exact a7 (by simp[ho])
theorem b5N:(Tryz.prog).underlying 305=some (.int .u64):=by kernel_rfl
theorem b5J (n:Int) (w:World):(convert 3 305 (.int .i64 n)).run Tryz.prog w= .ok (.int .u64 (IntKind.u64.wrap n)) w:=by
 simp[convert,run_underlying a4R,run_underlying b5N,Conv.intToInt]
theorem a8D (a b:Int) (ha:0≤a) (ha':a<9223372036854775808) (hb:0≤b) (hb':b<9223372036854775808):
  a8 Tryz.prog 234 [I a,I b] (.agg [U (a*b/18446744073709551616),U (a*b % 18446744073709551616)]):=by
 have wa:IntKind.u64.wrap a=a:=W5 (by omega) (by omega);have wb:IntKind.u64.wrap b=b:=W5 (by omega) (by omega);refine oB Tryz.func234 Tryz.ntmps234 Tryz.results234 ?_;refine aW ?_;refine aW ?_ fun K hK=>by simp -dsimp;refine⟨_,b5J a,?_⟩;simp -dsimp [wa];refine⟨_,b5J b,?_⟩;simp -dsimp [wb];refine cI (b9L a b ha (by omega) hb (by omega)) ?_;simp -dsimp;exact hK
 refine aW ?_;exact a7 (by simp)
theorem b2k (p q:Int):a8 Tryz.prog 235 [.agg [U (p/18446744073709551616),U (p % 18446744073709551616)], .agg [U (q/18446744073709551616),U (q % 18446744073709551616)]] (I (N3 p q)):=by
 have ho:orI [N3 (p/18446744073709551616) (q/18446744073709551616),N3 (p % 18446744073709551616) (q % 18446744073709551616)]=N3 p q:=by
  rw[←b4c (p:=p) (q:=q) 18446744073709551616 (by omega)];simp only[orI]
  split
  ·rfl
  ·split
   ·rfl
   ·rename_i h;simp at h;exact h.symm
 have hc:=c6E [N3 (p/18446744073709551616) (q/18446744073709551616),N3 (p % 18446744073709551616) (q % 18446744073709551616)] (by simp);rw[ho]at hc;refine oB Tryz.func235 Tryz.ntmps235 Tryz.results235 ?_;refine aW ?_;refine aD ?_ fun K hK=>by simp -dsimp;refine cI (a5H _ _) ?_;simp -dsimp;refine cI (a5H _ _) ?_;simp -dsimp;refine cI (hc) ?_;simp -dsimp;exact hK
 exact a7 (by simp)
@[simp] def c5U (a b:Spot):List AV:=[I a.X,I a.Y,I b.X,I b.Y]
abbrev seg (a b:Spot):AV:= .agg (c5U a b)
theorem b0q (a b p:Spot) (ha:j9 a=true) (hb:j9 b=true) (hp:j9 p=true):a8 Tryz.prog 236 [seg a b,p.av] (I (J7 a b p)):=by
 refine oB Tryz.func236 Tryz.ntmps236 Tryz.results236 ?_;refine aW ?_;refine aD ?_ fun K hK=>by simp -dsimp;refine cI (a1G a b ha hb) ?_;simp -dsimp;refine cI (a1G a p ha hp) ?_;simp -dsimp;refine cI (a9d a b a p ha hb ha hp) ?_;simp -dsimp;refine cI (a1c _ _) ?_;simp -dsimp;exact hK
 exact a7 (by simp[J7])
theorem b5y (a b c d:Spot) (ha:j9 a=true) (hb:j9 b=true) (hc:j9 c=true) (hd:j9 d=true):a8 Tryz.prog 231 [seg a b,seg c d] (Bo (U3 a b c d)):=by
 have w:∀{x y:Int},-1≤x∧x≤1→ -1≤y∧y≤1→IntKind.i64.wrap (x*y)=x*y:=by
  intro x y hx hy;have:=y3 (a:=x) (b:=y) (A:=1) (B:=1) hx.1 hx.2 hy.1 hy.2;exact c4 (by omega) (by omega)
 have w1:IntKind.i64.wrap (J7 a b c*J7 a b d)=J7 a b c*J7 a b d:=w a0b a0b;have w2:IntKind.i64.wrap (J7 c d a*J7 c d b)=J7 c d a*J7 c d b:=w a0b a0b;refine oB Tryz.func231 Tryz.ntmps231 Tryz.results231 ?_;refine aW ?_;refine aD ?_ fun K hK=>by simp -dsimp [w1,w2];refine cI (b0q a b c ha hb hc) ?_;simp -dsimp [w1,w2];refine cI (b0q a b d ha hb hd) ?_;simp -dsimp [w1,w2];refine cY (fun hm=>b0q c d a hc hd ha) ?_;simp -dsimp [w1,w2];refine cY (fun hm=>b0q c d b hc hd hb) ?_;simp -dsimp [w1,w2];exact hK
 exact a7 (by simp[U3])
theorem a0c (a b p:Spot) (d:Int) (ha:j9 a=true) (hb:j9 b=true) (hp:j9 p=true) (h0:0≤d) (h1:d≤1000000):a8 Tryz.prog 223 [seg a b,p.av,I d] (I (x5 a b p d)):=by
 have m1:=y3 (a:=d) (b:=d) (A:=1000000) (B:=1000000) (by omega) (by omega) (by omega) (by omega);have hdd:=b2J d;have w1:IntKind.i64.wrap (d*d)=d*d:=c4 (by omega) (by omega);have hl:=a0Y ha hb ha hb;have hl0:=a6v a b;have hc:=a7Q ha hb ha hp;have w2:IntKind.i64.wrap (0-j4 a b a p)=-j4 a b a p:=by rw[c4 (by omega) (by omega)];omega
 have w2':IntKind.i64.wrap (-j4 a b a p)=-j4 a b a p:=c4 (by omega) (by omega);have hm:max (j4 a b a p) (-j4 a b a p)*max (j4 a b a p) (-j4 a b a p)=j4 a b a p*j4 a b a p:=by
  rcases Int.le_total (j4 a b a p) (-j4 a b a p)with h|h
  ·rw[Int.max_eq_right h,Int.neg_mul_neg]
  ·rw[Int.max_eq_left h]
 refine oB Tryz.func223 Tryz.ntmps223 Tryz.results223 ?_;refine aW ?_;refine aD ?_ fun K hK=>by simp -dsimp;refine cI (a1G a b ha hb) ?_;simp -dsimp;refine cI (a1G a p ha hp) ?_;simp -dsimp;exact hK
 refine aW ?_ fun K hK=>by simp -dsimp;refine cI (a7u a b a p ha hb ha hp) ?_;simp -dsimp;exact hK
 refine a5 fun K1 hK1=>?_;refine a9 ?_;refine aW ?_;refine a6 rfl (fun hc0=>?_) (fun hc0=>?_)
 ·skip
  try simp at hc0
  refine aW ?_ fun K hK=>by simp -dsimp [w1];refine cI (a7u a p a p ha hp ha hp) ?_;simp -dsimp [w1];refine cI (a1c _ _) ?_;simp -dsimp [w1];exact hK
  exact a7 (by simp[x5,hc0])
 ·skip
  try simp at hc0
  have hc0':¬y6 a b a p≤0:=by omega
  refine aW ?_ fun K hK=>by simp -dsimp;refine cI (a7u a b a b ha hb ha hb) ?_;simp -dsimp;exact hK
  refine a6 rfl (fun hc1=>?_) (fun hc1=>?_)
  ·skip
   try simp at hc1
   refine aW ?_ fun K hK=>by simp -dsimp;refine cI (a1G b p hb hp) ?_;simp -dsimp;exact hK
   refine aW ?_ fun K hK=>by simp -dsimp [w1];refine cI (a7u b p b p hb hp hb hp) ?_;simp -dsimp [w1];refine cI (a1c _ _) ?_;simp -dsimp [w1];exact hK
   exact a7 (by simp[x5,hc0',hc1])
  ·skip
   try simp at hc1
   have hc1':¬y6 a b a b≤y6 a b a p:=by omega
   refine b8 ?_;refine zQ (hK1 _ _ ?_);refine aP [2,7,8] ?_;refine aW ?_ fun K hK=>by simp -dsimp;refine cI (a9d a b a p ha hb ha hp) ?_;simp -dsimp;exact hK
   refine aW ?_ fun K hK=>by simp -dsimp [w2,w2',C6];exact hK
   refine aD ?_ fun K hK=>by simp -dsimp [w1];refine cI (a8D (max (j4 a b a p) (-j4 a b a p)) (max (j4 a b a p) (-j4 a b a p)) (by omega) (by omega) (by omega) (by omega)) ?_;simp -dsimp [w1];refine cI (a7u a b a b ha hb ha hb) ?_;simp -dsimp [w1];refine cI (a8D (d*d) (y6 a b a b) hdd (by omega) hl0 (by omega)) ?_;simp -dsimp [w1];refine cI (b2k _ _) ?_;simp -dsimp [w1];exact hK
   exact a7 (by simp[x5,hc0',hc1',hm])
theorem c0l (a b c d:Spot) (r:Int) (ha:j9 a=true) (hb:j9 b=true) (hc:j9 c=true) (hd:j9 d=true) (h0:0≤r) (h1:r≤1000000):a8 Tryz.prog 220 [seg a b,seg c d,I r] (I (apart a b c d r)):=by
 refine oB Tryz.func220 Tryz.ntmps220 Tryz.results220 ?_;refine aW ?_;refine a5 fun K1 hK1=>?_;refine aW ?_ fun K hK=>by simp -dsimp;refine cI (b5y a b c d ha hb hc hd) ?_;simp -dsimp;exact hK
 refine a6 rfl (fun hc0=>?_) (fun hc0=>?_)
 ·skip
  try simp at hc0
  refine aW ?_ fun K hK=>by simp -dsimp;refine cI (a1c _ _) ?_;simp -dsimp;exact hK
  exact a7 (by simp[apart,hc0])
 ·skip
  try simp at hc0
  refine b8 ?_;refine zQ (hK1 _ _ ?_);refine aP [2,3,4] ?_;refine aD ?_ fun K hK=>by simp -dsimp [Q9];refine cI (a0c a b c r ha hb hc h0 h1) ?_;simp -dsimp [Q9];refine cI (a0c a b d r ha hb hd h0 h1) ?_;simp -dsimp [Q9];refine cI (a0c c d a r hc hd ha h0 h1) ?_;simp -dsimp [Q9];refine cI (a0c c d b r hc hd hb h0 h1) ?_;simp -dsimp [Q9];exact hK
  exact a7 (by simp[apart,hc0,c2r])
end Go.Tram
end
section
namespace Go.Tram
open Go.AM Go.Proofs
theorem b3T {nt:Nat} {T:Tm} {H:Hp} (g:List (Option Nat)) (hn:L6 g=true):Go.AM.Sub nt T H (T.map fun p=>(p.1,a0J (g7 H) g 3 (Go.AM.i7 T p.1))) (a1x H g):=by
 refine b3P g hn ?_ rfl;have gen:∀l:Tm,a4b H g T (l.map fun p=>(p.1,a0J (g7 H) g 3 (Go.AM.i7 T p.1))):=by
  intro l
  induction l with
  |nil=>trivial
  |cons x l ih=>exact⟨Or.inr rfl,ih⟩
 exact gen T
def V8:AV→Bool
 | .v _=>true
 | .lst _ _=>true
 | .full _ _=>true
 | .iptr _=>true
 |_=>false
theorem O3 {x:AV} (h:V8 x=true) (g:List (Option Nat)) (n:Nat):o9 g n x=x:=by cases x<;>first|(cases n<;>rfl)|cases h
theorem a2e {x:AV} (h:V8 x=true) (H:Nat→Option l7) (g:List (Option Nat)) (n:Nat):a0J H g n x=x:=by cases x<;>first|(cases n<;>rfl)|cases h
theorem N1 {x:AV} (h:V8 x=true) (H:Hp) (n:Nat):J4 H n x=x:=by cases x<;>first|(cases n<;>rfl)|cases h
theorem v8 {f:AV→AV} (hf:∀x,V8 x=true→f x=x) {es:List (List AV)} (h:es.all (fun e=>e.all V8)=true):es.map (fun e=>e.map f)=es:=by
 have:es.map (fun e=>e.map f)=es.map id:=by
  refine List.map_congr_left fun e he=>?_;have he':=List.all_eq_true.1 h e he;have:e.map f=e.map id:=List.map_congr_left fun x hx=>hf x (List.all_eq_true.1 he' x hx);simpa using this
 simpa using this
theorem a5L (l:List Spot):(l.map Spot.cells).all (fun e=>e.all V8)=true:=by simp[V8]
theorem b3H (l:List SS):(l.map SS.cells).all (fun e=>e.all V8)=true:=by simp[V8]
theorem a2o (p:Plan) (n:Nat):(j6 p n).all (fun e=>e.all V8)=true:=by simp[j6,V8]
@[simp high] theorem b6m (l:List Spot) (g:List (Option Nat)) (n:Nat):(l.map Spot.cells).map (fun e=>e.map (o9 g n))=l.map Spot.cells:=v8 (fun x h=>O3 h g n) (a5L l)
@[simp high] theorem b5a (l:List Spot) (H:Hp) (n:Nat):(l.map Spot.cells).map (fun e=>e.map (J4 H n))=l.map Spot.cells:=v8 (fun x h=>N1 h H n) (a5L l)
@[simp high] theorem c1M (l:List SS) (g:List (Option Nat)) (n:Nat):(l.map SS.cells).map (fun e=>e.map (o9 g n))=l.map SS.cells:=v8 (fun x h=>O3 h g n) (b3H l)
@[simp high] theorem b9q (l:List SS) (H:Nat→Option l7) (g:List (Option Nat)) (n:Nat):(l.map SS.cells).map (fun e=>e.map (a0J H g n))=l.map SS.cells:=v8 (fun x h=>a2e h H g n) (b3H l)
@[simp high] theorem c3z (p:Plan) (k:Nat) (g:List (Option Nat)) (n:Nat):(j6 p k).map (fun e=>e.map (o9 g n))=j6 p k:=v8 (fun x h=>O3 h g n) (a2o p k)
@[simp high] theorem c2q (p:Plan) (k:Nat) (H:Nat→Option l7) (g:List (Option Nat)) (n:Nat):(j6 p k).map (fun e=>e.map (a0J H g n))=j6 p k:=v8 (fun x h=>a2e h H g n) (a2o p k)
@[simp high] theorem c2f (p:Plan) (k:Nat) (H:Hp) (n:Nat):(j6 p k).map (fun e=>e.map (J4 H n))=j6 p k:=v8 (fun x h=>N1 h H n) (a2o p k)
theorem a6C (p:Plan) (n:Nat):(j6 p n).length=n:=by simp[j6]
theorem a5e (p:Plan) (n:Nat):j6 p (n+1)=j6 p n++[[.lst 9 ((p.strips (n:Int)).map SS.cells)]]:=by simp[j6,List.range_succ]
theorem a7d {p:Plan} {n k:Nat} (h:k<n):(j6 p n)[k]?=some [.lst 9 ((p.strips (k:Int)).map SS.cells)]:=by simp[j6,h]
theorem a2R (l:List Spot) (r:Int) (n:Nat):(z8 l r n).length=n:=by simp[z8]
theorem a7e (l:List Spot) (r:Int) (n:Nat):z8 l r (n+1)=z8 l r n++[o3 l r n]:=by simp[z8,List.range_succ]
def D7 (l:List Spot) (j m:Nat):List Spot:=(List.range m).flatMap fun i=>J6 l (j+i)
theorem T8 (l:List Spot) (j m:Nat):D7 l j (m+1)=D7 l j m++J6 l (j+m):=by simp[D7,List.range_succ]
theorem a2x (l:List Spot) (j:Nat):∀m,(D7 l j m).length≤m
 |0=>by simp[D7]
 |m+1=>by
  have h1:=a2x l j m;have h2:=a1C l (j+m);rw[T8,List.length_append];omega
theorem V9 (l:List Spot) (j m:Nat):((D7 l j m).map Spot.cells).take (D7 l j m).length=(D7 l j m).map Spot.cells:=List.take_of_length_le (by simp)
theorem a1Q (l:List Spot) (r:Int) (n:Nat):((z8 l r n).map SS.cells).take n=(z8 l r n).map SS.cells:=List.take_of_length_le (by simp[z8])
theorem a6d (l:List Spot) (j:Nat):D7 l j 2=J6 l j++J6 l (j+1):=by simp[D7,List.range_succ]
theorem c3o (l:List Spot) (k:Nat) (hk:k<l.length) (hl:l.length≤1000) (hs:l.all j9=true):a8 Tryz.prog 153 [I k, .iptr [.lst 2 (l.map Spot.cells)]] (Bo (a7O l k)):=by
 have hb:∀i,i<l.length→j9 (nth l i)=true:=fun i hi=>List.all_eq_true.1 hs _ (List.mem_of_getElem? (y5 hi));have w1:IntKind.i64.wrap ((l.length:Int)-1)=(l.length:Int)-1:=c4 (by omega) (by omega);have w2:0<k→IntKind.i64.wrap ((k:Int)-1)=((k-1:Nat):Int):=fun h=>by rw[c4 (by omega) (by omega)];omega
 have w3:IntKind.i64.wrap ((k:Int)+1)=((k+1:Nat):Int):=by rw[c4 (by omega) (by omega)];omega
 have g0:(l.map Spot.cells)[k-1]?=some (nth l (k-1)).cells:=by rw[List.getElem?_map,y5 (by omega)];rfl
 have g1:(l.map Spot.cells)[k]?=some (nth l k).cells:=by rw[List.getElem?_map,y5 hk];rfl
 have g2:k+1<l.length→(l.map Spot.cells)[k+1]?=some (nth l (k+1)).cells:=fun h=>by rw[List.getElem?_map,y5 h];rfl
 refine oB Tryz.func153 Tryz.ntmps153 Tryz.results153 ?_;refine aW ?_;refine b0F a1m rfl fun K hK=>?_;simp -dsimp [w1,w3];refine⟨by intros;rw[w2 (by omega)];omega,k7 (nth l (k-1)).cells (fun hm=>by simp at hm;rw[w2 hm.1];exact g0) ?_⟩;simp -dsimp [w3];refine k7 (nth l k).cells (fun _=>g1) ?_;simp -dsimp [w1,w3];refine cY (fun hm=>a1G (nth l (k-1)) (nth l k) (hb _ (by omega)) (hb _ (by omega))) ?_;simp -dsimp [w1,w3];refine k7 (nth l k).cells (fun _=>g1) ?_;simp -dsimp [w1,w3];refine⟨by intros;omega,k7 (nth l (k+1)).cells (fun hm=>by simp at hm;exact g2 (by omega)) ?_⟩;simp -dsimp;refine cY (fun hm=>a1G (nth l k) (nth l (k+1)) (hb _ (by omega)) (hb _ (by simp at hm;omega))) ?_;simp -dsimp [w1,w3];refine cY (fun hm=>b3q (nth l (k-1)) (nth l k) (nth l k) (nth l (k+1)) (hb _ (by omega)) (hb _ (by omega)) (hb _ (by omega)) (hb _ (by simp at hm;omega))) ?_;simp -dsimp [w1,w3];refine hK _ _ _ (by decide+kernel) ?_;clear hK K;have hdec:decide ((k:Int)<(l.length:Int)-1)=decide (k+1<l.length):=decide_eq_decide.2 (by omega);refine a7 ?_;simp[a7O,S6,hdec,Bool.and_assoc]
theorem b5h (p:Plan) (h:d8 p=true):a8 Tryz.prog 117 [p.av] (.tup [.iptr (a3f p),Bo true]):=by
 have hck:=a0S p;rw[h]at hck;obtain⟨hN,hR,hA,hB,_⟩:=j7 h;refine oB Tryz.func117 Tryz.ntmps117 Tryz.results117 ?_;refine aW ?_;refine a5 fun K1 hK1=>?_;refine aW ?_ fun K hK=>by simp -dsimp;refine cI (hck) ?_;simp -dsimp;exact hK
 refine a6 rfl (fun hc0=>?_) (fun hc0=>?_)
 ·simp at hc0
 ·refine b8 ?_;refine zQ (hK1 _ _ ?_);refine aP [1] ?_;refine aW ?_;refine a5 fun K2 hK2=>?_;refine aW ?_;refine a9 ?_;refine aP [1,4,24,25] ?_;refine c5 [1,4,24] (α:=Nat) (fun k=>[(25,I k)]) (fun k=>[some (.els 2 [p.cells]),some (.els 3 [p.cells++[.row 2 0 (j6 p k).length]]),some (.els 1 (j6 p k))]) (fun k=>k≤p.Rails.length) (fun k=>p.Rails.length-k) 0 ?_ ?_ ?_
  ·simp
  ·exact(a3y 1 0 2 1 (es:=[p.cells++[.v (.slice none 0 0)]]) (e:=p.cells++[.v (.slice none 0 0)]) (by simp) (by simp) (by simp)).trans (c7 (by simp[j6]))
  rintro k k1;refine zN ?_;refine aW ?_;refine a5 fun K3 hK3=>?_;refine a6 rfl (fun hc1=>?_) (fun hc1=>?_)
  ·skip
   try simp at hc1
   have ro:=P0 h (r:=(k:Int)) (by omega) (by omega);have hl:=ro.len;have hs30:=ro.s;have wk:=zW k (by omega);have f1:Q5 (k+1) 25:=l8 (by omega) (by omega);have hll:=a6C p k;have htk:(j6 p k).take k=j6 p k:=List.take_of_length_le (by omega);refine b8 ?_;refine zQ (hK3 _ _ ?_);refine aP [1,4,24,25] ?_;refine a5 fun K4 hK4=>?_;refine a9 ?_;refine aW ?_;refine aW ?_ fun K hK=>by simp -dsimp;refine cI (c1s p k h (by omega) (by omega)) ?_;simp -dsimp;exact hK
   refine a5 fun K5 hK5=>?_;refine aW ?_;refine a6 rfl (fun hc2=>?_) (fun hc2=>?_)
   ·simp at hc2
   ·have wl:IntKind.i64.wrap (((p.line k).length:Int)-1)=(((p.rail k).Shape.length+1:Nat):Int):=by rw[c4 (by omega) (by omega)];omega
    refine b8 ?_;refine zQ (hK5 _ _ ?_);refine aP [1,4,5,6,24,25] ?_;refine aW ?_;refine aW ?_;refine aW ?_;refine a5 fun K6 hK6=>?_;refine aW ?_ fun K hK=>by simp -dsimp [wl];exact hK
    refine a9 ?_;refine aP [1,4,5,6,8,9,10,24,25,39,40] ?_;refine c5 [1,4,5,6,8,24,25,39] (α:=Nat) (fun j=>[(9, .row 4 0 j),(10,I (L9 (p.line k) j)),(40,I j)]) (fun j=>[some (.els 2 [p.cells]),some (.els 3 [p.cells++[.row 2 0 (j6 p k).length]]),some (.els 1 (j6 p k)),some (.els 1 [[.lst 2 ((p.line k).map Spot.cells)]]),some (.els 9 ((z8 (p.line k) k j).map SS.cells))]) (fun j=>j≤(p.rail k).Shape.length+1) (fun j=>(p.rail k).Shape.length+1-j) 0 ?_ ?_ ?_
    ·simp
    ·exact(Y9 9 9 (by simp)).trans (c7 (by simp[z8,L9]))
    rintro j j1;refine zN ?_;refine aW ?_;refine a5 fun K7 hK7=>?_;refine a6 rfl (fun hc3=>?_) (fun hc3=>?_)
    ·skip
     try simp at hc3
     have g1:=y5 (l:=p.line k) (k:=j) (by omega);have g2:=y5 (l:=p.line k) (k:=j+1) (by omega);have wj:=zW j (by omega);have sa:=ro.spot j (by omega);have sb:=ro.spot (j+1) (by omega);have hd:=a0Y sa sb sa sb;have hd0:=a6v (nth (p.line k) j) (nth (p.line k) (j+1));have hsb:=a1p ro j (by omega);have hsb1:=a1p ro (j+1) (by omega);have hseg:isq (y6 (nth (p.line k) j) (nth (p.line k) (j+1)) (nth (p.line k) j) (nth (p.line k) (j+1)))=C8 (p.line k) j:=by rw[a1g];unfold C8 far;rfl
     have wsum:IntKind.i64.wrap (L9 (p.line k) j+isq (y6 (nth (p.line k) j) (nth (p.line k) (j+1)) (nth (p.line k) j) (nth (p.line k) (j+1))))=L9 (p.line k) (j+1):=by rw[hseg];exact c4 (by simp only[L9]at hsb1;omega) (by simp only[L9]at hsb1;omega)
     have f2:Q5 (j+1) 89:=l8 (by omega) (by omega);have hsl:=a2R (p.line k) k j;refine b8 ?_;refine zQ (hK7 _ _ ?_);refine aP [1,4,5,6,8,9,10,24,25,39,40] ?_;refine a5 fun K8 hK8=>?_;refine a9 ?_;refine aW ?_;refine aD ?_ fun K hK=>by simp -dsimp [wj,g1,g2];refine⟨by omega,?_⟩;exact hK
     refine aW ?_ fun K hK=>by simp -dsimp;refine cI (a1G _ _ sa sb) ?_;simp -dsimp;exact hK
     refine aW ?_ fun K hK=>by simp -dsimp [wsum];refine cI (a7u _ _ _ _ sa sb sa sb) ?_;simp -dsimp [wsum];refine cI (c0E _ hd0 (by omega)) ?_;simp -dsimp [wsum];exact hK
     refine aW ?_;refine a5 fun K9 hK9=>?_;refine aW ?_ fun K hK=>by simp -dsimp [wj];exact hK
     refine a9 ?_;refine aP [1,4,5,6,8,9,10,12,24,25,39,40,76,77,78] ?_;refine c5 [1,4,5,6,8,9,10,12,24,25,39,40,76,77] (α:=Nat) (fun m=>[(78,I m)]) (fun m=>[some (.els 2 [p.cells]),some (.els 3 [p.cells++[.row 2 0 (j6 p k).length]]),some (.els 1 (j6 p k)),some (.els 1 [[.lst 2 ((p.line k).map Spot.cells)]]),some (.els 9 ((z8 (p.line k) k j).map SS.cells)),some (.els 9 [[I k,I j,I (nth (p.line k) j).X,I (nth (p.line k) j).Y,I (nth (p.line k) (j+1)).X,I (nth (p.line k) (j+1)).Y, .row 6 0 (D7 (p.line k) j m).length,I (L9 (p.line k) j),I (L9 (p.line k) (j+1))]]),some (.els 2 ((D7 (p.line k) j m).map Spot.cells))]) (fun m=>m≤2) (fun m=>2-m) 0 ?_ ?_ ?_
     ·simp
     ·refine(a3y 5 0 6 2 (sz0:=9) (by simp;rfl) (by simp;rfl) (by simp)).trans ?_;exact e8 [some 0,some 1,some 2,some 3,some 4,some 5,some 7] rfl (by simp) (by simp[D7])
     rintro m m1;refine zN ?_;refine aW ?_;refine a5 fun K10 hK10=>?_;refine a6 rfl (fun hc4=>?_) (fun hc4=>?_)
     ·skip
      try simp at hc4
      have hx:([[I (j:Int)],[I ((j:Int)+1)]]:List (List AV))[m]?=some [I ((j:Int)+(m:Int))]:=by
       have:m=0∨m=1:=by omega
       rcases this with rfl|rfl<;>simp
      have gm:=y5 (l:=p.line k) (k:=j+m) (by omega);have wm:=zW m (by omega);have hbl:=a1C (p.line k) j;have hbtl:=a2x (p.line k) j m;have hbt:=V9 (p.line k) j m;have f3:Q5 ((D7 (p.line k) j m).length+1) 17:=l8 (by omega) (by omega);have hcb:=c3o (p.line k) (j+m) (by omega) (by omega) ro.spots;rw[Int.natCast_add]at hcb;have htn:((j:Int)+(m:Int)).toNat=j+m:=by omega
      refine b8 ?_;refine zQ (hK10 _ _ ?_);refine aP [1,4,5,6,8,9,10,12,24,25,39,40,76,77,78] ?_;refine a5 fun K11 hK11=>?_;refine a9 ?_;refine aW ?_ fun K hK=>by simp -dsimp [hx];exact hK
      refine aW ?_ fun K hK=>by simp -dsimp;refine cI (hcb) ?_;simp -dsimp;exact hK
      refine a6 rfl (fun hc5=>?_) (fun hc5=>?_)
      ·skip
       try simp at hc5
       refine aE ?_ fun K hK=>by simp -dsimp [gm,f3,htn];refine⟨by omega,?_⟩;exact hK
       refine zQ (hK11 _ _ ?_);refine aP [1,4,5,6,8,9,10,12,24,25,39,40,76,77,78] ?_;refine aV ?_ fun K hK=>by simp -dsimp [wm];exact hK
       refine zQ ?_;exact⟨m+1,by omega,by omega,e8 [some 0,some 1,some 2,some 3,some 4,some 5,some 7] rfl (by simp) (by simp[T8,J6,hc5,hbt])⟩
      ·skip
       try simp at hc5
       refine b8 ?_;refine zQ (hK11 _ _ ?_);refine aP [1,4,5,6,8,9,10,12,24,25,39,40,76,77,78] ?_;refine aV ?_ fun K hK=>by simp -dsimp [wm];exact hK
       refine zQ ?_;exact⟨m+1,by omega,by omega,e8 [some 0,some 1,some 2,some 3,some 4,some 5,some 6] rfl (by simp) (by simp[T8,J6,hc5])⟩
     ·skip
      try simp at hc4
      have hm2:m=2:=by omega
      subst hm2;refine a3J (b3T [some 0,some 1,some 2,some 3,some 4,some 5] rfl) ?_;simp[V9];refine c9 ?_;refine zQ (hK9 _ _ ?_);refine aP [1,4,5,6,8,9,10,12,24,25,39,40] ?_;refine aV ?_ fun K hK=>by simp -dsimp [hsl,f2];exact hK
      refine zQ (hK8 _ _ ?_);refine aP [1,4,5,6,8,9,10,24,25,39,40] ?_;refine aV ?_ fun K hK=>by simp -dsimp [wj];exact hK
      refine zQ ?_;have hso:o3 (p.line k) k j=⟨k,j,nth (p.line k) j,nth (p.line k) (j+1),D7 (p.line k) j 2,L9 (p.line k) j,L9 (p.line k) (j+1)⟩:=by simp[o3,a6d]
      exact⟨j+1,by omega,by omega,e8 [some 0,some 1,some 2,some 3,some 6] rfl (by simp) (by simp[a7e,hso,a1Q])⟩
    ·skip
     try simp at hc3
     have hjj:j=(p.rail k).Shape.length+1:=by omega
     subst hjj;refine a3J (b3T [some 0,some 1,some 2,some 3] rfl) ?_;simp[a1Q,a2R];refine c9 ?_;refine zQ (hK6 _ _ ?_);refine aP [1,4,9,24,25] ?_;refine aV ?_ fun K hK=>by simp -dsimp [hll,f1];exact hK
     refine zQ (hK4 _ _ ?_);refine aP [1,4,24,25] ?_;refine aV ?_ fun K hK=>by simp -dsimp [wk];exact hK
     refine zQ ?_;exact⟨k+1,by omega,by omega,e8 [some 0,some 1,some 4] rfl (by simp) (by simp[a5e,htk,hll,Plan.strips])⟩
  ·skip
   try simp at hc1
   have hk:k=p.Rails.length:=by omega
   subst hk;have htk:(j6 p p.Rails.length).take (j6 p p.Rails.length).length=j6 p p.Rails.length:=List.take_of_length_le (Nat.le_refl _);refine c9 ?_;refine zQ (hK2 _ _ ?_);refine aP [4] ?_;refine aW ?_;exact a7 (by simp[a3f,htk])
end Go.Tram
end
section
namespace Go.Tram
open Go.AM Go.Proofs
theorem I7 {x:Profile}:z5 x=true↔(1≤x.Half∧x.Half≤2000)∧0≤x.Swing∧x.Swing≤1500:=by simp[z5,g6]
theorem c1G (x:Profile):a8 Tryz.prog 159 [.agg x.cells] (Bo (!z5 x)):=by
 refine oB Tryz.func159 Tryz.ntmps159 Tryz.results159 ?_;refine aW ?_;refine aW ?_;refine a7 ?_;simp[z5,inr];exact Bool.eq_iff_iff.2 (by simp;omega)
theorem a5T (l:List Profile) (hn:l.length≤100000):a8 Tryz.prog 118 [.lst 2 (l.map Profile.cells)] (Bo (l.all z5)):=by
 have hq:(l.any fun x=> !z5 x)= !l.all z5:=(List.not_all_eq_any_not).symm;have hc:=a5f l 159 [] (fun x=> !z5 x) (fun x _=>c1G x) hn;refine oB Tryz.func118 Tryz.ntmps118 Tryz.results118 ?_;refine aW ?_;refine aW ?_ fun K hK=>by simp -dsimp;refine cI (hc) ?_;simp -dsimp;exact hK
 exact a7 (by simp[hq])
theorem c2y (s t:SS) (x y:Profile) (hs:s.Ok) (ht:t.Ok) (hx:z5 x=true) (hy:z5 y=true):a8 Tryz.prog 203 [s.av,x.av,t.av,y.av] (Bo (decide (apart s.a s.b t.a t.b (x.Half+y.Half)≤0))):=by
 rw[I7]at hx hy;have w:IntKind.i64.wrap (x.Half+y.Half)=x.Half+y.Half:=c4 (by omega) (by omega);refine oB Tryz.func203 Tryz.ntmps203 Tryz.results203 ?_;refine aW ?_;refine aW ?_ fun K hK=>by simp -dsimp [w];refine cI (c0l s.a s.b t.a t.b (x.Half+y.Half) hs.a hs.b ht.a ht.b (by omega) (by omega)) ?_;simp -dsimp [w];exact hK
 exact a7 (by simp)
theorem b8J (t:SS) (x y:Profile) (q:Spot) (ht:t.Ok) (hq:j9 q=true) (hx:z5 x=true) (hy:z5 y=true):
  a8 Tryz.prog 222 [.agg q.cells, .iptr t.cells, .iptr x.cells, .iptr y.cells] (Bo (decide (x5 t.a t.b q (x.Half+x.Swing+y.Half)≤0))):=by
 rw[I7]at hx hy;have w1:IntKind.i64.wrap (x.Half+x.Swing)=x.Half+x.Swing:=c4 (by omega) (by omega);have w2:IntKind.i64.wrap (x.Half+x.Swing+y.Half)=x.Half+x.Swing+y.Half:=c4 (by omega) (by omega);refine oB Tryz.func222 Tryz.ntmps222 Tryz.results222 ?_;refine aW ?_;refine aW ?_ fun K hK=>by simp -dsimp [w1,w2];refine cI (a0c t.a t.b q (x.Half+x.Swing+y.Half) ht.a ht.b hq (by omega) (by omega)) ?_;simp -dsimp [w1,w2];exact hK
 exact a7 (by simp)
theorem b6i (s t:SS) (x y:Profile) (hs:s.Ok) (ht:t.Ok) (hx:z5 x=true) (hy:z5 y=true):a8 Tryz.prog 204 [s.av,x.av,t.av,y.av] (Bo (N8 s t (x.Half+x.Swing+y.Half))):=by
 have hsn:=hs.n;have hc:=a9K s.bends 222 [t.cells,x.cells,y.cells] (fun q=>decide (x5 t.a t.b q (x.Half+x.Swing+y.Half)≤0)) (fun q hq=>b8J t x y q ht (List.all_eq_true.1 hs.l q hq) hx hy) (by omega);refine oB Tryz.func204 Tryz.ntmps204 Tryz.results204 ?_;refine aW ?_;refine aW ?_ fun K hK=>by simp -dsimp;refine cI (hc) ?_;simp -dsimp;exact hK
 exact a7 (by simp[N8])
theorem b8g (s t:SS) (x y:Profile) (hs:s.Ok) (ht:t.Ok) (hx:z5 x=true) (hy:z5 y=true):a8 Tryz.prog 205 [s.av,x.av,t.av,y.av] (Bo (N8 t s (y.Half+y.Swing+x.Half))):=by
 refine oB Tryz.func205 Tryz.ntmps205 Tryz.results205 ?_;refine aW ?_;refine aW ?_ fun K hK=>by simp -dsimp;refine cI (b6i t s y x ht hs hy hx) ?_;simp -dsimp;exact hK
 exact a7 (by simp)
theorem c2D (s t:SS) (x y:Profile) (hs:s.Ok) (ht:t.Ok) (hx:z5 x=true) (hy:z5 y=true):a8 Tryz.prog 206 [s.av,x.av,t.av,y.av] (Bo (a5a s t (x.Half+x.Swing+y.Half+y.Swing))):=by
 rw[I7]at hx hy;have w1:IntKind.i64.wrap (x.Half+x.Swing)=x.Half+x.Swing:=c4 (by omega) (by omega);have w2:IntKind.i64.wrap (x.Half+x.Swing+y.Half)=x.Half+x.Swing+y.Half:=c4 (by omega) (by omega);have w3:IntKind.i64.wrap (x.Half+x.Swing+y.Half+y.Swing)=x.Half+x.Swing+y.Half+y.Swing:=c4 (by omega) (by omega);have hsn:=hs.n;have htn:=ht.n;refine oB Tryz.func206 Tryz.ntmps206 Tryz.results206 ?_;refine aW ?_;refine aW ?_ fun K hK=>by simp -dsimp [w1,w2,w3];exact hK
 refine a5 fun K1 hK1=>?_;refine aW ?_;refine a9 ?_;refine aP [6,9,27,28,29] ?_;refine c5 [6,9,27,28] (α:=Nat) (fun k=>[(29,I k)]) (fun _=>[some (.els 9 [s.cells]),some (.els 2 [x.cells]),some (.els 9 [t.cells]),some (.els 2 [y.cells])]) (fun k=>k≤s.bends.length∧((s.bends.take k).any fun q=>t.bends.any fun r=>decide (y6 q r q r≤(x.Half+x.Swing+y.Half+y.Swing)*(x.Half+x.Swing+y.Half+y.Swing)))=false) (fun k=>s.bends.length-k) 0 ?_ ?_ ?_
 ·simp
 ·exact c7 (by simp)
 rintro k ⟨k1,k2⟩;refine zN ?_;refine aW ?_;refine a5 fun K2 hK2=>?_;refine a6 rfl (fun hc0=>?_) (fun hc0=>?_)
 ·skip
  try simp at hc0
  obtain⟨q,hq⟩:=gx (l:=s.bends) (i:=k) hc0;have wk:=zW k (by omega);have sq:=List.all_eq_true.1 hs.l q (List.mem_of_getElem? hq);refine b8 ?_;refine zQ (hK2 _ _ ?_);refine aP [6,9,27,28,29] ?_;refine a5 fun K3 hK3=>?_;refine a9 ?_;refine aW ?_ fun K hK=>by simp -dsimp [hq];exact hK
  refine aW ?_;refine a9 ?_;refine aP [6,9,11,27,28,29,34,35,36] ?_;refine c5 [6,9,11,27,28,29,34,35] (α:=Nat) (fun j=>[(36,I j)]) (fun _=>[some (.els 9 [s.cells]),some (.els 2 [x.cells]),some (.els 9 [t.cells]),some (.els 2 [y.cells]),some (.els 2 [q.cells])]) (fun j=>j≤t.bends.length∧((t.bends.take j).any fun r=>decide (y6 q r q r≤(x.Half+x.Swing+y.Half+y.Swing)*(x.Half+x.Swing+y.Half+y.Swing)))=false) (fun j=>t.bends.length-j) 0 ?_ ?_ ?_
  ·simp
  ·exact c7 (by simp)
  rintro j ⟨j1,j2⟩;refine zN ?_;refine aW ?_;refine a5 fun K4 hK4=>?_;refine a6 rfl (fun hc1=>?_) (fun hc1=>?_)
  ·skip
   try simp at hc1
   obtain⟨r,hr⟩:=gx (l:=t.bends) (i:=j) hc1;have wj:=zW j (by omega);have sr:=List.all_eq_true.1 ht.l r (List.mem_of_getElem? hr);have hdd:=y3 (a:=x.Half+x.Swing+y.Half+y.Swing) (b:=x.Half+x.Swing+y.Half+y.Swing) (A:=7000) (B:=7000) (by omega) (by omega) (by omega) (by omega);have w4:IntKind.i64.wrap ((x.Half+x.Swing+y.Half+y.Swing)*(x.Half+x.Swing+y.Half+y.Swing))=(x.Half+x.Swing+y.Half+y.Swing)*(x.Half+x.Swing+y.Half+y.Swing):=c4 (by omega) (by omega);refine b8 ?_;refine zQ (hK4 _ _ ?_);refine aP [6,9,11,27,28,29,34,35,36] ?_;refine a5 fun K5 hK5=>?_;refine a9 ?_;refine aW ?_ fun K hK=>by simp -dsimp [hr];exact hK
   refine aW ?_ fun K hK=>by simp -dsimp;refine cI (a1G q r sq sr) ?_;simp -dsimp;exact hK
   refine aW ?_ fun K hK=>by simp -dsimp [w4];refine cI (a7u q r q r sq sr sq sr) ?_;simp -dsimp [w4];exact hK
   refine a6 rfl (fun hc2=>?_) (fun hc2=>?_)
   ·skip
    try simp at hc2
    have hb:a5a s t (x.Half+x.Swing+y.Half+y.Swing)=true:=by
     unfold a5a;rw[List.any_eq_true];exact⟨q,List.mem_of_getElem? hq,List.any_eq_true.2 ⟨r,List.mem_of_getElem? hr,by simpa using hc2⟩⟩
    refine aW ?_;exact a7 (by simp[hb])
   ·skip
    try simp at hc2
    refine b8 ?_;refine zQ (hK5 _ _ ?_);refine aP [6,9,11,27,28,29,34,35,36] ?_;refine aV ?_ fun K hK=>by simp -dsimp [wj];exact hK
    refine zQ ?_;exact⟨j+1,⟨by omega,by rw[any_take hr,j2];simp;omega⟩,by omega,aB [some 0,some 1,some 2,some 3,some 4]⟩
  ·skip
   try simp at hc1
   have hin:=u0 (by omega) j2;refine c9 ?_;refine zQ (hK3 _ _ ?_);refine aP [6,9,27,28,29] ?_;refine aV ?_ fun K hK=>by simp -dsimp [wk];exact hK
   refine zQ ?_;exact⟨k+1,⟨by omega,by rw[any_take hq,k2,hin];rfl⟩,by omega,aB [some 0,some 1,some 2,some 3]⟩
 ·skip
  try simp at hc0
  have hall:=u0 (by omega) k2;have hb:a5a s t (x.Half+x.Swing+y.Half+y.Swing)=false:=hall;refine c9 ?_;refine zQ (hK1 _ _ ?_);refine aP [] ?_;refine aW ?_;exact a7 (by simp[hb])
def a0I:List FuncId:=[203,204,205,206]
def a0K (s:SS) (x:Profile) (t:SS) (y:Profile):List Bool:=[decide (apart s.a s.b t.a t.b (x.Half+y.Half)≤0),N8 s t (x.Half+x.Swing+y.Half),N8 t s (y.Half+y.Swing+x.Half),a5a s t (x.Half+x.Swing+y.Half+y.Swing)]
theorem a4d (s:SS) (x:Profile) (t:SS) (y:Profile):(a0K s x t y).any id=X1 s x t y:=by simp[a0K,X1]
theorem c2a:a8 Tryz.prog 186 [] (.full 1 (a0I.map fun f=>[.clo f []])):=by
 refine oB Tryz.func186 Tryz.ntmps186 Tryz.results186 ?_;refine aW ?_;refine aW ?_;exact a7 (by simp[a0I])
theorem c2Q (s t:SS) (x y:Profile) (hs:s.Ok) (ht:t.Ok) (hx:z5 x=true) (hy:z5 y=true) {k:Nat} {f:FuncId} {b:Bool} (hf:a0I[k]?=some f) (hb:(a0K s x t y)[k]?=some b):
  a8 Tryz.prog f [s.av,x.av,t.av,y.av] (Bo b):=by
 match k,hf,hb with
 |0,hf,hb=>simp[a0I,a0K]at hf hb;subst hf hb;exact c2y s t x y hs ht hx hy
 |1,hf,hb=>simp[a0I,a0K]at hf hb;subst hf hb;exact b6i s t x y hs ht hx hy
 |2,hf,hb=>simp[a0I,a0K]at hf hb;subst hf hb;exact b8g s t x y hs ht hx hy
 |3,hf,hb=>simp[a0I,a0K]at hf hb;subst hf hb;exact c2D s t x y hs ht hx hy
 |k+4,hf,hb=>simp[a0I]at hf
theorem c3U (s t:SS) (x y:Profile) (hs:s.Ok) (ht:t.Ok) (hx:z5 x=true) (hy:z5 y=true):a8 Tryz.prog 162 [s.av,x.av,t.av,y.av] (Bo (X1 s x t y)):=by
 have hfl:a0I.length=4:=rfl;have hbl:(a0K s x t y).length=4:=rfl;refine oB Tryz.func162 Tryz.ntmps162 Tryz.results162 ?_;refine aW ?_;refine b4o ?_;refine aW ?_;refine c2N ?_;refine a5 fun K1 hK1=>?_;refine aW ?_ fun K hK=>by simp -dsimp [hfl];refine cI (c2a) ?_;simp -dsimp [hfl];exact hK
 refine a9 ?_;refine aP [4,5,6,7,9,12,13,14] ?_;refine c5 [4,5,6,7,12,13] (α:=Nat) (fun k=>[(14,I k),(9,Bo false)]) (fun _=>[some (.els 9 [s.cells]),some (.els 2 [x.cells]),some (.els 9 [t.cells]),some (.els 2 [y.cells])]) (fun k=>k≤4∧((a0K s x t y).take k).any id=false) (fun k=>4-k) 0 ?_ ?_ ?_
 ·simp
 ·exact c7 (by simp)
 rintro k ⟨k1,k2⟩;refine zN ?_;refine aW ?_;refine a5 fun K2 hK2=>?_;refine a6 rfl (fun hc0=>?_) (fun hc0=>?_)
 ·skip
  try simp at hc0
  obtain⟨f,hf⟩:=gx (l:=a0I) (i:=k) (by omega);obtain⟨b,hb⟩:∃b,(a0K s x t y)[k]?=some b:=⟨_,List.getElem?_eq_getElem (by omega)⟩;have wk:=zW k (by omega);refine b8 ?_;refine zQ (hK2 _ _ ?_);refine aP [4,5,6,7,9,12,13,14] ?_;refine a5 fun K3 hK3=>?_;refine a9 ?_;refine aW ?_ fun K hK=>by simp -dsimp [hf];exact hK
  refine aW ?_ fun K hK=>by simp -dsimp;refine cI (c2Q s t x y hs ht hx hy hf hb) ?_;simp -dsimp;exact hK
  refine a6 rfl (fun hc1=>?_) (fun hc1=>?_)
  ·skip
   try simp at hc1
   have hv:X1 s x t y=true:=by rw[←a4d,List.any_eq_true];exact⟨b,List.mem_of_getElem? hb,by simpa using hc1⟩
   refine aW ?_;refine c9 ?_;refine zQ (hK1 _ _ ?_);refine aP [9] ?_;refine aW ?_;exact a7 (by simp[hv])
  ·skip
   try simp at hc1
   refine b8 ?_;refine zQ (hK3 _ _ ?_);refine aP [4,5,6,7,9,12,13,14] ?_;refine aV ?_ fun K hK=>by simp -dsimp [wk];exact hK
   refine zQ ?_;exact⟨k+1,⟨by omega,by rw[any_take hb,k2,hc1];rfl⟩,by omega,aB [some 0,some 1,some 2,some 3]⟩
 ·skip
  try simp at hc0
  have hv:X1 s x t y=false:=by rw[←a4d];exact u0 (by omega) k2
  refine c9 ?_;refine zQ (hK1 _ _ ?_);refine aP [9] ?_;refine aW ?_;exact a7 (by simp[hv])
end Go.Tram
end
section
namespace Go.Tram
open Go.AM Go.Proofs
theorem a2Q {p:Plan} {r:Int} (h0:0≤r) (h1:r<p.Rails.length):(j6 p p.Rails.length)[r.toNat]?=some [.lst 9 ((p.strips r).map SS.cells)]:=by
 rw[a7d (by omega),show((r.toNat:Nat):Int)=r by omega]
end Go.Tram
end
section
namespace Go.Tram
open Go.AM Go.Proofs
structure Plan.Fit (p:Plan):Prop where
 n:p.Nodes.length≤9223372036854775807
 r:p.Rails.length≤9223372036854775807
def j8:Plan:=
 {Nodes:=[⟨⟨0,0⟩,1,[⟨0,false⟩],0⟩,⟨⟨1000,0⟩,4,[⟨0,true⟩,⟨1,false⟩,⟨2,false⟩],0⟩,⟨⟨2000,0⟩,1,[⟨1,true⟩],0⟩,⟨⟨2000,500⟩,1,[⟨2,true⟩],0⟩]
  Rails:=[⟨0,1,[],8000,0⟩,⟨1,2,[],8000,0⟩,⟨1,3,[⟨1600,0⟩],8000,0⟩]}
def c1A:AV:= .agg [.full 5 [[I 0,I 0,I 1, .full 2 [[I 0,Bo false]],I 0],[I 1000,I 0,I 4, .full 2 [[I 0,Bo true],[I 1,Bo false],[I 2,Bo false]],I 0],[I 2000,I 0,I 1, .full 2 [[I 1,Bo true]],I 0],[I 2000,I 500,I 1, .full 2 [[I 2,Bo true]],I 0]],
 .full 5 [[I 0,I 1, .v (.slice none 0 0),I 8000,I 0],[I 1,I 2, .v (.slice none 0 0),I 8000,I 0],[I 1,I 3, .full 2 [[I 1600,I 0]],I 8000,I 0]]]
theorem b1c (a b:Spot) (k:Int) (hk:b7y (sqd a b) k):far a b=k:=b0r hk
theorem c6e:C8 (j8.line 0) 0=1000:=by unfold C8;exact b1c _ _ 1000 (by unfold b7y;decide+kernel)
theorem c5W:C8 (j8.line 1) 0=1000:=by unfold C8;exact b1c _ _ 1000 (by unfold b7y;decide+kernel)
theorem c5E:C8 (j8.line 2) 0=600:=by unfold C8;exact b1c _ _ 600 (by unfold b7y;decide+kernel)
theorem c6N:C8 (j8.line 2) 1=640:=by unfold C8;exact b1c _ _ 640 (by unfold b7y;decide+kernel)
theorem c4I:D9 j8 (j8.rail 0)=true:=by
 have h1:R2 j8 (j8.rail 0)=true:=by decide+kernel
 have h2:(j8.rail 0).Shape=[]:=by decide+kernel
 have e:u7 j8 (j8.rail 0)=j8.line 0:=rfl;simp[D9,h1,h2,e,List.range_succ,a8X,c6e,inr]
theorem c4Y:D9 j8 (j8.rail 1)=true:=by
 have h1:R2 j8 (j8.rail 1)=true:=by decide+kernel
 have h2:(j8.rail 1).Shape=[]:=by decide+kernel
 have e:u7 j8 (j8.rail 1)=j8.line 1:=rfl;simp[D9,h1,h2,e,List.range_succ,a8X,c5W,inr]
theorem c4M:D9 j8 (j8.rail 2)=true:=by
 have h1:R2 j8 (j8.rail 2)=true:=by decide+kernel
 have h2:(j8.rail 2).Shape=[⟨1600,0⟩]:=by decide+kernel
 have h3:j9 ⟨1600,0⟩=true:=by decide+kernel
 have e:u7 j8 (j8.rail 2)=j8.line 2:=rfl;simp[D9,h1,h2,h3,e,List.range_succ,a8X,c5E,c6N,inr]
theorem b1y:d8 j8=true:=by
 have h1:j8.Nodes.all C0=true:=by decide+kernel
 have h2:a0O j8=true:=by decide+kernel
 have e:j8.Rails=[j8.rail 0,j8.rail 1,j8.rail 2]:=by unfold Plan.rail;rfl
 have h3:j8.Rails.all (D9 j8)=true:=by rw[e];simp[c4I,c4Y,c4M]
 have h4:inr (j8.Nodes.length) 1 300=true:=by decide+kernel
 have h5:inr (j8.Rails.length) 1 400=true:=by decide+kernel
 simp[d8,a0M,h1,h2,h3,h4,h5]
theorem ex_foul:X1 (j8.strip ⟨0,0⟩) ⟨275,50⟩ (j8.strip ⟨2,1⟩) ⟨275,50⟩=true:=by decide+kernel
end Go.Tram
end
section
namespace Go.Tram
open Go.AM Go.Proofs
def RC (w:World) (avs:List AV) (cs:List Value):Prop:=avs.length=cs.length∧∀(i:Nat) c x,avs[i]?=some c→cs[i]?=some x→q9 w (fun _=>False) c x∧G2 x=true
theorem RC.one {w:World} {a:AV} {x:Value} (h:q9 w (fun _=>False) a x) (hc:G2 x=true):RC w [a] [x]:=by
 refine⟨rfl,fun i c y h1 h2=>?_⟩
 cases i with
 |zero=>simp at h1 h2;subst h1 h2;exact⟨h,hc⟩
 |succ i=>simp at h1
theorem RC.app {w:World} {a b:List AV} {x y:List Value} (h:RC w a x) (k:RC w b y):RC w (a++b) (x++y):=by
 refine⟨by simp[h.1,k.1],fun i c u h1 h2=>?_⟩
 by_cases hi:i<a.length
 ·rw[List.getElem?_append_left hi]at h1;rw[List.getElem?_append_left (by rw[←h.1];exact hi)]at h2;exact h.2 i c u h1 h2
 ·rw[List.getElem?_append_right (by omega)]at h1;rw[List.getElem?_append_right (by rw[←h.1];omega),←h.1]at h2;exact k.2 _ c u h1 h2
def b6p:List (Nat×Nat×TypeId)→Nat→Nat→Bool
 |[],o,n=>o==n
 |(off,sz,_)::r,o,n=>off==o&&b6p r (o+sz) n
theorem b5w:∀(fs:List (Nat×Nat×TypeId)) (o n:Nat),b6p fs o n=true→o≤n
 |[],o,n,h=>by simp[b6p]at h;omega
 |(off,sz,t)::r,o,n,h=>by
  simp only[b6p,Bool.and_eq_true]at h;have:=b5w r _ _ h.2;omega
theorem b0R:∀(fs:List (Nat×Nat×TypeId)) (o n:Nat),b6p fs o n=true→∀f∈fs,o≤f.1
 |[],o,n,h,f,hf=>by cases hf
 |(off,sz,t)::r,o,n,h,f,hf=>by
  simp only[b6p,Bool.and_eq_true,beq_iff_eq]at h
  rcases List.mem_cons.1 hf with rfl|hf
  ·simp only[];omega
  ·have:=b0R r _ _ h.2 f hf;omega
theorem b0H {w:World} {Q:(Nat×Nat×TypeId)→List AV→Prop}:∀(fs:List (Nat×Nat×TypeId)) (o N:Nat) (cs:List Value),b6p fs o N=true→cs.length=N→
  (∀f∈fs,∃a,RC w a ((cs.drop f.1).take f.2.1)∧Q f a)→∃avs,RC w avs (cs.drop o)∧∀f∈fs,Q f ((avs.drop (f.1-o)).take f.2.1)
 |[],o,N,cs,h,hl,_=>by
  simp only[b6p,beq_iff_eq]at h;refine⟨[],⟨by simp;omega,fun i c x h1=>by simp at h1⟩,fun f hf=>by cases hf⟩
 |(off,sz,t)::r,o,N,cs,h,hl,hq=>by
  simp only[b6p,Bool.and_eq_true,beq_iff_eq]at h;obtain⟨rfl,h2⟩:=h;have hle:=b5w r _ _ h2;obtain⟨a,ha,hqa⟩:=hq _ (List.mem_cons_self ..);obtain⟨b,hb,hqb⟩:=b0H r (off+sz) N cs h2 hl (fun f hf=>hq f (List.mem_cons_of_mem _ hf));have hal:a.length=sz:=by rw[ha.1];simp;omega
  have hsplit:cs.drop off=(cs.drop off).take sz++cs.drop (off+sz):=by rw[←List.drop_drop,List.take_append_drop]
  refine⟨a++b,by rw[hsplit];exact ha.app hb,fun f hf=>?_⟩
  rcases List.mem_cons.1 hf with rfl|hf
  ·simp only[Nat.sub_self,List.drop_zero];rw[List.take_append_of_le_length (by omega),List.take_of_length_le (by omega)];exact hqa
  ·have ho:=b0R r _ _ h2 f hf;have:=hqb f hf;rw[List.drop_append,List.drop_eq_nil_of_le (by omega),List.nil_append,hal,show f.1-off-sz=f.1-(off+sz)by omega];exact this
section
variable {P:Program}
def a9n (P:Program):Nat→TypeId→Bool
 |0,_=>false
 | n+1,t=>match a3b P t with
  |some _=>true
  |none=>match d5 P t with
   | .slice e=>decide ((d5 P e).size≠0)&&a9n P n e
   | .agg z fs=>b6p fs 0 z.length&&fs.all fun f=>a9n P n f.2.2
   |_=>false
def v7 (P:Program):Nat→TypeId→List AV→Prop
 |0,_,_=>False
 | n+1,t,avs=>match a3b P t with
  |some (.i k)=>∃m,avs=[.v (.int k m)]∧(Lit.int k m).wf=true
  |some .b=>∃b,avs=[.v (.bool b)]
  |none=>match d5 P t with
   | .slice e=>∃els,avs=[.lst (d5 P e).size els]∧els.length≤maxLen∧∀el∈els,v7 P n e el
   | .agg z fs=>avs.length=z.length∧∀f∈fs,v7 P n f.2.2 ((avs.drop f.1).take f.2.1)
   |_=>False
theorem b1Y (w:World) {e:TypeId} (h:d5 P e≠ .bad):P.cellsOf e=(d5 P e).size:=by
 obtain⟨i,h1,h2,_⟩:=V0 (P:=P) (w:=w) h;simp[Program.cellsOf,h1,h2]
theorem b1o {w:World} {R:List AV→List Value→Prop} {g:Nat→Option (List Value)}:∀n,(∀i,i<n→∃cs,g i=some cs∧∃a,R a cs)→
  ∃(els:List (List AV)) (css:List (List Value)),els.length=n∧css.length=n∧∀(i:Nat) a cs,els[i]?=some a→css[i]?=some cs→g i=some cs∧R a cs
 |0,_=>⟨[],[],rfl,rfl,fun i a cs h=>by simp at h⟩
 | n+1,h=>by
  obtain⟨els,css,h1,h2,h3⟩:=b1o (w:=w) (R:=R) (g:=g) n (fun i hi=>h i (by omega));obtain⟨cs,hg,a,ha⟩:=h n (by omega);refine⟨els++[a],css++[cs],by simp[h1],by simp[h2],fun i b ds k1 k2=>?_⟩
  by_cases hi:i<n
  ·rw[List.getElem?_append_left (by omega)]at k1 k2;exact h3 i b ds k1 k2
  ·have hn:i=n:=by
    have:=(List.getElem?_eq_some_iff.1 k1).1;simp[h1]at this;omega
   subst hn;rw[List.getElem?_append_right (by omega)]at k1 k2;simp[h1,h2]at k1 k2;subst k1 k2;exact⟨hg,ha⟩
theorem b6j {H:Type} {enc:TypeId×Value→H} {w:World} {spare:Nat→Bool} {held:Bool}:∀(n:Nat) (fuel:Nat) (t:TypeId) (cs:List Value) (x:DataW H×List MemPlace),a9n P n t=true→
  DataW.trod enc P w 0 spare held fuel t cs=some x→∃avs,RC w avs cs∧v7 P n t avs:=by
 intro n
 induction n with
 |zero=>intro fuel t cs x h;simp[a9n]at h
 | succ n ih=>
  intro fuel t cs x hg h;unfold a9n at hg;unfold v7
  cases hk:a3b P t with
  | some kt=>
   have hu:=(F6 hk).2.2.2
   cases kt with
   |i k=>
    obtain⟨m,rfl,rfl,hw⟩:=DataW.trod_int hu h;exact⟨[.v (.int k m)],RC.one (.v _) rfl,m,rfl,hw⟩
   |b=>
    obtain⟨b,rfl,rfl⟩:=DataW.trod_bool hu h;exact⟨[.v (.bool b)],RC.one (.v _) rfl,b,rfl⟩
  | none=>
   rw[hk]at hg;simp only at hg ⊢
   cases ht:d5 P t with
   |cell z=>rw[ht]at hg;simp at hg
   |arr z m e=>rw[ht]at hg;simp at hg
   |bad=>rw[ht]at hg;simp at hg
   | slice e=>
    rw[ht]at hg;simp only[Bool.and_eq_true,decide_eq_true_eq]at hg ⊢;obtain⟨hsz,hge⟩:=hg;have hne:d5 P e≠ .bad:=by intro hb;rw[hb]at hsz;exact hsz rfl
    have hc:=b1Y w hne;obtain⟨info,h1,h2,_⟩:=n9 ht
    rcases DataW.trod_slice h2 h with⟨rfl,rfl⟩|⟨a,len,cap,elems,rest,n',rfl,rfl,rfl,hb,hl,hcap,hel,hall,_⟩
    ·exact⟨[.lst (d5 P e).size []],RC.one (.lstNil _ _ _) rfl,[],rfl,by simp,by simp⟩
    ·rw [hc]at hall;obtain⟨els,css,e1,e2,e3⟩:=b1o (w:=w) (R:=fun a cs=>RC w a cs∧v7 P n e a) (g:=fun i=>w.cells? 0 (a.add (i*(d5 P e).size)) (d5 P e).size) len (fun i hi=>by
      have h3:=hall i hi;obtain⟨y,hy⟩:=gx (l:=elems) (i:=i) (by omega);rw[hy,Option.bind_eq_some_iff]at h3;obtain⟨cs,q1,q2⟩:=h3;obtain⟨av,r1,r2⟩:=ih _ _ _ _ hge q2;exact⟨cs,q1,av,r1,r2⟩)
     refine⟨[.lst (d5 P e).size els],?_,els,rfl,by omega,?_⟩
     ·refine RC.one ?_ rfl
      by_cases hlen:len=0
      ·have:els=[]:=List.eq_nil_of_length_eq_zero (by omega);subst this;subst hlen;exact .lstNil _ _ _
      ·have hcell:∀(i j:Nat) cs,css[i]?=some cs→j<(d5 P e).size→w.cell? ((a.add (i*(d5 P e).size)).add j)=cs[j]?∧cs.length=(d5 P e).size:=by
        intro i j cs hi hj;have hil:=(List.getElem?_eq_some_iff.1 hi).1;obtain⟨av,hav⟩:=gx (l:=els) (i:=i) (by omega);have:=World.cells?_some (e3 i av cs hav hi).1;exact⟨this.2.2 j hj,this.2.1⟩
       have hspot:a.spot=none:=by
        obtain⟨cs,hcs⟩:=gx (l:=css) (i:=0) (by omega);obtain⟨k1,k2⟩:=hcell 0 0 cs hcs (by omega);rw[List.getElem?_eq_getElem (by omega)]at k1;have ha:(a.add (0*(d5 P e).size)).add 0=a:=by simp[Addr.add]
        rw[ha]at k1;exact World.cell?_spot k1
       obtain⟨b,off,sp⟩:=a;simp only at hspot;subst hspot;have hcl:∀c∈css,c.length=(d5 P e).size:=by
        intro c hc';obtain⟨i,hi⟩:=List.getElem?_of_mem hc';exact(hcell i 0 c hi (by omega)).2
       have hell:∀c∈els,c.length=(d5 P e).size:=by
        intro c hc';obtain⟨i,hi⟩:=List.getElem?_of_mem hc';have hil:=(List.getElem?_eq_some_iff.1 hi).1;obtain⟨cs,hcs⟩:=gx (l:=css) (i:=i) (by omega);rw[(e3 i c cs hi hcs).2.1.1];exact hcl cs (List.mem_of_getElem? hcs)
       have key:∀(i:Nat) (x:Value),css.flatten[i]?=some x→∃q j cs,i=q*(d5 P e).size+j∧j<(d5 P e).size∧css[q]?=some cs∧cs[j]?=some x:=by
        intro i x hx;have hil:=(List.getElem?_eq_some_iff.1 hx).1;rw[i8 hcl]at hil;have hq:i/ (d5 P e).size<css.length:=by rw[Nat.div_lt_iff_lt_mul (by omega)];exact hil
        have hj:=Nat.mod_lt i (show(d5 P e).size>0 by omega);have hme:i=i/ (d5 P e).size*(d5 P e).size+i % (d5 P e).size:=by rw[Nat.mul_comm];exact(Nat.div_add_mod i _).symm
        obtain⟨cs,hcs⟩:∃cs,css[i/ (d5 P e).size]?=some cs:=⟨_,List.getElem?_eq_getElem hq⟩;refine⟨_,_,cs,hme,hj,hcs,?_⟩;have:=o1 hcl hcs (i % (d5 P e).size) hj;rw[←hme]at this;rw[←this];exact hx
       have hre:els.length=len:=e1;rw[←hre];have hblk:b<w.heap.size:=by
        obtain⟨cs,hcs⟩:=gx (l:=css) (i:=0) (by omega);obtain⟨k1,k2⟩:=hcell 0 0 cs hcs (by omega);rw[List.getElem?_eq_getElem (by omega)]at k1;simp only[Nat.zero_mul,Addr.add_lit,Nat.add_zero]at k1
        rcases Nat.lt_or_ge b w.heap.size with hlt|hge
        ·exact hlt
        ·simp[World.cell?,Array.getElem?_eq_none hge]at k1
       refine q9.lst _ els b off cap css.flatten (fun h=>h) hblk (by omega) hell (by rw[i8 hell,i8 hcl,e1,e2]) ?_ ?_
       ·intro i x hx;obtain⟨q,j,cs,rfl,hj,hcs,hxj⟩:=key i x hx;obtain⟨k1,_⟩:=hcell q j cs hcs hj;rw[Addr.add_lit,Addr.add_lit,hxj]at k1;obtain⟨av,hav⟩:=gx (l:=els) (i:=q) (by have:=(List.getElem?_eq_some_iff.1 hcs).1;omega);have hr:=(e3 q av cs hav hcs).2.1;obtain⟨c,hc'⟩:∃c,av[j]?=some c:=⟨_,List.getElem?_eq_getElem (by rw[hr.1];exact(List.getElem?_eq_some_iff.1 hxj).1)⟩;refine⟨?_,(hr.2 j c x hc' hxj).2⟩;rw[←Nat.add_assoc];exact k1
       ·intro i c x hc' hx;obtain⟨q,j,cs,rfl,hj,hcs,hxj⟩:=key i x hx;obtain⟨av,hav⟩:=gx (l:=els) (i:=q) (by have:=(List.getElem?_eq_some_iff.1 hcs).1;omega);rw[o1 hell hav j hj]at hc';exact((e3 q av cs hav hcs).2.1.2 j c x hc' hxj).1
     ·intro el hel';obtain⟨i,hi⟩:=List.getElem?_of_mem hel';have hil:=(List.getElem?_eq_some_iff.1 hi).1;obtain⟨cs,hcs⟩:=gx (l:=css) (i:=i) (by omega);exact(e3 i el cs hi hcs).2.2
   | agg z fs=>
    rw[ht]at hg;simp only[Bool.and_eq_true]at hg ⊢;obtain⟨hlay,hgf⟩:=hg;obtain⟨info,fa,h1,h2,h3,h4,hfs,_,hall⟩:=F1 ht;obtain⟨xs,n',rfl,rfl,hl,hxl,hf⟩:=DataW.trod_struct h2 h;have hcl:cs.length=z.length:=by rw[hl];simp[Program.cellsOf,h1,h4]
    obtain⟨avs,hr,hq⟩:=b0H (w:=w) (Q:=fun f a=>v7 P n f.2.2 a) fs 0 z.length cs hlay hcl (fun f hff=>by
     have hff':=hff;rw[hfs,List.mem_map]at hff';obtain⟨fd,hfd,rfl⟩:=hff';obtain⟨i,hi⟩:=List.getElem?_of_mem hfd;have hia:fa[i]?=some fd:=by simpa using hi
     have htr:=hf i fd hia;have hil:i<xs.length:=by rw[hxl];exact(Array.getElem?_eq_some_iff.1 hia).1
     rw[List.getElem?_eq_getElem hil]at htr;exact ih _ _ _ _ (List.all_eq_true.1 hgf _ hff) htr)
    rw[List.drop_zero]at hr;refine⟨avs,hr,by rw[hr.1,hcl],fun f hff=>?_⟩;have:=hq f hff
    rwa [Nat.sub_zero]at this
end
end Go.Tram
end
section
namespace Go.Tram
open Go.AM Go.Proofs
section
variable {P:Program}
theorem z6 {n:Nat} {t e:TypeId} {avs:List AV} (hk:a3b P t=none) (ht:d5 P t= .slice e) (h:v7 P (n+1) t avs):∃els,avs=[.lst (d5 P e).size els]∧els.length≤maxLen∧∀el∈els,v7 P n e el:=by
 simp only[v7,hk,ht]at h;exact h
theorem B6 {n:Nat} {t:TypeId} {z:List Value} {fs:List (Nat×Nat×TypeId)} {avs:List AV} (hk:a3b P t=none) (ht:d5 P t= .agg z fs) (h:v7 P (n+1) t avs):avs.length=z.length∧∀f∈fs,v7 P n f.2.2 ((avs.drop f.1).take f.2.1):=by
 simp only[v7,hk,ht]at h;exact h
theorem a5w {n:Nat} {t:TypeId} {k:IntKind} {avs:List AV} (hk:a3b P t=some (.i k)) (h:v7 P (n+1) t avs):∃m,avs=[.v (.int k m)]∧(Lit.int k m).wf=true:=by
 simp only[v7,hk]at h;exact h
theorem a4P {n:Nat} {t:TypeId} {avs:List AV} (hk:a3b P t=some .b) (h:v7 P (n+1) t avs):∃b,avs=[.v (.bool b)]:=by
 simp only[v7,hk]at h;exact h
end
theorem Q8 {α:Type} {c:α→List AV} {R:α→Prop}:∀{els:List (List AV)},(∀el∈els,∃a,el=c a∧R a)→∃l:List α,els=l.map c∧∀a∈l,R a
 |[],_=>⟨[],rfl,by simp⟩
 |e::els,h=>by
  obtain⟨a,rfl,ha⟩:=h e (List.mem_cons_self ..);obtain⟨l,rfl,hl⟩:=Q8 (els:=els) (c:=c) (R:=R) (fun el hel=>h el (List.mem_cons_of_mem _ hel));refine⟨a::l,rfl,fun b hb=>?_⟩
  rcases List.mem_cons.1 hb with rfl|hb
  ·exact ha
  ·exact hl b hb
theorem a8F:(Tryz.prog).underlying 4=some .bool:=by kernel_rfl
theorem c4w:a3b Tryz.prog 3=some (.i .i64):=by kernel_rfl
theorem c2R:a3b Tryz.prog 77=some (.i .i64):=by kernel_rfl
theorem b9w:a3b Tryz.prog 4=some .b:=by kernel_rfl
def I64 (n:Int):Prop:=-9223372036854775808≤n∧n≤9223372036854775807
theorem c2X {m:Int} (h:(Lit.int .i64 m).wf=true):I64 m:=by
 simpa [Lit.wf,IntKind.min,IntKind.max,IntKind.signed,IntKind.bits,I64]using h
theorem O4 {n:Nat} {avs:List AV} (h:v7 Tryz.prog (n+1) 3 avs):∃m,avs=[I m]∧I64 m:=by
 obtain⟨m,h1,h2⟩:=a5w c4w h;exact⟨m,h1,c2X h2⟩
theorem b3K {α:Type} {l:List α} (h:l.length=2):∃a b,l=[a,b]:=by match l,h with|[a,b],_=>exact⟨a,b,rfl⟩
theorem c3s {α:Type} {l:List α} (h:l.length=5):∃a b c d e,l=[a,b,c,d,e]:=by match l,h with|[a,b,c,d,e],_=>exact⟨a,b,c,d,e,rfl⟩
theorem b5P {n:Nat} {avs:List AV} (h:v7 Tryz.prog (n+2) 76 avs):∃s:Spot,avs=s.cells:=by
 obtain⟨h1,h2⟩:=B6 (by kernel_rfl) c6B h;obtain⟨a,b,rfl⟩:=b3K h1;obtain⟨x,hx,_⟩:=O4 (h2 (0,1,3) (by simp));obtain⟨y,hy,_⟩:=O4 (h2 (1,1,3) (by simp));simp at hx hy;subst hx hy;exact⟨⟨x,y⟩,rfl⟩
theorem c3A {n:Nat} {avs:List AV} (h:v7 Tryz.prog (n+2) 161 avs):∃s:E1,avs=s.cells:=by
 obtain⟨h1,h2⟩:=B6 (by kernel_rfl) c4Q h;obtain⟨a,b,rfl⟩:=b3K h1;obtain⟨x,hx,_⟩:=O4 (h2 (0,1,3) (by simp));obtain⟨y,hy⟩:=a4P b9w (h2 (1,1,4) (by simp));simp at hx hy;subst hx hy;exact⟨⟨x,y⟩,rfl⟩
theorem c0X {n:Nat} {avs:List AV} (h:v7 Tryz.prog (n+5) 80 avs):∃s:Node,avs=s.cells:=by
 obtain⟨h1,h2⟩:=B6 (by kernel_rfl) c5J h;obtain⟨a,b,c,d,e,rfl⟩:=c3s h1;obtain⟨s,hs⟩:=b5P (h2 (0,2,76) (by simp));obtain⟨k,hk,_⟩:=a5w c2R (h2 (2,1,77) (by simp));obtain⟨els,hl,_,hels⟩:=z6 (by kernel_rfl) c6q (h2 (3,1,78) (by simp));obtain⟨m,hm,_⟩:=O4 (h2 (4,1,3) (by simp));obtain⟨l,rfl,_⟩:=Q8 (c:=E1.cells) (R:=fun _=>True) (fun el hel=>by obtain⟨s,hs⟩:=c3A (hels el hel);exact⟨s,hs,trivial⟩);simp at hs hk hl hm;obtain⟨rfl,rfl⟩:=hs;subst hk hl hm;exact⟨⟨s,k,l,m⟩,by simp⟩
theorem c1p {n:Nat} {avs:List AV} (h:v7 Tryz.prog (n+5) 83 avs):∃s:Rail,avs=s.cells:=by
 obtain⟨h1,h2⟩:=B6 (by kernel_rfl) c6k h;obtain⟨a,b,c,d,e,rfl⟩:=c3s h1;obtain⟨x,hx,_⟩:=O4 (h2 (0,1,3) (by simp));obtain⟨y,hy,_⟩:=O4 (h2 (1,1,3) (by simp));obtain⟨els,hl,_,hels⟩:=z6 (by kernel_rfl) c5s (h2 (2,1,81) (by simp));obtain⟨u,hu,_⟩:=O4 (h2 (3,1,3) (by simp));obtain⟨v,hv,_⟩:=O4 (h2 (4,1,3) (by simp));obtain⟨l,rfl,_⟩:=Q8 (c:=Spot.cells) (R:=fun _=>True) (fun el hel=>by obtain⟨s,hs⟩:=b5P (hels el hel);exact⟨s,hs,trivial⟩);simp at hx hy hl hu hv;subst hx hy hl hu hv;exact⟨⟨x,y,l,u,v⟩,by simp⟩
theorem c1R {n:Nat} {avs:List AV} (h:v7 Tryz.prog (n+8) 25 avs):∃p:Plan,avs=p.cells∧p.Fit:=by
 obtain⟨h1,h2⟩:=B6 (by kernel_rfl) c6c h;obtain⟨a,b,rfl⟩:=b3K h1;obtain⟨e1,hl1,b1,he1⟩:=z6 (by kernel_rfl) c5A (h2 (0,1,22) (by simp));obtain⟨e2,hl2,b2,he2⟩:=z6 (by kernel_rfl) c5P (h2 (1,1,23) (by simp));obtain⟨l1,rfl,_⟩:=Q8 (c:=Node.cells) (R:=fun _=>True) (fun el hel=>by obtain⟨s,hs⟩:=c0X (he1 el hel);exact⟨s,hs,trivial⟩);obtain⟨l2,rfl,_⟩:=Q8 (c:=Rail.cells) (R:=fun _=>True) (fun el hel=>by obtain⟨s,hs⟩:=c1p (he2 el hel);exact⟨s,hs,trivial⟩);simp at hl1 hl2;subst hl1 hl2;rw[List.length_map]at b1 b2;have hm:maxLen=9223372036854775807:=by decide
 exact⟨⟨l1,l2⟩,by simp,⟨by simp only[];omega,by simp only[];omega⟩⟩
theorem c1D {n:Nat} {avs:List AV} (h:v7 Tryz.prog (n+2) 108 avs):∃s:Profile,avs=s.cells∧I64 s.Half∧I64 s.Swing:=by
 obtain⟨h1,h2⟩:=B6 (by kernel_rfl) c4H h;obtain⟨a,b,rfl⟩:=b3K h1;obtain⟨x,hx,bx⟩:=O4 (h2 (0,1,3) (by simp));obtain⟨y,hy,yb⟩:=O4 (h2 (1,1,3) (by simp));simp at hx hy;subst hx hy;exact⟨⟨x,y⟩,rfl,bx,yb⟩
theorem b6X {n:Nat} {avs:List AV} (h:v7 Tryz.prog (n+3) 26 avs):∃l:List Profile,avs=[.lst 2 (l.map Profile.cells)]∧l.length≤maxLen∧∀s∈l,I64 s.Half∧I64 s.Swing:=by
 obtain⟨els,hl,hb,he⟩:=z6 (by kernel_rfl) c6O h;obtain⟨l,rfl,hR⟩:=Q8 (c:=Profile.cells) (R:=fun s=>I64 s.Half∧I64 s.Swing) (fun el hel=>c1D (he el hel));simp at hl hb;exact⟨l,hl,hb,hR⟩
open Go.WideShapes in
theorem c0e {H:Type} {enc:TypeId×Value→H} {W:World} {base n:Nat} {t:TypeId} {v:Value} {d:DataW H} {p:List MemPlace} {z:List Value} {fs:List (Nat×Nat×TypeId)} (hg:a9n Tryz.prog n t=true) (ht:d5 Tryz.prog t= .agg z fs)
  (hv:Value.okWide Tryz.prog W .any base t v) (h:DataW.Trod enc Tryz.prog W 0 (fun _=>true) true t v d p):∃avs,q9 W (fun _=>False) (.agg avs) v∧v7 Tryz.prog n t avs:=by
 obtain⟨fuel,h⟩:=h;obtain⟨avs,hr,hs⟩:=b6j n fuel t _ _ hg h;obtain⟨info,fa,h1,h2,_⟩:=F1 ht;obtain⟨cs,rfl,_⟩:=okWide_struct h2 hv;refine⟨avs,?_,hs⟩;have:=q9.agg (w:=W) (S:=fun _=>False) avs cs.toList hr.1 (fun x hx=>by
  obtain⟨i,hi⟩:=List.getElem?_of_mem hx;have hil:=(List.getElem?_eq_some_iff.1 hi).1;obtain⟨c,hc⟩:=gx (l:=avs) (i:=i) (by rw[hr.1];exact hil);exact(hr.2 i c x hc hi).2) (fun i c x h1 h2=>(hr.2 i c x h1 h2).1)
 simpa using this
open Go.WideShapes in
theorem a7B {H:Type} {enc:TypeId×Value→H} {W:World} {base n:Nat} {t e:TypeId} {v:Value} {d:DataW H} {p:List MemPlace} (hg:a9n Tryz.prog n t=true) (ht:d5 Tryz.prog t= .slice e)
  (hv:Value.okWide Tryz.prog W .any base t v) (h:DataW.Trod enc Tryz.prog W 0 (fun _=>true) true t v d p):∃av,q9 W (fun _=>False) av v∧v7 Tryz.prog n t [av]:=by
 obtain⟨fuel,h⟩:=h;obtain⟨avs,hr,hs⟩:=b6j n fuel t _ _ hg h;obtain⟨info,h1,h2,_⟩:=n9 ht;obtain⟨a,len,cap,rfl⟩:=okWide_slice h2 hv;have hl:avs.length=1:=by rw[hr.1];rfl
 match avs,hl,hr,hs with
 |[av],_,hr,hs=>exact⟨av,(hr.2 0 av _ rfl rfl).1,hs⟩
theorem c5S:laidOutB Tryz.prog=true:=by kernel_rfl
theorem c2W:mapsRowed Tryz.prog=true:=by kernel_rfl
theorem c5Z:Kids Tryz.prog (· <Tryz.prog.types.size):=kids_rows c5S c2W
theorem full:∀t e,t<Tryz.prog.types.size→Tryz.prog.underlying t=some (.slice e)→0<Tryz.prog.cellsOf e:=slices_full_of Tryz.prog (by kernel_rfl)
theorem b8d {w w':World} (h:Ext (fun _=>False) w w') {a:Addr} (ha:a.block<w.heap.size):w'.cell? a=w.cell? a:=A8 (h.block _ ha (fun k=>k))
theorem b7H {H:Type} {enc:TypeId×Value→H} {f:Func} {s:ChangeSpec} {fresh handsOn again:Bool} {W W':World} {args:Array Value} {v:Value} {ds:List (DataW H)} {before:List MemPlace}
  (hvars:s.vars=[]) (hres:(s.fn H ds).results=[.lit (.bool true)]) (hargs:(s.fn H ds).args=ds) (hvs:(s.fn H ds).vars=[]) (hf:f.resultTypes= #[4]) (hts:∀t∈f.params.toList,t<Tryz.prog.types.size)
  (hW:DataW.Whole enc Tryz.prog f.params.toList s.vars false W args.toList ds [] before) (hext:Ext (fun _=>False) W W') (hv:v= .bool true):
  s.post enc Tryz.prog f false fresh handsOn again W args v W':=by
 subst hv;have hlt:=hW.lt;have hW':=hW;obtain⟨p,q,hA,hV,hpq,hz,hn⟩:=hW;rw[hvars]at hV;obtain⟨_,rfl⟩:=Go.ChangeShapes.trodVars_none hV;rw[List.append_nil]at hpq;subst hpq;have carry:∀(ts:List TypeId) (vs:List Value) (ds:List (DataW H)) (ps:List MemPlace),DataW.TrodAll enc Tryz.prog W 0 (fun _=>true) true ts vs ds ps→(∀x∈ps,x.block<W.heap.size)→DataW.TrodAll enc Tryz.prog W' 0 (fun _=>true) true ts vs ds ps:=by
  intro ts
  induction ts with
  |nil=>intro vs ds ps h _;match vs,ds,h with|[],[],h=>exact h
  | cons t ts ih=>
   intro vs ds ps h hl
   match vs,ds,h with
   |v::vs,d::ds,⟨p1,q1,⟨n,h1⟩,h2,he⟩=>
    subst he;refine⟨p1,q1,⟨n,DataW.trod_carry n _ _ _ h1 (fun x hx=>?_)⟩,ih vs ds q1 h2 (fun x hx=>hl x (List.mem_append_right _ hx)),rfl⟩;have hb:=hl x (List.mem_append_left _ hx)
    cases x with
    |cell b off=>exact b8d hext hb
    |map b=>exact hext.block b hb (fun k=>k)
 have hA':=carry _ _ _ _ hA hlt;have hag:∀sp:Nat→Bool,(∀x∈before,sp x.block=true)→DataW.TrodAll enc Tryz.prog W' 0 sp true f.params.toList args.toList (s.fn H (ds++[])).args before:=by
  intro sp hs;rw[List.append_nil,hargs];exact hA'.respare c5Z full hts hs
 have hr:∀(b:Nat) (sp:Nat→Bool) (hd:Bool),DataW.TrodAll enc Tryz.prog W' b sp hd f.resultTypes.toList ((Value.bool true).resultList f.resultTypes.size) (s.fn H (ds++[])).results []:=by
  intro b sp hd;rw[List.append_nil,hres,hf];exact Go.ChangeShapes.trodAll_mk1 (Go.RowKit.shut_bool a8F _)
 have hkept:W.keptBut W' (· ∈before):=by
  refine⟨hext.os,hext.output,fun i hi=>?_⟩;rw[hext.block i hi (fun k=>k)]
  cases hb:W.heap[i]? with
  |none=>trivial
  |some o=>cases o<;>simp
 have hv0:∀sp:Nat→Bool,DataW.TrodVars enc Tryz.prog W' sp s.vars (s.fn H (ds++[])).vars []:=by
  intro sp;rw[hvars,List.append_nil,hvs]
  rfl
 have hold:∀x∈before,(fun b=>decide (b<W.heap.size)) x.block=true:=fun x hx=>by simpa using hlt x hx
 refine⟨ds,[],before,[],before,[],hW',hr _ _ _,hag _ hold,hv0 _,World.keptBut_mono (fun x hx=>⟨hx,Or.inr (Or.inl hx)⟩) hkept,fun _=>?_⟩;refine⟨Go.RowKit.ok_one hf rfl (Go.RowKit.okWide_bool_mk a8F _),_,_,([]++before)++[],⟨[]++before,[],Go.ChangeShapes.trodAll_append (hag _ (fun _ _=>rfl)) (hr _ _ _),hv0 _,rfl,?_,?_⟩,?_⟩
 ·intro b off hp;have hp':MemPlace.cell b off∈before:=by simpa using hp
  have hb:=hlt _ hp';have:W'.frozen? ⟨b,off,none⟩=W.frozen? ⟨b,off,none⟩:=by unfold World.frozen?;rw[hext.block b hb (fun k=>k)]
  rw[this];exact hz b off hp'
 ·intro ha;cases ha
 ·intro x hx _;simpa using hx
theorem b4L {P : Program} {f : FuncId} {fn : Func} {c : Code} {avs : List AV} {vs : List Value} {W : World} (hf : P.funcs[f]? = some fn) (hb : fn.body = some c) (hname : (fn.name == "runtime.NumGoroutine") = false)
  (h:a8 P f avs (Bo true)) (hl:avs.length=vs.length) (hr:∀(i:Nat) c x,avs[i]?=some c→vs[i]?=some x→q9 W (fun _=>False) c x):
  Calls P f vs.toArray W fun e W'=>e= .returned (.bool true)∧Ext (fun _=>False) W W':=by
 have hn' : ¬ fn.name = "runtime.NumGoroutine" := by simpa using hname
 rcases h with⟨_,h2⟩|h2
 ·refine(h2 (fun _=>False) W vs (fun b k=>k.elim) hl hr).mono fun e W' ⟨v,q1,q2,q3⟩=>?_
  cases q2
  exact⟨q1,q3⟩
 ·exfalso;obtain⟨v,q1,_⟩:=h2 (fun _=>False) W vs hl hr;have:(callFunc f vs.toArray).run P W= .ok (.enter f vs.toArray) W:=by simp[callFunc,hf,hn',hb]
  rw[this]at q1
  cases q1
theorem c0G {W:World}:∀(i:Nat) c x,([]:List AV)[i]?=some c→([]:List Value)[i]?=some x→q9 W (fun _=>False) c x:=fun i c x h=>by simp at h
theorem a6r {W:World} {a:AV} {v:Value} {xs:List AV} {vs:List Value} (h:q9 W (fun _=>False) a v) (k:∀(i:Nat) c x,xs[i]?=some c→vs[i]?=some x→q9 W (fun _=>False) c x):
  ∀(i:Nat) c x,(a::xs)[i]?=some c→(v::vs)[i]?=some x→q9 W (fun _=>False) c x:=fun i c x h1 h2=>by
 cases i with
 |zero=>simp at h1 h2;subst h1 h2;exact h
 |succ i=>exact k i c x (by simpa using h1) (by simpa using h2)
end Go.Tram
end
section
namespace Go.Tram
open Go.AM Go.Proofs
def ins (x:Int):List Int→List Int
 |[]=>[x]
 |y::l=>if x<y then x::y::l else y::ins x l
def srt (l:List Int):List Int:=l.foldl (fun s x=>ins x s) []
theorem b4N (x:Int):∀l,(ins x l).length=l.length+1
 |[]=>rfl
 |y::l=>by
  simp only[ins]
  split
  ·rfl
  ·simp[b4N x l]
theorem a4I (x z:Int):∀l,z∈ins x l↔z=x∨z∈l
 |[]=>by simp[ins]
 | y::l=>by
  simp only[ins]
  split
  ·simp
  ·simp only[List.mem_cons,a4I x z l];constructor
   ·rintro(h|h|h)<;>simp[h]
   ·rintro(h|h|h)<;>simp[h]
theorem a5q (x:Int):∀l:List Int,l.Pairwise (· ≤ ·)→(ins x l).Pairwise (· ≤ ·)
 |[],_=>by simp[ins]
 | y::l,h=>by
  rw[List.pairwise_cons]at h;simp only[ins]
  split
  ·rename_i hx;rw[List.pairwise_cons,List.pairwise_cons];refine⟨fun z hz=>?_,h⟩
   rcases List.mem_cons.1 hz with rfl|hz
   ·omega
   ·have:=h.1 z hz;omega
  ·rename_i hx;rw[List.pairwise_cons];refine⟨fun z hz=>?_,a5q x l h.2⟩
   rcases(a4I x z l).1 hz with rfl|hz
   ·omega
   ·exact h.1 z hz
theorem a4g (x:Int) (B:List Int) (hB:∀y∈B,x<y):∀A:List Int,(∀y∈A,y≤x)→ins x (A++B)=A++x::B
 |[],_=>by
  cases B with
  |nil=>rfl
  |cons y B=>simp only[List.nil_append,ins];rw[if_pos (hB y (by simp))]
 |a::A,h=>by
  simp only[List.cons_append,ins];rw[if_neg (by have:=h a (by simp);omega),a4g x B hB A fun y hy=>h y (by simp[hy])]
theorem b7l {l:List Int} {i:Nat} {x:Int} (h:l[i]?=some x):srt (l.take (i+1))=ins x (srt (l.take i)):=by
 rw[List.take_add_one,h];simp[srt]
theorem a6G (l:List Int):(srt l).length=l.length:=by
 have gen:∀(l s:List Int),(l.foldl (fun s x=>ins x s) s).length=s.length+l.length:=by
  intro l
  induction l with
  |nil=>simp
  |cons x l ih=>intro s;rw[List.foldl_cons,ih,b4N];simp;omega
 have:=gen l [];simpa [srt]using this
theorem b2z (l:List Int):(srt l).Pairwise (· ≤ ·):=by
 have gen:∀(l s:List Int),s.Pairwise (· ≤ ·)→(l.foldl (fun s x=>ins x s) s).Pairwise (· ≤ ·):=by
  intro l
  induction l with
  |nil=>intro s h;exact h
  |cons x l ih=>intro s h;exact ih _ (a5q x s h)
 exact gen l [] List.Pairwise.nil
theorem c3d {L:List Int} (h:L.Pairwise (· ≤ ·)) {j:Nat} {y:Int} (hy:L[j]?=some y):∀a∈L.take (j+1),a≤y:=by
 intro a ha;obtain⟨hj,he⟩:=List.getElem?_eq_some_iff.1 hy;rw[List.take_add_one,hy]at ha
 rcases List.mem_append.1 ha with ha|ha
 ·have hs:L=L.take j++y::L.drop (j+1):=by rw[←he,List.getElem_cons_drop,List.take_append_drop]
  rw[hs,List.pairwise_append]at h;exact h.2.2 a ha y (by simp)
 ·simp at ha;omega
def a8Y (L:List Int) (x:Int) (R:List Int) (j:Nat):List Int:=L.take j++x::(L.drop j++R)
theorem b0i {L:List Int} {x:Int} {R:List Int} {j:Nat} (h:j≤L.length):(a8Y L x R j)[j]?=some x:=by
 unfold a8Y;rw[List.getElem?_append_right (by simp;omega)];simp[Nat.min_eq_left h]
theorem a9E {L:List Int} {x y:Int} {R:List Int} {j:Nat} (h:L[j]?=some y):(a8Y L x R (j+1))[j]?=some y:=by
 have hj:=(List.getElem?_eq_some_iff.1 h).1;unfold a8Y;rw[List.getElem?_append_left (by simp;omega),List.getElem?_take];simp[h]
theorem b4n {L:List Int} {x y:Int} {R:List Int} {j:Nat} (h:L[j]?=some y):((a8Y L x R (j+1)).set (j+1) y).set j x=a8Y L x R j:=by
 obtain⟨hj,hy⟩:=List.getElem?_eq_some_iff.1 h;have h1:L.take (j+1)=L.take j++[y]:=by rw[List.take_add_one,h];rfl
 have h2:L.drop j=y::L.drop (j+1):=by rw[List.drop_eq_getElem_cons hj,hy]
 have hl:(L.take j).length=j:=by rw[List.length_take];omega
 unfold a8Y;rw[h1,h2,List.append_assoc,List.set_append,if_neg (by omega),List.set_append,if_neg (by omega),hl];simp
@[simp] def g8 (n:Int):List AV:=[I n]
theorem b3S (l:List Int):(l.map g8).all (fun e=>e.all V8)=true:=by simp[V8]
@[simp high] theorem c2c (l:List Int) (g:List (Option Nat)) (n:Nat):(l.map g8).map (fun e=>e.map (o9 g n))=l.map g8:=v8 (fun x h=>O3 h g n) (b3S l)
@[simp high] theorem c0K (l:List Int) (H:Nat→Option l7) (g:List (Option Nat)) (n:Nat):(l.map g8).map (fun e=>e.map (a0J H g n))=l.map g8:=v8 (fun x h=>a2e h H g n) (b3S l)
@[simp high] theorem b9K (l:List Int) (H:Hp) (n:Nat):(l.map g8).map (fun e=>e.map (J4 H n))=l.map g8:=v8 (fun x h=>N1 h H n) (b3S l)
theorem b8R (a b:Int):a8 Tryz.prog 195 [I a,I b] (Bo (decide (a<b))):=by
 refine oB Tryz.func195 Tryz.ntmps195 Tryz.results195 ?_;refine aW ?_;refine aW ?_ fun K hK=>by simp -dsimp;refine cI (a6y a) ?_;simp -dsimp;refine cY (fun hm=>a6y b) ?_;simp -dsimp;exact hK
 exact a7 (by simp)
theorem c0w (xs:List Int) (h1:1≤xs.length) (hn:xs.length≤1000):c8 Tryz.prog 189 [.row 0 0 xs.length,I 0,I xs.length] [some (.els 1 (xs.map g8))] [] (.tup []) [some (.els 1 ((srt xs).map g8))] []:=by
 have w01:IntKind.i64.wrap 1=1:=c4 (by omega) (by omega);have wm1:IntKind.i64.wrap (-1)=-1:=c4 (by omega) (by omega);refine oG [0] Tryz.func189 Tryz.ntmps189 Tryz.results189 ?_;intro J hJ;refine gW ?_ fun K hK=>by simp -dsimp [w01];exact hK
 refine d4 ?_;refine gP [0,1,2,6] ?_;refine i9 [0,1,2] (α:=Nat) (fun i=>[(6,I i)]) (fun i=>[some (.els 1 ((srt (xs.take i)++xs.drop i).map g8))]) (fun i=>1≤i∧i≤xs.length) (fun i=>xs.length-i) 1 ?_ ?_ ?_
 ·exact⟨Nat.le_refl _,h1⟩
 ·refine Q3 (e8 [some 0] rfl (by simp) ?_) (by simp);obtain⟨x,l,rfl⟩:∃x l,xs=x::l:=by cases xs with|nil=>simp at h1|cons x l=>exact⟨x,l,rfl⟩
  simp[srt,ins]
 rintro i ⟨i1,i2⟩;refine zN ?_;refine b9 fun K1 hK1=>?_;refine gW ?_;refine c3 rfl (fun hc0=>?_) (fun hc0=>?_)
 ·skip
  try simp at hc0
  have wi:=zW i (by omega);obtain⟨x,hx⟩:=gx (l:=xs) (i:=i) hc0;obtain⟨hxi,hxe⟩:=List.getElem?_eq_some_iff.1 hx;have hdr:xs.drop i=x::xs.drop (i+1):=by rw[List.drop_eq_getElem_cons hxi,hxe]
  have hdm:(xs.map g8).drop i=[I x]::(xs.drop (i+1)).map g8:=by rw[←List.map_drop,hdr];rfl
  have hst:=b7l hx;have hsl:(srt (xs.take i)).length=i:=by rw[a6G,List.length_take];omega
  have hso:=b2z (xs.take i);generalize srt (xs.take i)=L at hst hsl hso ⊢;generalize hR:xs.drop (i+1)=R at hdr hdm ⊢;have hRl:R.length=xs.length-(i+1):=by rw[←hR,List.length_drop]
  refine c6 ?_;refine zQ (hK1 _ _ ?_);refine gP [0,1,2,6] ?_;refine b9 fun K2 hK2=>?_;refine d4 ?_;refine gW ?_;refine d4 ?_;refine gP [0,1,2,6,7] ?_;refine i9 [0,1,2,6] (α:=Nat) (fun j=>[(7,I j)]) (fun j=>[some (.els 1 ((a8Y L x R j).map g8))]) (fun j=>j≤i∧∀y∈L.drop j,x<y) (fun j=>j) i ?_ ?_ ?_
  ·exact⟨Nat.le_refl _,by rw[List.drop_of_length_le (by omega)];simp⟩
  ·refine Q3 (e8 [some 0] rfl (by simp) ?_) (by simp);simp[a8Y,hdm,List.take_of_length_le (show L.length≤i by omega),List.drop_of_length_le (show L.length≤i by omega)]
  rintro j ⟨j1,j2⟩
  rcases j with _|j
  rotate_left
  obtain⟨y,hy⟩:=gx (l:=L) (i:=j) (by omega);have gj:=b0i (L:=L) (x:=x) (R:=R) (j:=j+1) (by omega);have gb:=a9E (x:=x) (R:=R) hy;have wj:IntKind.i64.wrap (j:Int)=j:=c4 (by omega) (by omega);have hj1:j+1<xs.length:=by omega
  have hj0:j<xs.length:=by omega
  have hdj:L.drop j=y::L.drop (j+1):=by obtain⟨hh,he⟩:=List.getElem?_eq_some_iff.1 hy;rw[List.drop_eq_getElem_cons hh,he]
  rotate_left
  ·refine zN ?_;refine b9 fun K3 hK3=>?_;refine gD ?_ fun K hK=>by simp -dsimp [b0i (L:=L) (x:=x) (R:=R) (Nat.zero_le _),wm1];refine cY (fun hm=>b8R x x) ?_;simp -dsimp [b0i (L:=L) (x:=x) (R:=R) (Nat.zero_le _),wm1];exact hK
   refine c3 rfl (fun hc1=>?_) (fun hc1=>?_)
   ·simp at hc1
   ·have hfin:ins x L=x::L:=by have:=a4g x L (by simpa using j2) [] (by simp);simpa using this
    have he:srt (xs.take (i+1))++xs.drop (i+1)=a8Y L x R 0:=by rw[hst,hR,hfin];simp[a8Y]
    refine r7 ?_;refine zQ (hK2 _ _ ?_);refine gP [0,1,2,6] ?_;refine gV ?_ fun K hK=>by simp -dsimp [wi];exact hK
    refine zQ ?_;exact⟨i+1,⟨by omega,by omega⟩,by omega,Q3 (e8 [some 0] rfl (by simp) (by simp only[he];simp)) (by simp)⟩
  ·refine zN ?_;refine b9 fun K4 hK4=>?_;refine b8U a1m rfl (by decide) rfl rfl fun K hK=>?_;simp -dsimp [gj,gb,wj,hj1,hj0];refine⟨by omega,?_⟩
   try simp -dsimp [gj,gb,wj,hj1,hj0]
   refine cY (fun hm=>b8R x y) ?_;simp -dsimp [gj,gb,wj,hj1,hj0];refine hK _ _ _ (by decide+kernel) ?_;clear hK K;refine c3 rfl (fun hc1=>?_) (fun hc1=>?_)
   ·skip
    try simp at hc1
    refine c6 ?_;refine zQ (hK4 _ _ ?_);refine gP [0,1,2,6,7] ?_;refine b9 fun K5 hK5=>?_;refine d4 ?_;refine a7g a1m rfl (by decide) rfl rfl fun K hK=>?_;simp -dsimp [gj,gb,wj,hj1,hj0]
    repeat (refine⟨by omega,?_⟩;try simp -dsimp [gj,gb,wj,hj1,hj0])
    refine hK _ _ _ (by decide+kernel) ?_;clear hK K;refine zQ (hK5 _ _ ?_);refine gP [0,1,2,6,7] ?_;refine gV ?_ fun K hK=>by simp -dsimp [wj];exact hK
    refine zQ ?_;have hsw:(((a8Y L x R (j+1)).map g8).set (j+1) [I y]).set j [I x]=(a8Y L x R j).map g8:=by rw[←b4n hy,List.map_set,List.map_set];rfl
    exact⟨j,⟨by omega,by intro z hz;rw[hdj]at hz;rcases List.mem_cons.1 hz with rfl|hz;exact hc1;exact j2 z hz⟩,by omega,gB [some 0] (hH:=by simp[hsw])⟩
   ·skip
    try simp at hc1
    have hfin:ins x L=L.take (j+1)++x::L.drop (j+1):=by have:=a4g x (L.drop (j+1)) j2 (L.take (j+1)) (fun a ha=>Int.le_trans (c3d hso hy a ha) hc1);rwa [List.take_append_drop]at this
    have he:srt (xs.take (i+1))++xs.drop (i+1)=a8Y L x R (j+1):=by rw[hst,hR,hfin];simp[a8Y]
    refine r7 ?_;refine zQ (hK2 _ _ ?_);refine gP [0,1,2,6] ?_;refine gV ?_ fun K hK=>by simp -dsimp [wi];exact hK
    refine zQ ?_;exact⟨i+1,⟨by omega,by omega⟩,by omega,Q3 (e8 [some 0] rfl (by simp) (by simp only[he];simp)) (by simp)⟩
 ·skip
  try simp at hc0
  have hie:i=xs.length:=by omega
  subst hie;refine r7 ?_
  try simp only[zT,reduceIte,Nat.reduceEqDiff]
  exact⟨[some 0],rfl,by simp,by simp,by simp[h1],by simp[W9,x4]⟩
theorem c1a:(Tryz.prog).underlying 9=some .string:=by kernel_rfl
theorem b9m:(Tryz.prog).underlying 5=some (.int .u8):=by kernel_rfl
theorem b7b:(Tryz.prog).underlying 275=some (.int .u64):=by kernel_rfl
theorem b3A (s:ByteArray) (n:Int) (h0:0≤n) (h1:n.toNat<s.size) (w:World):(Instr.index 9 (.string s) (.int .u8 n)).run Tryz.prog w= .ok (.int .u8 (s[n.toNat]).toNat) w:=by
 have hs:s[n.toNat]?=some s[n.toNat]:=getElem?_pos s n.toNat h1;simp[Instr.index,asIntOf,run_underlying c1a,h0,hs]
theorem b5A (n:Int) (w:World):(convert 3 275 (.int .i64 n)).run Tryz.prog w= .ok (.int .u64 (IntKind.u64.wrap n)) w:=by
 simp[convert,run_underlying a4R,run_underlying b7b,Conv.intToInt]
theorem c1u (n:Int) (w:World):(convert 305 5 (.int .u64 n)).run Tryz.prog w= .ok (.int .u8 (IntKind.u8.wrap n)) w:=by
 simp[convert,run_underlying b5N,run_underlying b9m,Conv.intToInt]
theorem c0y (n:Int) (w:World):(convert 5 3 (.int .u8 n)).run Tryz.prog w= .ok (.int .i64 (IntKind.i64.wrap n)) w:=by
 simp[convert,run_underlying a4R,run_underlying b9m,Conv.intToInt]
theorem c1I (n:Int) (h0:0≤n) (h1:n≤200):∃k,a8 Tryz.prog 199 [U n] (I k):=by
 have w8:IntKind.u8.wrap n=n:=by rw[IntKind.wrap_u8];omega
 have h2:¬4294967296≤n:=by omega
 have h3:¬65536≤n:=by omega
 have h4:¬256≤n:=by omega
 apply Exists.intro;refine oB Tryz.func199 Tryz.ntmps199 Tryz.results199 ?_;refine aW ?_;refine a5 fun K1 hK1=>?_;refine aW ?_;refine a6 rfl (fun hc0=>?_) (fun hc0=>?_)
 ·skip
  try simp at hc0
  omega
 ·skip
  try simp at hc0
  refine b8 ?_;refine zQ (hK1 _ _ ?_);refine aP [0,2] ?_;refine a5 fun K2 hK2=>?_;refine aW ?_;refine a6 rfl (fun hc1=>?_) (fun hc1=>?_)
  ·skip
   try simp at hc1
   omega
  ·skip
   try simp at hc1
   refine b8 ?_;refine zQ (hK2 _ _ ?_);refine aP [0,2] ?_;refine a5 fun K3 hK3=>?_;refine aW ?_;refine a6 rfl (fun hc2=>?_) (fun hc2=>?_)
   ·skip
    try simp at hc2
    omega
   ·skip
    try simp at hc2
    refine b8 ?_;refine zQ (hK3 _ _ ?_);refine aP [0,2] ?_;refine aS fun K hK=>?_;simp -dsimp;refine⟨_,c1u n,?_⟩
    try simp -dsimp [w8]
    refine⟨_,b3A _ n h0 (Nat.lt_of_lt_of_le (show n.toNat<256 by omega) (by decide+kernel)),?_⟩
    try simp -dsimp
    refine⟨_,c0y _,?_⟩
    try simp -dsimp
    apply hK;clear hK K;exact a7 rfl
theorem c3v (n:Int) (h0:0≤n) (h1:n≤200):∃k,a8 Tryz.prog 169 [U n] (I k):=by
 obtain⟨k,hk⟩:=c1I n h0 h1;refine⟨k,?_⟩;refine oB Tryz.func169 Tryz.ntmps169 Tryz.results169 ?_;refine aW ?_;refine a5 fun K1 hK1=>?_;refine a6 rfl (fun hc0=>?_) (fun hc0=>?_)
 ·simp at hc0
 ·refine b8 ?_;refine zQ (hK1 _ _ ?_);refine aP [0] ?_;refine aW ?_ fun K hK=>by simp -dsimp;refine cI (hk) ?_;simp -dsimp;exact hK
  exact a7 (by simp)
theorem c4D (xs:List Int) (k:Int) (h1:1≤xs.length) (hn:xs.length≤12):c8 Tryz.prog 168 [.row 0 0 xs.length,I 0,I xs.length,I k] [some (.els 1 (xs.map g8))] [] (.tup []) [some (.els 1 ((srt xs).map g8))] []:=by
 have hs:=c0w xs h1 (by omega);have wl:IntKind.i64.wrap (xs.length:Int)=xs.length:=c4 (by omega) (by omega);refine oG [0] Tryz.func168 Tryz.ntmps168 Tryz.results168 ?_;intro J hJ;refine gW ?_;refine gW ?_;refine d4 ?_;refine gP [0,1,2,3,8,9] ?_;refine i9 [0] (α:=Unit) (fun _=>[(1,I 0),(2,I xs.length),(3,I k),(8,Bo true),(9,Bo true)]) (fun _=>[some (.els 1 (xs.map g8))]) (fun _=>True) (fun _=>0) () ?_ ?_ ?_
 ·simp
 ·exact Q3 (c7 (by simp)) (by simp)
 rintro u-;refine zN ?_;refine d4 ?_;refine gW ?_ fun K hK=>by simp -dsimp [wl];exact hK
 refine b9 fun K1 hK1=>?_;refine gW ?_;refine c3 rfl (fun hc0=>?_) (fun hc0=>?_)
 ·skip
  try simp at hc0
  refine gW ?_ fun K hK=>by simp -dsimp;refine cM [0] [] (hs) ?_;simp -dsimp;exact hK
  exact i6 ⟨[some 0],rfl,by simp,by simp,by simp[h1],by simp[W9,x4]⟩
 ·skip
  try simp at hc0
  omega
theorem c3S (xs:List Int) (h1:1≤xs.length) (hn:xs.length≤12):c8 Tryz.prog 124 [.row 0 0 xs.length] [some (.els 1 (xs.map g8))] [] (.tup []) [some (.els 1 ((srt xs).map g8))] []:=by
 obtain⟨k,hk⟩:=c3v xs.length (by omega) (by omega);have hs:=c4D xs k h1 hn;have wu:IntKind.u64.wrap (xs.length:Int)=xs.length:=W5 (by omega) (by omega);refine oG [0] Tryz.func124 Tryz.ntmps124 Tryz.results124 ?_;intro J hJ;refine gW ?_;refine gV ?_ fun K hK=>by simp -dsimp;refine⟨_,b5A _,?_⟩;simp -dsimp [wu];refine cI (hk) ?_;simp -dsimp;refine cM [0] [] (hs) ?_;simp -dsimp;exact hK
 try simp only[zT,reduceIte,Nat.reduceEqDiff]
 exact⟨[some 0],rfl,by simp,by simp,by simp[h1],by simp[W9,x4]⟩
theorem b6U:a8 Tryz.prog 189 [.lst 1 [],I 0,I 0] (.tup []):=by
 have w01:IntKind.i64.wrap 1=1:=c4 (by omega) (by omega);refine oB Tryz.func189 Tryz.ntmps189 Tryz.results189 ?_;refine aW ?_ fun K hK=>by simp -dsimp [w01];exact hK
 refine a9 ?_;refine aP [0,1,2,6] ?_;refine c5 [0,1,2] (α:=Unit) (fun i=>[(6,I 1)]) (fun i=>[]) (fun i=>True) (fun i=>0) () ?_ ?_ ?_
 ·simp
 ·exact c7 (by simp)
 rintro u-;refine zN ?_;refine a5 fun K1 hK1=>?_;refine aW ?_;refine a6 rfl (fun hc0=>?_) (fun hc0=>?_)
 ·simp at hc0
 ·refine c9 ?_
  try simp only[zT,reduceIte,Nat.reduceEqDiff]
  simp[W9,x4]
theorem c2v (k:Int):a8 Tryz.prog 168 [.lst 1 [],I 0,I 0,I k] (.tup []):=by
 have wl:IntKind.i64.wrap 0=0:=c4 (by omega) (by omega);refine oB Tryz.func168 Tryz.ntmps168 Tryz.results168 ?_;refine aW ?_;refine aW ?_;refine a9 ?_;refine aP [0,1,2,3,8,9] ?_;refine c5 [0] (α:=Unit) (fun _=>[(1,I 0),(2,I 0),(3,I k),(8,Bo true),(9,Bo true)]) (fun _=>[]) (fun _=>True) (fun _=>0) () ?_ ?_ ?_
 ·simp
 ·exact c7 (by simp)
 rintro u-;refine zN ?_;refine a9 ?_;refine aW ?_ fun K hK=>by simp -dsimp [wl];exact hK
 refine a5 fun K1 hK1=>?_;refine aW ?_;refine a6 rfl (fun hc0=>?_) (fun hc0=>?_)
 ·refine aW ?_ fun K hK=>by simp -dsimp;refine cI (b6U) ?_;simp -dsimp;exact hK
  exact a7 (by simp[W9,x4])
 ·simp at hc0
theorem c0L:a8 Tryz.prog 124 [.lst 1 []] (.tup []):=by
 obtain⟨k,hk⟩:=c3v 0 (by omega) (by omega);have wu:IntKind.u64.wrap 0=0:=W5 (by omega) (by omega);refine oB Tryz.func124 Tryz.ntmps124 Tryz.results124 ?_;refine aW ?_;refine aV ?_ fun K hK=>by simp -dsimp;refine⟨_,b5A _,?_⟩;simp -dsimp [wu];refine cI (hk) ?_;simp -dsimp;refine cI (c2v k) ?_;simp -dsimp;exact hK
 try simp only[zT,reduceIte,Nat.reduceEqDiff]
 simp[W9,x4]
end Go.Tram
end
section
namespace Go.Tram
open Go.AM Go.Proofs
structure Move where
 Rail:Int
 Back:Bool
 deriving DecidableEq,Inhabited
@[simp] def Move.cells (m:Move):List AV:=[I m.Rail,Bo m.Back]
abbrev Move.av (m:Move):AV:= .agg m.cells
def I9 (m:Move):E1:=⟨m.Rail, !m.Back⟩
def a2r (m:Move):E1:=⟨m.Rail,m.Back⟩
def a5B (m:Move):Int:=if m.Back then 2*m.Rail+1 else 2*m.Rail
def Z5 (k:Int):Move:=⟨k/2,decide (k % 2=1)⟩
def D3 (p:Plan) (m:Move):Bool:=inr m.Rail 0 (p.Rails.length-1)
theorem E4 (q k:List KC) (u:Value):∀kvs:List (List KC×Value),p6 (L5 kvs k u) q=if q=k then some u else p6 kvs q
 |[]=>by simp[L5,p6]
 | (k0,v0)::r=>by
  simp only[L5]
  split
  ·rename_i e;subst e;simp only[p6]
   split<;>rfl
  ·rename_i e;simp only[p6]
   split
   ·rename_i e2;subst e2;rw[if_neg (fun h=>e h.symm)]
   ·exact E4 q k u r
def c2p (p:Plan) (e:E1):Value:=(p6 (G6 p p.Nodes.length) [.i .i64 e.Rail, .b e.Last]).getD (.int .i64 0)
def plc (p:Plan) (e:E1):Int:=match c2p p e with| .int _ n=>n|_=>0
def c1X (kvs:List (List KC×Value)):Prop:=∀q v,p6 kvs q=some v→∃n:Nat,n≤1000∧v= .int .i64 n
theorem a8t {kvs:List (List KC×Value)} {es:List E1} (h:c1X kvs):∀j,j≤1000→c1X (b3X kvs es j)
 |0,_=>h
 |j+1,hj=>by
  intro q v hq;simp only[b3X]at hq;rw[E4]at hq
  split at hq
  ·simp only[Option.some.injEq]at hq;exact⟨j,by omega,hq.symm⟩
  ·exact a8t h j (by omega) q v hq
theorem a2V {p:Plan} (hE:∀i:Nat,i<p.Nodes.length→(p.node i).Ends.length≤4):∀i,i≤p.Nodes.length→c1X (G6 p i)
 |0,_=>by intro q v h;simp[G6,p6]at h
 |i+1,hi=>by
  simp only[G6];exact a8t (a2V hE i (by omega)) _ (by have:=hE i (by omega);omega)
theorem X7 {p:Plan} (hv:d8 p=true) {i:Int} (h0:0≤i) (h1:i<p.Nodes.length):C0 (p.node i)=true:=List.all_eq_true.1 (j7 hv).2.2.1 _ (List.mem_of_getElem? (p.node_get h0 h1))
theorem R6 {n:Node} (h:C0 n=true):(1≤n.Kind∧n.Kind≤6)∧n.Ends.length≤4∧(0≤n.Normal∧n.Normal≤2):=by
 simp only[C0,Bool.and_eq_true,decide_eq_true_eq]at h;obtain⟨h1,_,h2,h3⟩:=h;unfold S4 at h2 h3;refine⟨by omega,by omega,?_⟩
 split at h1
 ·have:=g6.1 h1;omega
 ·simp only[decide_eq_true_eq]at h1;omega
theorem a9H {p:Plan} (hv:d8 p=true) (e:E1):c2p p e= .int .i64 (plc p e)∧0≤plc p e∧plc p e≤1000:=by
 have hi:=a2V (p:=p) (fun i hi=>(R6 (X7 hv (i:=i) (by omega) (by omega))).2.1) p.Nodes.length (Nat.le_refl _);have key:∃n:Nat,n≤1000∧c2p p e= .int .i64 n:=by
  unfold c2p
  cases hk:p6 (G6 p p.Nodes.length) [.i .i64 e.Rail, .b e.Last]with
  |none=>exact⟨0,by omega,rfl⟩
  |some v=>obtain⟨n,h1,h2⟩:=hi _ v hk;exact⟨n,h1,h2⟩
 obtain⟨n,h1,h2⟩:=key;unfold plc;rw[h2];exact⟨rfl,by show(0:Int)≤n;omega,by show(n:Int)≤1000;omega⟩
def E0 (n:Node) (f t:Int):Bool:=
 if n.Kind=1 then false else if n.Kind=2 then decide (f≠t)else if n.Kind=3 then decide (f≠t)&&decide ((f+t) % 2=0)
 else if n.Kind=4 then decide (f≠t)&&(decide (f=0)||decide (t=0))else if n.Kind=5 then(decide (f≠0)&&decide (t=0))||(decide (f=0)&&decide (t=n.Normal))
 else(decide (f=0)&&decide (t=n.Normal))||(decide (f=n.Normal)&&decide (t=0))
theorem c3c (n:Node) (f t:Int):a8 Tryz.prog 225 [.agg n.cells,I f,I t] (Bo false):=by
 refine oB Tryz.func225 Tryz.ntmps225 Tryz.results225 ?_;refine aW ?_;refine aW ?_;exact a7 (by simp)
theorem b6Z (n:Node) (f t:Int):a8 Tryz.prog 226 [.agg n.cells,I f,I t] (Bo (decide (f≠t))):=by
 refine oB Tryz.func226 Tryz.ntmps226 Tryz.results226 ?_;refine aW ?_;refine aW ?_;refine a7 ?_;simp;exact Bool.eq_iff_iff.2 (by simp)
theorem b7n (n:Node) (f t:Int) (hf:0≤f∧f≤1000) (ht:0≤t∧t≤1000):a8 Tryz.prog 227 [.agg n.cells,I f,I t] (Bo (decide (f≠t)&&decide ((f+t) % 2=0))):=by
 have w:IntKind.i64.wrap (f+t)=f+t:=c4 (by omega) (by omega);have w2:(f+t).tmod 2=(f+t) % 2:=Int.tmod_eq_emod_of_nonneg (by omega);refine oB Tryz.func227 Tryz.ntmps227 Tryz.results227 ?_;refine aW ?_;refine aW ?_ fun K hK=>by simp -dsimp [w,w2];exact hK
 refine a7 ?_;simp;exact Bool.eq_iff_iff.2 (by simp)
theorem c2O (n:Node) (f t:Int):a8 Tryz.prog 228 [.agg n.cells,I f,I t] (Bo (decide (f≠t)&&(decide (f=0)||decide (t=0)))):=by
 refine oB Tryz.func228 Tryz.ntmps228 Tryz.results228 ?_;refine aW ?_;refine aW ?_;refine a7 ?_;simp;exact Bool.eq_iff_iff.2 (by simp)
theorem b5H (n:Node) (f t:Int):a8 Tryz.prog 229 [.agg n.cells,I f,I t] (Bo ((decide (f≠0)&&decide (t=0))||(decide (f=0)&&decide (t=n.Normal)))):=by
 refine oB Tryz.func229 Tryz.ntmps229 Tryz.results229 ?_;refine aW ?_;refine aW ?_;refine a7 ?_;simp;exact Bool.eq_iff_iff.2 (by simp)
theorem b4d (n:Node) (f t:Int):a8 Tryz.prog 230 [.agg n.cells,I f,I t] (Bo ((decide (f=0)&&decide (t=n.Normal))||(decide (f=n.Normal)&&decide (t=0)))):=by
 refine oB Tryz.func230 Tryz.ntmps230 Tryz.results230 ?_;refine aW ?_;refine aW ?_;refine a7 ?_;simp;exact Bool.eq_iff_iff.2 (by simp)
theorem b9E (n:Node) (f t:Int) (hf:0≤f∧f≤1000) (ht:0≤t∧t≤1000) (hk:n.Kind=1):a8 Tryz.prog 216 [.agg n.cells,I f,I t] (Bo (E0 n f t)):=by
 have hc:=c3c n f t;unfold E0;simp only[Node.cells,hk,Int.reduceEq,if_false,if_true,reduceIte]at hc ⊢;refine oB Tryz.func216 Tryz.ntmps216 Tryz.results216 ?_;refine aW ?_;refine aW ?_;refine aD ?_ fun K hK=>by simp -dsimp;refine cI (hc) ?_;simp -dsimp;exact hK
 exact a7 (by simp)
theorem b9V (n:Node) (f t:Int) (hf:0≤f∧f≤1000) (ht:0≤t∧t≤1000) (hk:n.Kind=2):a8 Tryz.prog 216 [.agg n.cells,I f,I t] (Bo (E0 n f t)):=by
 have hc:=b6Z n f t;unfold E0;simp only[Node.cells,hk,Int.reduceEq,if_false,if_true,reduceIte]at hc ⊢;refine oB Tryz.func216 Tryz.ntmps216 Tryz.results216 ?_;refine aW ?_;refine aW ?_;refine aD ?_ fun K hK=>by simp -dsimp;refine cI (hc) ?_;simp -dsimp;exact hK
 exact a7 (by simp)
theorem c1H (n:Node) (f t:Int) (hf:0≤f∧f≤1000) (ht:0≤t∧t≤1000) (hk:n.Kind=3):a8 Tryz.prog 216 [.agg n.cells,I f,I t] (Bo (E0 n f t)):=by
 have hc:=b7n n f t hf ht;unfold E0;simp only[Node.cells,hk,Int.reduceEq,if_false,if_true,reduceIte]at hc ⊢;refine oB Tryz.func216 Tryz.ntmps216 Tryz.results216 ?_;refine aW ?_;refine aW ?_;refine aD ?_ fun K hK=>by simp -dsimp;refine cI (hc) ?_;simp -dsimp;exact hK
 exact a7 (by simp)
theorem b9J (n:Node) (f t:Int) (hf:0≤f∧f≤1000) (ht:0≤t∧t≤1000) (hk:n.Kind=4):a8 Tryz.prog 216 [.agg n.cells,I f,I t] (Bo (E0 n f t)):=by
 have hc:=c2O n f t;unfold E0;simp only[Node.cells,hk,Int.reduceEq,if_false,if_true,reduceIte]at hc ⊢;refine oB Tryz.func216 Tryz.ntmps216 Tryz.results216 ?_;refine aW ?_;refine aW ?_;refine aD ?_ fun K hK=>by simp -dsimp;refine cI (hc) ?_;simp -dsimp;exact hK
 exact a7 (by simp)
theorem b9R (n:Node) (f t:Int) (hf:0≤f∧f≤1000) (ht:0≤t∧t≤1000) (hk:n.Kind=5):a8 Tryz.prog 216 [.agg n.cells,I f,I t] (Bo (E0 n f t)):=by
 have hc:=b5H n f t;unfold E0;simp only[Node.cells,hk,Int.reduceEq,if_false,if_true,reduceIte]at hc ⊢;refine oB Tryz.func216 Tryz.ntmps216 Tryz.results216 ?_;refine aW ?_;refine aW ?_;refine aD ?_ fun K hK=>by simp -dsimp;refine cI (hc) ?_;simp -dsimp;exact hK
 exact a7 (by simp)
theorem c1c (n:Node) (f t:Int) (hf:0≤f∧f≤1000) (ht:0≤t∧t≤1000) (hk:n.Kind=6):a8 Tryz.prog 216 [.agg n.cells,I f,I t] (Bo (E0 n f t)):=by
 have hc:=b4d n f t;unfold E0;simp only[Node.cells,hk,Int.reduceEq,if_false,if_true,reduceIte]at hc ⊢;refine oB Tryz.func216 Tryz.ntmps216 Tryz.results216 ?_;refine aW ?_;refine aW ?_;refine aD ?_ fun K hK=>by simp -dsimp;refine cI (hc) ?_;simp -dsimp;exact hK
 exact a7 (by simp)
theorem c3B (n:Node) (f t:Int) (hf:0≤f∧f≤1000) (ht:0≤t∧t≤1000) (hk:1≤n.Kind∧n.Kind≤6):a8 Tryz.prog 216 [.agg n.cells,I f,I t] (Bo (E0 n f t)):=by
 have:n.Kind=1∨n.Kind=2∨n.Kind=3∨n.Kind=4∨n.Kind=5∨n.Kind=6:=by omega
 rcases this with h|h|h|h|h|h
 ·exact b9E n f t hf ht h
 ·exact b9V n f t hf ht h
 ·exact c1H n f t hf ht h
 ·exact b9J n f t hf ht h
 ·exact b9R n f t hf ht h
 ·exact c1c n f t hf ht h
theorem a3N (m:Move):a8 Tryz.prog 173 [m.av] (.agg [I m.Rail,Bo (!m.Back)]):=by
 refine oB Tryz.func173 Tryz.ntmps173 Tryz.results173 ?_;refine aW ?_;refine aW ?_;exact a7 (by simp)
theorem b8a (m:Move) (h0:0≤m.Rail) (h1:m.Rail≤100000):a8 Tryz.prog 217 [m.av] (I (a5B m)):=by
 have w1:IntKind.i64.wrap (2*m.Rail)=2*m.Rail:=c4 (by omega) (by omega);have w2:IntKind.i64.wrap (2*m.Rail+1)=2*m.Rail+1:=c4 (by omega) (by omega);refine oB Tryz.func217 Tryz.ntmps217 Tryz.results217 ?_;refine aW ?_;refine a5 fun K1 hK1=>?_;refine aW ?_;refine a6 rfl (fun hc0=>?_) (fun hc0=>?_)
 ·skip
  try simp at hc0
  refine aW ?_ fun K hK=>by simp -dsimp [w1,w2];exact hK
  exact a7 (by simp[a5B,hc0])
 ·skip
  try simp at hc0
  refine b8 ?_;refine zQ (hK1 _ _ ?_);refine aP [1] ?_;refine aW ?_ fun K hK=>by simp -dsimp [w1];exact hK
  exact a7 (by simp[a5B,hc0])
theorem c2P (k:Int) (h0:0≤k) (h1:k≤1000000):a8 Tryz.prog 218 [I k] (.agg [I (Z5 k).Rail,Bo (Z5 k).Back]):=by
 have w1:k.tdiv 2=k/2:=Int.tdiv_eq_ediv_of_nonneg h0;have w2:k.tmod 2=k % 2:=Int.tmod_eq_emod_of_nonneg h0;have w3:IntKind.i64.wrap (k/2)=k/2:=c4 (by omega) (by omega);refine oB Tryz.func218 Tryz.ntmps218 Tryz.results218 ?_;refine aW ?_;refine aW ?_ fun K hK=>by simp -dsimp [w1,w2,w3];exact hK
 refine a7 ?_;simp[Z5];exact Bool.eq_iff_iff.2 (by simp)
theorem b9W (p:Plan) (m:Move):a8 Tryz.prog 200 [.iptr (net p),m.av] (.clo 215 [.iptr [.iptr (net p)], .iptr m.cells]):=by
 generalize net p=sh;refine oB Tryz.func200 Tryz.ntmps200 Tryz.results200 ?_;refine aW ?_;refine aW ?_;exact a7 (by simp)
end Go.Tram
end
section
namespace Go.Tram
open Go.AM Go.Proofs Go.ChangeShapes Go.WideShapes
theorem c0Y {n:Nat} {avs:List AV} (h:v7 Tryz.prog (n+1) 4 avs):∃b,avs=[Bo b]:=a4P b9w h
theorem c1e {n:Nat} {avs:List AV} (h:v7 Tryz.prog (n+2) 56 avs):∃s:Move,avs=s.cells∧I64 s.Rail:=by
 obtain⟨h1,h2⟩:=B6 (by kernel_rfl) c6T h;obtain⟨a,b,rfl⟩:=b3K h1;obtain⟨x,hx,bx⟩:=O4 (h2 (0,1,3) (by simp));obtain⟨y,hy⟩:=c0Y (h2 (1,1,4) (by simp));simp at hx hy;subst hx hy;exact⟨⟨x,y⟩,rfl,bx⟩
theorem b1h {n:Nat} {avs:List AV} (h:v7 Tryz.prog (n+3) 49 avs):∃l:List Move,avs=[.lst 2 (l.map Move.cells)]∧l.length≤maxLen∧∀s∈l,I64 s.Rail:=by
 obtain⟨els,hl,hb,he⟩:=z6 (by kernel_rfl) c6K h;obtain⟨l,rfl,hR⟩:=Q8 (c:=Move.cells) (R:=fun s=>I64 s.Rail) (fun el hel=>c1e (he el hel));simp at hl hb;exact⟨l,hl,hb,hR⟩
end Go.Tram
end
section
namespace Go.Tram
open Go.AM Go.Proofs
structure Fnd where
 Move:Int
 Len:Int
 Mv:Int
 deriving DecidableEq,Inhabited
@[simp] def Fnd.cells (x:Fnd):List AV:=[I x.Move,I x.Len,I x.Mv]
abbrev Fnd.av (x:Fnd):AV:= .agg x.cells
section
variable {α:Type} [Inhabited α] (lt:α→α→Bool)
def gd (l:List α) (i:Nat):α:=l.getD i default
def c6i (l:List α) (i j:Nat):List α:=(l.set i (gd l j)).set j (gd l i)
def c4R (l:List α) (i n:Nat):Nat:=if 2*i+2<n∧lt (gd l (2*i+2)) (gd l (2*i+1))=true then 2*i+2 else 2*i+1
def c1k:Nat→List α→Nat→Nat→List α
 |0,l,_,_=>l
 |k+1,l,i,n=>if n≤2*i+1∨lt (gd l (c4R lt l i n)) (gd l i)=false then l else c1k k (c6i l i (c4R lt l i n)) (c4R lt l i n) n
end
end Go.Tram
end
section
namespace Go.Tram
open Go.AM Go.Proofs
abbrev k9 (r n:Nat):Option l7:=some (.els 1 [[.row r 0 n]])
end Go.Tram
end
section
namespace Go.Tram
open Go.AM Go.Proofs
def l6 (p:Plan) (m:Move):Node:=p.node (p.at (I9 m))
def nxK (p:Plan) (m:Move) (k:Nat):List Int:=match (l6 p m).Ends[k]? with
 |some e=>if E0 (l6 p m) (plc p (I9 m)) k then [a5B ⟨e.Rail,e.Last⟩]else []
 |none=>[]
def a8W (p:Plan) (m:Move) (j:Nat):List Int:=(List.range j).flatMap (nxK p m)
def a9P (p:Plan) (m:Move):List Move:=(srt (a8W p m (l6 p m).Ends.length)).map Z5
theorem a7L (p:Plan) (m:Move) (j:Nat):a8W p m (j+1)=a8W p m j++nxK p m j:=by
 simp only[a8W,List.range_succ,List.flatMap_append,List.flatMap_cons,List.flatMap_nil,List.append_nil]
theorem b6C (p:Plan) (m:Move) (j:Nat):(a8W p m j).length≤j:=by
 induction j with
 |zero=>simp[a8W]
 |succ j ih=>
  rw[a7L,List.length_append];have:(nxK p m j).length≤1:=by unfold nxK;split<;>(try split)<;>simp
  omega
theorem O5 {p:Plan} (hv:d8 p=true) {i:Nat} (hi:i<p.Nodes.length) {j:Nat} {e:E1} (he:(p.node i).Ends[j]?=some e):(0≤e.Rail∧e.Rail<p.Rails.length)∧p.at e=i:=by
 obtain⟨r,hr⟩:=a6R hi he;have hE:=(j7 hv).2.2.2.2;simp only[a0O,Bool.and_eq_true,List.all_eq_true]at hE;have:=hE.1 (i,e) (by rw[hr];simp);simp only[endB,Bool.and_eq_true,decide_eq_true_eq,g6]at this;exact⟨by omega,this.2⟩
theorem b4Z {p:Plan} (hv:d8 p=true) {e:E1} (h0:0≤e.Rail) (h1:e.Rail<p.Rails.length):0≤p.at e∧p.at e<p.Nodes.length:=by
 have ro:=P0 hv h0 h1;unfold Plan.at
 split
 ·exact ro.t
 ·exact ro.f
theorem F3 {p:Plan} {m:Move}:D3 p m=true↔0≤m.Rail∧m.Rail<p.Rails.length:=by
 unfold D3;rw[g6];omega
theorem b8j {p:Plan} (hv:d8 p=true) {m:Move} (hm:D3 p m=true):∀j,∀k∈a8W p m j,0≤k∧k≤100000∧D3 p (Z5 k)=true:=by
 have hm':=F3.1 hm;have ha:=b4Z hv (e:=I9 m) hm'.1 hm'.2;have hR:=(j7 hv).2.1;intro j k hk;simp only[a8W,List.mem_flatMap,List.mem_range]at hk;obtain⟨i,hi,hk⟩:=hk;unfold nxK at hk
 split at hk
 ·rename_i e he
  split at hk
  ·obtain rfl:k=a5B ⟨e.Rail,e.Last⟩:=by simpa using hk
   have hn:l6 p m=p.node ((p.at (I9 m)).toNat:Nat):=by unfold l6;rw[show(((p.at (I9 m)).toNat:Nat):Int)=p.at (I9 m)by omega]
   rw[hn]at he;have:=O5 hv (i:=(p.at (I9 m)).toNat) (by omega) he;rw[F3];simp only[a5B,Z5]
   split<;>omega
  ·simp at hk
 ·simp at hk
theorem a6B {l:List Int}:∀{z:Int},z∈srt l↔z∈l:=by
 have gen:∀(l s:List Int) (z:Int),z∈l.foldl (fun s x=>ins x s) s↔z∈s∨z∈l:=by
  intro l
  induction l with
  |nil=>simp
  |cons x l ih=>
   intro s z;rw[List.foldl_cons,ih,a4I];simp only[List.mem_cons];constructor
   ·rintro((h|h)|h)<;>simp[h]
   ·rintro(h|h|h)<;>simp[h]
 intro z;have:=gen l [] z;simpa [srt]using this
theorem b9O (p:Plan) (m:Move) (hv:d8 p=true) (hm:D3 p m=true):a0B Tryz.prog 215 [.iptr [.iptr (net p)], .iptr m.cells] ((a9P p m).map fun k=>[k.av]):=by
 have hm':=F3.1 hm;have ha:=b4Z hv (e:=I9 m) hm'.1 hm'.2;have hnode:=p.node_get ha.1 ha.2;have hnf:=R6 (X7 hv ha.1 ha.2);have hb:=b8j hv hm;have hplc:=a9H hv (I9 m);have hcar:=a3N m;have hce:=a6O p (I9 m) hm'.1 hm'.2;have hna:p.node (p.at (I9 m))=l6 p m:=rfl;have hno:∀(j:Nat) (e:E1),(l6 p m).Ends[j]?=some e→(0≤e.Rail∧e.Rail<p.Rails.length):=by
  intro j e he;have hn:l6 p m=p.node ((p.at (I9 m)).toNat:Nat):=by unfold l6;rw[show(((p.at (I9 m)).toNat:Nat):Int)=p.at (I9 m)by omega]
  rw[hn]at he;exact(O5 hv (i:=(p.at (I9 m)).toNat) (by omega) he).1
 have hR:=(j7 hv).2.1;have hxk:∀(j:Nat) (e:E1),(l6 p m).Ends[j]?=some e→nxK p m j=if E0 (l6 p m) (plc p (I9 m)) j then [a5B ⟨e.Rail,e.Last⟩]else []:=by intro j e he;unfold nxK;rw[he]
 have hnl:a9P p m=(srt (a8W p m (l6 p m).Ends.length)).map Z5:=rfl;rw[hna]at hnode hnf;generalize l6 p m=n at hnode hnf hno hxk hnl;unfold net;refine O7.of_body Tryz.func215 rfl (by decide) (by simp[Tryz.ntmps215]) (by simp[Tryz.ntmps215]) (by simp[Tryz.results215]) ?_;intro J l hmk hY;simp only[Tryz.ntmps215,Tryz.results215];refine gD ?_ fun K hK=>by simp -dsimp [hnode,ha.1];refine cI (hcar) ?_;simp -dsimp [hnode,ha.1];refine cI (hce) ?_;simp -dsimp [hnode,ha.1];exact hK
 refine gW ?_;refine b9 fun K1 hK1=>?_;refine gW ?_;refine d4 ?_;refine v9 [0,1,2,4,5,25,26,27,999999] (Or.inl (by decide)) ?_;refine zN ?_;refine i9 [0,1,2,4,25,26] (α:=Nat) (fun j=>[(27,I j),(5, .row 1 0 (a8W p m j).length),(999999,X9 0)]) (fun j=>[some (.els 5 [n.cells]),some (.els 1 ((a8W p m j).map g8))]) (fun j=>j≤n.Ends.length) (fun j=>n.Ends.length-j) 0 ?_ ?_ ?_
 ·simp
 ·exact Q3 ((Y9 5 1 (by simp)).trans (e8 [some 0,some 1] rfl (by simp[a8W]) (by simp[a8W]))) (by simp)
 rintro j j1;have hsu:=a7L p m j;have hlj:=b6C p m j;have hbj:=hb j;refine zN ?_;refine gW ?_;refine b9 fun K2 hK2=>?_;refine c3 rfl (fun hc0=>?_) (fun hc0=>?_)
 ·skip
  try simp at hc0
  obtain⟨e,he⟩:=gx (l:=n.Ends) (i:=j) hc0;have wj:=zW j (by omega);have her:=hno j e he;rw[hxk j e he]at hsu;generalize hA:a8W p m j=A at hsu hlj hbj ⊢;have f1:Q5 (A.length+1) 9:=l8 (by omega) (by omega);have hot:(A.map g8).take A.length=A.map g8:=List.take_of_length_le (by simp);refine c6 ?_;refine zQ (hK2 _ _ ?_);refine v9 [0,1,2,4,5,25,26,27,999999] (Or.inl (by decide)) ?_;refine zN ?_;refine b9 fun K3 hK3=>?_;refine d4 ?_;refine gW ?_ fun K hK=>by simp -dsimp [he];exact hK
  refine gD ?_ fun K hK=>by simp -dsimp;refine cI (hcar) ?_;simp -dsimp;refine d7 (I (plc p (I9 m))) (fun hm=>congrArg AV.v hplc.1) ?_;simp -dsimp;refine cI (c3B n (plc p (I9 m)) j ⟨hplc.2.1,hplc.2.2⟩ ⟨by omega,by omega⟩ hnf.1) ?_;simp -dsimp;exact hK
  refine c3 rfl (fun hc1=>?_) (fun hc1=>?_)
  ·rw[hc1,if_pos rfl]at hsu;refine gV ?_ fun K hK=>by simp -dsimp [f1];refine cI (b8a ⟨e.Rail,e.Last⟩ her.1 (by have:=her.2;show e.Rail≤100000;omega)) ?_;simp -dsimp [f1];exact hK
   refine zQ (hK3 _ _ ?_);refine v9 [0,1,2,4,5,25,26,27,999999] (Or.inl (by decide)) ?_;refine zN ?_;refine gV ?_ fun K hK=>by simp -dsimp [wj];exact hK
   refine zQ ?_;exact⟨j+1,by omega,by omega,Q3 (e8 [some 0,some 3] rfl (by simp[hsu]) (by simp[hsu,hot])) (by simp)⟩
  ·rw[hc1,if_neg (by simp)]at hsu;refine c6 ?_;refine zQ (hK3 _ _ ?_);refine v9 [0,1,2,4,5,25,26,27,999999] (Or.inl (by decide)) ?_;refine zN ?_;refine gV ?_ fun K hK=>by simp -dsimp [wj];exact hK
   refine zQ ?_;exact⟨j+1,by omega,by omega,Q3 (e8 [some 0,some 1] rfl (by simp[hsu]) (by simp[hsu])) (by simp)⟩
 ·skip
  try simp at hc0
  have hje:j=n.Ends.length:=by omega
  subst hje;generalize hA:a8W p m n.Ends.length=A at hlj hbj hnl ⊢;refine r7 ?_;refine zQ (hK1 _ _ ?_);refine v9 [0,5,999999] (Or.inl (by decide)) ?_;refine zN ?_
  rcases Decidable.em (A=[])with rfl|hA0
  ·refine gW ?_ fun K hK=>by simp -dsimp;refine cI (c0L) ?_;simp -dsimp;exact hK
   refine gW ?_;refine d4 ?_;refine v9 [0,55,56,57,999999] (Or.inl (by decide)) ?_;refine zN ?_;refine i9 [0,55,56] (α:=Nat) (fun i=>[(57,I i),(999999,X9 i)]) (fun i=>[some (.els 5 [n.cells]),some (.els 1 [])]) (fun i=>i≤0) (fun i=>0) 0 ?_ ?_ ?_
   ·simp
   ·exact Q3 (c7 (by simp)) (by simp)
   rintro i i1;refine zN ?_;refine gW ?_;refine b9 fun K4 hK4=>?_;refine c3 rfl (fun hc2=>?_) (fun hc2=>?_)
   ·simp at hc2;omega
   ·refine r7 ?_
    try simp only[zT,reduceIte,Nat.reduceEqDiff]
    have hi0:i=0:=by omega
    simp[hnl,srt,hi0]
  ·refine gW ?_ fun K hK=>by simp -dsimp;refine cM [1] [] (c3S A (List.length_pos_iff.2 hA0) (by omega)) ?_;simp -dsimp;exact hK
   refine gW ?_;refine d4 ?_;refine v9 [0,55,56,57,999999] (Or.inl (by decide)) ?_;refine zN ?_;refine i9 [0,55,56] (α:=Nat) (fun i=>[(57,I i),(999999,X9 i)]) (fun i=>[some (.els 5 [n.cells]),some (.els 1 ((srt A).map g8))]) (fun i=>i≤(srt A).length) (fun i=>(srt A).length-i) 0 ?_ ?_ ?_
   ·simp
   ·exact Q3 (c7 (by simp)) (by simp)
   rintro i i1;refine zN ?_;refine gW ?_;refine b9 fun K5 hK5=>?_;refine c3 rfl (fun hc2=>?_) (fun hc2=>?_)
   ·have hsl:=a6G A;obtain⟨k,hk⟩:∃k,(srt A)[i]?=some k:=⟨_,List.getElem?_eq_getElem (by simpa [hsl]using hc2)⟩;have hkb:=hbj k (a6B.1 (List.mem_of_getElem? hk));have wi:=zW i (by omega);have hiA:i<A.length:=by simpa using hc2
    refine c6 ?_;refine zQ (hK5 _ _ ?_);refine v9 [0,55,56,57,999999] (Or.inl (by decide)) ?_;refine zN ?_;refine b9 fun K6 hK6=>?_;refine d4 ?_;refine gW ?_ fun K hK=>by simp -dsimp [hk];refine⟨hiA,?_⟩;exact hK
    refine b9a hmk hY rfl (by decide) rfl rfl fun K hK=>?_;simp -dsimp;refine cI (c2P k hkb.1 (by omega)) ?_;simp -dsimp;refine b1u (by rw[hnl,List.getElem?_map,List.getElem?_map,hk];rfl) ?_ ?_
    ·apply hK;clear hK K;refine c3 rfl (fun hc3=>?_) (fun hc3=>?_)
     ·simp at hc3
     ·refine c6 ?_;refine zQ (hK6 _ _ ?_);refine v9 [0,55,56,57,999999] (Or.inl (by decide)) ?_;refine zN ?_;refine gV ?_ fun K hK=>by simp -dsimp [wi];exact hK
      refine zQ ?_;exact⟨i+1,by omega,by omega,gB [some 0,some 1]⟩
    ·apply hK;clear hK K;refine c3 rfl (fun hc3=>?_) (fun hc3=>?_)
     ·exact i6 (by simp)
     ·simp at hc3
   ·refine r7 ?_
    try simp only[zT,reduceIte,Nat.reduceEqDiff]
    have hie:i=A.length:=by have:=a6G A;simp at hc2;omega
    simp[hnl,a6G,hie]
def F9 (p:Plan) (m k:Move):Bool:=(a9P p m).any fun x=>decide (x=k)
theorem a4j (p:Plan) (m k:Move) (hv:d8 p=true) (hm:D3 p m=true):a8 Tryz.prog 172 [.iptr (net p),m.av,k.av] (Bo (F9 p m k)):=by
 have hit:=b9O p m hv hm;have hnx:=b9W p m;generalize net p=sh at hit hnx;refine a8.of_bodyG Tryz.func172 rfl (by decide) (by simp[Tryz.ntmps172]) ?_;intro J hJ;simp only[Tryz.ntmps172,Tryz.results172];refine gW ?_;refine b9 fun K1 hK1=>?_;refine gW ?_ fun K hK=>by simp -dsimp;refine cI (hnx) ?_;simp -dsimp;exact hK
 refine d4 ?_;refine gP [5,6,10] ?_;refine a4r hJ [5,6,10] (fun _=>[some (.els 2 [m.cells]),some (.els 2 [k.cells]),some (.els 1 [[Bo false]])]) (fun n=>((a9P p m).take n).any (fun x=>decide (x=k))=false) rfl (hit) rfl (by simp) (by decide) (by decide) (by decide) (by intro z hz;obtain⟨q,_,rfl⟩:=List.mem_map.1 hz;rfl) ?_ ?_ ?_ ?_
 ·trivial
 ·exact c7 (by simp)
 ·intro n xv hxn hi l1 J1 hJ1;obtain⟨q,hq,rfl⟩:∃q,(a9P p m)[n]?=some q∧[q.av]=xv:=by simpa using hxn
  simp only[List.zip_cons_cons,List.zip_nil_left,List.zip_nil_right,List.cons_append,List.nil_append];refine gV ?_;simp only[b3c];intro J2 hJ2;refine gP [5,6,7,10] ?_;refine d4 ?_;refine gW ?_;refine c3 rfl (fun hc0=>?_) (fun hc0=>?_)
  ·have hqe:q=k:=by simp at hc0;cases q;cases k;simp_all
   have hany:(a9P p m).any (fun x=>decide (x=k))=true:=List.any_eq_true.2 ⟨q,List.mem_of_getElem? hq,by simpa using hqe⟩;refine gW ?_;exact i6 ⟨[some (.els 2 [m.cells]),some (.els 2 [k.cells]),some (.els 1 [[Bo true]])],aB [some 0,some 1,some 2],by simp[F9,hany]⟩
  ·have hne:decide (q=k)=false:=by rw[decide_eq_false_iff_not];rintro rfl;simp at hc0
   refine c6 ?_;simp only[Z0,H7,a6f,reduceIte,Nat.reduceEqDiff,eq_self];refine⟨?_,aB [some 0,some 1,some 2]⟩;rw[List.take_add_one,List.any_append,hi,hq];simp[hne]
 ·intro hdone;refine zQ (hK1 _ _ ?_);refine gP [6] ?_;refine gW ?_;refine i6 ?_;rw[List.take_of_length_le (by simp)]at hdone;simp[F9,hdone]
def U5 (p:Plan) (l:List Move) (i:Nat):Bool:=D3 p (l[i]?.getD default)&&(decide (i=0)||F9 p (l[i-1]?.getD default) (l[i]?.getD default))
def wayB (p:Plan) (l:List Move):Bool:=(List.range l.length).all (U5 p l)&&inr l.length 1 2000
theorem a4f (f:Nat→Bool) (n:Nat):(List.range (n+1)).all f=((List.range n).all f&&f n):=by
 rw[List.range_succ,List.all_append];simp
theorem a0U {f:Nat→Bool} {n k:Nat} (h:(List.range n).all f=true) (hk:k<n):f k=true:=List.all_eq_true.1 h k (List.mem_range.2 hk)
theorem a3L (a f:Bool) (i:Nat):(!a||(decide (0<i)&& !f))= !(a&&(decide (i=0)||f)):=by cases a<;>cases f<;>by_cases h:i=0<;>simp[h]<;>omega
theorem b7X (p:Plan) (l:List Move) (hv:d8 p=true) (hn:l.length≤100000):a8 Tryz.prog 129 [.iptr (net p), .lst 2 (l.map Move.cells)] (Bo (wayB p l)):=by
 have hhas:=fun r b=>a5A p r b hv;have hfol:=fun m k=>a4j p m k hv;generalize net p=sh at hhas hfol;refine oB Tryz.func129 Tryz.ntmps129 Tryz.results129 ?_;refine aW ?_;refine a5 fun K1 hK1=>?_;refine aW ?_;refine a9 ?_;refine aP [0,1,7,8,9] ?_;refine c5 [0,1,7,8] (α:=Nat) (fun i=>[(9,I i)]) (fun i=>[]) (fun i=>i≤l.length∧(List.range i).all (U5 p l)=true) (fun i=>l.length-i) 0 ?_ ?_ ?_
 ·simp
 ·exact c7 (by simp)
 rintro i ⟨i1,i2⟩;refine zN ?_;refine aW ?_;refine a5 fun K2 hK2=>?_;refine a6 rfl (fun hc0=>?_) (fun hc0=>?_)
 ·skip
  try simp at hc0
  obtain⟨m,hgm⟩:=gx (l:=l) (i:=i) hc0;have wi:=zW i (by omega);have w1:IntKind.i64.wrap ((i:Int)-1)=(i:Int)-1:=c4 (by omega) (by omega);have hprev:0<i→l[i-1]?=some (l[i-1]?.getD default):=fun h=>by rw[List.getElem?_eq_getElem (by omega)];rfl
  have hpm:0<i→D3 p (l[i-1]?.getD default)=true:=fun h=>(Bool.and_eq_true_iff.1 (a0U i2 (show i-1<i by omega))).1;have hst:U5 p l i=(D3 p m&&(decide (i=0)||F9 p (l[i-1]?.getD default) m)):=by unfold U5;rw[hgm];rfl
  generalize l[i-1]?.getD default=m' at hprev hpm hst;have hmv:D3 p m=inr m.Rail 0 (p.Rails.length-1):=rfl;refine b8 ?_;refine zQ (hK2 _ _ ?_);refine aP [0,1,7,8,9] ?_;refine a5 fun K3 hK3=>?_;refine a9 ?_;refine aW ?_ fun K hK=>by simp -dsimp [hgm];exact hK
  refine b0F a1m rfl fun K hK=>?_;simp -dsimp [w1];refine cI (hhas m.Rail m.Back) ?_;simp -dsimp [w1];refine⟨fun _ h=>by omega,?_⟩
  try simp -dsimp
  refine k7 m'.cells (fun hq=>by simp at hq;rw[List.getElem?_map,hprev hq.2];rfl) ?_;simp -dsimp [w1];refine cY (fun hm=>(hfol m' m (hpm (by simp at hm;exact hm.2)))) ?_;simp -dsimp [w1];refine hK _ _ _ (by decide+kernel) ?_;clear hK K;refine a6 rfl (fun hc1=>?_) (fun hc1=>?_)
  ·rw[a3L,←hmv,←hst]at hc1;have hsf:U5 p l i=false:=by simpa using hc1
   have hb:wayB p l=false:=by unfold wayB;rw[show(List.range l.length).all (U5 p l)=false from by rw[List.all_eq_false];exact⟨i,List.mem_range.2 hc0,by simp[hsf]⟩];rfl
   refine aW ?_;exact a7 (by simp[hb])
  ·rw[a3L,←hmv,←hst]at hc1;have hst1:U5 p l i=true:=by simpa using hc1
   refine b8 ?_;refine zQ (hK3 _ _ ?_);refine aP [0,1,7,8,9] ?_;refine aV ?_ fun K hK=>by simp -dsimp [wi];exact hK
   refine zQ ?_;exact⟨i+1,⟨by omega,by rw[a4f,i2,hst1];rfl⟩,by omega,aB []⟩
 ·skip
  try simp at hc0
  have hie:i=l.length:=by omega
  subst hie;refine c9 ?_;refine zQ (hK1 _ _ ?_);refine aP [1] ?_;refine aW ?_ fun K hK=>by simp -dsimp;refine cI (D4 l.length 1 2000) ?_;simp -dsimp;exact hK
  exact a7 (by simp[wayB,i2])
end Go.Tram
end
section
namespace Go.Tram
open Go.AM Go.Proofs
def C3 (l:List Move) (i:Nat):Move:=l[i]?.getD default
def a1s (p:Plan) (l:List Move):Nat→Int
 |0=>0
 |i+1=>a1s p l i+p.len (C3 l i).Rail
theorem c3E {p:Plan} (hv:d8 p=true) {r:Int} (h0:0≤r) (h1:r<p.Rails.length):1≤p.len r∧p.len r≤31000000:=by
 have ro:=P0 hv h0 h1;have hl:=ro.len;have hs:=ro.s;have h:=a1p ro ((p.rail r).Shape.length+1) (by omega);unfold Plan.len;omega
theorem J9 {p:Plan} {l:List Move} (h:wayB p l=true):∀i,i<l.length→D3 p (C3 l i)=true:=by
 intro i hi;have:=(Bool.and_eq_true_iff.1 h).1;exact(Bool.and_eq_true_iff.1 (a0U this hi)).1
theorem F5 {p:Plan} {l:List Move} (h:wayB p l=true):1≤l.length∧l.length≤2000:=by
 have:=g6.1 (Bool.and_eq_true_iff.1 h).2;omega
theorem b0V {p:Plan} {l:List Move} (hv:d8 p=true) (h:wayB p l=true):∀i,i≤l.length→0≤a1s p l i∧a1s p l i≤31000000*i
 |0,_=>by simp[a1s]
 |i+1,hi=>by
  have h1:=b0V hv h i (by omega);have h2:=F3.1 (J9 h i (by omega));have h3:=c3E hv h2.1 h2.2;simp only[a1s];omega
theorem a9T (p:Plan) (l:List Move) (hv:d8 p=true) (hw:wayB p l=true):a8 Tryz.prog 170 [.iptr (net p), .lst 2 (l.map Move.cells)] (I (a1s p l l.length)):=by
 have hl:=F5 hw;unfold net;refine oB Tryz.func170 Tryz.ntmps170 Tryz.results170 ?_;refine aW ?_;refine aW ?_;refine a5 fun K1 hK1=>?_;refine aW ?_;refine a9 ?_;refine aP [0,5,8,9,10] ?_;refine c5 [0,8,9] (α:=Nat) (fun i=>[(10,I i),(5,I (a1s p l i))]) (fun i=>[]) (fun i=>i≤l.length) (fun i=>l.length-i) 0 ?_ ?_ ?_
 ·simp
 ·exact c7 (by simp[a1s])
 rintro i i1;refine zN ?_;refine aW ?_;refine a5 fun K2 hK2=>?_;refine a6 rfl (fun hc0=>?_) (fun hc0=>?_)
 ·skip
  try simp at hc0
  obtain⟨m,hgm⟩:=gx (l:=l) (i:=i) hc0;have wi:=zW i (by omega);have hma:C3 l i=m:=by simp[C3,hgm]
  have hmv:=J9 hw i hc0;have hb1:=b0V hv hw (i+1) (by omega);have hbs:a1s p l (i+1)=a1s p l i+p.len m.Rail:=by simp only[a1s];rw[hma]
  rw[hma]at hmv;have hmr:=F3.1 hmv;have hlg:(I2 p p.Rails.length)[m.Rail.toNat]?=some [I (p.len m.Rail)]:=by rw[b5c (by omega),show((m.Rail.toNat:Nat):Int)=m.Rail by omega]
  have ws:IntKind.i64.wrap (a1s p l i+p.len m.Rail)=a1s p l (i+1):=by rw[←hbs];exact c4 (by omega) (by omega)
  refine b8 ?_;refine zQ (hK2 _ _ ?_);refine aP [0,5,8,9,10] ?_;refine a5 fun K3 hK3=>?_;refine a9 ?_;refine aW ?_ fun K hK=>by simp -dsimp [hgm];exact hK
  refine aE ?_ fun K hK=>by simp -dsimp [hlg,ws,hmr.1];exact hK
  refine zQ (hK3 _ _ ?_);refine aP [0,5,8,9,10] ?_;refine aV ?_ fun K hK=>by simp -dsimp [wi];exact hK
  refine zQ ?_;exact⟨i+1,by omega,by omega,aB []⟩
 ·skip
  try simp at hc0
  have hie:i=l.length:=by omega
  subst hie;refine c9 ?_;refine zQ (hK1 _ _ ?_);refine aP [5] ?_;refine aW ?_;exact a7 (by simp)
end Go.Tram
end
section
namespace Go.Tram
open Go.AM Go.Proofs
def nxF (p:Plan) (x:Fnd) (k:Nat):Fnd:=⟨k,x.Len+p.len (x.Move/2),x.Mv+1⟩
end Go.Tram
end
section
namespace Go.Tram
open Go.AM Go.Proofs
theorem b9s (l:List Move):(l.map Move.cells).all (fun e=>e.all V8)=true:=by simp[V8]
@[simp high] theorem c2o (l:List Move) (g:List (Option Nat)) (n:Nat):(l.map Move.cells).map (fun e=>e.map (o9 g n))=l.map Move.cells:=v8 (fun x h=>O3 h g n) (b9s l)
@[simp high] theorem c0Z (l:List Move) (H:Hp) (n:Nat):(l.map Move.cells).map (fun e=>e.map (J4 H n))=l.map Move.cells:=v8 (fun x h=>N1 h H n) (b9s l)
abbrev a4W (l:List Move):AV:= .lst 2 (l.map Move.cells)
@[simp] theorem c5v (l:List Move):List.take l.length (l.map Move.cells)=l.map Move.cells:=List.take_of_length_le (by simp)
theorem a8L (p:Plan) (m k:Move) (hv:d8 p=true) (hm:D3 p m=true) (hk:D3 p k=true):a8 Tryz.prog 175 [p.av,m.av,k.av] (.tup [Bo (F9 p m k),I 0]):=by
 have hop:=U0 p hv;have hh:=a5A p m.Rail m.Back hv;have hhk:=a5A p k.Rail k.Back hv;rw[show inr m.Rail 0 (p.Rails.length-1)=true from hm]at hh;rw[show inr k.Rail 0 (p.Rails.length-1)=true from hk]at hhk;have hf:=a4j p m k hv hm;generalize net p=sh at hop hh hhk hf;refine oB Tryz.func175 Tryz.ntmps175 Tryz.results175 ?_;refine aW ?_;refine aW ?_ fun K hK=>by simp -dsimp;refine cI (hop) ?_;simp -dsimp;exact hK
 refine a5 fun K1 hK1=>?_;refine aW ?_ fun K hK=>by simp -dsimp;refine cY (fun hm=>hh) ?_;simp -dsimp;refine cY (fun hm=>hhk) ?_;simp -dsimp;exact hK
 refine a6 rfl (fun hc0=>?_) (fun hc0=>?_)
 ·simp at hc0
 ·refine b8 ?_;refine zQ (hK1 _ _ ?_);refine aP [4,5,8] ?_;refine aW ?_ fun K hK=>by simp -dsimp;refine cI (hf) ?_;simp -dsimp;exact hK
  exact a7 (by simp)
theorem a4Z (p:Plan) (l:List Move) (hv:d8 p=true) (h:wayB p l=true):a8 Tryz.prog 126 [p.av,a4W l] (.tup [I (a1s p l l.length),I 0]):=by
 have hl:=F5 h;have hop:=U0 p hv;have hh:=b7X p l hv (by omega);have hw:=a9T p l hv h;rw[h]at hh;generalize net p=sh at hop hh hw;refine oB Tryz.func126 Tryz.ntmps126 Tryz.results126 ?_;refine aW ?_;refine aW ?_ fun K hK=>by simp -dsimp;refine cI (hop) ?_;simp -dsimp;exact hK
 refine a5 fun K1 hK1=>?_;refine aW ?_ fun K hK=>by simp -dsimp;refine cY (fun hm=>hh) ?_;simp -dsimp;exact hK
 refine a6 rfl (fun hc0=>?_) (fun hc0=>?_)
 ·simp at hc0
 ·refine b8 ?_;refine zQ (hK1 _ _ ?_);refine aP [1,6] ?_;refine aW ?_ fun K hK=>by simp -dsimp;refine cI (hw) ?_;simp -dsimp;exact hK
  exact a7 (by simp)
end Go.Tram
end
section
namespace Go.Tram
open Go.AM Go.Proofs
theorem b1H {α:Type} [DecidableEq α]:∀(l u:List α),l.Nodup→(∀x∈l,x∈u)→u.length≤l.length→∀x∈u,x∈l
 |[],u,_,_,h,x,hx=>by
  have:u=[]:=List.length_eq_zero_iff.1 (by simpa using h);rw[this]at hx;cases hx
 | a::l,u,hn,hs,h,x,hx=>by
  rw[List.nodup_cons]at hn
  by_cases e:x=a
  ·simp[e]
  ·have ha:a∈u:=hs a (by simp);have hlen:=List.length_erase_of_mem ha;have hup:0<u.length:=List.length_pos_of_mem ha;refine List.mem_cons_of_mem _ (b1H l (u.erase a) hn.2 (fun y hy=>?_) (by simp at h;omega) x ((List.mem_erase_of_ne e).2 hx));have hya:y≠a:=by rintro rfl;exact hn.1 hy
   exact(List.mem_erase_of_ne hya).2 (hs y (by simp[hy]))
theorem a5W {p:Plan}:∀{n:Nat} {x:Nat×E1},x∈r5 p n→x.1<n∧∃j:Nat,(p.node x.1).Ends[j]?=some x.2
 |0,x,h=>by simp[r5]at h
 |n+1,x,h=>by
  simp only[r5,List.mem_append,List.mem_map]at h
  rcases h with h|⟨e,he,rfl⟩
  ·obtain⟨h1,h2⟩:=a5W h;exact⟨by omega,h2⟩
  ·obtain⟨j,hj⟩:=List.getElem?_of_mem he;exact⟨by simp,j,hj⟩
theorem b5l {p:Plan} (hv:d8 p=true):(∀x∈r5 p p.Nodes.length,endB p x=true)∧((r5 p p.Nodes.length).map (·.2)).Nodup∧(r5 p p.Nodes.length).length=2*p.Rails.length:=by
 have h:=(j7 hv).2.2.2.2;simp only[a0O,Bool.and_eq_true,List.all_eq_true,decide_eq_true_eq]at h;exact⟨h.1,h.2.1,h.2.2⟩
theorem b5V {p:Plan} (hv:d8 p=true) {e:E1} (h0:0≤e.Rail) (h1:e.Rail<p.Rails.length):∃i:Nat,i<p.Nodes.length∧p.at e=i∧∃j:Nat,(p.node i).Ends[j]?=some e:=by
 obtain⟨hall,hnd,hlen⟩:=b5l hv;have hfull:=b1H ((r5 p p.Nodes.length).map (·.2)) ((List.range p.Rails.length).flatMap fun(r:Nat)=>[(⟨r,false⟩:E1),⟨r,true⟩]) hnd (fun x hx=>by
  obtain⟨y,hy,rfl⟩:=List.mem_map.1 hx;have:=hall y hy;simp only[endB,Bool.and_eq_true,decide_eq_true_eq,g6]at this;rw[List.mem_flatMap];refine⟨y.2.Rail.toNat,List.mem_range.2 (by omega),?_⟩;obtain⟨y1,⟨r,b⟩⟩:=y;simp only at this ⊢;rw[show((r.toNat:Nat):Int)=r by omega]
  cases b<;>simp) (by
   have gen:∀n:Nat,((List.range n).flatMap fun(r:Nat)=>[(⟨r,false⟩:E1),⟨r,true⟩]).length=2*n:=by
    intro n
    induction n with
    |zero=>rfl
    |succ n ih=>rw[List.range_succ,List.flatMap_append,List.length_append,ih];simp;omega
   rw[gen,List.length_map,hlen];exact Nat.le_refl _) e (by
  rw[List.mem_flatMap];refine⟨e.Rail.toNat,List.mem_range.2 (by omega),?_⟩;obtain⟨r,b⟩:=e;simp only at h0 h1 ⊢;rw[show((r.toNat:Nat):Int)=r by omega]
  cases b<;>simp)
 obtain⟨x,hx,rfl⟩:=List.mem_map.1 hfull;obtain⟨h2,j,hj⟩:=a5W hx;exact⟨x.1,h2,(O5 hv h2 hj).2,j,hj⟩
theorem b1m {p:Plan} (hv:d8 p=true) {i:Nat} (hi:i<p.Nodes.length) {j j':Nat} {e:E1} (h:(p.node i).Ends[j]?=some e) (h':(p.node i).Ends[j']?=some e):j=j':=by
 have key:∀{j j':Nat},(p.node i).Ends[j]?=some e→(p.node i).Ends[j']?=some e→¬j'<j:=by
  intro j j' h h' hlt;have hm:(i,e)∈a0F p i j:=by
   unfold a0F;rw[List.mem_append,List.mem_map];refine Or.inr ⟨e,?_,rfl⟩;have:((p.node i).Ends.take j)[j']?=some e:=by rw[List.getElem?_take,if_pos hlt];exact h'
   exact List.mem_of_getElem? this
  obtain⟨m,hmm⟩:=List.getElem?_of_mem hm;have:=Y1 hi h hmm rfl;rw[hv]at this;cases this
 have h1:=key h h';have h2:=key h' h;omega
theorem a8S {kvs:List (List KC×Value)} {es:List E1} {e:E1}:∀n,n≤es.length→(∀j:Nat,j<n→es[j]?≠some e)→p6 (b3X kvs es n) (a2y e)=p6 kvs (a2y e)
 |0,_,_=>rfl
 |n+1,hn,h=>by
  simp only[b3X];rw[E4,if_neg,a8S n (by omega) fun j hj=>h j (by omega)];intro hk;have:=a1I.1 hk;have h2:=h n (by omega);rw[List.getElem?_eq_getElem (by omega)]at this h2;simp only[Option.getD_some]at this;exact h2 (by rw[this])
theorem a7C {kvs:List (List KC×Value)} {es:List E1} {e:E1} {j:Nat} (hj:es[j]?=some e):∀n,n≤es.length→j<n→(∀j':Nat,es[j']?=some e→j'=j)→p6 (b3X kvs es n) (a2y e)=some (.int .i64 j)
 |0,_,h,_=>by omega
 |n+1,hn,h,hu=>by
  simp only[b3X];rw[E4]
  by_cases e1:n=j
  ·subst e1;rw[hj];exact if_pos rfl
  ·rw[if_neg,a7C hj n (by omega) (by omega) hu];intro hk;have:=a1I.1 hk;rw[List.getElem?_eq_getElem (by omega)]at this;simp only[Option.getD_some]at this;exact e1 (hu n (by rw[List.getElem?_eq_getElem (by omega),this]))
theorem a3C {p:Plan} (hv:d8 p=true) {i:Nat} (hi:i<p.Nodes.length) {j:Nat} {e:E1} (h:(p.node i).Ends[j]?=some e):plc p e=j:=by
 have hat:=(O5 hv hi h).2;have gen:∀k,k≤p.Nodes.length→i<k→p6 (G6 p k) (a2y e)=some (.int .i64 j):=by
  intro k
  induction k with
  |zero=>intro _ h;omega
  |succ k ih=>
   intro hk hik;simp only[G6]
   by_cases e1:k=i
   ·subst e1;exact a7C h _ (Nat.le_refl _) (List.getElem?_eq_some_iff.1 h).1 fun j' hj'=>b1m hv hi hj' h
   ·rw[a8S _ (Nat.le_refl _),ih (by omega) (by omega)];intro j' _ hj';have:=(O5 hv (i:=k) (by omega) hj').2;omega
 have hg:=gen p.Nodes.length (Nat.le_refl _) hi;have hp:c2p p e= .int .i64 j:=by
  unfold c2p;have:p6 (G6 p p.Nodes.length) [.i .i64 e.Rail, .b e.Last]=some (.int .i64 j):=hg;rw[this];rfl
 unfold plc;rw[hp]
def a2C (e:E1):List E1→Int→Int
 |[],_=>-1
 |x::l,i=>if x=e then i else a2C e l (i+1)
def a2E (n:Node) (e:E1):Int:=a2C e n.Ends 0
theorem a5J {e:E1}:∀(l:List E1) (i:Int) (j:Nat),l[j]?=some e→(∀j':Nat,l[j']?=some e→j'=j)→a2C e l i=i+j
 |[],i,j,h,_=>by simp at h
 | x::l,i,j,h,hu=>by
  simp only[a2C]
  split
  ·rename_i hx;have:=hu 0 (by simp[hx]);omega
  ·rename_i hx
   cases j with
   |zero=>simp at h;exact absurd h hx
   |succ j=>
    rw[a5J l (i+1) j (by simpa using h) fun j' hj'=>by have:=hu (j'+1) (by simpa using hj');omega];omega
theorem a0z {e:E1}:∀(l:List E1) (i:Int),(∀j:Nat,l[j]?≠some e)→a2C e l i=-1
 |[],i,_=>rfl
 |x::l,i,h=>by
  simp only[a2C];rw[if_neg (by rintro rfl;exact h 0 (by simp))];exact a0z l _ fun j=>by have:=h (j+1);simpa using this
theorem Y2 {p:Plan} (hv:d8 p=true) {i:Nat} (hi:i<p.Nodes.length) {j:Nat} {e:E1} (h:(p.node i).Ends[j]?=some e):a2E (p.node i) e=j:=by
 unfold a2E;rw[a5J _ 0 j h fun j' hj'=>b1m hv hi hj' h];omega
def a5g (p:Plan) (m k:Move):Bool:=decide (0≤a2E (l6 p m) (I9 m))&&(decide (0≤a2E (l6 p m) (a2r k))&&E0 (l6 p m) (a2E (l6 p m) (I9 m)) (a2E (l6 p m) (a2r k)))
theorem a9u {p:Plan} (hv:d8 p=true) {m:Move} (hm:D3 p m=true):∃i:Nat,i<p.Nodes.length∧p.at (I9 m)=i∧l6 p m=p.node i∧∃j:Nat,(p.node i).Ends[j]?=some (I9 m)∧plc p (I9 m)=j∧a2E (p.node i) (I9 m)=j:=by
 have hm':=F3.1 hm;obtain⟨i,hi,ha,j,hj⟩:=b5V hv (e:=I9 m) hm'.1 hm'.2;exact⟨i,hi,ha,by unfold l6;rw[ha],j,hj,a3C hv hi hj,Y2 hv hi hj⟩
theorem a2n {m:Move} (h:0≤m.Rail):Z5 (a5B m)=m:=by
 obtain⟨r,b⟩:=m;simp only at h
 cases b
 ·simp only[a5B,Z5,Bool.false_eq_true,if_false];rw[show 2*r/2=r by omega,decide_eq_false (by omega)]
 ·simp only[a5B,Z5,if_true];rw[show(2*r+1)/2=r by omega,decide_eq_true (by omega)]
theorem b2g {k:Int} (h:0≤k):a5B (Z5 k)=k:=by
 simp only[a5B,Z5,decide_eq_true_eq]
 split<;>omega
theorem b9c {p:Plan} (hv:d8 p=true) {m:Move} (hm:D3 p m=true) {k:Int}:k∈a8W p m (l6 p m).Ends.length↔0≤k∧k<2*p.Rails.length∧a5g p m (Z5 k)=true:=by
 obtain⟨i,hi,ha,hn,j,hj,hp,hx⟩:=a9u hv hm;simp only[a8W,List.mem_flatMap,List.mem_range];constructor
 ·rintro⟨t,ht,hk⟩;unfold nxK at hk;rw[hn]at hk ht;rw[List.getElem?_eq_getElem ht]at hk;simp only at hk
  split at hk
  ·rename_i hl;simp only[List.mem_singleton]at hk;have hte:=List.getElem?_eq_getElem ht;generalize (p.node i).Ends[t]=e at hk hte;have her:=(O5 hv hi hte).1;have hb:0≤a5B ⟨e.Rail,e.Last⟩∧a5B ⟨e.Rail,e.Last⟩<2*p.Rails.length:=by simp only[a5B];split<;>omega
   subst hk;refine⟨hb.1,hb.2,?_⟩;rw[a2n her.1];have hle:a2r ⟨e.Rail,e.Last⟩=e:=rfl;simp only[a5g,hn,hle,hx,Y2 hv hi hte,Bool.and_eq_true,decide_eq_true_eq];rw[hp]at hl;exact⟨by omega,by omega,hl⟩
  ·simp at hk
 ·rintro⟨h0,h1,hf⟩;simp only[a5g,hn,Bool.and_eq_true,decide_eq_true_eq]at hf;obtain⟨_,hb,hl⟩:=hf;have:∃t:Nat,(p.node i).Ends[t]?=some (a2r (Z5 k)):=by
   by_cases h:∃t:Nat,(p.node i).Ends[t]?=some (a2r (Z5 k))
   ·exact h
   ·have:=a0z (e:=a2r (Z5 k)) (p.node i).Ends 0 fun j hj=>h ⟨j,hj⟩;unfold a2E at hb;omega
  obtain⟨t,ht⟩:=this;rw[hx,Y2 hv hi ht]at hl;refine⟨t,by rw[hn];exact(List.getElem?_eq_some_iff.1 ht).1,?_⟩;unfold nxK;rw[hn,ht,hp];simp only;rw[if_pos hl,List.mem_singleton];show k=a5B (Z5 k);rw[b2g h0]
theorem a9w {p:Plan} (hv:d8 p=true) {m k:Move} (hm:D3 p m=true) (hk:D3 p k=true):F9 p m k=a5g p m k:=by
 have hk':=F3.1 hk;have hnb:0≤a5B k∧a5B k<2*p.Rails.length:=by unfold a5B;split<;>omega
 rw[Bool.eq_iff_iff];unfold F9 a9P;rw[List.any_eq_true];constructor
 ·rintro⟨x,hx,hxk⟩;simp only[decide_eq_true_eq]at hxk;subst hxk;obtain⟨q,hq,rfl⟩:=List.mem_map.1 hx;exact((b9c hv hm).1 (a6B.1 hq)).2.2
 ·intro h;refine⟨k,List.mem_map.2 ⟨a5B k,a6B.2 ((b9c hv hm).2 ⟨hnb.1,hnb.2,?_⟩),a2n hk'.1⟩,by simp⟩;rw[a2n hk'.1];exact h
theorem a8E {x:Int}:∀{l:List Int},l.Nodup→x∉l→(ins x l).Nodup
 |[],_,_=>by simp[ins]
 |y::l,h,hx=>by
  rw[List.nodup_cons]at h;simp only[List.mem_cons,not_or]at hx;simp only[ins]
  split
  ·simp[List.nodup_cons,hx,h]
  ·rw[List.nodup_cons,a4I];exact⟨by rintro(rfl|h1);exact hx.1 rfl;exact h.1 h1,a8E h.2 hx.2⟩
theorem srt_nodup {l:List Int} (h:l.Nodup):(srt l).Nodup:=by
 have gen:∀(l s:List Int),s.Nodup→l.Nodup→(∀x∈l,x∉s)→(l.foldl (fun s x=>ins x s) s).Nodup:=by
  intro l
  induction l with
  |nil=>intro s h _ _;exact h
  |cons x l ih=>
   intro s hs hl hd;rw[List.nodup_cons]at hl;refine ih _ (a8E hs (hd x (by simp))) hl.2 fun y hy=>?_;rw[a4I];rintro(rfl|h)
   ·exact hl.1 hy
   ·exact hd y (by simp[hy]) h
 exact gen l [] (by simp) h (by simp)
end Go.Tram
end
section
namespace Go.Tram
open Go.AM Go.Proofs
theorem c0d (p:Plan):a8 Tryz.prog 34 [p.av] (Bo (d8 p)):=by
 refine oB Tryz.func34 Tryz.ntmps34 Tryz.results34 ?_;refine aW ?_;refine a5 fun K1 hK1=>?_;refine aW ?_ fun K hK=>by simp -dsimp;refine cI (b2y _ _ _) ?_;simp -dsimp;refine cY (fun hm=>b2y _ _ _) ?_;simp -dsimp;exact hK
 refine a6 rfl (fun hc0=>?_) (fun hc0=>?_)
 ·skip
  try simp at hc0
  refine aW ?_;refine a7 ?_;have:d8 p=false:=by simp[d8,a0M];intro h1 h2;rcases hc0 with hc0|hc0<;>simp_all
  simp[this]
 ·skip
  try simp at hc0
  have hN:=g6.1 hc0.1;have hR:=g6.1 hc0.2;refine b8 ?_;refine zQ (hK1 _ _ ?_);refine aP [1] ?_;refine a5 fun K2 hK2=>?_;refine aW ?_;refine a9 ?_;refine aP [1,3] ?_;refine c5 [1] (α:=Nat) (fun k=>[(3,I k)]) (fun _=>[some (.els 2 [p.cells])]) (fun k=>k≤p.Nodes.length∧(p.Nodes.take k).all C0=true) (fun k=>p.Nodes.length-k) 0 ?_ ?_ ?_
  ·simp
  ·exact c7 (by simp)
  rintro k ⟨k1,k2⟩;refine zN ?_;refine a5 fun K3 hK3=>?_;refine aW ?_;refine a6 rfl (fun hc1=>?_) (fun hc1=>?_)
  ·skip
   try simp at hc1
   have g0:=p.node_get (i:=(k:Int)) (by omega) (by omega);simp only[Int.toNat_natCast]at g0;have wi:=zW k (by omega);refine b8 ?_;refine zQ (hK3 _ _ ?_);refine aP [1,3] ?_;refine a5 fun K4 hK4=>?_;refine a9 ?_;refine aW ?_ fun K hK=>by simp -dsimp [g0];exact hK
   refine aW ?_;refine a5 fun K5 hK5=>?_;refine aW ?_;refine a6 rfl (fun hc2=>?_) (fun hc2=>?_)
   ·skip
    try simp at hc2
    refine aV ?_ fun K hK=>by simp -dsimp;refine cI (b2y _ _ _) ?_;simp -dsimp;exact hK
    refine zQ (hK5 _ _ ?_);refine aP [1,3,4,5] ?_;refine aD ?_ fun K hK=>by simp -dsimp;refine cI (b4J (p.node k).Spot) ?_;simp -dsimp;refine cY (fun hm=>b0v (p.node k).Kind) ?_;simp -dsimp;refine cY (fun hm=>b0v (p.node k).Kind) ?_;simp -dsimp;exact hK
    refine a6 rfl (fun hc3=>?_) (fun hc3=>?_)
    ·skip
     try simp at hc3
     refine aW ?_;refine a7 ?_;have:C0 (p.node k)=false:=by simp[C0,hc2];intro h1 h2 h3;simp_all
     simp[a1n g0 this]
    ·skip
     try simp at hc3
     refine b8 ?_;refine zQ (hK4 _ _ ?_);refine aP [1,3] ?_;refine aV ?_ fun K hK=>by simp -dsimp [wi];exact hK
     refine zQ ?_;refine⟨k+1,⟨by omega,?_⟩,by omega,aB [some 0]⟩;rw[a0k g0,k2];simp[C0,hc2,hc3]
   ·skip
    try simp at hc2
    refine b8 ?_;refine zQ (hK5 _ _ ?_);refine aP [1,3,4,5] ?_;refine aD ?_ fun K hK=>by simp -dsimp;refine cI (b4J (p.node k).Spot) ?_;simp -dsimp;refine cY (fun hm=>b0v (p.node k).Kind) ?_;simp -dsimp;refine cY (fun hm=>b0v (p.node k).Kind) ?_;simp -dsimp;exact hK
    refine a6 rfl (fun hc3=>?_) (fun hc3=>?_)
    ·skip
     try simp at hc3
     refine aW ?_;refine a7 ?_;have:C0 (p.node k)=false:=by simp[C0,hc2];intro h1 h2 h3;simp_all
     simp[a1n g0 this]
    ·skip
     try simp at hc3
     refine b8 ?_;refine zQ (hK4 _ _ ?_);refine aP [1,3] ?_;refine aV ?_ fun K hK=>by simp -dsimp [wi];exact hK
     refine zQ ?_;refine⟨k+1,⟨by omega,?_⟩,by omega,aB [some 0]⟩;rw[a0k g0,k2];simp[C0,hc2,hc3]
  ·skip
   try simp at hc1
   have hA:=V5 (by omega) k2;refine c9 ?_;refine zQ (hK2 _ _ ?_);refine aP [1] ?_;refine a5 fun K6 hK6=>?_;refine aW ?_;refine a9 ?_;refine aP [1,6] ?_;refine c5 [1] (α:=Nat) (fun k=>[(6,I k)]) (fun _=>[some (.els 2 [p.cells])]) (fun k=>k≤p.Rails.length∧(p.Rails.take k).all (D9 p)=true) (fun k=>p.Rails.length-k) 0 ?_ ?_ ?_
   ·simp
   ·exact c7 (by simp)
   rintro u ⟨u1,u2⟩;refine zN ?_;refine a5 fun K7 hK7=>?_;refine aW ?_;refine a6 rfl (fun hc4=>?_) (fun hc4=>?_)
   ·skip
    try simp at hc4
    have r0:=p.rail_get (i:=(u:Int)) (by omega) (by omega);simp only[Int.toNat_natCast]at r0;have wu:=zW u (by omega);have wn:IntKind.i64.wrap ((p.Nodes.length:Int)-1)=(p.Nodes.length:Int)-1:=c4 (by omega) (by omega);refine b8 ?_;refine zQ (hK7 _ _ ?_);refine aP [1,6] ?_;refine a5 fun K8 hK8=>?_;refine a9 ?_;refine aW ?_ fun K hK=>by simp -dsimp [r0];exact hK
    refine a5 fun K9 hK9=>?_;refine aW ?_ fun K hK=>by simp -dsimp [wn];refine cI (b2y _ _ _) ?_;simp -dsimp [wn];refine cY (fun hm=>b2y _ _ _) ?_;simp -dsimp [wn];refine cY (fun hm=>b2y _ _ _) ?_;simp -dsimp [wn];refine cY (fun hm=>b2y _ _ _) ?_;simp -dsimp [wn];exact hK
    refine a6 rfl (fun hc5=>?_) (fun hc5=>?_)
    ·skip
     try simp at hc5
     have hra:R2 p (p.rail u)=false:=by
      cases hq:R2 p (p.rail u)with
      |false=>rfl
      |true=>simp[R2]at hq;simp[hq]at hc5;omega
     refine aW ?_;exact a7 (by simp[V3 r0 (by simp[D9,hra]:D9 p (p.rail u)=false)])
    ·skip
     try simp at hc5
     have hra:R2 p (p.rail u)=true:=by simp[R2,hc5];omega
     have hF:=g6.1 hc5.1.1.1.1;have hT:=g6.1 hc5.1.1.1.2;have hlen:(p.rail u).Shape.length≤30:=by omega
     have sF:=N5 (D1 hA (i:=(p.rail u).From) (by omega) (by omega));have sT:=N5 (D1 hA (i:=(p.rail u).To) (by omega) (by omega));refine b8 ?_;refine zQ (hK9 _ _ ?_);refine aP [1,6,7] ?_;refine a5 fun K10 hK10=>?_;refine aW ?_;refine a9 ?_;refine aP [1,6,7,8] ?_;refine c5 [1,6,7] (α:=Nat) (fun j=>[(8,I j)]) (fun _=>[some (.els 2 [p.cells]),some (.els 5 [(p.rail u).cells])]) (fun j=>j≤(p.rail u).Shape.length∧((p.rail u).Shape.take j).all j9=true) (fun j=>(p.rail u).Shape.length-j) 0 ?_ ?_ ?_
     ·simp
     ·exact c7 (by simp)
     rintro j ⟨j1,j2⟩;refine zN ?_;refine a5 fun K11 hK11=>?_;refine aW ?_;refine a6 rfl (fun hc6=>?_) (fun hc6=>?_)
     ·skip
      try simp at hc6
      have s0:(p.rail u).Shape[j]?=some (nth (p.rail u).Shape j):=y5 hc6;have wj:=zW j (by omega);refine b8 ?_;refine zQ (hK11 _ _ ?_);refine aP [1,6,7,8] ?_;refine a5 fun K12 hK12=>?_;refine a9 ?_;refine aW ?_ fun K hK=>by simp -dsimp [s0];refine cI (b4J (nth (p.rail u).Shape j)) ?_;simp -dsimp [s0];exact hK
      refine a6 rfl (fun hc7=>?_) (fun hc7=>?_)
      ·skip
       try simp at hc7
       refine aW ?_;exact a7 (by simp[V3 r0 (by simp[D9,b0K s0 hc7]:D9 p (p.rail u)=false)])
      ·skip
       try simp at hc7
       refine b8 ?_;refine zQ (hK12 _ _ ?_);refine aP [1,6,7,8] ?_;refine aV ?_ fun K hK=>by simp -dsimp [wj];exact hK
       refine zQ ?_;refine⟨j+1,⟨by omega,?_⟩,by omega,c7 (by simp)⟩;rw[a0k s0,j2];simp[hc7]
     ·skip
      try simp at hc6
      have hS:=V5 (by omega) j2;have hls:(p.line u).all j9=true:=a5s sF sT hS;have hll:=b0p p u;have hb:∀m,m<(p.line u).length→j9 (nth (p.line u) m)=true:=fun m hm=>List.all_eq_true.1 hls _ (List.mem_of_getElem? (y5 hm));refine c9 ?_;refine zQ (hK10 _ _ ?_);refine aP [1,6] ?_;refine aW ?_ fun K hK=>by simp -dsimp;refine cI (b4O p u (by omega) (by omega) ⟨by omega,by omega⟩ ⟨by omega,by omega⟩ (by omega)) ?_;simp -dsimp;exact hK
      refine aW ?_;refine a9 ?_;refine aP [1,6,9,10] ?_;refine c5 [1,6,9] (α:=Nat) (fun j=>[(10,I j)]) (fun _=>[some (.els 2 [p.cells]),some (.els 5 [(p.rail u).cells])]) (fun j=>1≤j∧j≤(p.line u).length∧∀m,m+1<j→a8X (p.line u) m=true) (fun j=>(p.line u).length-j) 1 ?_ ?_ ?_
      ·refine⟨by omega,by omega,fun m hm=>by omega⟩
      ·exact c7 (by simp)
      rintro j ⟨j1,j2,j3⟩;refine zN ?_;refine a5 fun K13 hK13=>?_;refine aW ?_;refine a6 rfl (fun hc8=>?_) (fun hc8=>?_)
      ·skip
       try simp at hc8
       have wk:IntKind.i64.wrap ((j:Int)-1)=((j-1:Nat):Int):=by rw[c4 (by omega) (by omega)];omega
       have wj:=zW j (by omega);have l1:=y5 (l:=p.line u) (k:=j-1) (by omega);have l2:=y5 (l:=p.line u) (k:=j) (by omega);refine b8 ?_;refine zQ (hK13 _ _ ?_);refine aP [1,6,9,10] ?_;refine a5 fun K14 hK14=>?_;refine a9 ?_;refine aD ?_ fun K hK=>by simp -dsimp [wk,l1,l2];refine cI (c4A (nth (p.line u) (j-1)) (nth (p.line u) j) (hb _ (by omega)) (hb _ (by omega))) ?_;simp -dsimp [wk,l1,l2];refine cI (b2y _ _ _) ?_;simp -dsimp [wk,l1,l2];exact hK
       refine a6 rfl (fun hc9=>?_) (fun hc9=>?_)
       ·simp at hc9;have hseg:a8X (p.line u) (j-1)=inr (far (nth (p.line u) (j-1)) (nth (p.line u) j)) 1 1000000:=by simp only[a8X,C8];rw[show j-1+1=j by omega]
        have hfs:D9 p (p.rail u)=false:=by
         have:(List.range ((p.rail u).Shape.length+1)).all (a8X (u7 p (p.rail u)))=false:=by rw[List.all_eq_false];exact⟨j-1,by simp;omega,by rw[show u7 p (p.rail u)=p.line u from rfl,hseg];simp[hc9]⟩
         simp[D9,this]
        refine aW ?_;exact a7 (by simp[V3 r0 hfs])
       ·simp at hc9;have hseg:a8X (p.line u) (j-1)=inr (far (nth (p.line u) (j-1)) (nth (p.line u) j)) 1 1000000:=by simp only[a8X,C8];rw[show j-1+1=j by omega]
        refine b8 ?_;refine zQ (hK14 _ _ ?_);refine aP [1,6,9,10] ?_;refine aV ?_ fun K hK=>by simp -dsimp [wj];exact hK
        refine zQ ?_;refine⟨j+1,⟨by omega,by omega,fun m hm=>?_⟩,by omega,c7 (by simp)⟩
        by_cases hmj:m+1<j
        ·exact j3 m hmj
        ·rw[show m=j-1 by omega,hseg];exact hc9
      ·skip
       try simp at hc8
       refine c9 ?_;refine zQ (hK8 _ _ ?_);refine aP [1,6] ?_;refine aV ?_ fun K hK=>by simp -dsimp [wu];exact hK
       refine zQ ?_;refine⟨u+1,⟨by omega,?_⟩,by omega,aB [some 0]⟩;rw[a0k r0,u2,D9,hra,hS];simp only[Bool.true_and];rw[List.all_eq_true];intro m hm;simp only[List.mem_range]at hm;exact j3 m (by omega)
   ·skip
    try simp at hc4
    have hB:=V5 (by omega) u2;refine c9 ?_;refine zQ (hK6 _ _ ?_);refine aP [1] ?_;refine aW ?_;refine a5 fun K15 hK15=>?_;refine aW ?_;refine a9 ?_;refine aP [1,11,12] ?_;refine c5 [1] (α:=Nat) (fun i=>[(11, .row 1 0 (r5 p i).length),(12,I i)]) (fun i=>[some (.els 2 [p.cells]),some (.els 2 (b5g (r5 p i)))]) (fun i=>i≤p.Nodes.length∧(r5 p i).all (endB p)=true∧((r5 p i).map (·.2)).Nodup) (fun i=>p.Nodes.length-i) 0 ?_ ?_ ?_
    ·simp[r5]
    ·exact(Y9 11 2 (by simp)).trans (c7 (by simp[r5]))
    rintro i ⟨i1,i2,i3⟩;refine zN ?_;refine a5 fun K16 hK16=>?_;refine aW ?_;refine a6 rfl (fun hc10=>?_) (fun hc10=>?_)
    ·skip
     try simp at hc10
     have n0:=p.node_get (i:=(i:Int)) (by omega) (by omega);simp only[Int.toNat_natCast]at n0;have wi:=zW i (by omega);have wr:IntKind.i64.wrap ((p.Rails.length:Int)-1)=(p.Rails.length:Int)-1:=c4 (by omega) (by omega);have hle:=Y5 (D1 hA (i:=(i:Int)) (by omega) (by omega));refine b8 ?_;refine zQ (hK16 _ _ ?_);refine aP [1,11,12] ?_;refine a5 fun K17 hK17=>?_;refine a9 ?_;refine aW ?_;refine a9 ?_;refine aP [1,11,12,13] ?_;refine c5 [1,12] (α:=Nat) (fun j=>[(11, .row 1 0 (a0F p i j).length),(13,I j)]) (fun j=>[some (.els 2 [p.cells]),some (.els 2 (b5g (a0F p i j)))]) (fun j=>j≤(p.node i).Ends.length∧(a0F p i j).all (endB p)=true∧((a0F p i j).map (·.2)).Nodup) (fun j=>(p.node i).Ends.length-j) 0 ?_ ?_ ?_
     ·rw[a1M];exact⟨by omega,i2,i3⟩
     ·simp only[a1M];exact c7 (by simp)
     rintro j ⟨j1,j2,j3⟩;refine zN ?_;refine a5 fun K18 hK18=>?_;refine aW ?_ fun K hK=>by simp -dsimp [n0];exact hK
     refine a6 rfl (fun hc11=>?_) (fun hc11=>?_)
     ·skip
      try simp at hc11
      obtain⟨e,he⟩:∃e,(p.node i).Ends[j]?=some e:=⟨_,List.getElem?_eq_getElem hc11⟩;have hcl:=b7e hA (j:=j) hc10;have wj:=zW j (by omega);have f1:Q5 ((a0F p i j).length+1) 17:=l8 (by omega) (by omega);have f2:Q5 ((a0F p i j).length+1) 25:=l8 (by omega) (by omega);refine b8 ?_;refine zQ (hK18 _ _ ?_);refine aP [1,11,12,13] ?_;refine a5 fun K19 hK19=>?_;refine a9 ?_;refine aW ?_ fun K hK=>by simp -dsimp [n0,he];exact hK
      refine a5 fun K20 hK20=>?_;refine aW ?_ fun K hK=>by simp -dsimp [wr];refine cI (b2y _ _ _) ?_;simp -dsimp [wr];refine cY (fun hm=>c4W p e (by simp[g6]at hm;omega) (by simp[g6]at hm;omega)) ?_;simp -dsimp [wr];exact hK
      refine a6 rfl (fun hc12=>?_) (fun hc12=>?_)
      ·skip
       try simp at hc12
       have hef:endB p (i,e)=false:=by
        cases hq:endB p (i,e)with
        |false=>rfl
        |true=>simp[endB]at hq;simp[hq]at hc12
       refine aW ?_;exact a7 (by simp[a2N hc10 he hef])
      ·skip
       try simp at hc12
       refine b8 ?_;refine zQ (hK20 _ _ ?_);refine aP [1,11,12,13,14] ?_;refine a5 fun K21 hK21=>?_;refine aW ?_;refine a9 ?_;refine aP [1,11,12,13,14,15] ?_;refine c5 [1,11,12,13,14] (α:=Nat) (fun m=>[(15,I m)]) (fun _=>[some (.els 2 [p.cells]),some (.els 2 (b5g (a0F p i j))),some (.els 2 [e.cells])]) (fun m=>m≤(a0F p i j).length∧∀x∈(a0F p i j).take m,x.2≠e) (fun m=>(a0F p i j).length-m) 0 ?_ ?_ ?_
       ·simp
       ·exact c7 (by simp)
       rintro m ⟨m1,m2⟩;refine zN ?_;refine a5 fun K22 hK22=>?_;refine aW ?_;refine a6 rfl (fun hc13=>?_) (fun hc13=>?_)
       ·skip
        try simp at hc13
        obtain⟨x,hx⟩:∃x,(a0F p i j)[m]?=some x:=⟨_,List.getElem?_eq_getElem hc13⟩;have wm:=zW m (by omega);refine b8 ?_;refine zQ (hK22 _ _ ?_);refine aP [1,11,12,13,14,15] ?_;refine a5 fun K23 hK23=>?_;refine a9 ?_;refine aD ?_ fun K hK=>by simp -dsimp [hx,hc13];exact hK
        refine a6 rfl (fun hc14=>?_) (fun hc14=>?_)
        ·skip
         try simp at hc14
         refine aW ?_;have hxe:x.2=e:=by cases hxx:x.2;cases e;simp_all
         exact a7 (by simp[Y1 hc10 he hx hxe])
        ·skip
         try simp at hc14
         refine b8 ?_;refine zQ (hK23 _ _ ?_);refine aP [1,11,12,13,14,15] ?_;refine aV ?_ fun K hK=>by simp -dsimp [wm];exact hK
         refine zQ ?_;refine⟨m+1,⟨by omega,?_⟩,by omega,c7 (by simp)⟩;intro y hy;rw[List.take_add_one,hx]at hy
         rcases List.mem_append.1 hy with hy|hy
         ·exact m2 y hy
         ·simp only[Option.toList_some,List.mem_singleton]at hy;subst hy;intro hh;rw[←hh]at hc14;have hxm:(a0F p i j)[m]=y:=(List.getElem?_eq_some_iff.1 hx).2;simp[hxm]at hc14
       ·skip
        try simp at hc13
        have hne:∀x∈a0F p i j,x.2≠e:=by intro x hx;exact m2 x (by rw[List.take_of_length_le (by omega)];exact hx)
        refine c9 ?_;refine zQ (hK21 _ _ ?_);refine aP [1,11,12,13,14] ?_;refine aV ?_ fun K hK=>by simp -dsimp [f1,f2];exact hK
        refine zQ (hK19 _ _ ?_);refine aP [1,11,12,13] ?_;refine aV ?_ fun K hK=>by simp -dsimp [wj];exact hK
        refine zQ ?_;refine⟨j+1,⟨by omega,?_,?_⟩,by omega,e8 [some 0,some 3] rfl (by simp[O0 he]) (by simp[O0 he,Function.comp_def,List.take_of_length_le])⟩
        ·rw[O0 he,List.all_append,j2];simp[endB,hc12]
        ·rw[O0 he,List.map_append,List.nodup_append];refine⟨j3,by simp,?_⟩;intro a ha b hb;simp only[List.map_cons,List.map_nil,List.mem_singleton]at hb;subst hb;obtain⟨y,hy,rfl⟩:=List.mem_map.1 ha;exact hne y hy
     ·skip
      try simp at hc11
      have hce:=b0U (p:=p) (i:=i) (j:=j) (by omega);refine c9 ?_;refine zQ (hK17 _ _ ?_);refine aP [1,11,12] ?_;refine aV ?_ fun K hK=>by simp -dsimp [wi];exact hK
      refine zQ ?_;exact⟨i+1,⟨by omega,by rw[←hce];exact j2,by rw[←hce];exact j3⟩,by omega,by simp only[←hce];exact c7 (by simp)⟩
    ·skip
     try simp at hc10
     have hii:i=p.Nodes.length:=by omega
     subst hii;have hle:=a0p hA p.Nodes.length (Nat.le_refl _);have w2:IntKind.i64.wrap (2*(p.Rails.length:Int))=2*(p.Rails.length:Int):=c4 (by omega) (by omega);refine c9 ?_;refine zQ (hK15 _ _ ?_);refine aP [1,11] ?_;refine aW ?_ fun K hK=>by simp -dsimp [w2];exact hK
     refine a7 ?_;have hv:d8 p=decide ((r5 p p.Nodes.length).length=2*p.Rails.length):=by simp[d8,a0M,a0O,hc0,hA,hB,i2,i3]
     simp only[hv];simp;exact Bool.eq_iff_iff.2 (by simp;omega)
end Go.Tram
end
section
namespace Go.Tram
open Go.AM Go.Proofs
theorem b0E (m:Move):a8 Tryz.prog 89 [m.av] (.agg [I m.Rail,Bo (!m.Back)]):=by
 refine oB Tryz.func89 Tryz.ntmps89 Tryz.results89 ?_;refine aW ?_;refine aW ?_;exact a7 (by simp)
theorem b9t (m:Move):a8 Tryz.prog 91 [m.av] (.agg [I m.Rail,Bo m.Back]):=by
 refine oB Tryz.func91 Tryz.ntmps91 Tryz.results91 ?_;refine aW ?_;refine aW ?_;exact a7 (by simp)
theorem b3B (p:Plan) (m:Move) (hR:p.Rails.length≤100000):a8 Tryz.prog 36 [p.av,m.av] (Bo (D3 p m)):=by
 have w:IntKind.i64.wrap ((p.Rails.length:Int)-1)=(p.Rails.length:Int)-1:=c4 (by omega) (by omega);refine oB Tryz.func36 Tryz.ntmps36 Tryz.results36 ?_;refine aW ?_;refine aW ?_ fun K hK=>by simp -dsimp [w];refine cI (b2y m.Rail 0 _) ?_;simp -dsimp [w];exact hK
 exact a7 (by simp[D3])
theorem a6E (n:Node) (e:E1) (hn:n.Ends.length≤1000):a8 Tryz.prog 90 [n.av,e.av] (I (a2E n e)):=by
 refine oB Tryz.func90 Tryz.ntmps90 Tryz.results90 ?_;refine aW ?_;refine a5 fun K1 hK1=>?_;refine aW ?_;refine a9 ?_;refine aP [2,3,5] ?_;refine c5 [2,3] (α:=Nat) (fun k=>[(5,I k)]) (fun _=>[some (.els 5 [n.cells]),some (.els 2 [e.cells])]) (fun k=>k≤n.Ends.length∧a2C e (n.Ends.drop k) k=a2E n e) (fun k=>n.Ends.length-k) 0 ?_ ?_ ?_
 ·exact⟨Nat.zero_le _,rfl⟩
 ·exact c7 (by simp)
 rintro k ⟨k1,k2⟩;refine zN ?_;refine a5 fun K2 hK2=>?_;refine aW ?_;refine a6 rfl (fun hc0=>?_) (fun hc0=>?_)
 ·skip
  try simp at hc0
  obtain⟨x,hx⟩:=gx (l:=n.Ends) (i:=k) (by simpa using hc0);obtain⟨hxl,hxe⟩:=List.getElem?_eq_some_iff.1 hx;have wk:=zW k (by omega);rw[List.drop_eq_getElem_cons hxl,hxe]at k2;simp only[a2C]at k2;refine b8 ?_;refine zQ (hK2 _ _ ?_);refine aP [2,3,5] ?_;refine a5 fun K3 hK3=>?_;refine a9 ?_;refine aD ?_ fun K hK=>by simp -dsimp [hx];exact hK
  refine a6 rfl (fun hc1=>?_) (fun hc1=>?_)
  ·have hxe2:x=e:=by obtain⟨a,b⟩:=x;obtain⟨c,d⟩:=e;simpa using hc1
   rw[if_pos hxe2]at k2;refine aW ?_;exact a7 (by simp[←k2])
  ·have hxe2:x≠e:=by rintro rfl;simp at hc1
   rw[if_neg hxe2]at k2;refine b8 ?_;refine zQ (hK3 _ _ ?_);refine aP [2,3,5] ?_;refine aV ?_ fun K hK=>by simp -dsimp [wk];exact hK
   refine zQ ?_;exact⟨k+1,⟨by omega,by rw[←k2];rfl⟩,by omega,c7 (by simp)⟩
 ·skip
  try simp at hc0
  have hke:k=n.Ends.length:=by have:¬k<n.Ends.length:=(by simpa using hc0);omega
  subst hke;rw[List.drop_length]at k2;refine c9 ?_;refine zQ (hK1 _ _ ?_);refine aP [] ?_;refine aW ?_;exact a7 (by simp[←k2,a2C])
theorem b7W (n:Node) (a b:Int) (ha:0≤a∧a≤1000) (hb:0≤b∧b≤1000) (hk:n.Kind=1):a8 Tryz.prog 145 [n.av,I a,I b] (Bo (E0 n a b)):=by
 have w:IntKind.i64.wrap (a+b)=a+b:=c4 (by omega) (by omega);have w2:(a+b).tmod 2=(a+b) % 2:=Int.tmod_eq_emod_of_nonneg (by omega);unfold E0;simp only[Node.av,Node.cells,hk,Int.reduceEq,if_false,if_true,reduceIte];refine oB Tryz.func145 Tryz.ntmps145 Tryz.results145 ?_;refine aW ?_ fun K hK=>by simp -dsimp [w,w2];exact hK
 refine a5 fun K1 hK1=>?_;refine aW ?_ fun K hK=>by simp -dsimp [w,w2];exact hK
 refine a9 ?_;refine aW ?_ fun K hK=>by simp -dsimp [w,w2];exact hK
 refine a6 rfl (fun hc0=>?_) (fun hc0=>?_)
 ·refine aW ?_ fun K hK=>by simp -dsimp [w,w2];exact hK
  first|(exfalso;simp at hc0;done)|(exfalso;simp at hc1;done)|(exfalso;simp at hc2;done)|(exfalso;simp at hc3;done)|(exfalso;simp at hc4;done)|(refine a7 ?_;simp;done)|(refine a7 ?_;simp;exact Bool.eq_iff_iff.2 (by simp;try omega))
 ·refine aW ?_ fun K hK=>by simp -dsimp [w,w2];exact hK
  refine a6 rfl (fun hc1=>?_) (fun hc1=>?_)
  ·refine aW ?_ fun K hK=>by simp -dsimp [w,w2];exact hK
   first|(exfalso;simp at hc0;done)|(exfalso;simp at hc1;done)|(exfalso;simp at hc2;done)|(exfalso;simp at hc3;done)|(exfalso;simp at hc4;done)|(refine a7 ?_;simp;done)|(refine a7 ?_;simp;exact Bool.eq_iff_iff.2 (by simp;try omega))
  ·refine aW ?_ fun K hK=>by simp -dsimp [w,w2];exact hK
   refine a6 rfl (fun hc2=>?_) (fun hc2=>?_)
   ·refine aW ?_ fun K hK=>by simp -dsimp [w,w2];exact hK
    first|(exfalso;simp at hc0;done)|(exfalso;simp at hc1;done)|(exfalso;simp at hc2;done)|(exfalso;simp at hc3;done)|(exfalso;simp at hc4;done)|(refine a7 ?_;simp;done)|(refine a7 ?_;simp;exact Bool.eq_iff_iff.2 (by simp;try omega))
   ·refine aW ?_ fun K hK=>by simp -dsimp [w,w2];exact hK
    refine a6 rfl (fun hc3=>?_) (fun hc3=>?_)
    ·refine aW ?_ fun K hK=>by simp -dsimp [w,w2];exact hK
     first|(exfalso;simp at hc0;done)|(exfalso;simp at hc1;done)|(exfalso;simp at hc2;done)|(exfalso;simp at hc3;done)|(exfalso;simp at hc4;done)|(refine a7 ?_;simp;done)|(refine a7 ?_;simp;exact Bool.eq_iff_iff.2 (by simp;try omega))
    ·refine aW ?_ fun K hK=>by simp -dsimp [w,w2];exact hK
     refine a6 rfl (fun hc4=>?_) (fun hc4=>?_)
     ·refine aW ?_ fun K hK=>by simp -dsimp [w,w2];exact hK
      first|(exfalso;simp at hc0;done)|(exfalso;simp at hc1;done)|(exfalso;simp at hc2;done)|(exfalso;simp at hc3;done)|(exfalso;simp at hc4;done)|(refine a7 ?_;simp;done)|(refine a7 ?_;simp;exact Bool.eq_iff_iff.2 (by simp;try omega))
     ·refine b8 ?_;refine zQ (hK1 _ _ ?_);refine aP [] ?_;refine aW ?_ fun K hK=>by simp -dsimp [w,w2];exact hK
      first|(exfalso;simp at hc0;done)|(exfalso;simp at hc1;done)|(exfalso;simp at hc2;done)|(exfalso;simp at hc3;done)|(exfalso;simp at hc4;done)|(refine a7 ?_;simp;done)|(refine a7 ?_;simp;exact Bool.eq_iff_iff.2 (by simp;try omega))
theorem b7M (n:Node) (a b:Int) (ha:0≤a∧a≤1000) (hb:0≤b∧b≤1000) (hk:n.Kind=2):a8 Tryz.prog 145 [n.av,I a,I b] (Bo (E0 n a b)):=by
 have w:IntKind.i64.wrap (a+b)=a+b:=c4 (by omega) (by omega);have w2:(a+b).tmod 2=(a+b) % 2:=Int.tmod_eq_emod_of_nonneg (by omega);unfold E0;simp only[Node.av,Node.cells,hk,Int.reduceEq,if_false,if_true,reduceIte];refine oB Tryz.func145 Tryz.ntmps145 Tryz.results145 ?_;refine aW ?_ fun K hK=>by simp -dsimp [w,w2];exact hK
 refine a5 fun K1 hK1=>?_;refine aW ?_ fun K hK=>by simp -dsimp [w,w2];exact hK
 refine a9 ?_;refine aW ?_ fun K hK=>by simp -dsimp [w,w2];exact hK
 refine a6 rfl (fun hc0=>?_) (fun hc0=>?_)
 ·refine aW ?_ fun K hK=>by simp -dsimp [w,w2];exact hK
  first|(exfalso;simp at hc0;done)|(exfalso;simp at hc1;done)|(exfalso;simp at hc2;done)|(exfalso;simp at hc3;done)|(exfalso;simp at hc4;done)|(refine a7 ?_;simp;done)|(refine a7 ?_;simp;exact Bool.eq_iff_iff.2 (by simp;try omega))
 ·refine aW ?_ fun K hK=>by simp -dsimp [w,w2];exact hK
  refine a6 rfl (fun hc1=>?_) (fun hc1=>?_)
  ·refine aW ?_ fun K hK=>by simp -dsimp [w,w2];exact hK
   first|(exfalso;simp at hc0;done)|(exfalso;simp at hc1;done)|(exfalso;simp at hc2;done)|(exfalso;simp at hc3;done)|(exfalso;simp at hc4;done)|(refine a7 ?_;simp;done)|(refine a7 ?_;simp;exact Bool.eq_iff_iff.2 (by simp;try omega))
  ·refine aW ?_ fun K hK=>by simp -dsimp [w,w2];exact hK
   refine a6 rfl (fun hc2=>?_) (fun hc2=>?_)
   ·refine aW ?_ fun K hK=>by simp -dsimp [w,w2];exact hK
    first|(exfalso;simp at hc0;done)|(exfalso;simp at hc1;done)|(exfalso;simp at hc2;done)|(exfalso;simp at hc3;done)|(exfalso;simp at hc4;done)|(refine a7 ?_;simp;done)|(refine a7 ?_;simp;exact Bool.eq_iff_iff.2 (by simp;try omega))
   ·refine aW ?_ fun K hK=>by simp -dsimp [w,w2];exact hK
    refine a6 rfl (fun hc3=>?_) (fun hc3=>?_)
    ·refine aW ?_ fun K hK=>by simp -dsimp [w,w2];exact hK
     first|(exfalso;simp at hc0;done)|(exfalso;simp at hc1;done)|(exfalso;simp at hc2;done)|(exfalso;simp at hc3;done)|(exfalso;simp at hc4;done)|(refine a7 ?_;simp;done)|(refine a7 ?_;simp;exact Bool.eq_iff_iff.2 (by simp;try omega))
    ·refine aW ?_ fun K hK=>by simp -dsimp [w,w2];exact hK
     refine a6 rfl (fun hc4=>?_) (fun hc4=>?_)
     ·refine aW ?_ fun K hK=>by simp -dsimp [w,w2];exact hK
      first|(exfalso;simp at hc0;done)|(exfalso;simp at hc1;done)|(exfalso;simp at hc2;done)|(exfalso;simp at hc3;done)|(exfalso;simp at hc4;done)|(refine a7 ?_;simp;done)|(refine a7 ?_;simp;exact Bool.eq_iff_iff.2 (by simp;try omega))
     ·refine b8 ?_;refine zQ (hK1 _ _ ?_);refine aP [] ?_;refine aW ?_ fun K hK=>by simp -dsimp [w,w2];exact hK
      first|(exfalso;simp at hc0;done)|(exfalso;simp at hc1;done)|(exfalso;simp at hc2;done)|(exfalso;simp at hc3;done)|(exfalso;simp at hc4;done)|(refine a7 ?_;simp;done)|(refine a7 ?_;simp;exact Bool.eq_iff_iff.2 (by simp;try omega))
theorem b7G (n:Node) (a b:Int) (ha:0≤a∧a≤1000) (hb:0≤b∧b≤1000) (hk:n.Kind=3):a8 Tryz.prog 145 [n.av,I a,I b] (Bo (E0 n a b)):=by
 have w:IntKind.i64.wrap (a+b)=a+b:=c4 (by omega) (by omega);have w2:(a+b).tmod 2=(a+b) % 2:=Int.tmod_eq_emod_of_nonneg (by omega);unfold E0;simp only[Node.av,Node.cells,hk,Int.reduceEq,if_false,if_true,reduceIte];refine oB Tryz.func145 Tryz.ntmps145 Tryz.results145 ?_;refine aW ?_ fun K hK=>by simp -dsimp [w,w2];exact hK
 refine a5 fun K1 hK1=>?_;refine aW ?_ fun K hK=>by simp -dsimp [w,w2];exact hK
 refine a9 ?_;refine aW ?_ fun K hK=>by simp -dsimp [w,w2];exact hK
 refine a6 rfl (fun hc0=>?_) (fun hc0=>?_)
 ·refine aW ?_ fun K hK=>by simp -dsimp [w,w2];exact hK
  first|(exfalso;simp at hc0;done)|(exfalso;simp at hc1;done)|(exfalso;simp at hc2;done)|(exfalso;simp at hc3;done)|(exfalso;simp at hc4;done)|(refine a7 ?_;simp;done)|(refine a7 ?_;simp;exact Bool.eq_iff_iff.2 (by simp;try omega))
 ·refine aW ?_ fun K hK=>by simp -dsimp [w,w2];exact hK
  refine a6 rfl (fun hc1=>?_) (fun hc1=>?_)
  ·refine aW ?_ fun K hK=>by simp -dsimp [w,w2];exact hK
   first|(exfalso;simp at hc0;done)|(exfalso;simp at hc1;done)|(exfalso;simp at hc2;done)|(exfalso;simp at hc3;done)|(exfalso;simp at hc4;done)|(refine a7 ?_;simp;done)|(refine a7 ?_;simp;exact Bool.eq_iff_iff.2 (by simp;try omega))
  ·refine aW ?_ fun K hK=>by simp -dsimp [w,w2];exact hK
   refine a6 rfl (fun hc2=>?_) (fun hc2=>?_)
   ·refine aW ?_ fun K hK=>by simp -dsimp [w,w2];exact hK
    first|(exfalso;simp at hc0;done)|(exfalso;simp at hc1;done)|(exfalso;simp at hc2;done)|(exfalso;simp at hc3;done)|(exfalso;simp at hc4;done)|(refine a7 ?_;simp;done)|(refine a7 ?_;simp;exact Bool.eq_iff_iff.2 (by simp;try omega))
   ·refine aW ?_ fun K hK=>by simp -dsimp [w,w2];exact hK
    refine a6 rfl (fun hc3=>?_) (fun hc3=>?_)
    ·refine aW ?_ fun K hK=>by simp -dsimp [w,w2];exact hK
     first|(exfalso;simp at hc0;done)|(exfalso;simp at hc1;done)|(exfalso;simp at hc2;done)|(exfalso;simp at hc3;done)|(exfalso;simp at hc4;done)|(refine a7 ?_;simp;done)|(refine a7 ?_;simp;exact Bool.eq_iff_iff.2 (by simp;try omega))
    ·refine aW ?_ fun K hK=>by simp -dsimp [w,w2];exact hK
     refine a6 rfl (fun hc4=>?_) (fun hc4=>?_)
     ·refine aW ?_ fun K hK=>by simp -dsimp [w,w2];exact hK
      first|(exfalso;simp at hc0;done)|(exfalso;simp at hc1;done)|(exfalso;simp at hc2;done)|(exfalso;simp at hc3;done)|(exfalso;simp at hc4;done)|(refine a7 ?_;simp;done)|(refine a7 ?_;simp;exact Bool.eq_iff_iff.2 (by simp;try omega))
     ·refine b8 ?_;refine zQ (hK1 _ _ ?_);refine aP [] ?_;refine aW ?_ fun K hK=>by simp -dsimp [w,w2];exact hK
      first|(exfalso;simp at hc0;done)|(exfalso;simp at hc1;done)|(exfalso;simp at hc2;done)|(exfalso;simp at hc3;done)|(exfalso;simp at hc4;done)|(refine a7 ?_;simp;done)|(refine a7 ?_;simp;exact Bool.eq_iff_iff.2 (by simp;try omega))
theorem b8D (n:Node) (a b:Int) (ha:0≤a∧a≤1000) (hb:0≤b∧b≤1000) (hk:n.Kind=4):a8 Tryz.prog 145 [n.av,I a,I b] (Bo (E0 n a b)):=by
 have w:IntKind.i64.wrap (a+b)=a+b:=c4 (by omega) (by omega);have w2:(a+b).tmod 2=(a+b) % 2:=Int.tmod_eq_emod_of_nonneg (by omega);unfold E0;simp only[Node.av,Node.cells,hk,Int.reduceEq,if_false,if_true,reduceIte];refine oB Tryz.func145 Tryz.ntmps145 Tryz.results145 ?_;refine aW ?_ fun K hK=>by simp -dsimp [w,w2];exact hK
 refine a5 fun K1 hK1=>?_;refine aW ?_ fun K hK=>by simp -dsimp [w,w2];exact hK
 refine a9 ?_;refine aW ?_ fun K hK=>by simp -dsimp [w,w2];exact hK
 refine a6 rfl (fun hc0=>?_) (fun hc0=>?_)
 ·refine aW ?_ fun K hK=>by simp -dsimp [w,w2];exact hK
  first|(exfalso;simp at hc0;done)|(exfalso;simp at hc1;done)|(exfalso;simp at hc2;done)|(exfalso;simp at hc3;done)|(exfalso;simp at hc4;done)|(refine a7 ?_;simp;done)|(refine a7 ?_;simp;exact Bool.eq_iff_iff.2 (by simp;try omega))
 ·refine aW ?_ fun K hK=>by simp -dsimp [w,w2];exact hK
  refine a6 rfl (fun hc1=>?_) (fun hc1=>?_)
  ·refine aW ?_ fun K hK=>by simp -dsimp [w,w2];exact hK
   first|(exfalso;simp at hc0;done)|(exfalso;simp at hc1;done)|(exfalso;simp at hc2;done)|(exfalso;simp at hc3;done)|(exfalso;simp at hc4;done)|(refine a7 ?_;simp;done)|(refine a7 ?_;simp;exact Bool.eq_iff_iff.2 (by simp;try omega))
  ·refine aW ?_ fun K hK=>by simp -dsimp [w,w2];exact hK
   refine a6 rfl (fun hc2=>?_) (fun hc2=>?_)
   ·refine aW ?_ fun K hK=>by simp -dsimp [w,w2];exact hK
    first|(exfalso;simp at hc0;done)|(exfalso;simp at hc1;done)|(exfalso;simp at hc2;done)|(exfalso;simp at hc3;done)|(exfalso;simp at hc4;done)|(refine a7 ?_;simp;done)|(refine a7 ?_;simp;exact Bool.eq_iff_iff.2 (by simp;try omega))
   ·refine aW ?_ fun K hK=>by simp -dsimp [w,w2];exact hK
    refine a6 rfl (fun hc3=>?_) (fun hc3=>?_)
    ·refine aW ?_ fun K hK=>by simp -dsimp [w,w2];exact hK
     first|(exfalso;simp at hc0;done)|(exfalso;simp at hc1;done)|(exfalso;simp at hc2;done)|(exfalso;simp at hc3;done)|(exfalso;simp at hc4;done)|(refine a7 ?_;simp;done)|(refine a7 ?_;simp;exact Bool.eq_iff_iff.2 (by simp;try omega))
    ·refine aW ?_ fun K hK=>by simp -dsimp [w,w2];exact hK
     refine a6 rfl (fun hc4=>?_) (fun hc4=>?_)
     ·refine aW ?_ fun K hK=>by simp -dsimp [w,w2];exact hK
      first|(exfalso;simp at hc0;done)|(exfalso;simp at hc1;done)|(exfalso;simp at hc2;done)|(exfalso;simp at hc3;done)|(exfalso;simp at hc4;done)|(refine a7 ?_;simp;done)|(refine a7 ?_;simp;exact Bool.eq_iff_iff.2 (by simp;try omega))
     ·refine b8 ?_;refine zQ (hK1 _ _ ?_);refine aP [] ?_;refine aW ?_ fun K hK=>by simp -dsimp [w,w2];exact hK
      first|(exfalso;simp at hc0;done)|(exfalso;simp at hc1;done)|(exfalso;simp at hc2;done)|(exfalso;simp at hc3;done)|(exfalso;simp at hc4;done)|(refine a7 ?_;simp;done)|(refine a7 ?_;simp;exact Bool.eq_iff_iff.2 (by simp;try omega))
theorem b6v (n:Node) (a b:Int) (ha:0≤a∧a≤1000) (hb:0≤b∧b≤1000) (hk:n.Kind=5):a8 Tryz.prog 145 [n.av,I a,I b] (Bo (E0 n a b)):=by
 have w:IntKind.i64.wrap (a+b)=a+b:=c4 (by omega) (by omega);have w2:(a+b).tmod 2=(a+b) % 2:=Int.tmod_eq_emod_of_nonneg (by omega);unfold E0;simp only[Node.av,Node.cells,hk,Int.reduceEq,if_false,if_true,reduceIte];refine oB Tryz.func145 Tryz.ntmps145 Tryz.results145 ?_;refine aW ?_ fun K hK=>by simp -dsimp [w,w2];exact hK
 refine a5 fun K1 hK1=>?_;refine aW ?_ fun K hK=>by simp -dsimp [w,w2];exact hK
 refine a9 ?_;refine aW ?_ fun K hK=>by simp -dsimp [w,w2];exact hK
 refine a6 rfl (fun hc0=>?_) (fun hc0=>?_)
 ·refine aW ?_ fun K hK=>by simp -dsimp [w,w2];exact hK
  first|(exfalso;simp at hc0;done)|(exfalso;simp at hc1;done)|(exfalso;simp at hc2;done)|(exfalso;simp at hc3;done)|(exfalso;simp at hc4;done)|(refine a7 ?_;simp;done)|(refine a7 ?_;simp;exact Bool.eq_iff_iff.2 (by simp;try omega))
 ·refine aW ?_ fun K hK=>by simp -dsimp [w,w2];exact hK
  refine a6 rfl (fun hc1=>?_) (fun hc1=>?_)
  ·refine aW ?_ fun K hK=>by simp -dsimp [w,w2];exact hK
   first|(exfalso;simp at hc0;done)|(exfalso;simp at hc1;done)|(exfalso;simp at hc2;done)|(exfalso;simp at hc3;done)|(exfalso;simp at hc4;done)|(refine a7 ?_;simp;done)|(refine a7 ?_;simp;exact Bool.eq_iff_iff.2 (by simp;try omega))
  ·refine aW ?_ fun K hK=>by simp -dsimp [w,w2];exact hK
   refine a6 rfl (fun hc2=>?_) (fun hc2=>?_)
   ·refine aW ?_ fun K hK=>by simp -dsimp [w,w2];exact hK
    first|(exfalso;simp at hc0;done)|(exfalso;simp at hc1;done)|(exfalso;simp at hc2;done)|(exfalso;simp at hc3;done)|(exfalso;simp at hc4;done)|(refine a7 ?_;simp;done)|(refine a7 ?_;simp;exact Bool.eq_iff_iff.2 (by simp;try omega))
   ·refine aW ?_ fun K hK=>by simp -dsimp [w,w2];exact hK
    refine a6 rfl (fun hc3=>?_) (fun hc3=>?_)
    ·refine aW ?_ fun K hK=>by simp -dsimp [w,w2];exact hK
     first|(exfalso;simp at hc0;done)|(exfalso;simp at hc1;done)|(exfalso;simp at hc2;done)|(exfalso;simp at hc3;done)|(exfalso;simp at hc4;done)|(refine a7 ?_;simp;done)|(refine a7 ?_;simp;exact Bool.eq_iff_iff.2 (by simp;try omega))
    ·refine aW ?_ fun K hK=>by simp -dsimp [w,w2];exact hK
     refine a6 rfl (fun hc4=>?_) (fun hc4=>?_)
     ·refine aW ?_ fun K hK=>by simp -dsimp [w,w2];exact hK
      first|(exfalso;simp at hc0;done)|(exfalso;simp at hc1;done)|(exfalso;simp at hc2;done)|(exfalso;simp at hc3;done)|(exfalso;simp at hc4;done)|(refine a7 ?_;simp;done)|(refine a7 ?_;simp;exact Bool.eq_iff_iff.2 (by simp;try omega))
     ·refine b8 ?_;refine zQ (hK1 _ _ ?_);refine aP [] ?_;refine aW ?_ fun K hK=>by simp -dsimp [w,w2];exact hK
      first|(exfalso;simp at hc0;done)|(exfalso;simp at hc1;done)|(exfalso;simp at hc2;done)|(exfalso;simp at hc3;done)|(exfalso;simp at hc4;done)|(refine a7 ?_;simp;done)|(refine a7 ?_;simp;exact Bool.eq_iff_iff.2 (by simp;try omega))
theorem b6P (n:Node) (a b:Int) (ha:0≤a∧a≤1000) (hb:0≤b∧b≤1000) (hk:n.Kind=6):a8 Tryz.prog 145 [n.av,I a,I b] (Bo (E0 n a b)):=by
 have w:IntKind.i64.wrap (a+b)=a+b:=c4 (by omega) (by omega);have w2:(a+b).tmod 2=(a+b) % 2:=Int.tmod_eq_emod_of_nonneg (by omega);unfold E0;simp only[Node.av,Node.cells,hk,Int.reduceEq,if_false,if_true,reduceIte];refine oB Tryz.func145 Tryz.ntmps145 Tryz.results145 ?_;refine aW ?_ fun K hK=>by simp -dsimp [w,w2];exact hK
 refine a5 fun K1 hK1=>?_;refine aW ?_ fun K hK=>by simp -dsimp [w,w2];exact hK
 refine a9 ?_;refine aW ?_ fun K hK=>by simp -dsimp [w,w2];exact hK
 refine a6 rfl (fun hc0=>?_) (fun hc0=>?_)
 ·refine aW ?_ fun K hK=>by simp -dsimp [w,w2];exact hK
  first|(exfalso;simp at hc0;done)|(exfalso;simp at hc1;done)|(exfalso;simp at hc2;done)|(exfalso;simp at hc3;done)|(exfalso;simp at hc4;done)|(refine a7 ?_;simp;done)|(refine a7 ?_;simp;exact Bool.eq_iff_iff.2 (by simp;try omega))
 ·refine aW ?_ fun K hK=>by simp -dsimp [w,w2];exact hK
  refine a6 rfl (fun hc1=>?_) (fun hc1=>?_)
  ·refine aW ?_ fun K hK=>by simp -dsimp [w,w2];exact hK
   first|(exfalso;simp at hc0;done)|(exfalso;simp at hc1;done)|(exfalso;simp at hc2;done)|(exfalso;simp at hc3;done)|(exfalso;simp at hc4;done)|(refine a7 ?_;simp;done)|(refine a7 ?_;simp;exact Bool.eq_iff_iff.2 (by simp;try omega))
  ·refine aW ?_ fun K hK=>by simp -dsimp [w,w2];exact hK
   refine a6 rfl (fun hc2=>?_) (fun hc2=>?_)
   ·refine aW ?_ fun K hK=>by simp -dsimp [w,w2];exact hK
    first|(exfalso;simp at hc0;done)|(exfalso;simp at hc1;done)|(exfalso;simp at hc2;done)|(exfalso;simp at hc3;done)|(exfalso;simp at hc4;done)|(refine a7 ?_;simp;done)|(refine a7 ?_;simp;exact Bool.eq_iff_iff.2 (by simp;try omega))
   ·refine aW ?_ fun K hK=>by simp -dsimp [w,w2];exact hK
    refine a6 rfl (fun hc3=>?_) (fun hc3=>?_)
    ·refine aW ?_ fun K hK=>by simp -dsimp [w,w2];exact hK
     first|(exfalso;simp at hc0;done)|(exfalso;simp at hc1;done)|(exfalso;simp at hc2;done)|(exfalso;simp at hc3;done)|(exfalso;simp at hc4;done)|(refine a7 ?_;simp;done)|(refine a7 ?_;simp;exact Bool.eq_iff_iff.2 (by simp;try omega))
    ·refine aW ?_ fun K hK=>by simp -dsimp [w,w2];exact hK
     refine a6 rfl (fun hc4=>?_) (fun hc4=>?_)
     ·refine aW ?_ fun K hK=>by simp -dsimp [w,w2];exact hK
      first|(exfalso;simp at hc0;done)|(exfalso;simp at hc1;done)|(exfalso;simp at hc2;done)|(exfalso;simp at hc3;done)|(exfalso;simp at hc4;done)|(refine a7 ?_;simp;done)|(refine a7 ?_;simp;exact Bool.eq_iff_iff.2 (by simp;try omega))
     ·refine b8 ?_;refine zQ (hK1 _ _ ?_);refine aP [] ?_;refine aW ?_ fun K hK=>by simp -dsimp [w,w2];exact hK
      first|(exfalso;simp at hc0;done)|(exfalso;simp at hc1;done)|(exfalso;simp at hc2;done)|(exfalso;simp at hc3;done)|(exfalso;simp at hc4;done)|(refine a7 ?_;simp;done)|(refine a7 ?_;simp;exact Bool.eq_iff_iff.2 (by simp;try omega))
theorem c1Y (n:Node) (a b:Int) (ha:0≤a∧a≤1000) (hb:0≤b∧b≤1000) (hk:1≤n.Kind∧n.Kind≤6):a8 Tryz.prog 145 [n.av,I a,I b] (Bo (E0 n a b)):=by
 have:n.Kind=1∨n.Kind=2∨n.Kind=3∨n.Kind=4∨n.Kind=5∨n.Kind=6:=by omega
 rcases this with h|h|h|h|h|h
 ·exact b7W n a b ha hb h
 ·exact b7M n a b ha hb h
 ·exact b7G n a b ha hb h
 ·exact b8D n a b ha hb h
 ·exact b6v n a b ha hb h
 ·exact b6P n a b ha hb h
theorem b0y (e:E1):∀(l:List E1) (i:Int),0≤i→ -1≤a2C e l i∧a2C e l i≤i+l.length
 |[],i,h=>by simp[a2C];omega
 |x::l,i,h=>by
  have:=b0y e l (i+1) (by omega);simp only[a2C]
  split<;>simp<;>omega
theorem b3D (n:Node) (e:E1):-1≤a2E n e∧a2E n e≤n.Ends.length:=by
 have:=b0y e n.Ends 0 (by omega);unfold a2E;omega
theorem b3p (p:Plan) (m k:Move) (hv:d8 p=true) (hm:D3 p m=true):a8 Tryz.prog 106 [p.av,m.av,k.av] (Bo (a5g p m k)):=by
 have hm':=F3.1 hm;have ha:=b4Z hv (e:=I9 m) hm'.1 hm'.2;have hnode:=p.node_get ha.1 ha.2;have hnf:=R6 (X7 hv ha.1 ha.2);have hca:=c4W p (I9 m) hm'.1 hm'.2;have hna:p.node (p.at (I9 m))=l6 p m:=rfl;rw[hna]at hnode hnf;have hi1:=a6E (l6 p m) (I9 m) (by omega);have hi2:=a6E (l6 p m) (a2r k) (by omega);have hb1:=b3D (l6 p m) (I9 m);have hb2:=b3D (l6 p m) (a2r k);have hlt:=fun h1 h2=>c1Y (l6 p m) (a2E (l6 p m) (I9 m)) (a2E (l6 p m) (a2r k)) ⟨h1,by omega⟩ ⟨h2,by omega⟩ hnf.1;have hrf:a5g p m k=(decide (0≤a2E (l6 p m) (I9 m))&&(decide (0≤a2E (l6 p m) (a2r k))&&E0 (l6 p m) (a2E (l6 p m) (I9 m)) (a2E (l6 p m) (a2r k)))):=rfl;rw[hrf];generalize E0 (l6 p m) (a2E (l6 p m) (I9 m)) (a2E (l6 p m) (a2r k))=lt at hlt ⊢;generalize l6 p m=n at*
 refine oB Tryz.func106 Tryz.ntmps106 Tryz.results106 ?_;refine aW ?_;refine aD ?_ fun K hK=>by simp -dsimp;refine cI (b0E m) ?_;simp -dsimp;refine cI (hca) ?_;simp -dsimp;exact hK
 refine aW ?_ fun K hK=>by simp -dsimp [hnode,ha.1];exact hK
 refine aD ?_ fun K hK=>by simp -dsimp;refine cI (b0E m) ?_;simp -dsimp;refine cI (hi1) ?_;simp -dsimp;refine cI (b9t k) ?_;simp -dsimp;refine cI (hi2) ?_;simp -dsimp;exact hK
 refine aW ?_ fun K hK=>by simp -dsimp;refine cY (fun hm=>hlt (by simp at hm;exact hm.1) (by simp at hm;exact hm.2)) ?_;simp -dsimp;exact hK
 exact a7 (by simp[Bool.and_assoc])
structure R0 where
 Node:Int
 Leg:Int
 deriving DecidableEq,Inhabited
@[simp] def R0.cells (s:R0):List AV:=[I s.Node,I s.Leg]
def b8t (p:Plan) (m k:Move):R0:=⟨p.at (I9 m),a9x (a2E (l6 p m) (I9 m)) (a2E (l6 p m) (a2r k))⟩
def J5 (p:Plan) (m:Move):Bool:=decide ((l6 p m).Kind=4)
theorem b2M (p:Plan) (m k:Move) (hv:d8 p=true) (hm:D3 p m=true):a8 Tryz.prog 47 [p.av,m.av,k.av] (.tup [.agg (if J5 p m then b8t p m k else⟨0,0⟩).cells,Bo (J5 p m)]):=by
 have hm':=F3.1 hm;have ha:=b4Z hv (e:=I9 m) hm'.1 hm'.2;have hnode:=p.node_get ha.1 ha.2;have hnf:=R6 (X7 hv ha.1 ha.2);have hca:=c4W p (I9 m) hm'.1 hm'.2;have hna:p.node (p.at (I9 m))=l6 p m:=rfl;rw[hna]at hnode hnf;have hi1:=a6E (l6 p m) (I9 m) (by omega);have hi2:=a6E (l6 p m) (a2r k) (by omega);have hrb:b8t p m k=⟨p.at (I9 m),a9x (a2E (l6 p m) (I9 m)) (a2E (l6 p m) (a2r k))⟩:=rfl;have his:J5 p m=decide ((l6 p m).Kind=4):=rfl;rw[hrb,his];generalize l6 p m=n at*
 refine oB Tryz.func47 Tryz.ntmps47 Tryz.results47 ?_;refine aW ?_;refine aD ?_ fun K hK=>by simp -dsimp;refine cI (b0E m) ?_;simp -dsimp;refine cI (hca) ?_;simp -dsimp;exact hK
 refine aW ?_ fun K hK=>by simp -dsimp [hnode,ha.1];exact hK
 refine a5 fun K1 hK1=>?_;refine aW ?_;refine a6 rfl (fun hc0=>?_) (fun hc0=>?_)
 ·skip
  try simp at hc0
  refine aW ?_;exact a7 (by simp_all)
 ·skip
  try simp at hc0
  refine b8 ?_;refine zQ (hK1 _ _ ?_);refine aP [4,5,6,8,9] ?_;refine aD ?_ fun K hK=>by simp -dsimp;refine cI (b0E m) ?_;simp -dsimp;refine cI (hi1) ?_;simp -dsimp;refine cI (b9t k) ?_;simp -dsimp;refine cI (hi2) ?_;simp -dsimp;exact hK
  exact a7 (by simp_all)
end Go.Tram
end
section
namespace Go.Tram
open Go.AM Go.Proofs
def L2 (p:Plan) (m k:Move):R0:=⟨p.at (I9 m),a9x (plc p (I9 m)) (plc p (a2r k))⟩
theorem c1O {p:Plan} (hv:d8 p=true) {m k:Move} (hm:D3 p m=true) (hf:a5g p m k=true):L2 p m k=b8t p m k:=by
 obtain⟨i,hi,ha,hn,j,hj,hp,hx⟩:=a9u hv hm;simp only[a5g,hn,Bool.and_eq_true,decide_eq_true_eq]at hf;have:∃t:Nat,(p.node i).Ends[t]?=some (a2r k):=by
  by_cases h:∃t:Nat,(p.node i).Ends[t]?=some (a2r k)
  ·exact h
  ·have:=a0z (e:=a2r k) (p.node i).Ends 0 fun j hj=>h ⟨j,hj⟩;have h2:=hf.2.1;unfold a2E at h2;omega
 obtain⟨t,ht⟩:=this;unfold L2 b8t;rw[hn,hp,hx,a3C hv hi ht,Y2 hv hi ht]
theorem b5z (m:Move):a8 Tryz.prog 174 [m.av] (.agg [I m.Rail,Bo m.Back]):=by
 refine oB Tryz.func174 Tryz.ntmps174 Tryz.results174 ?_;refine aW ?_;refine aW ?_;exact a7 (by simp)
theorem a2f (p:Plan) (m k:Move) (hv:d8 p=true) (hm:D3 p m=true):a8 Tryz.prog 130 [.iptr (net p),m.av,k.av] (.tup [.agg (if J5 p m then L2 p m k else⟨0,0⟩).cells,Bo (J5 p m)]):=by
 have hm':=F3.1 hm;have ha:=b4Z hv (e:=I9 m) hm'.1 hm'.2;have hnode:=p.node_get ha.1 ha.2;have hce:=a6O p (I9 m) hm'.1 hm'.2;have hna:p.node (p.at (I9 m))=l6 p m:=rfl;rw[hna]at hnode;have hp1:=a9H hv (I9 m);have hp2:=a9H hv (a2r k);have hrb:L2 p m k=⟨p.at (I9 m),a9x (plc p (I9 m)) (plc p (a2r k))⟩:=rfl;have his:J5 p m=decide ((l6 p m).Kind=4):=rfl;rw[hrb,his];generalize l6 p m=n at*
 unfold net;refine oB Tryz.func130 Tryz.ntmps130 Tryz.results130 ?_;refine aW ?_;refine aD ?_ fun K hK=>by simp -dsimp;refine cI (a3N m) ?_;simp -dsimp;refine cI (hce) ?_;simp -dsimp;exact hK
 refine a5 fun K1 hK1=>?_;refine aW ?_ fun K hK=>by simp -dsimp [hnode,ha.1];exact hK
 refine a6 rfl (fun hc0=>?_) (fun hc0=>?_)
 ·skip
  try simp at hc0
  refine aW ?_;exact a7 (by simp_all)
 ·skip
  try simp at hc0
  refine b8 ?_;refine zQ (hK1 _ _ ?_);refine aP [0,4,5,6,8] ?_;refine aD ?_ fun K hK=>by simp -dsimp;refine cI (a3N m) ?_;simp -dsimp;refine d7 (I (plc p (I9 m))) (fun hm=>congrArg AV.v hp1.1) ?_;simp -dsimp;refine cI (b5z k) ?_;simp -dsimp;refine d7 (I (plc p (a2r k))) (fun hm=>congrArg AV.v hp2.1) ?_;simp -dsimp;exact hK
  exact a7 (by simp_all)
theorem a8B (p:Plan) (m k:Move) (hv:d8 p=true) (hm:D3 p m=true) (hk:D3 p k=true):a8 Tryz.prog 139 [p.av,m.av,k.av] (.tup [.agg (if F9 p m k&&J5 p m then L2 p m k else⟨0,0⟩).cells,I (if F9 p m k&&J5 p m then 0 else 4)]):=by
 have hop:=U0 p hv;have hh:=a5A p m.Rail m.Back hv;have hhk:=a5A p k.Rail k.Back hv;rw[show inr m.Rail 0 (p.Rails.length-1)=true from hm]at hh;rw[show inr k.Rail 0 (p.Rails.length-1)=true from hk]at hhk;have hf:=a4j p m k hv hm;have hb:=a2f p m k hv hm;generalize net p=sh at hop hh hhk hf hb;refine oB Tryz.func139 Tryz.ntmps139 Tryz.results139 ?_;refine aW ?_;refine aW ?_ fun K hK=>by simp -dsimp;refine cI (hop) ?_;simp -dsimp;exact hK
 refine a5 fun K1 hK1=>?_;refine aW ?_ fun K hK=>by simp -dsimp;refine cY (fun hm=>hh) ?_;simp -dsimp;refine cY (fun hm=>hhk) ?_;simp -dsimp;exact hK
 refine a6 rfl (fun hc0=>?_) (fun hc0=>?_)
 ·simp at hc0
 ·refine b8 ?_;refine zQ (hK1 _ _ ?_);refine aP [4,5,6,8] ?_;refine a5 fun K2 hK2=>?_;refine aW ?_ fun K hK=>by simp -dsimp;refine cI (hf) ?_;simp -dsimp;exact hK
  refine a6 rfl (fun hc1=>?_) (fun hc1=>?_)
  ·skip
   try simp at hc1
   refine aW ?_ fun K hK=>by simp -dsimp;refine cI (hb) ?_;simp -dsimp;exact hK
   refine aW ?_;refine a6 rfl (fun hc2=>?_) (fun hc2=>?_)
   ·skip
    try simp at hc2
    refine aW ?_;exact a7 (by simp_all)
   ·skip
    try simp at hc2
    refine b8 ?_;refine zQ (hK2 _ _ ?_);refine aP [6] ?_;refine aW ?_;exact a7 (by simp_all)
  ·skip
   try simp at hc1
   refine b8 ?_;refine zQ (hK2 _ _ ?_);refine aP [6] ?_;refine aW ?_;exact a7 (by simp_all)
end Go.Tram
end
section
namespace Go.Tram
open Go.AM Go.Proofs
theorem b6K:a8 Tryz.prog 65 [] c1A:=by
 refine oB Tryz.func65 Tryz.ntmps65 Tryz.results65 ?_;refine aW ?_;refine aW ?_;exact a7 (by simp[c1A])
theorem b2d:a8 Tryz.prog 65 [] j8.av:=by
 have e:wkN 2 6 c1A=j8.av:=by rfl
 refine b6K.res fun w S y h=>?_;rw[←e];exact a9v 2 6 _ _ h
end Go.Tram
end
section
namespace Go.Tram
open Go.AM Go.Proofs
theorem b4Q {p:Plan} (hv:d8 p=true) {m k:Move} (hm:D3 p m=true) (hf:a5g p m k=true):∃i:Nat,i<p.Nodes.length∧p.at (I9 m)=i∧p.at (a2r k)=i∧l6 p m=p.node i∧∃a b:Nat,(p.node i).Ends[a]?=some (I9 m)∧(p.node i).Ends[b]?=some (a2r k)∧E0 (p.node i) a b=true:=by
 obtain⟨i,hi,ha,hn,j,hj,hp,hx⟩:=a9u hv hm;simp only[a5g,hn,Bool.and_eq_true,decide_eq_true_eq]at hf;have:∃t:Nat,(p.node i).Ends[t]?=some (a2r k):=by
  by_cases h:∃t:Nat,(p.node i).Ends[t]?=some (a2r k)
  ·exact h
  ·have:=a0z (e:=a2r k) (p.node i).Ends 0 fun j hj=>h ⟨j,hj⟩;have h2:=hf.2.1;unfold a2E at h2;omega
 obtain⟨t,ht⟩:=this;refine⟨i,hi,ha,(O5 hv hi ht).2,hn,j,t,hj,ht,?_⟩;have:=hf.2.2;rw[hx,Y2 hv hi ht]at this;exact this
def c3F (K N f t:Int):Bool:=
 if K=1 then false else if K=2 then decide (f≠t)else if K=3 then decide (f≠t)&&decide ((f+t) % 2=0)
 else if K=4 then decide (f≠t)&&(decide (f=0)||decide (t=0))else if K=5 then(decide (f≠0)&&decide (t=0))||(decide (f=0)&&decide (t=N))
 else(decide (f=0)&&decide (t=N))||(decide (f=N)&&decide (t=0))
theorem b6G (n:Node) (f t:Int):E0 n f t=c3F n.Kind n.Normal f t:=rfl
end Go.Tram
end
section
namespace Go.Tram
open Go.AM Go.Proofs
theorem c2J (p:Plan) (l:List Move) (hv:d8 p=true) (hn:l.length≤100000):a8 Tryz.prog 88 [p.av,a4W l] (Bo (wayB p l)):=by
 have hR:=(j7 hv).2.1;have hmo:=fun m=>b3B p m (by omega);have hfol:∀m k,D3 p m=true→D3 p k=true→a8 Tryz.prog 106 [p.av,m.av,k.av] (Bo (F9 p m k)):=fun m k h1 h2=>by rw[a9w hv h1 h2];exact b3p p m k hv h1
 refine oB Tryz.func88 Tryz.ntmps88 Tryz.results88 ?_;refine aW ?_;refine a5 fun K1 hK1=>?_;refine aW ?_;refine a9 ?_;refine aP [1,2,5] ?_;refine c5 [1,2] (α:=Nat) (fun i=>[(5,I i)]) (fun i=>[some (.els 2 [p.cells])]) (fun i=>i≤l.length∧(List.range i).all (U5 p l)=true) (fun i=>l.length-i) 0 ?_ ?_ ?_
 ·simp
 ·exact c7 (by simp)
 rintro i ⟨i1,i2⟩;refine zN ?_;refine a5 fun K2 hK2=>?_;refine aW ?_;refine a6 rfl (fun hc0=>?_) (fun hc0=>?_)
 ·skip
  try simp at hc0
  obtain⟨m,hgm⟩:=gx (l:=l) (i:=i) hc0;have wi:=zW i (by omega);have w1:IntKind.i64.wrap ((i:Int)-1)=(i:Int)-1:=c4 (by omega) (by omega);have hprev:0<i→l[i-1]?=some (l[i-1]?.getD default):=fun h=>by rw[List.getElem?_eq_getElem (by omega)];rfl
  have hpm:0<i→D3 p (l[i-1]?.getD default)=true:=fun h=>(Bool.and_eq_true_iff.1 (a0U i2 (show i-1<i by omega))).1;have hst:U5 p l i=(D3 p m&&(decide (i=0)||F9 p (l[i-1]?.getD default) m)):=by unfold U5;rw[hgm];rfl
  generalize l[i-1]?.getD default=m' at hprev hpm hst;refine b8 ?_;refine zQ (hK2 _ _ ?_);refine aP [1,2,5] ?_;refine a5 fun K3 hK3=>?_;refine a9 ?_;refine b0F a1m rfl fun K hK=>?_;simp -dsimp [hgm,w1];refine cI (hmo m) ?_;simp -dsimp [hgm,w1];refine⟨fun _ h=>by omega,?_⟩
  try simp -dsimp
  refine k7 m'.cells (fun hq=>by simp at hq;rw[List.getElem?_map,hprev hq.2];rfl) ?_;simp -dsimp [hgm,w1];refine k7 m.cells (fun _=>by rw[List.getElem?_map,hgm];rfl) ?_;simp -dsimp [hgm,w1];refine cY (fun hm=>(hfol m' m (hpm (by simp at hm;exact hm.2)) (by simp at hm;exact hm.1))) ?_;simp -dsimp [hgm,w1];refine hK _ _ _ (by decide+kernel) ?_;clear hK K;refine a6 rfl (fun hc1=>?_) (fun hc1=>?_)
  ·rw[a3L,←hst]at hc1;have hsf:U5 p l i=false:=by simpa using hc1
   have hb:wayB p l=false:=by unfold wayB;rw[show(List.range l.length).all (U5 p l)=false from by rw[List.all_eq_false];exact⟨i,List.mem_range.2 hc0,by simp[hsf]⟩];rfl
   refine aW ?_;exact a7 (by simp[hb])
  ·rw[a3L,←hst]at hc1;have hst1:U5 p l i=true:=by simpa using hc1
   refine b8 ?_;refine zQ (hK3 _ _ ?_);refine aP [1,2,5] ?_;refine aV ?_ fun K hK=>by simp -dsimp [wi];exact hK
   refine zQ ?_;exact⟨i+1,⟨by omega,by rw[a4f,i2,hst1];rfl⟩,by omega,aB [some 0]⟩
 ·skip
  try simp at hc0
  have hie:i=l.length:=by omega
  subst hie;refine c9 ?_;refine zQ (hK1 _ _ ?_);refine aP [1] ?_;refine aW ?_ fun K hK=>by simp -dsimp;refine cI (b2y l.length 1 2000) ?_;simp -dsimp;exact hK
  exact a7 (by simp[wayB,i2])
end Go.Tram
end
section
namespace Go.Tram
open Go.AM Go.Proofs
attribute [-simp] b7I a9x
theorem a8n (p:Plan) (r:Int) (h0:0≤r) (h1:r<p.Rails.length) (hs:(p.rail r).Shape.length≤1000):a8 Tryz.prog 121 [p.av,I r] (I ((p.rail r).Shape.length+1)):=by
 have g0:=p.rail_get h0 h1;have w:IntKind.i64.wrap (((p.rail r).Shape.length:Int)+1)=((p.rail r).Shape.length:Int)+1:=c4 (by omega) (by omega);refine oB Tryz.func121 Tryz.ntmps121 Tryz.results121 ?_;refine aW ?_;refine aW ?_ fun K hK=>by simp -dsimp [g0,h0,w];exact hK
 exact a7 (by simp)
theorem a7h (p:Plan) (r:Int) (k:Nat) (h0:0≤r) (h1:r<p.Rails.length) (ro:Z3 p r) (hk:k<(p.rail r).Shape.length+1):
  a8 Tryz.prog 164 [p.av, .agg [I r,I k]] (.tup [(nth (p.line r) k).av,(nth (p.line r) (k+1)).av]):=by
 have hl:=ro.len;have hs:=ro.s;have g1:=y5 (l:=p.line r) (k:=k) (by omega);have g2:=y5 (l:=p.line r) (k:=k+1) (by omega);have wk:=zW k (by omega);refine oB Tryz.func164 Tryz.ntmps164 Tryz.results164 ?_;refine aW ?_;refine aW ?_ fun K hK=>by simp -dsimp;refine cI (b4O p r h0 h1 ro.f ro.t (by omega)) ?_;simp -dsimp;exact hK
 refine aD ?_ fun K hK=>by simp -dsimp [g1,g2,wk];refine⟨by omega,?_⟩;exact hK
 exact a7 (by simp)
theorem a4m {a b:Int} (h:0≤a):a.tdiv b=a/b:=Int.tdiv_eq_ediv_of_nonneg h
theorem a3W {a b:Int} (h:0≤a):a.tmod b=a % b:=Int.tmod_eq_emod_of_nonneg h
theorem a5D (a b:Int) (ha:0≤a) (ha':a<4611686018427387904) (hb:0≤b) (hb':b<4611686018427387904):
  a8 Tryz.prog 208 [I a,I b] (.tup [I (a*b/4611686018427387904),I (a*b % 4611686018427387904)]):=by
 obtain⟨p1,p2⟩:=c3r ha ha' hb hb';have hab:=s6 ha ha' hb hb';have a1:=s6 (a:=a/2147483648) (b:=b/2147483648) (A:=2147483648) (B:=2147483648) (by omega) (by omega) (by omega) (by omega);have a2:=s6 (a:=a/2147483648) (b:=b % 2147483648) (A:=2147483648) (B:=2147483648) (by omega) (by omega) (by omega) (by omega);have a3:=s6 (a:=a % 2147483648) (b:=b/2147483648) (A:=2147483648) (B:=2147483648) (by omega) (by omega) (by omega) (by omega);have a4:=s6 (a:=a % 2147483648) (b:=b % 2147483648) (A:=2147483648) (B:=2147483648) (by omega) (by omega) (by omega) (by omega);have t1:=a4m (b:=2147483648) ha;have t2:=a3W (b:=2147483648) ha;have t3:=a4m (b:=2147483648) hb;have t4:=a3W (b:=2147483648) hb;have v1:IntKind.i64.wrap (a/2147483648)=a/2147483648:=c4 (by omega) (by omega);have v2:IntKind.i64.wrap (b/2147483648)=b/2147483648:=c4 (by omega) (by omega);generalize hp:a/2147483648*(b/2147483648)=p at*
 generalize hq:a/2147483648*(b % 2147483648)=q at*
 generalize hr:a % 2147483648*(b/2147483648)=r at*
 generalize hs:a % 2147483648*(b % 2147483648)=s at*
 have w1:IntKind.i64.wrap s=s:=c4 (by omega) (by omega);have w2:IntKind.i64.wrap q=q:=c4 (by omega) (by omega);have w3:IntKind.i64.wrap r=r:=c4 (by omega) (by omega);have w4:IntKind.i64.wrap p=p:=c4 (by omega) (by omega);have t5:=a4m (b:=2147483648) a4.1;have v3:IntKind.i64.wrap (s/2147483648)=s/2147483648:=c4 (by omega) (by omega);have w5:IntKind.i64.wrap (q+s/2147483648)=q+s/2147483648:=c4 (by omega) (by omega);have t6:=a4m (a:=q+s/2147483648) (b:=2147483648) (by omega);have v4:IntKind.i64.wrap ((q+s/2147483648)/2147483648)=(q+s/2147483648)/2147483648:=c4 (by omega) (by omega);have w6:IntKind.i64.wrap (p+(q+s/2147483648)/2147483648)=p+(q+s/2147483648)/2147483648:=c4 (by omega) (by omega);have t7:=a3W (a:=q+s/2147483648) (b:=2147483648) (by omega);have w7:IntKind.i64.wrap ((q+s/2147483648) % 2147483648+r)=(q+s/2147483648) % 2147483648+r:=c4 (by omega) (by omega);have t8:=a4m (a:=(q+s/2147483648) % 2147483648+r) (b:=2147483648) (by omega);have t9:=a3W (a:=(q+s/2147483648) % 2147483648+r) (b:=2147483648) (by omega);have t10:=a3W (b:=2147483648) a4.1;have v5:IntKind.i64.wrap (((q+s/2147483648) % 2147483648+r)/2147483648)=((q+s/2147483648) % 2147483648+r)/2147483648:=c4 (by omega) (by omega);have w8:IntKind.i64.wrap (p+(q+s/2147483648)/2147483648+((q+s/2147483648) % 2147483648+r)/2147483648)=a*b/4611686018427387904:=by rw[p1];exact c4 (by omega) (by omega)
 have w9:IntKind.i64.wrap (((q+s/2147483648) % 2147483648+r) % 2147483648*2147483648)=((q+s/2147483648) % 2147483648+r) % 2147483648*2147483648:=c4 (by omega) (by omega);have w10:IntKind.i64.wrap (((q+s/2147483648) % 2147483648+r) % 2147483648*2147483648+s % 2147483648)=a*b % 4611686018427387904:=by rw[p2];exact c4 (by omega) (by omega)
 have nm:((q+s/2147483648) % 2147483648+r) % 2147483648=(q+s/2147483648+r) % 2147483648:=by omega
 rw[nm]at w9 w10;refine oB Tryz.func208 Tryz.ntmps208 Tryz.results208 ?_;refine aW ?_ fun K hK=>by simp -dsimp [t1,t2,t3,t4,t5,t6,t7,t8,t9,t10,v1,v2,v3,v4,v5,hp,hq,hr,hs,w1,w2,w3,w4,w5,w6,w7,w8,w9,w10];exact hK
 refine aW ?_ fun K hK=>by simp -dsimp [t1,t2,t3,t4,t5,t6,t7,t8,t9,t10,v1,v2,v3,v4,v5,hp,hq,hr,hs,w1,w2,w3,w4,w5,w6,w7,w8,w9,w10];exact hK
 refine aW ?_ fun K hK=>by simp -dsimp [t1,t2,t3,t4,t5,t6,t7,t8,t9,t10,v1,v2,v3,v4,v5,hp,hq,hr,hs,w1,w2,w3,w4,w5,w6,w7,w8,w9,w10];exact hK
 refine aW ?_ fun K hK=>by simp -dsimp [t1,t2,t3,t4,t5,t6,t7,t8,t9,t10,v1,v2,v3,v4,v5,hp,hq,hr,hs,w1,w2,w3,w4,w5,w6,w7,w8,w9,w10];exact hK
 refine aW ?_ fun K hK=>by simp -dsimp [t1,t2,t3,t4,t5,t6,t7,t8,t9,t10,v1,v2,v3,v4,v5,hp,hq,hr,hs,w1,w2,w3,w4,w5,w6,w7,w8,w9,w10];exact hK
 refine aW ?_ fun K hK=>by simp -dsimp [t1,t2,t3,t4,t5,t6,t7,t8,t9,t10,v1,v2,v3,v4,v5,hp,hq,hr,hs,w1,w2,w3,w4,w5,w6,w7,w8,w9,w10];exact hK
 refine aW ?_ fun K hK=>by simp -dsimp [t1,t2,t3,t4,t5,t6,t7,t8,t9,t10,v1,v2,v3,v4,v5,hp,hq,hr,hs,w1,w2,w3,w4,w5,w6,w7,w8,w9,w10];exact hK
 refine aW ?_ fun K hK=>by simp -dsimp [t1,t2,t3,t4,t5,t6,t7,t8,t9,t10,v1,v2,v3,v4,v5,hp,hq,hr,hs,w1,w2,w3,w4,w5,w6,w7,w8,w9,w10];exact hK
 exact a7 (by simp)
theorem a4q (less:Bool) (a b:Int):a0D less (N3 a b)=if less then decide (a<b)else decide (a≤b):=by
 unfold a0D
 cases less
 ·simp only[Bool.false_eq_true,if_false];exact decide_eq_decide.2 c1b
 ·simp only[if_true];exact decide_eq_decide.2 a3s
theorem b8C (a b c d:Int) (less:Bool) (ha:0≤a) (ha':a<4611686018427387904) (hb:0≤b) (hb':b<4611686018427387904) (hc:0≤c) (hc':c<4611686018427387904) (hd:0≤d) (hd':d<4611686018427387904):
  a8 Tryz.prog 188 [I a,I b,I c,I d,Bo less] (Bo (a0D less (N3 (a*b) (c*d)))):=by
 refine oB Tryz.func188 Tryz.ntmps188 Tryz.results188 ?_;refine aW ?_;refine aW ?_ fun K hK=>by simp -dsimp;refine cI (a5D a b ha ha' hb hb') ?_;simp -dsimp;exact hK
 refine aW ?_ fun K hK=>by simp -dsimp;refine cI (a5D c d hc hc' hd hd') ?_;simp -dsimp;exact hK
 refine aW ?_;refine a7 ?_;rw[a4q];generalize a*b=m;generalize c*d=n
 cases less<;>simp<;>exact Bool.eq_iff_iff.2 (by simp;omega)
theorem b0w (a b c:Spot) (ha:j9 a=true) (hb:j9 b=true) (hc:j9 c=true):a8 Tryz.prog 207 [a.av,b.av,c.av] (I (J7 a b c)):=by
 have h1:=A1 ha hb;have h2:=A1 ha hc;have m1:=y3 (a:=b.X-a.X) (b:=c.Y-a.Y) (A:=20000000) (B:=20000000) (by omega) (by omega) (by omega) (by omega);have m2:=y3 (a:=b.Y-a.Y) (b:=c.X-a.X) (A:=20000000) (B:=20000000) (by omega) (by omega) (by omega) (by omega);have u1:IntKind.i64.wrap (b.X-a.X)=b.X-a.X:=c4 (by omega) (by omega);have u2:IntKind.i64.wrap (b.Y-a.Y)=b.Y-a.Y:=c4 (by omega) (by omega);have u3:IntKind.i64.wrap (c.X-a.X)=c.X-a.X:=c4 (by omega) (by omega);have u4:IntKind.i64.wrap (c.Y-a.Y)=c.Y-a.Y:=c4 (by omega) (by omega);have w1:IntKind.i64.wrap ((b.X-a.X)*(c.Y-a.Y))=(b.X-a.X)*(c.Y-a.Y):=c4 (by omega) (by omega);have w2:IntKind.i64.wrap ((b.Y-a.Y)*(c.X-a.X))=(b.Y-a.Y)*(c.X-a.X):=c4 (by omega) (by omega);have w3:IntKind.i64.wrap ((b.X-a.X)*(c.Y-a.Y)-(b.Y-a.Y)*(c.X-a.X))=j4 a b a c:=c4 (by omega) (by omega);refine oB Tryz.func207 Tryz.ntmps207 Tryz.results207 ?_;refine aW ?_ fun K hK=>by simp -dsimp [u1,u2,u3,u4,w1,w2,w3,Q9];exact hK
 refine aW ?_ fun K hK=>by simp -dsimp [u1,u2,u3,u4,w1,w2,w3,Q9];exact hK
 refine a5 fun K1 hK1=>?_;refine aW ?_ fun K hK=>by simp -dsimp [u1,u2,u3,u4,w1,w2,w3,Q9];exact hK
 refine a6 rfl (fun hc0=>?_) (fun hc0=>?_)
 ·skip
  try simp at hc0
  refine aW ?_ fun K hK=>by simp -dsimp [u1,u2,u3,u4,w1,w2,w3,Q9];exact hK
  exact a7 (by simp[J7,N3];omega)
 ·skip
  try simp at hc0
  refine b8 ?_;refine zQ (hK1 _ _ ?_);refine aP [7] ?_;refine aW ?_ fun K hK=>by simp -dsimp [u1,u2,u3,u4,w1,w2,w3,Q9];exact hK
  exact a7 (by simp[J7,N3];split<;>(try split)<;>omega)
theorem b1G (less:Bool) (s d:Int):(decide (s<d)||(decide (s=d)&& !less))=a0D less (N3 s d):=by
 rw[a4q]
 cases less<;>simp
 exact Bool.eq_iff_iff.2 (by simp;omega)
theorem b5d (a b c d:Spot):y6 a b c d=y6 c d a b:=by
 unfold y6;rw[Int.mul_comm (b.X-a.X),Int.mul_comm (b.Y-a.Y)]
theorem N2 (s a b:Spot) (d:Int) (less:Bool) (hs:j9 s=true) (ha:j9 a=true) (hb:j9 b=true) (h0:0≤d) (h1:d≤1000000):
  a8 Tryz.prog 166 [s.av,a.av,b.av,I d,Bo less] (Bo (a0D less (x5 a b s d))):=by
 have d1:=A1 ha hs;have d2:=A1 ha hb;have d3:=A1 hb hs;have mm:∀{x y:Int},(-20000000≤x∧x≤20000000)→(-20000000≤y∧y≤20000000)→IntKind.i64.wrap (x*y)=x*y:=by
  intro x y hx hy;have:=y3 (a:=x) (b:=y) (A:=20000000) (B:=20000000) hx.1 hx.2 hy.1 hy.2;exact c4 (by omega) (by omega)
 have u1:IntKind.i64.wrap (s.X-a.X)=s.X-a.X:=c4 (by omega) (by omega);have u2:IntKind.i64.wrap (s.Y-a.Y)=s.Y-a.Y:=c4 (by omega) (by omega);have u3:IntKind.i64.wrap (b.X-a.X)=b.X-a.X:=c4 (by omega) (by omega);have u4:IntKind.i64.wrap (b.Y-a.Y)=b.Y-a.Y:=c4 (by omega) (by omega);have u5:IntKind.i64.wrap (s.X-b.X)=s.X-b.X:=c4 (by omega) (by omega);have u6:IntKind.i64.wrap (s.Y-b.Y)=s.Y-b.Y:=c4 (by omega) (by omega);have m1:=mm d2.1 d2.1;have m2:=mm d2.2 d2.2;have m3:=mm d1.1 d2.1;have m4:=mm d1.2 d2.2;have m5:=mm d1.1 d1.1;have m6:=mm d1.2 d1.2;have m7:=mm d3.1 d3.1;have m8:=mm d3.2 d3.2;have m9:=mm d1.1 d2.2;have m10:=mm d1.2 d2.1;have b1:=a0Y ha hb ha hb;have b2:=a0Y ha hs ha hb;have b3:=a0Y ha hs ha hs;have b4:=a0Y hb hs hb hs;have b5:=a7Q ha hs ha hb;have n1:=a6v a b;have s1:IntKind.i64.wrap ((b.X-a.X)*(b.X-a.X)+(b.Y-a.Y)*(b.Y-a.Y))=y6 a b a b:=c4 (by unfold y6 at b1;omega) (by unfold y6 at b1;omega);have s2:IntKind.i64.wrap ((s.X-a.X)*(b.X-a.X)+(s.Y-a.Y)*(b.Y-a.Y))=y6 a s a b:=c4 (by unfold y6 at b2;omega) (by unfold y6 at b2;omega);have s3:IntKind.i64.wrap ((s.X-a.X)*(s.X-a.X)+(s.Y-a.Y)*(s.Y-a.Y))=y6 a s a s:=c4 (by unfold y6 at b3;omega) (by unfold y6 at b3;omega);have s4:IntKind.i64.wrap ((s.X-b.X)*(s.X-b.X)+(s.Y-b.Y)*(s.Y-b.Y))=y6 b s b s:=c4 (by unfold y6 at b4;omega) (by unfold y6 at b4;omega);have s5:IntKind.i64.wrap ((s.X-a.X)*(b.Y-a.Y)-(s.Y-a.Y)*(b.X-a.X))=j4 a s a b:=c4 (by unfold j4 at b5;omega) (by unfold j4 at b5;omega);have md:=y3 (a:=d) (b:=d) (A:=1000000) (B:=1000000) (by omega) (by omega) (by omega) (by omega);have hdd:=b2J d;have wd:IntKind.i64.wrap (d*d)=d*d:=c4 (by omega) (by omega);have ec:y6 a s a b=y6 a b a s:=b5d _ _ _ _;have wn:IntKind.i64.wrap (0-j4 a s a b)=-j4 a s a b:=by rw[c4 (by omega) (by omega)];omega
 have wn':IntKind.i64.wrap (-j4 a s a b)=-j4 a s a b:=c4 (by omega) (by omega);have hx:j4 a s a b=-j4 a b a s:=by
  simp only[j4];rw[Int.mul_comm (s.X-a.X),Int.mul_comm (s.Y-a.Y)];omega
 have hm:max (j4 a s a b) (-j4 a s a b)*max (j4 a s a b) (-j4 a s a b)=j4 a b a s*j4 a b a s:=by
  rcases Int.le_total (j4 a s a b) (-j4 a s a b)with h|h
  ·rw[Int.max_eq_right h,hx,Int.neg_neg]
  ·rw[Int.max_eq_left h,hx,Int.neg_mul_neg]
 refine oB Tryz.func166 Tryz.ntmps166 Tryz.results166 ?_;refine aW ?_ fun K hK=>by simp -dsimp [u1,u2,u3,u4,u5,u6,m1,m2,m3,m4,m5,m6,m7,m8,m9,m10,s1,s2,s3,s4,s5,wd,wn,wn',C6];exact hK
 refine aD ?_ fun K hK=>by simp -dsimp [u1,u2,u3,u4,u5,u6,m1,m2,m3,m4,m5,m6,m7,m8,m9,m10,s1,s2,s3,s4,s5,wd,wn,wn',C6];exact hK
 refine aD ?_ fun K hK=>by simp -dsimp [u1,u2,u3,u4,u5,u6,m1,m2,m3,m4,m5,m6,m7,m8,m9,m10,s1,s2,s3,s4,s5,wd,wn,wn',C6];exact hK
 refine aW ?_ fun K hK=>by simp -dsimp [u1,u2,u3,u4,u5,u6,m1,m2,m3,m4,m5,m6,m7,m8,m9,m10,s1,s2,s3,s4,s5,wd,wn,wn',C6];exact hK
 refine aW ?_ fun K hK=>by simp -dsimp [u1,u2,u3,u4,u5,u6,m1,m2,m3,m4,m5,m6,m7,m8,m9,m10,s1,s2,s3,s4,s5,wd,wn,wn',C6];exact hK
 refine aW ?_ fun K hK=>by simp -dsimp [u1,u2,u3,u4,u5,u6,m1,m2,m3,m4,m5,m6,m7,m8,m9,m10,s1,s2,s3,s4,s5,wd,wn,wn',C6];exact hK
 refine a5 fun K1 hK1=>?_;refine aW ?_ fun K hK=>by simp -dsimp [u1,u2,u3,u4,u5,u6,m1,m2,m3,m4,m5,m6,m7,m8,m9,m10,s1,s2,s3,s4,s5,wd,wn,wn',C6];exact hK
 refine a6 rfl (fun hc0=>?_) (fun hc0=>?_)
 ·skip
  try simp at hc0
  have hf:a0D less (x5 a b s d)=a0D less (N3 (y6 b s b s) (d*d)):=by unfold x5;rw[if_neg (by omega),if_pos (by omega)]
  refine aD ?_ fun K hK=>by simp -dsimp [u1,u2,u3,u4,u5,u6,m1,m2,m3,m4,m5,m6,m7,m8,m9,m10,s1,s2,s3,s4,s5,wd,wn,wn',C6];exact hK
  refine aV ?_ fun K hK=>by simp -dsimp [u1,u2,u3,u4,u5,u6,m1,m2,m3,m4,m5,m6,m7,m8,m9,m10,s1,s2,s3,s4,s5,wd,wn,wn',C6];exact hK
  refine zQ (hK1 _ _ ?_);refine aP [3,4,11,12,13,14,15,16,17] ?_;refine a5 fun K2 hK2=>?_;refine aW ?_ fun K hK=>by simp -dsimp [u1,u2,u3,u4,u5,u6,m1,m2,m3,m4,m5,m6,m7,m8,m9,m10,s1,s2,s3,s4,s5,wd,wn,wn',C6,hc0];exact hK
  refine a6 rfl (fun hc1=>?_) (fun hc1=>?_)
  ·refine aW ?_ fun K hK=>by simp -dsimp [u1,u2,u3,u4,u5,u6,m1,m2,m3,m4,m5,m6,m7,m8,m9,m10,s1,s2,s3,s4,s5,wd,wn,wn',C6];exact hK
   exact a7 (by simp;rw[hf,←b1G];rfl)
  ·simp at hc1
 ·skip
  try simp at hc0
  have hc0':¬y6 a b a b<y6 a s a b:=by omega
  refine b8 ?_;refine zQ (hK1 _ _ ?_);refine aP [3,4,11,12,13,14,15,16,17] ?_;refine a5 fun K3 hK3=>?_;refine aW ?_ fun K hK=>by simp -dsimp [u1,u2,u3,u4,u5,u6,m1,m2,m3,m4,m5,m6,m7,m8,m9,m10,s1,s2,s3,s4,s5,wd,wn,wn',C6,hc0'];exact hK
  refine a6 rfl (fun hc1=>?_) (fun hc1=>?_)
  ·simp at hc1;refine aW ?_ fun K hK=>by simp -dsimp [u1,u2,u3,u4,u5,u6,m1,m2,m3,m4,m5,m6,m7,m8,m9,m10,s1,s2,s3,s4,s5,wd,wn,wn',C6];exact hK
   refine a7 ?_;have hf:a0D less (x5 a b s d)=a0D less (N3 (y6 a s a s) (d*d)):=by unfold x5;rw[if_pos (by omega)]
   simp;rw[hf,←b1G];rfl
  ·simp at hc1;refine b8 ?_;refine zQ (hK3 _ _ ?_);refine aP [3,4,11,12,13,14,15] ?_;refine aW ?_ fun K hK=>by simp -dsimp [u1,u2,u3,u4,u5,u6,m1,m2,m3,m4,m5,m6,m7,m8,m9,m10,s1,s2,s3,s4,s5,wd,wn,wn',C6];exact hK
   refine aW ?_ fun K hK=>by simp -dsimp [u1,u2,u3,u4,u5,u6,m1,m2,m3,m4,m5,m6,m7,m8,m9,m10,s1,s2,s3,s4,s5,wd,wn,wn',C6];refine cI (b8C (max (j4 a s a b) (-j4 a s a b)) (max (j4 a s a b) (-j4 a s a b)) (d*d) (y6 a b a b) less (by omega) (by omega) (by omega) (by omega) hdd (by omega) n1 (by omega)) ?_;simp -dsimp [u1,u2,u3,u4,u5,u6,m1,m2,m3,m4,m5,m6,m7,m8,m9,m10,s1,s2,s3,s4,s5,wd,wn,wn',C6];exact hK
   refine a7 ?_;have hf:N3 (j4 a b a s*j4 a b a s) (d*d*y6 a b a b)=x5 a b s d:=by
    unfold x5;rw[if_neg (by omega)]
    split
    ·exact a8I (by omega) (by omega)
    ·rfl
   simp[hm,hf]
theorem c1B (a b c d:Spot) (r:Int) (less:Bool) (ha:j9 a=true) (hb:j9 b=true) (hc:j9 c=true) (hd:j9 d=true) (h0:0≤r) (h1:r≤1000000):
  a8 Tryz.prog 187 [a.av,b.av,c.av,d.av,I r,Bo less] (Bo (a0D less (apart a b c d r))):=by
 have w:∀{x y:Int},-1≤x∧x≤1→ -1≤y∧y≤1→IntKind.i64.wrap (x*y)=x*y:=by
  intro x y hx hy;have:=y3 (a:=x) (b:=y) (A:=1) (B:=1) hx.1 hx.2 hy.1 hy.2;exact c4 (by omega) (by omega)
 have w1:IntKind.i64.wrap (J7 a b c*J7 a b d)=J7 a b c*J7 a b d:=w a0b a0b;have w2:IntKind.i64.wrap (J7 c d a*J7 c d b)=J7 c d a*J7 c d b:=w a0b a0b;refine oB Tryz.func187 Tryz.ntmps187 Tryz.results187 ?_;refine aW ?_;refine a5 fun K1 hK1=>?_;refine aD ?_ fun K hK=>by simp -dsimp [w1,w2];refine cI (b0w a b c ha hb hc) ?_;simp -dsimp [w1,w2];refine cI (b0w a b d ha hb hd) ?_;simp -dsimp [w1,w2];refine cY (fun hm=>b0w c d a hc hd ha) ?_;simp -dsimp [w1,w2];refine cY (fun hm=>b0w c d b hc hd hb) ?_;simp -dsimp [w1,w2];exact hK
 refine a6 rfl (fun hc0=>?_) (fun hc0=>?_)
 ·skip
  try simp at hc0
  have hcr:U3 a b c d=true:=by simp[U3,hc0]
  refine aW ?_;refine a7 ?_;simp[apart,hcr,a4q]
  cases less<;>simp[h0]
 ·skip
  try simp at hc0
  have hcr:U3 a b c d=false:=by unfold U3;simp;simpa using hc0
  refine b8 ?_;refine zQ (hK1 _ _ ?_);refine aP [4,5,6,7,8,9] ?_;refine aW ?_ fun K hK=>by simp -dsimp;refine cI (N2 a c d r less ha hc hd h0 h1) ?_;simp -dsimp;refine cY (fun hm=>N2 b c d r less hb hc hd h0 h1) ?_;simp -dsimp;refine cY (fun hm=>N2 c a b r less hc ha hb h0 h1) ?_;simp -dsimp;refine cY (fun hm=>N2 d a b r less hd ha hb h0 h1) ?_;simp -dsimp;exact hK
  refine a7 ?_;simp[apart,hcr]
  cases less<;>simp[a0D]<;>exact Bool.eq_iff_iff.2 (by simp[b9F,b1j];omega)
end Go.Tram
end
section
namespace Go.Tram
open Go.AM Go.Proofs
@[simp] def sAV (r:Int) (k:Nat):AV:= .agg [I r,I k]
theorem b4S (p:Plan) (r:Int) (k:Nat) (r':Int) (k':Nat) (d:Int) (h0:0≤r) (h1:r<p.Rails.length) (ro:Z3 p r) (hk:k<(p.rail r).Shape.length+1)
  (h0':0≤r') (h1':r'<p.Rails.length) (ro':Z3 p r') (hk':k'<(p.rail r').Shape.length+1) (d0:0≤d) (d1:d≤1000000):
  a8 Tryz.prog 163 [p.av,sAV r k,sAV r' k',I d] (Bo (decide (apart (nth (p.line r) k) (nth (p.line r) (k+1)) (nth (p.line r') k') (nth (p.line r') (k'+1)) d≤0))):=by
 have hl:=ro.len;have hl':=ro'.len;refine oB Tryz.func163 Tryz.ntmps163 Tryz.results163 ?_;refine aW ?_;refine aW ?_ fun K hK=>by simp -dsimp;refine cI (a7h p r k h0 h1 ro hk) ?_;simp -dsimp;exact hK
 refine aW ?_ fun K hK=>by simp -dsimp;refine cI (a7h p r' k' h0' h1' ro' hk') ?_;simp -dsimp;exact hK
 refine aW ?_ fun K hK=>by simp -dsimp;refine cI (c1B _ _ _ _ d false (ro.spot k (by omega)) (ro.spot (k+1) (by omega)) (ro'.spot k' (by omega)) (ro'.spot (k'+1) (by omega)) d0 d1) ?_;simp -dsimp;exact hK
 exact a7 (by simp[a0D])
theorem b1O (p:Plan) (r:Int) (k:Nat) (h0:0≤r) (h1:r<p.Rails.length) (ro:Z3 p r) (hk:k<(p.rail r).Shape.length+1):
  a8 Tryz.prog 165 [p.av,sAV r k] (.lst 2 ((J6 (p.line r) k++J6 (p.line r) (k+1)).map Spot.cells)):=by
 have hl:=ro.len;have hs:=ro.s;have wk:=zW k (by omega);have wl:IntKind.i64.wrap (((p.line r).length:Int)-1)=((p.line r).length:Int)-1:=c4 (by omega) (by omega);rw[←a6d];refine oB Tryz.func165 Tryz.ntmps165 Tryz.results165 ?_;refine aW ?_;refine aW ?_ fun K hK=>by simp -dsimp;refine cI (b4O p r h0 h1 ro.f ro.t (by omega)) ?_;simp -dsimp;exact hK
 refine aW ?_;refine a5 fun K1 hK1=>?_;refine aW ?_;refine a9 ?_;refine aP [3,5,6,7] ?_;refine c5 [3,5] (α:=Nat) (fun i=>[(7,I i),(6, .row 2 0 (D7 (p.line r) k (i-k)).length)]) (fun i=>[some (.els 2 [p.cells]),some (.els 2 [[I r,I k]]),some (.els 2 ((D7 (p.line r) k (i-k)).map Spot.cells))]) (fun i=>k≤i∧i≤k+2) (fun i=>k+2-i) k ?_ ?_ ?_
 ·exact⟨by omega,by omega⟩
 ·exact(Y9 6 2 (by simp)).trans (e8 [some 0,some 1,some 2] rfl (by simp[D7]) (by simp[D7]))
 rintro i ⟨i1,i2⟩;have hbt:=V9 (p.line r) k (i-k);refine zN ?_;refine a5 fun K2 hK2=>?_;refine aW ?_ fun K hK=>by simp -dsimp [wk];exact hK
 refine a6 rfl (fun hc0=>?_) (fun hc0=>?_)
 ·skip
  try simp at hc0
  have hi2:i≤k+1:=by omega
  have wi:=zW i (by omega);have hsucc:D7 (p.line r) k (i+1-k)=D7 (p.line r) k (i-k)++J6 (p.line r) i:=by rw[show i+1-k=i-k+1 by omega,T8,show k+(i-k)=i by omega]
  refine b8 ?_;refine zQ (hK2 _ _ ?_);refine aP [3,5,6,7] ?_;refine a5 fun K3 hK3=>?_;refine a9 ?_;refine a5 fun K4 hK4=>?_;refine aW ?_ fun K hK=>by simp -dsimp [wl];exact hK
  refine a6 rfl (fun hc1=>?_) (fun hc1=>?_)
  ·skip
   try simp at hc1
   have hnb:J6 (p.line r) i=[]:=by
    have:a7O (p.line r) i=false:=by simp[a7O];omega
    simp[J6,this]
   refine c9 ?_;refine zQ (hK3 _ _ ?_);refine aP [3,5,6,7] ?_;refine aV ?_ fun K hK=>by simp -dsimp [wi];exact hK
   refine zQ ?_;exact⟨i+1,⟨by omega,by omega⟩,by omega,e8 [some 0,some 1,some 2] rfl (by simp[hsucc,hnb]) (by simp[hsucc,hnb])⟩
  ·skip
   try simp at hc1
   have hi0:0<i:=by omega
   have hi3:i+1<(p.line r).length:=by omega
   have qi:IntKind.i64.wrap ((i:Int)-1)=((i-1:Nat):Int):=by rw[c4 (by omega) (by omega)];omega
   have g0:=y5 (l:=p.line r) (k:=i-1) (by omega);have g1:=y5 (l:=p.line r) (k:=i) (by omega);have g2:=y5 (l:=p.line r) (k:=i+1) (by omega);have sa:=ro.spot (i-1) (by omega);have sb:=ro.spot i (by omega);have sc:=ro.spot (i+1) (by omega);have d1:=A1 sa sb;have d2:=A1 sb sc;have mm:∀{x y:Int},(-20000000≤x∧x≤20000000)→(-20000000≤y∧y≤20000000)→IntKind.i64.wrap (x*y)=x*y:=by
    intro x y hx hy;have:=y3 (a:=x) (b:=y) (A:=20000000) (B:=20000000) hx.1 hx.2 hy.1 hy.2;exact c4 (by omega) (by omega)
   have u1:IntKind.i64.wrap ((nth (p.line r) i).X-(nth (p.line r) (i-1)).X)=(nth (p.line r) i).X-(nth (p.line r) (i-1)).X:=c4 (by omega) (by omega);have u2:IntKind.i64.wrap ((nth (p.line r) i).Y-(nth (p.line r) (i-1)).Y)=(nth (p.line r) i).Y-(nth (p.line r) (i-1)).Y:=c4 (by omega) (by omega);have u3:IntKind.i64.wrap ((nth (p.line r) (i+1)).X-(nth (p.line r) i).X)=(nth (p.line r) (i+1)).X-(nth (p.line r) i).X:=c4 (by omega) (by omega);have u4:IntKind.i64.wrap ((nth (p.line r) (i+1)).Y-(nth (p.line r) i).Y)=(nth (p.line r) (i+1)).Y-(nth (p.line r) i).Y:=c4 (by omega) (by omega);have m1:=mm d1.1 d2.2;have m2:=mm d1.2 d2.1;have m3:=mm d1.1 d2.1;have m4:=mm d1.2 d2.2;have bd:=a0Y sa sb sb sc;have ws:IntKind.i64.wrap (((nth (p.line r) i).X-(nth (p.line r) (i-1)).X)*((nth (p.line r) (i+1)).X-(nth (p.line r) i).X)+((nth (p.line r) i).Y-(nth (p.line r) (i-1)).Y)*((nth (p.line r) (i+1)).Y-(nth (p.line r) i).Y))=y6 (nth (p.line r) (i-1)) (nth (p.line r) i) (nth (p.line r) i) (nth (p.line r) (i+1)):=c4 (by unfold y6 at bd;omega) (by unfold y6 at bd;omega);have hst:=b8p (ro.seg (i-1) (by omega)).1 (ro.seg i (by omega)).1 hi0;have f3:Q5 ((D7 (p.line r) k (i-k)).length+1) 17:=l8 (by have:=a2x (p.line r) k (i-k);omega) (by omega);refine b8 ?_;refine zQ (hK4 _ _ ?_);refine aP [3,5,6,7] ?_;refine aD ?_ fun K hK=>by simp -dsimp [qi,g0,g1,u1,u2];exact hK
   refine aD ?_ fun K hK=>by simp -dsimp [wi,g1,g2,u3,u4];refine⟨by omega,?_⟩;exact hK
   refine aW ?_ fun K hK=>by simp -dsimp [m1,m2,m3,m4,ws];exact hK
   refine a6 rfl (fun hc2=>?_) (fun hc2=>?_)
   ·have hb:J6 (p.line r) i=[nth (p.line r) i]:=by
     have:S6 (p.line r) i=false:=by
      rw[hst];simp only[Bool.not_eq_false',Bool.or_eq_true,decide_eq_true_eq];simp at hc2
      rcases hc2 with h|h
      ·left;unfold j4;omega
      ·right;exact h
     simp[J6,a7O,hi0,hi3,this]
    refine aV ?_ fun K hK=>by simp -dsimp [g1,f3];exact hK
    refine zQ (hK3 _ _ ?_);refine aP [3,5,6,7] ?_;refine aV ?_ fun K hK=>by simp -dsimp [wi];exact hK
    refine zQ ?_;exact⟨i+1,⟨by omega,by omega⟩,by omega,e8 [some 0,some 1,some 3] rfl (by simp[hsucc,hb]) (by simp[hsucc,hb,hbt])⟩
   ·have hb:J6 (p.line r) i=[]:=by
     have:S6 (p.line r) i=true:=by
      rw[hst];simp only[Bool.not_eq_true',Bool.or_eq_false_iff,decide_eq_false_iff_not];simp at hc2;refine⟨?_,?_⟩
      ·unfold j4;omega
      ·omega
     simp[J6,a7O,this]
    refine b8 ?_;refine zQ (hK3 _ _ ?_);refine aP [3,5,6,7] ?_;refine aV ?_ fun K hK=>by simp -dsimp [wi];exact hK
    refine zQ ?_;exact⟨i+1,⟨by omega,by omega⟩,by omega,e8 [some 0,some 1,some 2] rfl (by simp[hsucc,hb]) (by simp[hsucc,hb])⟩
 ·skip
  try simp at hc0
  have hi:i-k=2:=by omega
  refine c9 ?_;refine zQ (hK1 _ _ ?_);refine aP [6] ?_;refine aW ?_;exact a7 (by simp[hi,V9])
end Go.Tram
end
section
namespace Go.Tram
open Go.AM Go.Proofs
theorem c0j (p:Plan) (r:Int) (k:Nat) (x:Profile) (r':Int) (k':Nat) (y:Profile) (h0:0≤r) (h1:r<p.Rails.length) (ro:Z3 p r) (hk:k<(p.rail r).Shape.length+1)
  (h0':0≤r') (h1':r'<p.Rails.length) (ro':Z3 p r') (hk':k'<(p.rail r').Shape.length+1) (hx:z5 x=true) (hy:z5 y=true):
  a8 Tryz.prog 122 [p.av,sAV r k,x.av,sAV r' k',y.av] (Bo (X1 (o3 (p.line r) r k) x (o3 (p.line r') r' k') y)):=by
 have hl:=ro.len;have hl':=ro'.len;have os:=a6t ro hk;have ot:=a6t ro' hk';have hw:=b4S p r k r' k' (x.Half+y.Half) h0 h1 ro hk h0' h1' ro' hk' (by have:=I7.1 hx;have:=I7.1 hy;omega) (by have:=I7.1 hx;have:=I7.1 hy;omega);have he:=a7h p r k h0 h1 ro hk;have he':=a7h p r' k' h0' h1' ro' hk';have hb:=b1O p r k h0 h1 ro hk;have hb':=b1O p r' k' h0' h1' ro' hk';have f1:X1 (o3 (p.line r) r k) x (o3 (p.line r') r' k') y=(decide (apart (nth (p.line r) k) (nth (p.line r) (k+1)) (nth (p.line r') k') (nth (p.line r') (k'+1)) (x.Half+y.Half)≤0)||(N8 (o3 (p.line r) r k) (o3 (p.line r') r' k') (x.Half+x.Swing+y.Half)||(N8 (o3 (p.line r') r' k') (o3 (p.line r) r k) (x.Half+y.Half+y.Swing)||a5a (o3 (p.line r) r k) (o3 (p.line r') r' k') (x.Half+x.Swing+y.Half+y.Swing)))):=by
  unfold X1;rw[show y.Half+y.Swing+x.Half=x.Half+y.Half+y.Swing by omega]
  rfl
 have ea:(o3 (p.line r) r k).a=nth (p.line r) k:=rfl;have eb:(o3 (p.line r) r k).b=nth (p.line r) (k+1):=rfl;have ec:(o3 (p.line r') r' k').a=nth (p.line r') k':=rfl;have ed:(o3 (p.line r') r' k').b=nth (p.line r') (k'+1):=rfl;have el:(o3 (p.line r) r k).bends=J6 (p.line r) k++J6 (p.line r) (k+1):=rfl;have el':(o3 (p.line r') r' k').bends=J6 (p.line r') k'++J6 (p.line r') (k'+1):=rfl;rw[f1];rw[←el]at hb;rw[←el']at hb';generalize o3 (p.line r) r k=S at*
 generalize o3 (p.line r') r' k'=T at*
 rw[←ea,←eb]at he;rw[←ec,←ed]at he';rw[←ea,←eb,←ec,←ed]at hw ⊢;clear f1 ea eb ec ed el el';rw[I7]at hx hy;have sn:=os.n;have tn:=ot.n;have w1:IntKind.i64.wrap (x.Half+y.Half)=x.Half+y.Half:=c4 (by omega) (by omega);have w2:IntKind.i64.wrap (x.Half+x.Swing)=x.Half+x.Swing:=c4 (by omega) (by omega);have w3:IntKind.i64.wrap (x.Half+x.Swing+y.Half)=x.Half+x.Swing+y.Half:=c4 (by omega) (by omega);have w4:IntKind.i64.wrap (x.Half+x.Swing+y.Half+y.Swing)=x.Half+x.Swing+y.Half+y.Swing:=c4 (by omega) (by omega);have w5:IntKind.i64.wrap (x.Half+y.Half+y.Swing)=x.Half+y.Half+y.Swing:=c4 (by omega) (by omega);have hdd:=y3 (a:=x.Half+x.Swing+y.Half+y.Swing) (b:=x.Half+x.Swing+y.Half+y.Swing) (A:=7000) (B:=7000) (by omega) (by omega) (by omega) (by omega);have w6:IntKind.i64.wrap ((x.Half+x.Swing+y.Half+y.Swing)*(x.Half+x.Swing+y.Half+y.Swing))=(x.Half+x.Swing+y.Half+y.Swing)*(x.Half+x.Swing+y.Half+y.Swing):=c4 (by omega) (by omega);refine oB Tryz.func122 Tryz.ntmps122 Tryz.results122 ?_;refine aW ?_;refine a5 fun K1 hK1=>?_;refine aW ?_ fun K hK=>by simp -dsimp [w1];refine cI (hw) ?_;simp -dsimp [w1];exact hK
 refine a6 rfl (fun hc0=>?_) (fun hc0=>?_)
 ·skip
  try simp at hc0
  have hv:(decide (apart S.a S.b T.a T.b (x.Half+y.Half)≤0)||(N8 S T (x.Half+x.Swing+y.Half)||(N8 T S (x.Half+y.Half+y.Swing)||a5a S T (x.Half+x.Swing+y.Half+y.Swing))))=true:=by simp[hc0]
  refine aW ?_;exact a7 (by simp[hc0])
 ·skip
  try simp at hc0
  refine b8 ?_;refine zQ (hK1 _ _ ?_);refine aP [5,6,7,8,9] ?_;refine aW ?_ fun K hK=>by simp -dsimp;refine cI (he) ?_;simp -dsimp;exact hK
  refine aW ?_ fun K hK=>by simp -dsimp;refine cI (he') ?_;simp -dsimp;exact hK
  refine aD ?_ fun K hK=>by simp -dsimp;refine cI (hb) ?_;simp -dsimp;refine cI (hb') ?_;simp -dsimp;exact hK
  refine a5 fun K2 hK2=>?_;refine aW ?_;refine a9 ?_;refine aP [7,9,11,12,13,14,15,16,17] ?_;refine c5 [7,9,11,12,13,14,15,16] (α:=Nat) (fun i=>[(17,I i)]) (fun _=>[some (.els 2 [p.cells]),some (.els 2 [[I r,I k]]),some (.els 2 [x.cells]),some (.els 2 [[I r',I k']]),some (.els 2 [y.cells]),some (.els 2 [S.a.cells]),some (.els 2 [S.b.cells]),some (.els 2 [T.a.cells]),some (.els 2 [T.b.cells])]) (fun i=>i≤S.bends.length∧((S.bends.take i).any fun q=>decide (x5 T.a T.b q (x.Half+x.Swing+y.Half)≤0))=false∧((S.bends.take i).any fun q=>T.bends.any fun t=>decide (y6 q t q t≤(x.Half+x.Swing+y.Half+y.Swing)*(x.Half+x.Swing+y.Half+y.Swing)))=false) (fun i=>S.bends.length-i) 0 ?_ ?_ ?_
  ·simp
  ·exact c7 (by simp)
  rintro i ⟨i1,i2,i3⟩;refine zN ?_;refine a5 fun K3 hK3=>?_;refine aW ?_;refine a6 rfl (fun hc1=>?_) (fun hc1=>?_)
  ·skip
   try simp at hc1
   obtain⟨q,hq⟩:=gx (l:=S.bends) (i:=i) hc1;have wi:=zW i (by omega);have sq:=List.all_eq_true.1 os.l q (List.mem_of_getElem? hq);refine b8 ?_;refine zQ (hK3 _ _ ?_);refine aP [7,9,11,12,13,14,15,16,17] ?_;refine a5 fun K4 hK4=>?_;refine a9 ?_;refine a5 fun K5 hK5=>?_;refine aD ?_ fun K hK=>by simp -dsimp [hq,w2,w3];refine cI (N2 q T.a T.b (x.Half+x.Swing+y.Half) false sq ot.a ot.b (by omega) (by omega)) ?_;simp -dsimp [hq,w2,w3];exact hK
   refine a6 rfl (fun hc2=>?_) (fun hc2=>?_)
   ·simp[a0D]at hc2;have hv:N8 S T (x.Half+x.Swing+y.Half)=true:=List.any_eq_true.2 ⟨q,List.mem_of_getElem? hq,by simp[hc2]⟩;refine aW ?_;exact a7 (by simp[hv])
   ·simp[a0D]at hc2;refine b8 ?_;refine zQ (hK5 _ _ ?_);refine aP [7,9,11,12,13,14,15,16,17] ?_;refine aW ?_;refine a9 ?_;refine aP [7,9,11,12,13,14,15,16,17,18] ?_;refine c5 [7,9,11,12,13,14,15,16,17] (α:=Nat) (fun j=>[(18,I j)]) (fun _=>[some (.els 2 [p.cells]),some (.els 2 [[I r,I k]]),some (.els 2 [x.cells]),some (.els 2 [[I r',I k']]),some (.els 2 [y.cells]),some (.els 2 [S.a.cells]),some (.els 2 [S.b.cells]),some (.els 2 [T.a.cells]),some (.els 2 [T.b.cells])]) (fun j=>j≤T.bends.length∧((T.bends.take j).any fun t=>decide (y6 q t q t≤(x.Half+x.Swing+y.Half+y.Swing)*(x.Half+x.Swing+y.Half+y.Swing)))=false) (fun j=>T.bends.length-j) 0 ?_ ?_ ?_
    ·simp
    ·exact c7 (by simp)
    rintro j ⟨j1,j2⟩;refine zN ?_;refine a5 fun K6 hK6=>?_;refine aW ?_;refine a6 rfl (fun hc3=>?_) (fun hc3=>?_)
    ·skip
     try simp at hc3
     obtain⟨t,ht⟩:=gx (l:=T.bends) (i:=j) hc3;have wj:=zW j (by omega);have st:=List.all_eq_true.1 ot.l t (List.mem_of_getElem? ht);have d1:=A1 st sq;have u1:IntKind.i64.wrap (q.X-t.X)=q.X-t.X:=c4 (by omega) (by omega);have u2:IntKind.i64.wrap (q.Y-t.Y)=q.Y-t.Y:=c4 (by omega) (by omega);have b1:=y3 (a:=q.X-t.X) (b:=q.X-t.X) (A:=20000000) (B:=20000000) (by omega) (by omega) (by omega) (by omega);have b2:=y3 (a:=q.Y-t.Y) (b:=q.Y-t.Y) (A:=20000000) (B:=20000000) (by omega) (by omega) (by omega) (by omega);have u3:IntKind.i64.wrap ((q.X-t.X)*(q.X-t.X))=(q.X-t.X)*(q.X-t.X):=c4 (by omega) (by omega);have u4:IntKind.i64.wrap ((q.Y-t.Y)*(q.Y-t.Y))=(q.Y-t.Y)*(q.Y-t.Y):=c4 (by omega) (by omega);have u5:IntKind.i64.wrap ((q.X-t.X)*(q.X-t.X)+(q.Y-t.Y)*(q.Y-t.Y))=y6 q t q t:=by rw[b8z];exact c4 (by omega) (by omega)
     refine b8 ?_;refine zQ (hK6 _ _ ?_);refine aP [7,9,11,12,13,14,15,16,17,18] ?_;refine a5 fun K7 hK7=>?_;refine a9 ?_;refine aD ?_ fun K hK=>by simp -dsimp [hq,ht,u1,u2];exact hK
     refine aW ?_ fun K hK=>by simp -dsimp [w2,w3,w4];exact hK
     refine aW ?_ fun K hK=>by simp -dsimp [u3,u4,u5,w6];exact hK
     refine a6 rfl (fun hc4=>?_) (fun hc4=>?_)
     ·skip
      try simp at hc4
      have hv:a5a S T (x.Half+x.Swing+y.Half+y.Swing)=true:=List.any_eq_true.2 ⟨q,List.mem_of_getElem? hq,List.any_eq_true.2 ⟨t,List.mem_of_getElem? ht,by simpa using hc4⟩⟩;refine aW ?_;exact a7 (by simp[hv])
     ·skip
      try simp at hc4
      refine b8 ?_;refine zQ (hK7 _ _ ?_);refine aP [7,9,11,12,13,14,15,16,17,18] ?_;refine aV ?_ fun K hK=>by simp -dsimp [wj];exact hK
      refine zQ ?_;exact⟨j+1,⟨by omega,by rw[any_take ht,j2];simp;omega⟩,by omega,c7 (by simp)⟩
    ·skip
     try simp at hc3
     have hin:=u0 (by omega) j2;refine c9 ?_;refine zQ (hK4 _ _ ?_);refine aP [7,9,11,12,13,14,15,16,17] ?_;refine aV ?_ fun K hK=>by simp -dsimp [wi];exact hK
     refine zQ ?_;exact⟨i+1,⟨by omega,by rw[any_take hq,i2];simp[hc2],by rw[any_take hq,i3,hin];rfl⟩,by omega,c7 (by simp)⟩
  ·skip
   try simp at hc1
   have v1:N8 S T (x.Half+x.Swing+y.Half)=false:=u0 (by omega) i2;have v2:a5a S T (x.Half+x.Swing+y.Half+y.Swing)=false:=u0 (by omega) i3;refine c9 ?_;refine zQ (hK2 _ _ ?_);refine aP [7,9,11,12,16] ?_;refine a5 fun K8 hK8=>?_;refine aW ?_;refine a9 ?_;refine aP [7,9,11,12,16,22] ?_;refine c5 [7,9,11,12,16] (α:=Nat) (fun j=>[(22,I j)]) (fun _=>[some (.els 2 [p.cells]),some (.els 2 [[I r,I k]]),some (.els 2 [x.cells]),some (.els 2 [[I r',I k']]),some (.els 2 [y.cells]),some (.els 2 [S.a.cells]),some (.els 2 [S.b.cells]),some (.els 2 [T.a.cells]),some (.els 2 [T.b.cells])]) (fun j=>j≤T.bends.length∧((T.bends.take j).any fun t=>decide (x5 S.a S.b t (x.Half+y.Half+y.Swing)≤0))=false) (fun j=>T.bends.length-j) 0 ?_ ?_ ?_
   ·simp
   ·exact c7 (by simp)
   rintro j ⟨j1,j2⟩;refine zN ?_;refine a5 fun K9 hK9=>?_;refine aW ?_;refine a6 rfl (fun hc5=>?_) (fun hc5=>?_)
   ·skip
    try simp at hc5
    obtain⟨t,ht⟩:=gx (l:=T.bends) (i:=j) hc5;have wj:=zW j (by omega);have st:=List.all_eq_true.1 ot.l t (List.mem_of_getElem? ht);refine b8 ?_;refine zQ (hK9 _ _ ?_);refine aP [7,9,11,12,16,22] ?_;refine a5 fun K10 hK10=>?_;refine a9 ?_;refine aD ?_ fun K hK=>by simp -dsimp [ht,w1,w5];refine cI (N2 t S.a S.b (x.Half+y.Half+y.Swing) false st os.a os.b (by omega) (by omega)) ?_;simp -dsimp [ht,w1,w5];exact hK
    refine a6 rfl (fun hc6=>?_) (fun hc6=>?_)
    ·simp[a0D]at hc6;have hv:N8 T S (x.Half+y.Half+y.Swing)=true:=List.any_eq_true.2 ⟨t,List.mem_of_getElem? ht,by simp[hc6]⟩;refine aW ?_;exact a7 (by simp[hv])
    ·simp[a0D]at hc6;refine b8 ?_;refine zQ (hK10 _ _ ?_);refine aP [7,9,11,12,16,22] ?_;refine aV ?_ fun K hK=>by simp -dsimp [wj];exact hK
     refine zQ ?_;exact⟨j+1,⟨by omega,by rw[any_take ht,j2];simp[hc6]⟩,by omega,c7 (by simp)⟩
   ·skip
    try simp at hc5
    have v3:N8 T S (x.Half+y.Half+y.Swing)=false:=u0 (by omega) j2;refine c9 ?_;refine zQ (hK8 _ _ ?_);refine aP [] ?_;refine aW ?_;exact a7 (by simp[v1,v2,v3,hc0])
end Go.Tram
end
section
namespace Go.Tram
open Go.AM Go.Proofs
theorem b8L (l:List R0):(l.map R0.cells).all (fun e=>e.all V8)=true:=by simp[V8]
@[simp high] theorem c2e (l:List R0) (g:List (Option Nat)) (n:Nat):(l.map R0.cells).map (fun e=>e.map (o9 g n))=l.map R0.cells:=v8 (fun x h=>O3 h g n) (b8L l)
@[simp high] theorem c1Q (l:List R0) (H:Hp) (n:Nat):(l.map R0.cells).map (fun e=>e.map (J4 H n))=l.map R0.cells:=v8 (fun x h=>N1 h H n) (b8L l)
@[simp] theorem c6H (l:List R0):List.take l.length (l.map R0.cells)=l.map R0.cells:=List.take_of_length_le (by simp)
def Z1 (p:Plan) (l:List Move) (i:Nat):List R0:=if J5 p (C3 l i)then [L2 p (C3 l i) (C3 l (i+1))]else []
def X5 (p:Plan) (l:List Move) (n:Nat):List R0:=(List.range n).flatMap (Z1 p l)
@[simp] theorem c2T (p:Plan) (l:List Move):X5 p l 0=[]:=rfl
theorem a0e (p:Plan) (l:List Move) (n:Nat):X5 p l (n+1)=X5 p l n++Z1 p l n:=by
 simp only[X5,List.range_succ,List.flatMap_append,List.flatMap_cons,List.flatMap_nil,List.append_nil]
theorem a3p (p:Plan) (l:List Move) (n:Nat):(X5 p l n).length≤n:=by
 induction n with
 |zero=>simp
 |succ n ih=>
  rw[a0e,List.length_append];have:(Z1 p l n).length≤1:=by unfold Z1;split<;>simp
  omega
theorem b1x {p:Plan} {l:List Move} (h:wayB p l=true) {i:Nat} (hi:i+1<l.length):F9 p (C3 l i) (C3 l (i+1))=true:=by
 have:=a0U (Bool.and_eq_true_iff.1 h).1 hi;unfold U5 at this;have h2:=(Bool.and_eq_true_iff.1 this).2;simp at h2;exact h2
end Go.Tram
end
section
namespace Go.Tram
open Go.AM Go.Proofs
theorem a7m (p:Plan) (l:List Move) (hv:d8 p=true) (hw:wayB p l=true):a8 Tryz.prog 87 [p.av,a4W l] (.tup [.lst 2 ((X5 p l (l.length-1)).map R0.cells),I 0]):=by
 have hl:=F5 hw;have hop:=U0 p hv;have hh:=b7X p l hv (by omega);rw[hw]at hh;have hbe:∀i,i+1<l.length→a8 Tryz.prog 130 [.iptr (net p),(C3 l i).av,(C3 l (i+1)).av] (.tup [.agg (if J5 p (C3 l i)then L2 p (C3 l i) (C3 l (i+1))else⟨0,0⟩).cells,Bo (J5 p (C3 l i))]):=by
  intro i hi;exact a2f p _ _ hv (J9 hw i (by omega))
 generalize net p=sh at hop hh hbe;refine oB Tryz.func87 Tryz.ntmps87 Tryz.results87 ?_;refine aW ?_;refine aW ?_ fun K hK=>by simp -dsimp;refine cI (hop) ?_;simp -dsimp;exact hK
 refine a5 fun K1 hK1=>?_;refine aW ?_ fun K hK=>by simp -dsimp;refine cY (fun hm=>hh) ?_;simp -dsimp;exact hK
 refine a6 rfl (fun hc0=>?_) (fun hc0=>?_)
 ·simp at hc0
 ·refine b8 ?_;refine zQ (hK1 _ _ ?_);refine aP [1,6] ?_;refine aW ?_;refine a5 fun K2 hK2=>?_;refine aW ?_;refine a9 ?_;refine aP [1,6,8,9] ?_;refine c5 [1,6] (α:=Nat) (fun i=>[(9,I ((i:Int)+1)),(8, .row 1 0 (X5 p l i).length)]) (fun i=>[some (.els 2 [p.cells]),some (.els 2 ((X5 p l i).map R0.cells))]) (fun i=>i≤l.length-1) (fun i=>l.length-i) 0 ?_ ?_ ?_
  ·simp
  ·exact(Y9 8 2 (by simp)).trans (e8 [some 0,some 1] rfl (by simp) (by simp))
  rintro i i1;refine zN ?_;refine a5 fun K3 hK3=>?_;refine aW ?_;refine a6 rfl (fun hc1=>?_) (fun hc1=>?_)
  ·have hi:i+1<l.length:=by simp at hc1;omega
   have hsj:=a0e p l i;have hlj:=a3p p l i;have hb:=hbe i hi;have g0:l[i]?=some (C3 l i):=by unfold C3;rw[List.getElem?_eq_getElem (by omega)];rfl
   have g1:l[i+1]?=some (C3 l (i+1)):=by unfold C3;rw[List.getElem?_eq_getElem (by omega)];rfl
   unfold Z1 at hsj;generalize C3 l i=m at*
   generalize C3 l (i+1)=k at*
   have wi:IntKind.i64.wrap ((i:Int)+1+1)=(i:Int)+1+1:=c4 (by omega) (by omega);have wj:IntKind.i64.wrap (i:Int)=i:=c4 (by omega) (by omega);have tj:((i:Int)+1).toNat=i+1:=by omega
   have t0:0≤(i:Int)+1:=by omega
   generalize hA:X5 p l i=A at hsj hlj ⊢;have f1:Q5 (A.length+1) 17:=l8 (by omega) (by omega);refine b8 ?_;refine zQ (hK3 _ _ ?_);refine aP [1,6,8,9] ?_;refine a5 fun K4 hK4=>?_;refine a9 ?_;refine aD ?_ fun K hK=>by simp -dsimp [g0,g1,wj,tj,t0];refine cI (hb) ?_;simp -dsimp [g0,g1,wj,tj,t0];exact hK
   refine aW ?_;refine a6 rfl (fun hc2=>?_) (fun hc2=>?_)
   ·skip
    try simp only at hc2
    rw[hc2,if_pos rfl]at hsj;refine aV ?_ fun K hK=>by simp -dsimp [f1];exact hK
    refine zQ (hK4 _ _ ?_);refine aP [1,6,8,9] ?_;refine aV ?_ fun K hK=>by simp -dsimp [wi];exact hK
    refine zQ ?_;exact⟨i+1,by omega,by omega,e8 [some 0,some 3] rfl (by simp[hsj]) (by simp[hsj,hc2])⟩
   ·skip
    try simp only at hc2
    rw[hc2,if_neg (by simp)]at hsj;refine b8 ?_;refine zQ (hK4 _ _ ?_);refine aP [1,6,8,9] ?_;refine aV ?_ fun K hK=>by simp -dsimp [wi];exact hK
    refine zQ ?_;exact⟨i+1,by omega,by omega,e8 [some 0,some 1] rfl (by simp[hsj]) (by simp[hsj])⟩
  ·have hie:i=l.length-1:=by simp at hc1;omega
   subst hie;refine c9 ?_;refine zQ (hK2 _ _ ?_);refine aP [8] ?_;refine aW ?_;exact a7 (by simp)
end Go.Tram
end
section
namespace Go.Tram
open Go.AM Go.Proofs
def b0P (q:SS×SS):List AV:=[q.1.av,q.2.av]
theorem b2r (p:Plan) (a b:Int):∀z∈(a2g p a b).map b0P,z.length=2:=by
 intro z hz;obtain⟨q,_,rfl⟩:=List.mem_map.1 hz
 rfl
theorem c4v (p:Plan) (a b:Int):a8 Tryz.prog 161 [.iptr (a3f p),I a,I b] (.clo 185 [.iptr [.iptr (a3f p)], .iptr [I a], .iptr [I b]]):=by
 generalize a3f p=sh;refine oB Tryz.func161 Tryz.ntmps161 Tryz.results161 ?_;refine aW ?_;refine aW ?_;exact a7 (by simp)
theorem c2B (p : Plan) (a b : Int) (ha : inr a 0 (p.Rails.length-1)=true) (hb:inr b 0 (p.Rails.length-1)=true) (hla:(p.strips a).length≤1000000) (hlb:(p.strips b).length≤1000000):
    a0B Tryz.prog 185 [.iptr [.iptr (a3f p)], .iptr [I a], .iptr [I b]] ((a2g p a b).map b0P):=by
  have ia:=g6.1 ha
  have ib:=g6.1 hb
  have ga:=a2Q (p:=p) (r:=a) (by omega) (by omega)
  have gb:=a2Q (p:=p) (r:=b) (by omega) (by omega)
  have hpl:=b4l p a b
  unfold a3f
  refine O7.of_body Tryz.func185 rfl (by decide) (by simp[Tryz.ntmps185]) (by simp[Tryz.ntmps185]) (by simp[Tryz.results185]) ?_
  intro J l hmk hY
  simp only[Tryz.ntmps185,Tryz.results185]
  refine gD ?_ fun K hK=>by simp -dsimp [ga,ia.1];exact hK
  refine d4 ?_
  refine v9 [0,1,3,15,16,17,999999] (Or.inl (by decide)) ?_
  refine zN ?_
  refine i9 [0,1,3,15,16] (α:=Nat) (fun k=>[(17,I k),(999999,X9 (k*(p.strips b).length))]) (fun k=>[]) (fun k=>k≤(p.strips a).length) (fun k=>(p.strips a).length-k) 0 ?_ ?_ ?_
  · simp
  · exact Q3 (c7 (by simp)) (by simp)
  rintro k k1
  refine zN ?_
  refine gW ?_
  refine b9 fun K1 hK1=>?_
  refine c3 rfl (fun hc0=>?_) (fun hc0=>?_)
  · skip
    try simp at hc0
    obtain⟨s,hs⟩:∃s,(p.strips a)[k]?=some s:=⟨_,List.getElem?_eq_getElem (by simpa using hc0)⟩
    have wk:=zW k (by omega)
    refine c6 ?_
    refine zQ (hK1 _ _ ?_)
    refine v9 [0,1,3,15,16,17,999999] (Or.inl (by decide)) ?_
    refine zN ?_
    refine b9 fun K2 hK2=>?_
    refine d4 ?_
    refine gW ?_ fun K hK=>by simp -dsimp [hs];exact hK
    refine gD ?_ fun K hK=>by simp -dsimp [gb,ib.1];exact hK
    refine d4 ?_
    refine v9 [0,1,3,6,15,16,17,27,28,29,999999] (Or.inl (by decide)) ?_
    refine zN ?_
    refine i9 [0,1,3,6,15,16,17,27,28] (α:=Nat) (fun j=>[(29,I j),(999999,X9 (k*(p.strips b).length+j))]) (fun j=>[some (.els 9 [s.cells])]) (fun j=>j≤(p.strips b).length) (fun j=>(p.strips b).length-j) 0 ?_ ?_ ?_
    · simp
    · exact Q3 (c7 (by simp)) (by simp)
    rintro j j1
    refine zN ?_
    refine gW ?_
    refine b9 fun K3 hK3=>?_
    refine c3 rfl (fun hc1=>?_) (fun hc1=>?_)
    · skip
      try simp at hc1
      obtain⟨t,ht⟩:∃t,(p.strips b)[j]?=some t:=⟨_,List.getElem?_eq_getElem (by simpa using hc1)⟩
      have wj:=zW j (by omega)
      refine c6 ?_
      refine zQ (hK3 _ _ ?_)
      refine v9 [0,1,3,6,15,16,17,27,28,29,999999] (Or.inl (by decide)) ?_
      refine zN ?_
      refine b9 fun K4 hK4=>?_
      refine d4 ?_
      refine gW ?_ fun K hK=>by simp -dsimp [ht];exact hK
      refine b9a hmk hY rfl (by decide) rfl rfl fun K hK=>?_
      simp -dsimp
      refine b1u (by rw[List.getElem?_map,b8o hs ht];rfl) ?_ ?_
      · apply hK;clear hK K
        refine c3 rfl (fun hc2=>?_) (fun hc2=>?_)
        · skip
          skip
          simp at hc2
        · skip
          skip
          refine c6 ?_
          refine zQ (hK4 _ _ ?_)
          refine v9 [0,1,3,6,15,16,17,27,28,29,999999] (Or.inl (by decide)) ?_
          refine zN ?_
          refine gV ?_ fun K hK=>by simp -dsimp [wj];exact hK
          refine zQ ?_
          exact⟨j+1,by omega,by omega,Q3 (e8 [some 0] rfl (by simp[Nat.add_assoc]) (by simp)) (by simp[Nat.add_assoc])⟩
      · apply hK;clear hK K
        refine c3 rfl (fun hc2=>?_) (fun hc2=>?_)
        · skip
          skip
          exact i6 (by simp)
        · skip
          skip
          simp at hc2
    · skip
      try simp at hc1
      have hje : j = (p.strips b).length := by have:¬j<(p.strips b).length:=by simpa using hc1
                                               omega
      refine r7 ?_
      refine zQ (hK2 _ _ ?_)
      refine v9 [0,1,3,15,16,17,999999] (Or.inl (by decide)) ?_
      refine zN ?_
      refine gV ?_ fun K hK=>by simp -dsimp [wk];exact hK
      refine zQ ?_
      exact⟨k+1,by omega,by omega,Q3 (e8 [] rfl (by simp[hje,Nat.succ_mul]) (by simp)) (by simp[hje,Nat.succ_mul])⟩
  · skip
    try simp at hc0
    have hke : k = (p.strips a).length := by have:¬k<(p.strips a).length:=by simpa using hc0
                                             omega
    refine r7 ?_
    try simp only[zT,reduceIte,Nat.reduceEqDiff]
    simp[hpl,hke]
end Go.Tram
end
section
namespace Go.Tram
open Go.AM Go.Proofs
theorem b1d {p:Plan} {r:Int} (hr:inr r 0 (p.Rails.length-1)=true):p.Rails[r.toNat]?=some (p.rail r):=by
 have:=g6.1 hr;exact Plan.rail_get (by omega) (by omega)
theorem c3w (p:Plan) (a b:Int) (ha:inr a 0 (p.Rails.length-1)=true) (hb:inr b 0 (p.Rails.length-1)=true):a8 Tryz.prog 160 [.iptr (a3f p),I a,I b] (Bo (b5i p a b)):=by
 have ia:=g6.1 ha;have ib:=g6.1 hb;have ga:=b1d ha;have gb:=b1d hb;unfold a3f;refine oB Tryz.func160 Tryz.ntmps160 Tryz.results160 ?_;refine aW ?_;refine aD ?_ fun K hK=>by simp -dsimp [ga,gb,ia.1,ib.1];exact hK
 refine aW ?_;refine a7 ?_;simp[b5i];exact Bool.eq_iff_iff.2 (by simp;try omega)
theorem c1n (p:Plan) (a:Int) (x:Profile) (b:Int) (y:Profile) (hv:d8 p=true) (ha:inr a 0 (p.Rails.length-1)=true) (hb:inr b 0 (p.Rails.length-1)=true) (hx:z5 x=true) (hy:z5 y=true):
  a8 Tryz.prog 119 [.iptr (a3f p),I a,x.av,I b,y.av] (Bo (W8 p a x b y)):=by
 have ia:=g6.1 ha;have ib:=g6.1 hb;have ra:=P0 hv (r:=a) (by omega) (by omega);have rb:=P0 hv (r:=b) (by omega) (by omega);have sa:=ra.s;have sb:=rb.s;have la:=a6c p a;have lb:=a6c p b;have hm:=c3w p a b ha hb;have hall:=c4v p a b;have hit:=c2B p a b ha hb (by omega) (by omega);generalize hsh:a3f p=sh at hm hall hit;refine a8.of_bodyG Tryz.func119 rfl (by decide) (by simp[Tryz.ntmps119]) ?_;intro J hJ;simp only[Tryz.ntmps119,Tryz.results119];refine gW ?_;refine b9 fun K1 hK1=>?_;refine gW ?_ fun K hK=>by simp -dsimp;refine cI (hm) ?_;simp -dsimp;exact hK
 refine c3 rfl (fun hc0=>?_) (fun hc0=>?_)
 ·skip
  try simp at hc0
  refine gW ?_;exact i6 (by simp[a5F hv ha hb hx hy hc0])
 ·skip
  try simp at hc0
  refine c6 ?_;refine zQ (hK1 _ _ ?_);refine gP [0,1,3,7,9,10] ?_;refine b9 fun K2 hK2=>?_;refine gW ?_ fun K hK=>by simp -dsimp;refine cI (hall) ?_;simp -dsimp;exact hK
  refine d4 ?_;refine gP [7,9,10,20] ?_;refine a4r hJ [7,9,10,20] (fun _=>[some (.els 2 [x.cells]),some (.els 2 [y.cells]),some (.els 1 [[Bo false]])]) (fun n=>((a2g p a b).take n).any (fun q=>X1 q.1 x q.2 y)=false) rfl (hit) rfl (by simp) (by decide) (by decide) (by decide) (b2r p a b) ?_ ?_ ?_ ?_
  ·trivial
  ·exact c7 (by simp)
  ·intro n xv hxn hi l1 J1 hJ1;obtain⟨q,hq,rfl⟩:∃q,(a2g p a b)[n]?=some q∧b0P q=xv:=by simpa using hxn
   have hmq:=b4t (List.mem_of_getElem? hq);have os:=T5 ra hmq.1;have ot:=T5 rb hmq.2;have hcf:=c3U q.1 q.2 x y os ot hx hy;obtain⟨s,t⟩:=q;simp only[b0P]at hcf ⊢;simp only[List.zip_cons_cons,List.zip_nil_left,List.zip_nil_right,List.cons_append,List.nil_append];refine gW ?_;refine gV ?_;simp only[b3c];intro J2 hJ2;refine gP [7,9,10,11,12,20] ?_;refine d4 ?_;refine gW ?_ fun K hK=>by simp -dsimp;refine cI (hcf) ?_;simp -dsimp;exact hK
   refine c3 rfl (fun hc1=>?_) (fun hc1=>?_)
   ·skip
    try simp at hc1
    have hany:(a2g p a b).any (fun q=>X1 q.1 x q.2 y)=true:=List.any_eq_true.2 ⟨(s,t),List.mem_of_getElem? hq,hc1⟩;refine gW ?_;exact i6 ⟨[some (.els 2 [x.cells]),some (.els 2 [y.cells]),some (.els 1 [[Bo true]])],aB [some 0,some 1,some 2],by simp[W8,hany]⟩
   ·skip
    try simp at hc1
    refine c6 ?_;simp only[Z0,H7,a6f,reduceIte,Nat.reduceEqDiff,eq_self];refine⟨?_,aB [some 0,some 1,some 2]⟩;rw[List.take_add_one,List.any_append,hi,hq];simp[hc1]
  ·intro hdone;refine zQ (hK2 _ _ ?_);refine gP [10] ?_;refine gW ?_;refine i6 ?_;rw[List.take_of_length_le (by simp)]at hdone;simp[W8,hdone]
end Go.Tram
end
