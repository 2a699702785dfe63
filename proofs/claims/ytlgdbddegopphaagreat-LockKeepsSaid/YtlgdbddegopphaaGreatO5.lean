import Derived.Test.YtlgdbddegopphaaGreatO4
import Derived.OpenShut
import Derived.ProofKit
import Derived.WalkKit
import Derived.Test.YtlgdbddegopphaaGreatRows
set_option maxRecDepth 100000
set_option maxHeartbeats 8000000
set_option linter.unusedVariables false
set_option linter.unusedSimpArgs false
section
namespace Go.Tram
open Go.AM Go.Proofs
theorem b5z (p:Plan) (r:Rail) (hf:0<=r.From/\r.From<p.Nodes.length) (ht:0<=r.To/\r.To<p.Nodes.length) (hs:r.Shape.length<=900):
  a9 Tryz.prog 150 [p.av,r.av] (.lst 2 ((v9 p r).map Spot.cells)):=by
 have e2:p.Nodes[r.From.toNat]?=some (p.node r.From):=Plan.node_get hf.1 hf.2;have e3:p.Nodes[r.To.toNat]?=some (p.node r.To):=Plan.node_get ht.1 ht.2;have hc:=(b8B [[(p.node r.From).Spot],r.Shape,[(p.node r.To).Spot]] (by simp) (by simp;omega) (by simp)).wk (args:=[.full 1 [[.full 2 [[I (p.node r.From).Spot.X,I (p.node r.From).Spot.Y]]],[.lst 2 (r.Shape.map Spot.cells)],[.full 2 [[I (p.node r.To).Spot.X,I (p.node r.To).Spot.Y]]]]]) (by simp[AM.wk,b0r,Function.comp_def]);refine oB Tryz.func150 Tryz.ntmps150 Tryz.results150 ?_;refine aW ?_;refine aD ?_ fun K hK=>by simp -dsimp [e2,e3,hf.1,ht.1];refine cI (hc) ?_;simp -dsimp [e2,e3,hf.1,ht.1];exact hK
 exact a6 (by simp[v9])
theorem b6q (s:Spot):a9 Tryz.prog 147 [s.av] (Bo (l7 s)):=by
 refine oB Tryz.func147 Tryz.ntmps147 Tryz.results147 ?_;refine aW ?_;refine aW ?_ fun K hK=>by simp -dsimp;refine cI (D5 _ _ _) ?_;simp -dsimp;refine cY (fun hm=>D5 _ _ _) ?_;simp -dsimp;exact hK
 exact a6 (by simp[l7])
theorem c0M:a9 Tryz.prog 148 [] (.agg [I 0,I 1,I 2,I 4,I 3,I 3,I 3]):=by
 refine oB Tryz.func148 Tryz.ntmps148 Tryz.results148 ?_;refine aW ?_;refine aW ?_ fun K hK=>by simp -dsimp [Value.oneCell'];exact hK
 exact a6 (by simp)
theorem a7v (p:Plan) (e:E1) (h0:0<=e.Rail) (h1:e.Rail<p.Rails.length):a9 Tryz.prog 116 [p.av,e.av] (I (p.at e)):=by
 have e1:p.Rails[e.Rail.toNat]?=some (p.rail e.Rail):=Plan.rail_get h0 h1;refine oB Tryz.func116 Tryz.ntmps116 Tryz.results116 ?_;refine aW ?_;refine a5 fun K1 hK1=>?_;refine aW ?_;refine a7 rfl (fun hc0=>?_) (fun hc0=>?_)
 ·skip
  try simp at hc0
  refine aW ?_ fun K hK=>by simp -dsimp [e1,h0];exact hK
  exact a6 (by simp[Plan.at,hc0])
 ·skip
  try simp at hc0
  refine b9 ?_;refine zQ (hK1 _ _ ?_);refine aP [2,3] ?_;refine aW ?_ fun K hK=>by simp -dsimp [e1,h0];exact hK
  exact a6 (by simp[Plan.at,hc0])
theorem c4H (n:Nat) (h:n<2^50):∃r x:Nat,a9 Tryz.prog 202 [.v (.float .f64 (FloatKind.f64.nearest n))] (.v (.float .f64 r))/\floatToIntVal .f64 r .i64=some (x:Int)/\x<=2^30:=by
 obtain⟨r,x,h1,h2,h3⟩:=Sq.sqrt_bd h;have hs:a9 Tryz.prog 219 [.v (.float .f64 (FloatKind.f64.nearest n))] (.v (.float .f64 r)):=by
  refine a9.of_ext (us:=[.float .f64 (FloatKind.f64.nearest n)]) (e:=Extern.MathSqrt.sqrt) Tryz.func219 (by rfl) (by rfl) (by rfl) (by rfl) (fun w=>?_);have e:Extern.MathSqrt.sqrt #[.float .f64 (FloatKind.f64.nearest n)]=(match FloatKind.f64.format.sqrt (FloatKind.f64.nearest n)with
   |some r=>pure (.float .f64 r)
   |none=>do pure (.float .f64 (<-choose (.nanBits .f64 (FloatKind.f64.nearest n) (FloatKind.f64.nearest n))))):=rfl
  rw[h1]at e;show(Extern.MathSqrt.sqrt #[.float .f64 (FloatKind.f64.nearest n)]).run _ w=_;rw[e]
  rfl
 refine⟨r,x,?_,h2,h3⟩;refine oB Tryz.func202 Tryz.ntmps202 Tryz.results202 ?_;refine aW ?_;refine aW ?_ fun K hK=>by simp -dsimp;refine cI (hs) ?_;simp -dsimp;exact hK
 exact a6 (by simp)
theorem a4W:(Tryz.prog).underlying 3=some (.int .i64):=by kernel_rfl
theorem b4k:(Tryz.prog).underlying 311=some (.float .f64):=by kernel_rfl
theorem c2q (n:Int) (w:World):(convert 3 311 (.int .i64 n)).run Tryz.prog w= .ok (.float .f64 (FloatKind.f64.nearest n)) w:=by
 simp[convert,run_underlying a4W,run_underlying b4k,Conv.intToFloat]
theorem b7S {a b:Int} (h0:0<=a) (h:a<=b):a*a<=b*b:=Int.mul_le_mul h h h0 (by omega)
theorem c2x (n:Int) (h0:0<=n) (h1:n<1000000000000000):a9 Tryz.prog 180 [I n] (I (isq n)):=by
 obtain⟨m,rfl⟩:∃m:Nat,n=m:=⟨n.toNat,by omega⟩;obtain⟨r,x,hs,hx,hxb⟩:=c4H m (by omega);have hsq:=a7C h0;obtain⟨s1,s2,s3⟩:=hsq;generalize hq:isq (m:Int)=q at s1 s2 s3;have hqb:q<=40000000:=by
  rcases Int.lt_or_le 40000000 q with h|h
  ·have:=b7S (by omega) (Int.le_of_lt h);omega
  ·exact h
 refine oB Tryz.func180 Tryz.ntmps180 Tryz.results180 ?_;refine aW ?_;refine aS fun K hK=>?_;simp -dsimp;refine⟨_,c2q m,?_⟩;simp;refine cI (hs) ?_;simp -dsimp;refine⟨_,fun w=>run_convert_float_int w _ _ .f64 .i64 r x (by rw[b4k];rfl) a4W hx,?_⟩
 try simp
 apply hK;clear hK K;refine a5 fun K1 hK1=>?_;refine b8 ?_;refine aP [0,3] ?_;refine c6 [0] (α:=Int) (fun x=>[(3,I x)]) (fun _=>[]) (fun x=>0<=x/\x<=1100000000) (fun x=>x.toNat) (x:Int) ?_ ?_ ?_
 ·omega
 ·exact c9 (by simp)
 rintro y ⟨y1,y2⟩;have b1:=y6 (a:=y) (b:=y) (A:=1100000000) (B:=1100000000) (by omega) (by omega) (by omega) (by omega);have w1:IntKind.i64.wrap (y*y)=y*y:=c4 (by omega) (by omega);have w2:IntKind.i64.wrap (y-1)=y-1:=c4 (by omega) (by omega);refine zN ?_;refine a5 fun K2 hK2=>?_;refine aW ?_ fun K hK=>by simp -dsimp [w1];exact hK
 refine a7 rfl (fun hc0=>?_) (fun hc0=>?_)
 ·skip
  try simp at hc0
  have y0:y≠0:=by rintro rfl;simp at hc0;omega
  refine b9 ?_;refine zQ (hK2 _ _ ?_);refine aP [0,3] ?_;refine b8 ?_;refine aV ?_ fun K hK=>by simp -dsimp [w2];exact hK
  refine zQ ?_;exact⟨y-1,⟨by omega,by omega⟩,by omega,c9 (by simp)⟩
 ·skip
  try simp at hc0
  have hyq:y<=q:=by
   rcases Int.lt_or_le q y with h|h
   ·have:=b7S (a:=q+1) (b:=y) (by omega) (by omega);omega
   ·exact h
  refine d4 ?_;refine zQ (hK1 _ _ ?_);refine aP [0,3] ?_;refine a5 fun K3 hK3=>?_;refine b8 ?_;refine aP [0,3] ?_;refine c6 [0] (α:=Int) (fun x=>[(3,I x)]) (fun _=>[]) (fun x=>0<=x/\x<=q) (fun x=>(q-x).toNat) y ?_ ?_ ?_
  ·omega
  ·exact c9 (by simp)
  rintro z ⟨z1,z2⟩;have b2:=y6 (a:=z+1) (b:=z+1) (A:=1100000000) (B:=1100000000) (by omega) (by omega) (by omega) (by omega);have w3:IntKind.i64.wrap (z+1)=z+1:=c4 (by omega) (by omega);have w4:IntKind.i64.wrap ((z+1)*(z+1))=(z+1)*(z+1):=c4 (by omega) (by omega);refine zN ?_;refine a5 fun K4 hK4=>?_;refine aW ?_ fun K hK=>by simp -dsimp [w3,w4];exact hK
  refine a7 rfl (fun hc1=>?_) (fun hc1=>?_)
  ·skip
   try simp at hc1
   have hzq:z+1<=q:=by
    rcases Int.lt_or_le q (z+1)with h|h
    ·have:=b7S (a:=q+1) (b:=z+1) (by omega) (by omega);omega
    ·exact h
   refine b9 ?_;refine zQ (hK4 _ _ ?_);refine aP [0,3] ?_;refine b8 ?_;refine aV ?_ fun K hK=>by simp -dsimp [w3];exact hK
   refine zQ ?_;exact⟨z+1,⟨by omega,by omega⟩,by omega,c9 (by simp)⟩
  ·skip
   try simp at hc1
   have hzq:z=q:=by
    rcases Int.lt_or_le z q with h|h
    ·have:=b7S (a:=z+1) (b:=q) (by omega) (by omega);omega
    ·omega
   refine d4 ?_;refine zQ (hK3 _ _ ?_);refine aP [3] ?_;refine aW ?_;exact a6 (by simp[hq,hzq])
end Go.Tram
end
section
namespace Go.Tram
open Go.AM Go.Proofs
theorem c0w (a b:Spot) (ha:l7 a=true) (hb:l7 b=true):a9 Tryz.prog 151 [a.av,b.av] (I (far a b)):=by
 have hs:=b4F ha hb;have ha':=K0.1 ha;have hb':=K0.1 hb;have w1:IntKind.i64.wrap (a.X-b.X)=a.X-b.X:=c4 (by omega) (by omega);have w2:IntKind.i64.wrap (a.Y-b.Y)=a.Y-b.Y:=c4 (by omega) (by omega);have h1:=y6 (a:=a.X-b.X) (b:=a.X-b.X) (A:=20000000) (B:=20000000) (by omega) (by omega) (by omega) (by omega);have h2:=y6 (a:=a.Y-b.Y) (b:=a.Y-b.Y) (A:=20000000) (B:=20000000) (by omega) (by omega) (by omega) (by omega);have w3:IntKind.i64.wrap ((a.X-b.X)*(a.X-b.X))=(a.X-b.X)*(a.X-b.X):=c4 (by omega) (by omega);have w4:IntKind.i64.wrap ((a.Y-b.Y)*(a.Y-b.Y))=(a.Y-b.Y)*(a.Y-b.Y):=c4 (by omega) (by omega);have w5:IntKind.i64.wrap ((a.X-b.X)*(a.X-b.X)+(a.Y-b.Y)*(a.Y-b.Y))=sqd a b:=c4 (by unfold sqd at hs;omega) (by unfold sqd at hs;omega);refine oB Tryz.func151 Tryz.ntmps151 Tryz.results151 ?_;refine aW ?_ fun K hK=>by simp -dsimp [w1,w2,w3,w4,w5];exact hK
 refine aD ?_ fun K hK=>by simp -dsimp [w1,w2,w3,w4,w5];exact hK
 refine aW ?_ fun K hK=>by simp -dsimp [w1,w2,w3,w4,w5];refine cI (c2x _ hs.1 (by omega)) ?_;simp -dsimp [w1,w2,w3,w4,w5];exact hK
 exact a6 (by simp[far])
theorem b4x {k:Int} (h1:1<=k) (h6:k<=6):(List.take 1 (List.drop k.toNat [I 0,I 1,I 2,I 4,I 3,I 3,I 3])).head?.getD AV.any=I (T7 k):=by
 have:k=1∨k=2∨k=3∨k=4∨k=5∨k=6:=by omega
 rcases this with rfl|rfl|rfl|rfl|rfl|rfl<;>rfl
theorem c1x (n:Node):a9 Tryz.prog 112 [n.av] (Bo (C3 n)):=by
 refine oB Tryz.func112 Tryz.ntmps112 Tryz.results112 ?_;refine aW ?_;refine a5 fun K1 hK1=>?_;refine aD ?_ fun K hK=>by simp -dsimp;refine cY (fun hm=>b6q n.Spot) ?_;simp -dsimp;refine cY (fun hm=>c0M) ?_;simp -dsimp;refine⟨by omega,d7 (I (T7 n.Kind)) (fun hm=>by simp at hm;exact b4x (by omega) (by omega)) ?_⟩;simp;exact hK
 refine a7 rfl (fun hc0=>?_) (fun hc0=>?_)
 ·skip
  try simp at hc0
  refine aW ?_;refine a6 ?_;have:C3 n=false:=by
   cases hq:C3 n with
   |false=>rfl
   |true=>
    simp[C3]at hq;have hk:1<=n.Kind/\n.Kind<=6:=by have:=hq.2.2.1;unfold T7 at this;repeat (split at this;omega);omega
    simp[hq]at hc0;omega
  simp[this]
 ·skip
  try simp at hc0
  have he:T7 n.Kind≠0:=by have:=hc0.1.1;unfold T7;repeat (split;omega);omega
  refine b9 ?_;refine zQ (hK1 _ _ ?_);refine aP [1] ?_;refine a5 fun K2 hK2=>?_;refine aW ?_;refine a7 rfl (fun hc1=>?_) (fun hc1=>?_)
  ·skip
   try simp at hc1
   refine aW ?_ fun K hK=>by simp -dsimp;refine cI (D5 _ _ _) ?_;simp -dsimp;exact hK
   refine a6 ?_;simp[C3,hc0,hc1,he]
  ·skip
   try simp at hc1
   refine b9 ?_;refine zQ (hK2 _ _ ?_);refine aP [1] ?_;refine aW ?_;refine a6 ?_;simp[C3,hc0,hc1,he];exact qj.2 (by simp)
theorem a8C {p:Plan} {r:Rail} (h:S8 p r=true):(0<=r.From/\r.From<p.Nodes.length)/\(0<=r.To/\r.To<p.Nodes.length)/\r.Shape.length<=30:=by
 simp only[S8,qh,g6,decide_eq_true_eq]at h;omega
theorem a6k {p:Plan} {r:Rail} (hA:p.Nodes.all C3=true):E5 p r=(S8 p r&&((v9 p r).all l7&&(List.range (r.Shape.length+1)).all (a8O (v9 p r)))):=by
 cases h:S8 p r with
 |false=>simp[E5,h]
 |true=>
  obtain⟨h1,h2,_⟩:=a8C h;have sF:=O7 (C4 hA (i:=r.From) h1.1 h1.2);have sT:=O7 (C4 hA (i:=r.To) h2.1 h2.2);simp only[E5,h,v9,List.all_cons,List.all_append,List.all_nil,sF,sT,Bool.true_and,Bool.and_true]
theorem b3E (p:Plan) (r:Rail):(v9 p r).length=r.Shape.length+2:=by simp[v9]
theorem c1b (p:Plan) (r:Rail) (hA:p.Nodes.all C3=true) (hN:p.Nodes.length<=300):a9 Tryz.prog 115 [p.av,r.av] (Bo (E5 p r)):=by
 have wn:IntKind.i64.wrap ((p.Nodes.length:Int)-1)=(p.Nodes.length:Int)-1:=c4 (by omega) (by omega);have hl:=b3E p r;refine oB Tryz.func115 Tryz.ntmps115 Tryz.results115 ?_;refine aW ?_;refine a5 fun K1 hK1=>?_;refine aW ?_ fun K hK=>by simp -dsimp [wn];refine cI (D5 _ _ _) ?_;simp -dsimp [wn];refine cY (fun hm=>D5 _ _ _) ?_;simp -dsimp [wn];refine cY (fun hm=>D5 _ _ _) ?_;simp -dsimp [wn];refine cY (fun hm=>D5 _ _ _) ?_;simp -dsimp [wn];exact hK
 refine a7 rfl (fun hc0=>?_) (fun hc0=>?_)
 ·skip
  try simp at hc0
  refine aW ?_;refine a6 ?_;have hra:S8 p r=false:=by
   cases hq:S8 p r with
   |false=>rfl
   |true=>simp[S8]at hq;simp[hq,wn]at hc0;omega
  simp[E5,hra]
 ·skip
  try simp at hc0
  have hra:S8 p r=true:=by simp[S8,hc0];omega
  obtain⟨hF,hT,hsl⟩:=a8C hra;refine b9 ?_;refine zQ (hK1 _ _ ?_);refine aP [2,3] ?_;refine aW ?_ fun K hK=>by simp -dsimp;refine cI (b5z p r hF hT (by omega)) ?_;simp -dsimp;exact hK
  refine a5 fun K2 hK2=>?_;refine aW ?_;refine b8 ?_;refine aP [5,47,48,49] ?_;refine c6 [5,47,48] (α:=Nat) (fun k=>[(49,I k)]) (fun _=>[some (.els 2 [p.cells]),some (.els 5 [r.cells])]) (fun k=>k<=(v9 p r).length/\∀m,m<k->l7 (nth (v9 p r) m)=true/\(0<m->a8O (v9 p r) (m-1)=true)) (fun k=>(v9 p r).length-k) 0 ?_ ?_ ?_
  ·exact⟨by omega,fun m hm=>by omega⟩
  ·exact c9 (by simp)
  rintro k ⟨k1,k2⟩;refine zN ?_;refine aW ?_;refine a5 fun K3 hK3=>?_;refine a7 rfl (fun hc1=>?_) (fun hc1=>?_)
  ·skip
   try simp at hc1
   have g0:=y8 (l:=v9 p r) (k:=k) (by omega);have wk:=zW k (by omega);have wm:0<k->IntKind.i64.wrap ((k:Int)-1)=((k-1:Nat):Int):=fun h=>by rw[c4 (by omega) (by omega)];omega
   refine b9 ?_;refine zQ (hK3 _ _ ?_);refine aP [5,47,48,49] ?_;refine a5 fun K4 hK4=>?_;refine b8 ?_;refine aW ?_ fun K hK=>by simp -dsimp [g0];exact hK
   refine aD ?_ fun K hK=>by simp -dsimp;refine cI (b6q (nth (v9 p r) k)) ?_;simp -dsimp;refine⟨fun _ h=>by rw[wm h];omega,j7 (Spot.cells (nth (v9 p r) (k-1))) (fun hm=>by simp at hm;rw[wm hm.2];simp[y8 (l:=v9 p r) (k:=k-1) (by omega)]) ?_⟩;simp;refine cY (fun hm=>c0w (nth (v9 p r) (k-1)) (nth (v9 p r) k) (by simp at hm;exact(k2 (k-1) (by omega)).1) (by simp at hm;exact hm.1)) ?_;simp -dsimp;refine cY (fun hm=>D5 _ _ _) ?_;simp -dsimp;exact hK
   refine a7 rfl (fun hc2=>?_) (fun hc2=>?_)
   ·skip
    try simp at hc2
    have hB:E5 p r=false:=by
     rw[a6k hA]
     by_cases hs:l7 (nth (v9 p r) k)=true
     ·have h3:0<k/\inr (far (nth (v9 p r) (k-1)) (nth (v9 p r) k)) 1 1000000=false:=by simp[hs]at hc2;exact hc2
      have hseg:a8O (v9 p r) (k-1)=false:=by simp only[a8O,D4];rw[show k-1+1=k by omega];exact h3.2
      have:(List.range (r.Shape.length+1)).all (a8O (v9 p r))=false:=by rw[List.all_eq_false];exact⟨k-1,by simp;omega,by simp[hseg]⟩
      simp[this]
     ·have:(v9 p r).all l7=false:=b1m g0 (by simpa using hs);simp only[this,Bool.false_and,Bool.and_false]
    refine aW ?_;exact a6 (by simp[hB])
   ·skip
    try simp at hc2
    refine b9 ?_;refine zQ (hK4 _ _ ?_);refine aP [5,47,48,49] ?_;refine aV ?_ fun K hK=>by simp -dsimp [wk];exact hK
    refine zQ ?_;refine⟨k+1,⟨by omega,fun m hm=>?_⟩,by omega,g7 [some 0,some 1] rfl (by simp) (by simp[Function.comp_def])⟩
    by_cases hmk:m<k
    ·exact k2 m hmk
    ·obtain rfl:m=k:=by omega
     refine⟨hc2.1,fun h=>?_⟩;simp only[a8O,D4];rw[show m-1+1=m by omega];exact hc2.2 h
  ·skip
   try simp at hc1
   have hB:E5 p r=true:=by
    rw[a6k hA,hra];simp only[Bool.true_and,qh,qn,List.mem_range];refine⟨fun s hs=>?_,fun m hm=>?_⟩
    ·obtain⟨m,hm⟩:=List.getElem?_of_mem hs;have hml:=(qa.1 hm).1;have:=(k2 m (by omega)).1;rw[y8 hml]at hm;simp only[qb]at hm
     rwa [hm]at this
    ·exact(k2 (m+1) (by omega)).2 (by omega)
   refine d4 ?_;refine zQ (hK2 _ _ ?_);refine aP [] ?_;refine aW ?_;exact a6 (by simp[hB])
end Go.Tram
end
section
namespace Go.Tram
open Go.AM Go.Proofs
def H7:List (List AV)->List AV
 |[]=>[]
 |c::cs=> .iptr c::H7 cs
@[simp] theorem b7p (H:Nat->Option n9) (n:Nat):∀cl:List (List AV),(H7 cl).map (frz H n)=H7 cl
 |[]=>rfl
 |c::cs=>by simp only[H7,List.map_cons,b7p H n cs,List.cons.injEq,and_true];cases n<;>rfl
@[simp] theorem b2F (n:Nat):∀cl:List (List AV),(H7 cl).all (AV.noRef n)=true
 |[]=>rfl
 |c::cs=>by simp only[H7,List.all_cons,b2F n cs,Bool.and_true];cases n<;>rfl
@[simp] theorem c2j (H:Nat->Option n9) (n:Nat):∀cl:List (List AV),(H7 cl).flatMap (B8 H n)=[]
 |[]=>rfl
 |c::cs=>by simp only[H7,List.flatMap_cons,c2j H n cs,List.append_nil];cases n<;>rfl
def Y7 {α:Type} (l:List α) (q:α->Bool):Int:=match l.findIdx? q with|some i=>i|none=>-1
theorem F0 {α:Type} {l:List α} {q:α->Bool} (h:l.any q=false):Y7 l q=-1:=by
 have:l.findIdx? q=none:=by
  rw[List.findIdx?_eq_none_iff];intro x hx;rw[List.any_eq_false]at h;simpa using h x hx
 unfold Y7;rw[this]
theorem P2 {α:Type} {l:List α} {q:α->Bool} {k:Nat} {x:α} (hx:l[k]?=some x) (hq:q x=true) (hn:(l.take k).any q=false):Y7 l q=k:=by
 obtain⟨hk,he⟩:=qa.1 hx;have:l.findIdx? q=some k:=by
  rw[List.findIdx?_eq_some_iff_getElem];refine⟨hk,by rw[he];exact hq,fun j hj=>?_⟩;rw[List.any_eq_false]at hn;have:=hn l[j] (by rw[List.mem_take_iff_getElem];exact⟨j,by omega,rfl⟩);simpa using this
 unfold Y7;rw[this]
theorem U4 {α:Type} (l:List α) (q:α->Bool):decide (0<=Y7 l q)=l.any q:=by
 cases h:l.any q with
 |false=>rw[F0 h];rfl
 |true=>
  rw[qy]at h;obtain⟨x,hx,hq⟩:=h;unfold Y7
  cases hi:l.findIdx? q with
  |none=>rw[List.findIdx?_eq_none_iff]at hi;exact absurd hq (by simp[hi x hx])
  |some i=>simp
theorem any_take {α:Type} {l:List α} {q:α->Bool} {k:Nat} {x:α} (h:l[k]?=some x):(l.take (k+1)).any q=((l.take k).any q||q x):=by
 rw[qz,List.any_append,h];simp
theorem v6 {α:Type} {l:List α} {q:α->Bool} {k:Nat} (hk:l.length<=k) (h:(l.take k).any q=false):l.any q=false:=by rwa [qg hk]at h
theorem a7Z (l:List Node) (f:FuncId) (cl:List (List AV)) (q:Node->Bool) (h:∀x∈l,a9 Tryz.prog f (.agg x.cells::H7 cl) (Bo (q x))) (hn:l.length<=100000):
  a9 Tryz.prog 146 [.lst 5 (l.map Node.cells), .clo f (H7 cl)] (I (Y7 l q)):=by
 refine oB Tryz.func146 Tryz.ntmps146 Tryz.results146 ?_;refine aW ?_;refine a5 fun K1 hK1=>?_;refine aW ?_;refine b8 ?_;refine aP [0,1,7,8] ?_;refine c6 [0,1,7] (α:=Nat) (fun k=>[(8,I k)]) (fun _=>[]) (fun k=>k<=l.length/\(l.take k).any q=false) (fun k=>l.length-k) 0 ?_ ?_ ?_
 ·simp
 ·exact c9 (by simp)
 rintro k ⟨k1,k2⟩;refine zN ?_;refine aW ?_;refine a5 fun K2 hK2=>?_;refine a7 rfl (fun hc0=>?_) (fun hc0=>?_)
 ·skip
  try simp at hc0
  obtain⟨x,hx⟩:=gx (l:=l) (i:=k) hc0;have wk:=zW k (by omega);refine b9 ?_;refine zQ (hK2 _ _ ?_);refine aP [0,1,7,8] ?_;refine a5 fun K3 hK3=>?_;refine b8 ?_;refine aW ?_;refine aW ?_ fun K hK=>by simp -dsimp [hx];refine cI (h x (qd hx)) ?_;simp -dsimp [hx];exact hK
  refine a7 rfl (fun hc1=>?_) (fun hc1=>?_)
  ·skip
   try simp at hc1
   refine aW ?_;exact a6 (by simp[P2 hx hc1 k2])
  ·skip
   try simp at hc1
   refine b9 ?_;refine zQ (hK3 _ _ ?_);refine aP [0,1,7,8] ?_;refine aV ?_ fun K hK=>by simp -dsimp [wk];exact hK
   refine zQ ?_;exact⟨k+1,⟨by omega,by rw[any_take hx,k2,hc1];rfl⟩,by omega,c9 (by simp)⟩
 ·skip
  try simp at hc0
  have hall:=v6 (by omega) k2;refine d4 ?_;refine zQ (hK1 _ _ ?_);refine aP [] ?_;refine aW ?_;exact a6 (by simp[F0 hall])
theorem a9E (l:List Node) (f:FuncId) (cl:List (List AV)) (q:Node->Bool) (h:∀x∈l,a9 Tryz.prog f (.agg x.cells::H7 cl) (Bo (q x))) (hn:l.length<=100000):
  a9 Tryz.prog 110 [.lst 5 (l.map Node.cells), .clo f (H7 cl)] (Bo (l.any q)):=by
 refine oB Tryz.func110 Tryz.ntmps110 Tryz.results110 ?_;refine aW ?_;refine aW ?_ fun K hK=>by simp -dsimp;refine cI (a7Z l f cl q h hn) ?_;simp -dsimp;exact hK
 exact a6 (by simp[U4])
theorem a8T (l:List Rail) (f:FuncId) (cl:List (List AV)) (q:Rail->Bool) (h:∀x∈l,a9 Tryz.prog f (.agg x.cells::H7 cl) (Bo (q x))) (hn:l.length<=100000):
  a9 Tryz.prog 149 [.lst 5 (l.map Rail.cells), .clo f (H7 cl)] (I (Y7 l q)):=by
 refine oB Tryz.func149 Tryz.ntmps149 Tryz.results149 ?_;refine aW ?_;refine a5 fun K1 hK1=>?_;refine aW ?_;refine b8 ?_;refine aP [0,1,7,8] ?_;refine c6 [0,1,7] (α:=Nat) (fun k=>[(8,I k)]) (fun _=>[]) (fun k=>k<=l.length/\(l.take k).any q=false) (fun k=>l.length-k) 0 ?_ ?_ ?_
 ·simp
 ·exact c9 (by simp)
 rintro k ⟨k1,k2⟩;refine zN ?_;refine aW ?_;refine a5 fun K2 hK2=>?_;refine a7 rfl (fun hc0=>?_) (fun hc0=>?_)
 ·skip
  try simp at hc0
  obtain⟨x,hx⟩:=gx (l:=l) (i:=k) hc0;have wk:=zW k (by omega);refine b9 ?_;refine zQ (hK2 _ _ ?_);refine aP [0,1,7,8] ?_;refine a5 fun K3 hK3=>?_;refine b8 ?_;refine aW ?_;refine aW ?_ fun K hK=>by simp -dsimp [hx];refine cI (h x (qd hx)) ?_;simp -dsimp [hx];exact hK
  refine a7 rfl (fun hc1=>?_) (fun hc1=>?_)
  ·skip
   try simp at hc1
   refine aW ?_;exact a6 (by simp[P2 hx hc1 k2])
  ·skip
   try simp at hc1
   refine b9 ?_;refine zQ (hK3 _ _ ?_);refine aP [0,1,7,8] ?_;refine aV ?_ fun K hK=>by simp -dsimp [wk];exact hK
   refine zQ ?_;exact⟨k+1,⟨by omega,by rw[any_take hx,k2,hc1];rfl⟩,by omega,c9 (by simp)⟩
 ·skip
  try simp at hc0
  have hall:=v6 (by omega) k2;refine d4 ?_;refine zQ (hK1 _ _ ?_);refine aP [] ?_;refine aW ?_;exact a6 (by simp[F0 hall])
theorem b0K (l:List Rail) (f:FuncId) (cl:List (List AV)) (q:Rail->Bool) (h:∀x∈l,a9 Tryz.prog f (.agg x.cells::H7 cl) (Bo (q x))) (hn:l.length<=100000):
  a9 Tryz.prog 113 [.lst 5 (l.map Rail.cells), .clo f (H7 cl)] (Bo (l.any q)):=by
 refine oB Tryz.func113 Tryz.ntmps113 Tryz.results113 ?_;refine aW ?_;refine aW ?_ fun K hK=>by simp -dsimp;refine cI (a8T l f cl q h hn) ?_;simp -dsimp;exact hK
 exact a6 (by simp[U4])
theorem a8H (l:List Spot) (f:FuncId) (cl:List (List AV)) (q:Spot->Bool) (h:∀x∈l,a9 Tryz.prog f (.agg x.cells::H7 cl) (Bo (q x))) (hn:l.length<=100000):
  a9 Tryz.prog 233 [.lst 2 (l.map Spot.cells), .clo f (H7 cl)] (I (Y7 l q)):=by
 refine oB Tryz.func233 Tryz.ntmps233 Tryz.results233 ?_;refine aW ?_;refine a5 fun K1 hK1=>?_;refine aW ?_;refine b8 ?_;refine aP [0,1,7,8] ?_;refine c6 [0,1,7] (α:=Nat) (fun k=>[(8,I k)]) (fun _=>[]) (fun k=>k<=l.length/\(l.take k).any q=false) (fun k=>l.length-k) 0 ?_ ?_ ?_
 ·simp
 ·exact c9 (by simp)
 rintro k ⟨k1,k2⟩;refine zN ?_;refine aW ?_;refine a5 fun K2 hK2=>?_;refine a7 rfl (fun hc0=>?_) (fun hc0=>?_)
 ·skip
  try simp at hc0
  obtain⟨x,hx⟩:=gx (l:=l) (i:=k) hc0;have wk:=zW k (by omega);refine b9 ?_;refine zQ (hK2 _ _ ?_);refine aP [0,1,7,8] ?_;refine a5 fun K3 hK3=>?_;refine b8 ?_;refine aW ?_;refine aW ?_ fun K hK=>by simp -dsimp [hx];refine cI (h x (qd hx)) ?_;simp -dsimp [hx];exact hK
  refine a7 rfl (fun hc1=>?_) (fun hc1=>?_)
  ·skip
   try simp at hc1
   refine aW ?_;exact a6 (by simp[P2 hx hc1 k2])
  ·skip
   try simp at hc1
   refine b9 ?_;refine zQ (hK3 _ _ ?_);refine aP [0,1,7,8] ?_;refine aV ?_ fun K hK=>by simp -dsimp [wk];exact hK
   refine zQ ?_;exact⟨k+1,⟨by omega,by rw[any_take hx,k2,hc1];rfl⟩,by omega,c9 (by simp)⟩
 ·skip
  try simp at hc0
  have hall:=v6 (by omega) k2;refine d4 ?_;refine zQ (hK1 _ _ ?_);refine aP [] ?_;refine aW ?_;exact a6 (by simp[F0 hall])
theorem b0F (l:List Spot) (f:FuncId) (cl:List (List AV)) (q:Spot->Bool) (h:∀x∈l,a9 Tryz.prog f (.agg x.cells::H7 cl) (Bo (q x))) (hn:l.length<=100000):
  a9 Tryz.prog 221 [.lst 2 (l.map Spot.cells), .clo f (H7 cl)] (Bo (l.any q)):=by
 refine oB Tryz.func221 Tryz.ntmps221 Tryz.results221 ?_;refine aW ?_;refine aW ?_ fun K hK=>by simp -dsimp;refine cI (a8H l f cl q h hn) ?_;simp -dsimp;exact hK
 exact a6 (by simp[U4])
theorem a5j (l:List Profile) (f:FuncId) (cl:List (List AV)) (q:Profile->Bool) (h:∀x∈l,a9 Tryz.prog f (.agg x.cells::H7 cl) (Bo (q x))) (hn:l.length<=100000):
  a9 Tryz.prog 184 [.lst 2 (l.map Profile.cells), .clo f (H7 cl)] (I (Y7 l q)):=by
 refine oB Tryz.func184 Tryz.ntmps184 Tryz.results184 ?_;refine aW ?_;refine a5 fun K1 hK1=>?_;refine aW ?_;refine b8 ?_;refine aP [0,1,7,8] ?_;refine c6 [0,1,7] (α:=Nat) (fun k=>[(8,I k)]) (fun _=>[]) (fun k=>k<=l.length/\(l.take k).any q=false) (fun k=>l.length-k) 0 ?_ ?_ ?_
 ·simp
 ·exact c9 (by simp)
 rintro k ⟨k1,k2⟩;refine zN ?_;refine aW ?_;refine a5 fun K2 hK2=>?_;refine a7 rfl (fun hc0=>?_) (fun hc0=>?_)
 ·skip
  try simp at hc0
  obtain⟨x,hx⟩:=gx (l:=l) (i:=k) hc0;have wk:=zW k (by omega);refine b9 ?_;refine zQ (hK2 _ _ ?_);refine aP [0,1,7,8] ?_;refine a5 fun K3 hK3=>?_;refine b8 ?_;refine aW ?_;refine aW ?_ fun K hK=>by simp -dsimp [hx];refine cI (h x (qd hx)) ?_;simp -dsimp [hx];exact hK
  refine a7 rfl (fun hc1=>?_) (fun hc1=>?_)
  ·skip
   try simp at hc1
   refine aW ?_;exact a6 (by simp[P2 hx hc1 k2])
  ·skip
   try simp at hc1
   refine b9 ?_;refine zQ (hK3 _ _ ?_);refine aP [0,1,7,8] ?_;refine aV ?_ fun K hK=>by simp -dsimp [wk];exact hK
   refine zQ ?_;exact⟨k+1,⟨by omega,by rw[any_take hx,k2,hc1];rfl⟩,by omega,c9 (by simp)⟩
 ·skip
  try simp at hc0
  have hall:=v6 (by omega) k2;refine d4 ?_;refine zQ (hK1 _ _ ?_);refine aP [] ?_;refine aW ?_;exact a6 (by simp[F0 hall])
theorem a5w (l:List Profile) (f:FuncId) (cl:List (List AV)) (q:Profile->Bool) (h:∀x∈l,a9 Tryz.prog f (.agg x.cells::H7 cl) (Bo (q x))) (hn:l.length<=100000):
  a9 Tryz.prog 158 [.lst 2 (l.map Profile.cells), .clo f (H7 cl)] (Bo (l.any q)):=by
 refine oB Tryz.func158 Tryz.ntmps158 Tryz.results158 ?_;refine aW ?_;refine aW ?_ fun K hK=>by simp -dsimp;refine cI (a5j l f cl q h hn) ?_;simp -dsimp;exact hK
 exact a6 (by simp[U4])
theorem b8q (n:Node):a9 Tryz.prog 111 [.agg n.cells] (Bo (!C3 n)):=by
 refine oB Tryz.func111 Tryz.ntmps111 Tryz.results111 ?_;refine aW ?_;refine aW ?_ fun K hK=>by simp -dsimp;refine cI (c1x n) ?_;simp -dsimp;exact hK
 exact a6 (by simp)
theorem b7i (p:Plan) (r:Rail) (hA:p.Nodes.all C3=true) (hN:p.Nodes.length<=300):a9 Tryz.prog 114 [.agg r.cells, .iptr p.cells] (Bo (!E5 p r)):=by
 refine oB Tryz.func114 Tryz.ntmps114 Tryz.results114 ?_;refine aW ?_;refine aW ?_ fun K hK=>by simp -dsimp;refine cI (c1b p r hA hN) ?_;simp -dsimp;exact hK
 exact a6 (by simp)
end Go.Tram
end
section
namespace Go.Tram
open Go.AM Go.Proofs
def a2T (e:E1):List KC:=[.i .i64 e.Rail, .b e.Last]
theorem a1Y {a b:E1}:a2T a=a2T b↔a=b:=by
 cases a;cases b;simp[a2T]
def a3J (l:List (Nat×E1)):List (List KC×Value):=l.map fun x=>(a2T x.2,Value.bool true)
theorem a6h (e:E1):∀l:List (Nat×E1),s8 (a3J l) [.i .i64 e.Rail, .b e.Last]=if e∈l.map (·.2)then some (.bool true)else none
 |[]=>by simp[a3J,s8]
 |x::l=>by
  have ih:=a6h e l;have hk:([.i .i64 e.Rail, .b e.Last]:List KC)=a2T x.2↔e=x.2:=a1Y (a:=e);simp only[a3J,List.map_cons,s8,List.mem_cons]at ih ⊢
  by_cases h:e=x.2
  ·rw[if_pos (hk.2 h),if_pos (Or.inl h)]
  ·rw[if_neg (fun q=>h (hk.1 q)),ih];simp only[h,false_or]
theorem a5Y {e:E1} {i:Nat}:∀{l:List (Nat×E1)},e∉l.map (·.2)->M9 (a3J l) [.i .i64 e.Rail, .b e.Last] (.bool true)=a3J (l++[(i,e)])
 |[],_=>by simp[a3J,M9,a2T]
 |x::l,h=>by
  simp only[List.map_cons,List.mem_cons,not_or]at h;have ih:=a5Y (i:=i) h.2;have hk:([.i .i64 e.Rail, .b e.Last]:List KC)=a2T x.2↔e=x.2:=a1Y (a:=e);simp only[a3J,List.map_cons,M9,List.cons_append]at ih ⊢;rw[if_neg (fun q=>h.1 (hk.1 q)),ih]
theorem b0C (p:Plan):a9 Tryz.prog 67 [p.av] (I (if d8 p then 0 else 2)):=by
 refine oB Tryz.func67 Tryz.ntmps67 Tryz.results67 ?_;refine aW ?_;refine a5 fun K1 hK1=>?_;refine aW ?_ fun K hK=>by simp -dsimp;refine cI (D5 _ _ _) ?_;simp -dsimp;refine cY (fun hm=>D5 _ _ _) ?_;simp -dsimp;exact hK
 refine a7 rfl (fun hc0=>?_) (fun hc0=>?_)
 ·skip
  try simp at hc0
  have hv:d8 p=false:=by simp[d8,a1d];intro h1 h2;simp_all
  refine aW ?_;exact a6 (by simp[hv])
 ·skip
  try simp at hc0
  have hN:=g6.1 hc0.1;have hR:=g6.1 hc0.2;refine b9 ?_;refine zQ (hK1 _ _ ?_);refine aP [1] ?_;refine a5 fun K2 hK2=>?_;refine aW ?_ fun K hK=>by simp -dsimp;refine cI (a9E p.Nodes 111 [] (fun n=> !C3 n) (fun n _=>b8q n) (by omega)) ?_;simp -dsimp;refine cY (fun hm=>b0K p.Rails 114 [p.cells] (fun r=> !E5 p r) (fun r _=>b7i p r (by simp at hm;exact qn.2 hm) (by omega)) (by omega)) ?_;simp -dsimp;exact hK
  refine a7 rfl (fun hc1=>?_) (fun hc1=>?_)
  ·have hv:d8 p=false:=by
    cases hq:d8 p with
    |false=>rfl
    |true=>
     obtain⟨_,_,hA,hB,_⟩:=j9 hq;rw[qn]at hA hB;have e1:(p.Nodes.any fun n=> !C3 n)=false:=by rw[List.any_eq_false];intro x hx;simp[hA x hx]
     have e2:(p.Rails.any fun r=> !E5 p r)=false:=by rw[List.any_eq_false];intro x hx;simp[hB x hx]
     simp[e1,e2]at hc1
   refine aW ?_;exact a6 (by simp[hv])
  ·have hA:p.Nodes.all C3=true:=by simp at hc1;exact qn.2 hc1.1
   have hB:p.Rails.all (E5 p)=true:=by simp at hc1;exact qn.2 hc1.2
   refine b9 ?_;refine zQ (hK2 _ _ ?_);refine aP [1] ?_;refine aW ?_;refine a5 fun K3 hK3=>?_;refine aW ?_;refine b8 ?_;refine aP [1,3,31,32,33] ?_;refine c6 [1,3,31,32] (α:=Nat) (fun i=>[(33,I i)]) (fun i=>[some (.els 2 [p.cells]),some (.map true [.i .i64, .b] (a3J (s6 p i)))]) (fun i=>i<=p.Nodes.length/\(s6 p i).all (endB p)=true/\((s6 p i).map (·.2)).Nodup) (fun i=>p.Nodes.length-i) 0 ?_ ?_ ?_
   ·simp[s6]
   ·exact c9 (by simp[s6,a3J])
   rintro i ⟨i1,i2,i3⟩;refine zN ?_;refine aW ?_;refine a5 fun K4 hK4=>?_;refine a7 rfl (fun hc2=>?_) (fun hc2=>?_)
   ·skip
    try simp at hc2
    have n0:=p.node_get (i:=(i:Int)) (by omega) (by omega);simp only[Int.toNat_natCast]at n0;have wi:=zW i (by omega);have wr:IntKind.i64.wrap ((p.Rails.length:Int)-1)=(p.Rails.length:Int)-1:=c4 (by omega) (by omega);have hle:=a0c (C4 hA (i:=(i:Int)) (by omega) (by omega));refine b9 ?_;refine zQ (hK4 _ _ ?_);refine aP [1,3,31,32,33] ?_;refine a5 fun K5 hK5=>?_;refine b8 ?_;refine aW ?_ fun K hK=>by simp -dsimp [n0];exact hK
    refine aW ?_;refine b8 ?_;refine aP [1,3,4,31,32,33,39,40,41] ?_;refine c6 [1,3,4,31,32,33,39,40] (α:=Nat) (fun j=>[(41,I j)]) (fun j=>[some (.els 2 [p.cells]),some (.map true [.i .i64, .b] (a3J (a0S p i j)))]) (fun j=>j<=(p.node i).Ends.length/\(a0S p i j).all (endB p)=true/\((a0S p i j).map (·.2)).Nodup) (fun j=>(p.node i).Ends.length-j) 0 ?_ ?_ ?_
    ·rw[a1X];exact⟨by omega,i2,i3⟩
    ·simp only[a1X];exact aB [some 0,some 1]
    rintro j ⟨j1,j2,j3⟩;refine zN ?_;refine aW ?_;refine a5 fun K6 hK6=>?_;refine a7 rfl (fun hc3=>?_) (fun hc3=>?_)
    ·skip
     try simp at hc3
     obtain⟨e,he⟩:∃e,(p.node i).Ends[j]?=some e:=⟨_,qc hc3⟩;have wj:=zW j (by omega);refine b9 ?_;refine zQ (hK6 _ _ ?_);refine aP [1,3,4,31,32,33,39,40,41] ?_;refine a5 fun K7 hK7=>?_;refine b8 ?_;refine aW ?_ fun K hK=>by simp -dsimp [he];exact hK
     refine a5 fun K8 hK8=>?_;refine aS fun K hK=>?_;simp -dsimp [wr];refine cI (D5 _ _ _) ?_;simp -dsimp [wr];refine d7 (Bo (decide (e∈(a0S p i j).map (·.2)))) (fun hm=>by rw[a6h];split<;>simp_all) ?_
     simp -dsimp [wr];refine cY (fun hm=>a7v p e (by simp[g6]at hm;omega) (by simp[g6]at hm;omega)) ?_;simp -dsimp [wr];apply hK;clear hK K;refine a7 rfl (fun hc4=>?_) (fun hc4=>?_)
     ·have hv:d8 p=false:=by
       by_cases hb:endB p (i,e)=true
       ·have hb':=hb;simp only[endB,qh,decide_eq_true_eq]at hb';simp[hb'.1,hb'.2]at hc4;obtain⟨a,ha⟩:=hc4;obtain⟨m,hm⟩:=List.getElem?_of_mem ha;exact a0w hc2 he hm rfl
       ·exact a3m hc2 he (by simpa using hb)
      refine aW ?_;exact a6 (by simp[hv])
     ·have hc4':inr e.Rail 0 (p.Rails.length-1)=true/\e∉ (a0S p i j).map (·.2)/\p.at e=(i:Int):=by simp at hc4;simp;grind
      obtain⟨q1,q2,q3⟩:=hc4';have p9:=a5Y (i:=i) q2;refine b9 ?_;refine zQ (hK8 _ _ ?_);refine aP [1,3,4,7,31,32,33,39,40,41] ?_;refine aV ?_ fun K hK=>by simp -dsimp [p9];exact hK
      refine zQ (hK7 _ _ ?_);refine aP [1,3,4,31,32,33,39,40,41] ?_;refine aV ?_ fun K hK=>by simp -dsimp [wj];exact hK
      refine zQ ?_;refine⟨j+1,⟨by omega,?_,?_⟩,by omega,g7 [some 0,some 1] rfl (by simp) (by simp[Q9 he])⟩
      ·rw[Q9 he,List.all_append,j2];simp[endB,q1,q3]
      ·rw[Q9 he,List.map_append,List.nodup_append];refine⟨j3,by simp,?_⟩;intro a ha b hb;simp only[List.map_cons,List.map_nil,List.mem_singleton]at hb;subst hb;intro hab;exact q2 (hab▸ha)
    ·skip
     try simp at hc3
     have hce:=b1S (p:=p) (i:=i) (j:=j) (by omega);refine d4 ?_;refine zQ (hK5 _ _ ?_);refine aP [1,3,31,32,33] ?_;refine aV ?_ fun K hK=>by simp -dsimp [wi];exact hK
     refine zQ ?_;exact⟨i+1,⟨by omega,by rw[<-hce];exact j2,by rw[<-hce];exact j3⟩,by omega,by simp only[<-hce];exact c9 (by simp)⟩
   ·skip
    try simp at hc2
    have hii:i=p.Nodes.length:=by omega
    subst hii;have hle:=a0D hA p.Nodes.length (qo _);have w2:IntKind.i64.wrap (2*(p.Rails.length:Int))=2*(p.Rails.length:Int):=c4 (by omega) (by omega);have hsl:(a3J (s6 p p.Nodes.length)).length=(s6 p p.Nodes.length).length:=by simp[a3J]
    refine d4 ?_;refine zQ (hK3 _ _ ?_);refine aP [1,3] ?_;refine a5 fun K9 hK9=>?_;refine aW ?_ fun K hK=>by simp -dsimp [w2,hsl];exact hK
    refine a7 rfl (fun hc5=>?_) (fun hc5=>?_)
    ·have hv:d8 p=decide ((s6 p p.Nodes.length).length=2*p.Rails.length):=by simp[d8,a1d,a1b,hc0,hA,hB,i2,i3]
     try simp at hc5
     refine aW ?_;exact a6 (by simp[hv];omega)
    ·have hv:d8 p=decide ((s6 p p.Nodes.length).length=2*p.Rails.length):=by simp[d8,a1d,a1b,hc0,hA,hB,i2,i3]
     try simp at hc5
     refine b9 ?_;refine zQ (hK9 _ _ ?_);refine aP [] ?_;refine aW ?_;exact a6 (by simp[hv];omega)
end Go.Tram
end
section
namespace Go.Tram
open Go.AM Go.Proofs
def b4S (kvs:List (List KC×Value)) (es:List E1):Nat->List (List KC×Value)
 |0=>kvs
 |j+1=>M9 (b4S kvs es j) (a2T (es[j]?.getD default)) (.int .i64 j)
def I1 (p:Plan):Nat->List (List KC×Value)
 |0=>[]
 |i+1=>b4S (I1 p i) (p.node i).Ends (p.node i).Ends.length
def L0 (p:Plan) (n:Nat):List (List AV):=(List.range n).map fun(r:Nat)=>[I (p.len r)]
def net (p:Plan):List AV:=p.cells++[.lst 1 (L0 p p.Rails.length), .mpc true [.i .i64, .b] (I1 p p.Nodes.length)]
theorem b6x (p:Plan) (n:Nat):(L0 p n).length=n:=by simp[L0]
theorem b3D (p:Plan) (n:Nat):L0 p (n+1)=L0 p n++[[I (p.len n)]]:=by simp[L0,List.range_succ]
theorem b6B {p:Plan} {n k:Nat} (h:k<n):(L0 p n)[k]?=some [I (p.len k)]:=by simp[L0,h]
theorem a1I (p:Plan) (n:Nat) (g:List (Option Nat)):(L0 p n).map (fun e=>e.map (p5 g 3))=L0 p n:=by unfold L0;rw[List.map_map];exact List.map_congr_left fun s _=>rfl
theorem b5S (p:Plan) (n m:Nat) (H:Hp):(L0 p n).map (fun e=>e.map (M0 H (m+1)))=L0 p n:=by unfold L0;rw[List.map_map];exact List.map_congr_left fun s _=>rfl
theorem b6R (p:Plan) (r:Int) (ro:a0g p r):a9 Tryz.prog 150 [p.av,(p.rail r).av] (.lst 2 ((p.line r).map Spot.cells)):=
 b5z p (p.rail r) ro.f ro.t (by have:=ro.s;omega)
theorem V8 (p:Plan) (h:d8 p=true):a9 Tryz.prog 128 [p.av] (.tup [.iptr (net p),Bo true]):=by
 have hck:=b0C p;rw[h]at hck;obtain⟨hN,hR,hA,hB,_⟩:=j9 h;refine oB Tryz.func128 Tryz.ntmps128 Tryz.results128 ?_;refine aW ?_;refine a5 fun K1 hK1=>?_;refine aW ?_ fun K hK=>by simp -dsimp;refine cI (hck) ?_;simp -dsimp;exact hK
 refine a7 rfl (fun hc0=>?_) (fun hc0=>?_)
 ·simp at hc0
 ·refine b9 ?_;refine zQ (hK1 _ _ ?_);refine aP [1] ?_;refine aW ?_;refine a5 fun K2 hK2=>?_;refine aW ?_;refine b8 ?_;refine aP [1,4,22,23,24] ?_;refine c6 [1,4,22,23] (α:=Nat) (fun k=>[(24,I k)]) (fun k=>[some (.els 2 [p.cells]),some (.map true [.i .i64, .b] []),some (.els 4 [p.cells++[.row 3 0 (L0 p k).length, .mp 1]]),some (.els 1 (L0 p k))]) (fun k=>k<=p.Rails.length) (fun k=>p.Rails.length-k) 0 ?_ ?_ ?_
  ·simp
  ·exact(a2f 2 0 2 1 (es:=[p.cells++[.v (.slice none 0 0), .mp 1]]) (e:=p.cells++[.v (.slice none 0 0), .mp 1]) (by simp) (by simp) (by simp)).trans (c9 (by simp[L0]))
  rintro k k1;refine zN ?_;refine aW ?_;refine a5 fun K3 hK3=>?_;refine a7 rfl (fun hc1=>?_) (fun hc1=>?_)
  ·skip
   try simp at hc1
   have g0:=p.rail_get (i:=(k:Int)) (by omega) (by omega);simp only[Int.toNat_natCast]at g0;have ro:=P9 h (r:=(k:Int)) (by omega) (by omega);have hl:=ro.len;have hs30:=ro.s;have wk:=zW k (by omega);have f1:R2 (k+1) 9:=n7 (by omega) (by omega);have hll:=b6x p k;have htk:(L0 p k).take k=L0 p k:=qg (by omega);refine b9 ?_;refine zQ (hK3 _ _ ?_);refine aP [1,4,22,23,24] ?_;refine a5 fun K4 hK4=>?_;refine b8 ?_;refine aW ?_ fun K hK=>by simp -dsimp [g0];exact hK
   refine aW ?_ fun K hK=>by simp -dsimp;refine cI (b6R p k ro) ?_;simp -dsimp;exact hK
   refine aW ?_;refine a5 fun K5 hK5=>?_;refine aW ?_;refine b8 ?_;refine aP [1,4,7,8,9,22,23,24] ?_;refine c6 [1,4,7,22,23,24] (α:=Nat) (fun i=>[(8,I (N7 (p.line k) (i-1))),(9,I i)]) (fun _=>[some (.els 2 [p.cells]),some (.map true [.i .i64, .b] []),some (.els 4 [p.cells++[.row 3 0 (L0 p k).length, .mp 1]]),some (.els 1 (L0 p k))]) (fun i=>1<=i/\i<=(p.line k).length) (fun i=>(p.line k).length-i) 1 ?_ ?_ ?_
   ·omega
   ·exact g7 [some 0,some 1,some 2,some 3] rfl (by simp[N7]) (by simp[a1I])
   rintro i ⟨j1,j2⟩;refine zN ?_;refine a5 fun K6 hK6=>?_;refine aW ?_;refine a7 rfl (fun hc2=>?_) (fun hc2=>?_)
   ·skip
    try simp at hc2
    have wi:IntKind.i64.wrap ((i:Int)-1)=((i-1:Nat):Int):=by rw[c4 (by omega) (by omega)];omega
    have wj:=zW i (by omega);have g1:=y8 (l:=p.line k) (k:=i-1) (by omega);have g2:=y8 (l:=p.line k) (k:=i) (by omega);have q1:=a1N ro (i-1) (by omega);have q2:=c4u (ro.spot (i-1) (by omega)) (ro.spot i (by omega));have wa:IntKind.i64.wrap (N7 (p.line k) (i-1)+far (nth (p.line k) (i-1)) (nth (p.line k) i))=N7 (p.line k) (i-1)+far (nth (p.line k) (i-1)) (nth (p.line k) i):=c4 (by omega) (by omega);refine b9 ?_;refine zQ (hK6 _ _ ?_);refine aP [1,4,7,8,9,22,23,24] ?_;refine a5 fun K7 hK7=>?_;refine b8 ?_;refine aE ?_ fun K hK=>by simp -dsimp [wi,g1,g2,wa];refine cI (c0w (nth (p.line k) (i-1)) (nth (p.line k) i) (ro.spot _ (by omega)) (ro.spot _ (by omega))) ?_;simp -dsimp [wi,g1,g2,wa];exact hK
    refine zQ (hK7 _ _ ?_);refine aP [1,4,7,8,9,22,23,24] ?_;refine aV ?_ fun K hK=>by simp -dsimp [wj];exact hK
    refine zQ ?_;obtain⟨j,rfl⟩:∃j,i=j+1:=⟨i-1,by omega⟩;exact⟨j+2,⟨by omega,by omega⟩,by omega,c9 (by simp[N7,D4]<;>omega)⟩
   ·skip
    try simp at hc2
    have hlen:N7 (p.line k) (i-1)=p.len k:=by unfold Plan.len;congr 1;omega
    refine d4 ?_;refine zQ (hK5 _ _ ?_);refine aP [1,4,8,22,23,24] ?_;refine aV ?_ fun K hK=>by simp -dsimp [hlen,hll,f1];exact hK
    refine zQ (hK4 _ _ ?_);refine aP [1,4,22,23,24] ?_;refine aV ?_ fun K hK=>by simp -dsimp [wk];exact hK
    refine zQ ?_;exact⟨k+1,by omega,by omega,g7 [some 0,some 1,some 2,some 4] rfl (by simp) (by simp[b3D,a1I,hll,htk])⟩
  ·skip
   try simp at hc1
   have hk:k=p.Rails.length:=by omega
   subst hk;refine d4 ?_;refine zQ (hK2 _ _ ?_);refine aP [1,4] ?_;refine a5 fun K8 hK8=>?_;refine aW ?_;refine b8 ?_;refine aP [4,61,62,63] ?_;refine c6 [4,61,62] (α:=Nat) (fun i=>[(63,I i)]) (fun i=>[some (.els 2 [p.cells]),some (.map true [.i .i64, .b] (I1 p i)),some (.els 4 [p.cells++[.row 3 0 (L0 p p.Rails.length).length, .mp 1]]),some (.els 1 (L0 p p.Rails.length))]) (fun i=>i<=p.Nodes.length) (fun i=>p.Nodes.length-i) 0 ?_ ?_ ?_
   ·simp
   ·exact c9 (by simp)
   rintro i i1;refine zN ?_;refine aW ?_;refine a5 fun K9 hK9=>?_;refine a7 rfl (fun hc3=>?_) (fun hc3=>?_)
   ·skip
    try simp at hc3
    have n0:=p.node_get (i:=(i:Int)) (by omega) (by omega);simp only[Int.toNat_natCast]at n0;have wi:=zW i (by omega);have hle:=a0c (C4 hA (i:=(i:Int)) (by omega) (by omega));refine b9 ?_;refine zQ (hK9 _ _ ?_);refine aP [4,61,62,63] ?_;refine a5 fun K10 hK10=>?_;refine b8 ?_;refine aW ?_ fun K hK=>by simp -dsimp [n0];exact hK
    refine aW ?_;refine b8 ?_;refine aP [4,61,62,63,68,69,70] ?_;refine c6 [4,61,62,63,68,69] (α:=Nat) (fun j=>[(70,I j)]) (fun j=>[some (.els 2 [p.cells]),some (.map true [.i .i64, .b] (b4S (I1 p i) (p.node i).Ends j)),some (.els 4 [p.cells++[.row 3 0 (L0 p p.Rails.length).length, .mp 1]]),some (.els 1 (L0 p p.Rails.length))]) (fun j=>j<=(p.node i).Ends.length) (fun j=>(p.node i).Ends.length-j) 0 ?_ ?_ ?_
    ·simp
    ·exact g7 [some 0,some 1,some 2,some 3] rfl (by simp) (by simp[b4S,a1I])
    rintro j j1;refine zN ?_;refine aW ?_;refine a5 fun K11 hK11=>?_;refine a7 rfl (fun hc4=>?_) (fun hc4=>?_)
    ·skip
     try simp at hc4
     obtain⟨e,he⟩:∃e,(p.node i).Ends[j]?=some e:=⟨_,qc hc4⟩;have wj:=zW j (by omega);refine b9 ?_;refine zQ (hK11 _ _ ?_);refine aP [4,61,62,63,68,69,70] ?_;refine a5 fun K12 hK12=>?_;refine b8 ?_;refine aW ?_ fun K hK=>by simp -dsimp [he];exact hK
     refine aE ?_;refine zQ (hK12 _ _ ?_);refine aP [4,61,62,63,68,69,70] ?_;refine aV ?_ fun K hK=>by simp -dsimp [wj];exact hK
     refine zQ ?_;exact⟨j+1,by omega,by omega,g7 [some 0,some 1,some 2,some 3] rfl (by simp) (by simp[b4S,he,a2T,a1I])⟩
    ·skip
     try simp at hc4
     have hj:j=(p.node i).Ends.length:=by omega
     subst hj;refine d4 ?_;refine zQ (hK10 _ _ ?_);refine aP [4,61,62,63] ?_;refine aV ?_ fun K hK=>by simp -dsimp [wi];exact hK
     refine zQ ?_;exact⟨i+1,by omega,by omega,c9 (by simp[I1])⟩
   ·skip
    try simp at hc3
    have hi:i=p.Nodes.length:=by omega
    subst hi;refine d4 ?_;refine zQ (hK8 _ _ ?_);refine aP [4] ?_;refine aW ?_;exact a6 (by simp[net,b5S])
theorem a6e (p:Plan) (r:Int) (b:Bool) (h:d8 p=true):a9 Tryz.prog 171 [.iptr (net p), .agg [I r,Bo b]] (Bo (inr r 0 (p.Rails.length-1))):=by
 obtain⟨hN,hR,_⟩:=j9 h;have w:IntKind.i64.wrap ((p.Rails.length:Int)-1)=(p.Rails.length:Int)-1:=c4 (by omega) (by omega);unfold net;refine oB Tryz.func171 Tryz.ntmps171 Tryz.results171 ?_;refine aW ?_;refine aD ?_ fun K hK=>by simp -dsimp [w];refine cI (D5 _ _ _) ?_;simp -dsimp [w];exact hK
 exact a6 (by simp)
theorem c2w (p:Plan) (r:Int) (h:d8 p=true) (h0:0<=r) (h1:r<p.Rails.length):a9 Tryz.prog 152 [p.av,I r] (.tup [.lst 2 ((p.line r).map Spot.cells),I 0]):=by
 have ro:=P9 h h0 h1;have g0:=p.rail_get h0 h1;have hin:inr r 0 (p.Rails.length-1)=true:=g6.2 (by omega);refine oB Tryz.func152 Tryz.ntmps152 Tryz.results152 ?_;refine aW ?_;refine aW ?_ fun K hK=>by simp -dsimp;refine cI (V8 p h) ?_;simp -dsimp;exact hK
 refine a5 fun K1 hK1=>?_;refine aW ?_ fun K hK=>by simp -dsimp;refine cY (fun hm=>a6e p r false h) ?_;simp -dsimp;exact hK
 refine a7 rfl (fun hc0=>?_) (fun hc0=>?_)
 ·simp[hin]at hc0
 ·refine b9 ?_;refine zQ (hK1 _ _ ?_);refine aP [1,2] ?_;refine aD ?_ fun K hK=>by simp -dsimp [g0,h0];refine cI (b6R p r ro) ?_;simp -dsimp [g0,h0];exact hK
  exact a6 (by simp)
end Go.Tram
end
section
namespace Go.Tram
open Go.AM Go.Proofs
@[simp] def vec (a b:Spot):AV:= .agg [I (b.X-a.X),I (b.Y-a.Y)]
theorem A3 {a b:Spot} (ha:l7 a=true) (hb:l7 b=true):(-20000000<=b.X-a.X/\b.X-a.X<=20000000)/\(-20000000<=b.Y-a.Y/\b.Y-a.Y<=20000000):=by
 rw[K0]at ha hb;omega
theorem a2h (a b:Spot) (ha:l7 a=true) (hb:l7 b=true):a9 Tryz.prog 155 [a.av,b.av] (vec a b):=by
 have hd:=A3 ha hb;have w1:IntKind.i64.wrap (b.X-a.X)=b.X-a.X:=c4 (by omega) (by omega);have w2:IntKind.i64.wrap (b.Y-a.Y)=b.Y-a.Y:=c4 (by omega) (by omega);refine oB Tryz.func155 Tryz.ntmps155 Tryz.results155 ?_;refine aW ?_;refine aW ?_ fun K hK=>by simp -dsimp [w1,w2];exact hK
 exact a6 (by simp)
theorem a8I (a b c d:Spot) (ha:l7 a=true) (hb:l7 b=true) (hc:l7 c=true) (hd:l7 d=true):a9 Tryz.prog 157 [vec a b,vec c d] (I (z4 a b c d)):=by
 have h1:=A3 ha hb;have h2:=A3 hc hd;have m1:=y6 (a:=b.X-a.X) (b:=d.X-c.X) (A:=20000000) (B:=20000000) (by omega) (by omega) (by omega) (by omega);have m2:=y6 (a:=b.Y-a.Y) (b:=d.Y-c.Y) (A:=20000000) (B:=20000000) (by omega) (by omega) (by omega) (by omega);have w1:IntKind.i64.wrap ((b.X-a.X)*(d.X-c.X))=(b.X-a.X)*(d.X-c.X):=c4 (by omega) (by omega);have w2:IntKind.i64.wrap ((b.Y-a.Y)*(d.Y-c.Y))=(b.Y-a.Y)*(d.Y-c.Y):=c4 (by omega) (by omega);have w3:IntKind.i64.wrap ((b.X-a.X)*(d.X-c.X)+(b.Y-a.Y)*(d.Y-c.Y))=z4 a b c d:=c4 (by omega) (by omega);refine oB Tryz.func157 Tryz.ntmps157 Tryz.results157 ?_;refine aW ?_;refine aW ?_ fun K hK=>by simp -dsimp [w1,w2,w3];exact hK
 exact a6 (by simp)
theorem b0N (a b c d:Spot) (ha:l7 a=true) (hb:l7 b=true) (hc:l7 c=true) (hd:l7 d=true):a9 Tryz.prog 181 [vec a b,vec c d] (I (j6 a b c d)):=by
 have h1:=A3 ha hb;have h2:=A3 hc hd;have m1:=y6 (a:=b.X-a.X) (b:=d.Y-c.Y) (A:=20000000) (B:=20000000) (by omega) (by omega) (by omega) (by omega);have m2:=y6 (a:=b.Y-a.Y) (b:=d.X-c.X) (A:=20000000) (B:=20000000) (by omega) (by omega) (by omega) (by omega);have w1:IntKind.i64.wrap ((b.X-a.X)*(d.Y-c.Y))=(b.X-a.X)*(d.Y-c.Y):=c4 (by omega) (by omega);have w2:IntKind.i64.wrap ((b.Y-a.Y)*(d.X-c.X))=(b.Y-a.Y)*(d.X-c.X):=c4 (by omega) (by omega);have w3:IntKind.i64.wrap ((b.X-a.X)*(d.Y-c.Y)-(b.Y-a.Y)*(d.X-c.X))=j6 a b c d:=c4 (by omega) (by omega);refine oB Tryz.func181 Tryz.ntmps181 Tryz.results181 ?_;refine aW ?_;refine aW ?_ fun K hK=>by simp -dsimp [w1,w2,w3];exact hK
 exact a6 (by simp)
theorem b3s (a b c d:Spot) (ha:l7 a=true) (hb:l7 b=true) (hc:l7 c=true) (hd:l7 d=true):a9 Tryz.prog 154 [vec a b,vec c d] (Bo (decide (j6 a b c d=0)&&decide (0<z4 a b c d))):=by
 refine oB Tryz.func154 Tryz.ntmps154 Tryz.results154 ?_;refine aW ?_;refine aW ?_ fun K hK=>by simp -dsimp;refine cI (b0N a b c d ha hb hc hd) ?_;simp -dsimp;refine cY (fun hm=>a8I a b c d ha hb hc hd) ?_;simp -dsimp;exact hK
 exact a6 (by simp;rfl)
theorem b3I (B:Int) (f:FuncId) (cl:List (List AV)) (q:Int->Bool) (hB:0<=B) (hB':B<=1000000000) (h:∀x,0<=x->x<=B->a9 Tryz.prog f (I x::H7 cl) (Bo (q x))):
  a9 Tryz.prog 182 [I B, .clo f (H7 cl)] (I (bis q (B+1).toNat 0 (B+1))):=by
 have w0:IntKind.i64.wrap (B+1)=B+1:=c4 (by omega) (by omega);refine oB Tryz.func182 Tryz.ntmps182 Tryz.results182 ?_;refine aW ?_;refine aW ?_ fun K hK=>by simp -dsimp [w0];exact hK
 refine a5 fun K1 hK1=>?_;refine b8 ?_;refine aP [1,5,6] ?_;refine c6 [1] (α:=Int×Int) (fun x=>[(5,I x.1),(6,I x.2)]) (fun x=>[]) (fun x=>0<=x.1/\x.1<x.2/\x.2<=B+1/\bis q (B+1).toNat 0 (B+1)=bis q (B+1).toNat x.1 x.2) (fun x=>(x.2-x.1).toNat) (0,B+1) ?_ ?_ ?_
 ·simp;omega
 ·exact c9 (by simp)
 rintro⟨lo,hi⟩ ⟨i1,i2,i3,i4⟩;simp only[]at i1 i2 i3 i4;have w1:IntKind.i64.wrap (hi-lo)=hi-lo:=c4 (by omega) (by omega);have w2:IntKind.i64.wrap (lo+hi)=lo+hi:=c4 (by omega) (by omega);have w3:(lo+hi).tdiv 2=(lo+hi)/2:=Int.tdiv_eq_ediv_of_nonneg (by omega);have w4:IntKind.i64.wrap ((lo+hi)/2)=(lo+hi)/2:=c4 (by omega) (by omega);refine zN ?_;refine a5 fun K2 hK2=>?_;refine aW ?_ fun K hK=>by simp -dsimp [w1];exact hK
 refine a7 rfl (fun hc0=>?_) (fun hc0=>?_)
 ·skip
  try simp at hc0
  have hstep:bis q (B+1).toNat lo hi=if q ((lo+hi)/2)then bis q (B+1).toNat ((lo+hi)/2) hi else bis q (B+1).toNat lo ((lo+hi)/2):=by
   rw[a6S (B+1).toNat ((B+1).toNat+1) lo hi (by omega) (by omega)]
   conv=>lhs;unfold bis
   rw[if_pos (by omega)]
  refine b9 ?_;refine zQ (hK2 _ _ ?_);refine aP [1,5,6] ?_;refine b8 ?_;refine aW ?_ fun K hK=>by simp -dsimp [w2,w3,w4];exact hK
  refine aW ?_ fun K hK=>by simp -dsimp;refine cI (h ((lo+hi)/2) (by omega) (by omega)) ?_;simp -dsimp;exact hK
  refine a7 rfl (fun hc1=>?_) (fun hc1=>?_)
  ·skip
   try simp at hc1
   have hs2:bis q (B+1).toNat 0 (B+1)=bis q (B+1).toNat ((lo+hi)/2) hi:=by rw[i4,hstep,if_pos hc1]
   refine aV ?_;refine zQ ?_;exact⟨((lo+hi)/2,hi),⟨by simp only[];omega,by simp only[];omega,by simp only[];omega,hs2⟩,by simp only[];omega,c9 (by simp)⟩
  ·skip
   try simp at hc1
   have hs3:bis q (B+1).toNat 0 (B+1)=bis q (B+1).toNat lo ((lo+hi)/2):=by rw[i4,hstep,if_neg (by rw[hc1];simp)]
   refine aV ?_;refine zQ ?_;exact⟨(lo,(lo+hi)/2),⟨by simp only[];omega,by simp only[];omega,by simp only[];omega,hs3⟩,by simp only[];omega,c9 (by simp)⟩
 ·skip
  try simp at hc0
  refine d4 ?_;refine zQ (hK1 _ _ ?_);refine aP [5] ?_;refine aW ?_;refine a6 ?_;have hb:bis q (B+1).toNat 0 (B+1)=lo:=by rw[i4,a7i (by omega)]
  simp[hb]
theorem c0U (x n:Int) (h0:0<=x) (h1:x<=30000000):a9 Tryz.prog 183 [I x, .iptr [I n]] (Bo (decide (x*x<=n))):=by
 have b1:=y6 (a:=x) (b:=x) (A:=30000000) (B:=30000000) (by omega) (by omega) (by omega) (by omega);have w1:IntKind.i64.wrap (x*x)=x*x:=c4 (by omega) (by omega);refine oB Tryz.func183 Tryz.ntmps183 Tryz.results183 ?_;refine aW ?_;refine aW ?_ fun K hK=>by simp -dsimp [w1];exact hK
 exact a6 (by simp)
theorem c1w (n:Int) (h0:0<=n) (h1:n<900000000000000):a9 Tryz.prog 156 [I n] (I (isq n)):=by
 have hq:bis (fun x=>decide (x*x<=n)) (30000000+1:Int).toNat 0 (30000000+1)=isq n:=by
  obtain⟨k1,k2,k3,k4⟩:=a7K (f:=fun x=>decide (x*x<=n)) (30000000+1:Int).toNat 0 (30000000+1) (by omega) (by omega);generalize bis (fun x=>decide (x*x<=n)) (30000000+1:Int).toNat 0 (30000000+1)=r at*
  refine(b1B ⟨k1,?_,?_⟩).symm
  ·rcases k3 with rfl|k3
   ·omega
   ·simpa using k3
  ·rcases k4 with k4|k4
   ·rw[k4];omega
   ·simpa using k4
 refine oB Tryz.func156 Tryz.ntmps156 Tryz.results156 ?_;refine aW ?_;refine aW ?_ fun K hK=>by simp -dsimp;refine cI (b3I 30000000 183 [[I n]] (fun x=>decide (x*x<=n)) (by omega) (by omega) (fun x h0 h1=>c0U x n h0 h1)) ?_;simp -dsimp;exact hK
 have hq':=hq;simp at hq';exact a6 (by simp[hq'])
abbrev U (n:Int):AV:= .v (.int .u64 n)
theorem Y8 {n:Int} (h0:0<=n) (h1:n<18446744073709551616):IntKind.u64.wrap n=n:=by rw[IntKind.wrap_u64];omega
theorem c0L (x y:Int) (hx:0<=x) (hx':x<18446744073709551616) (hy:0<=y) (hy':y<18446744073709551616):
  a9 Tryz.prog 237 [U x,U y] (.tup [U (x*y/18446744073709551616),U (x*y % 18446744073709551616)]):=by
 have hi:=c5b hx hx' hy hy';have hxy:=u9 hx hx' hy hy';have a1:=u9 (a:=x/4294967296) (b:=y/4294967296) (A:=4294967296) (B:=4294967296) (by omega) (by omega) (by omega) (by omega);have a2:=u9 (a:=x/4294967296) (b:=y % 4294967296) (A:=4294967296) (B:=4294967296) (by omega) (by omega) (by omega) (by omega);have a3:=u9 (a:=x % 4294967296) (b:=y/4294967296) (A:=4294967296) (B:=4294967296) (by omega) (by omega) (by omega) (by omega);have a4:=u9 (a:=x % 4294967296) (b:=y % 4294967296) (A:=4294967296) (B:=4294967296) (by omega) (by omega) (by omega) (by omega);have m1:=b4f hx hx';have m2:=b4f hy hy';have wlo:IntKind.u64.wrap (x*y)=x*y % 18446744073709551616:=by rw[IntKind.wrap_u64]
 generalize hp:(x/4294967296)*(y/4294967296)=p at*
 generalize hq:(x/4294967296)*(y % 4294967296)=q at*
 generalize hr:(x % 4294967296)*(y/4294967296)=r at*
 generalize hs:(x % 4294967296)*(y % 4294967296)=s at*
 have w1:IntKind.u64.wrap s=s:=Y8 (by omega) (by omega);have w2:IntKind.u64.wrap q=q:=Y8 (by omega) (by omega);have w3:IntKind.u64.wrap r=r:=Y8 (by omega) (by omega);have w4:IntKind.u64.wrap p=p:=Y8 (by omega) (by omega);have w5:IntKind.u64.wrap (q+s/4294967296)=q+s/4294967296:=Y8 (by omega) (by omega);have m3:=b4f (m:=q+s/4294967296) (by omega) (by omega);have w6:IntKind.u64.wrap ((q+s/4294967296) % 4294967296+r)=(q+s/4294967296) % 4294967296+r:=Y8 (by omega) (by omega);have w7:IntKind.u64.wrap (p+(q+s/4294967296)/4294967296)=p+(q+s/4294967296)/4294967296:=Y8 (by omega) (by omega);have w8:IntKind.u64.wrap (p+(q+s/4294967296)/4294967296+((q+s/4294967296) % 4294967296+r)/4294967296)=x*y/18446744073709551616:=by rw[hi];exact Y8 (by omega) (by omega)
 have sh:(2:Int)^(Int.toNat 32)=4294967296:=by decide
 refine oB Tryz.func237 Tryz.ntmps237 Tryz.results237 ?_;refine aW ?_ fun K hK=>by simp -dsimp [m1,m2,m3,hp,hq,hr,hs,w1,w2,w3,w4,w5,w6,w7,w8,wlo,IntKind.bits];exact hK
 refine aW ?_ fun K hK=>by simp -dsimp [m1,m2,m3,hp,hq,hr,hs,w1,w2,w3,w4,w5,w6,w7,w8,wlo,IntKind.bits];exact hK
 refine aW ?_ fun K hK=>by simp -dsimp [m1,m2,m3,hp,hq,hr,hs,w1,w2,w3,w4,w5,w6,w7,w8,wlo,IntKind.bits];exact hK
 refine aW ?_ fun K hK=>by simp -dsimp [m1,m2,m3,hp,hq,hr,hs,w1,w2,w3,w4,w5,w6,w7,w8,wlo,IntKind.bits];exact hK
 refine aW ?_ fun K hK=>by simp -dsimp [m1,m2,m3,hp,hq,hr,hs,w1,w2,w3,w4,w5,w6,w7,w8,wlo,IntKind.bits];exact hK
 refine aW ?_ fun K hK=>by simp -dsimp [m1,m2,m3,hp,hq,hr,hs,w1,w2,w3,w4,w5,w6,w7,w8,wlo,IntKind.bits];exact hK
 refine aW ?_ fun K hK=>by simp -dsimp [m1,m2,m3,hp,hq,hr,hs,w1,w2,w3,w4,w5,w6,w7,w8,wlo,IntKind.bits];exact hK
 refine aW ?_ fun K hK=>by simp -dsimp [m1,m2,m3,hp,hq,hr,hs,w1,w2,w3,w4,w5,w6,w7,w8,wlo,IntKind.bits];exact hK
 refine aW ?_ fun K hK=>by simp -dsimp [m1,m2,m3,hp,hq,hr,hs,w1,w2,w3,w4,w5,w6,w7,w8,wlo,IntKind.bits];exact hK
 refine aW ?_ fun K hK=>by simp -dsimp [m1,m2,m3,hp,hq,hr,hs,w1,w2,w3,w4,w5,w6,w7,w8,wlo,IntKind.bits];exact hK
 refine aW ?_ fun K hK=>by simp -dsimp [m1,m2,m3,hp,hq,hr,hs,w1,w2,w3,w4,w5,w6,w7,w8,wlo,IntKind.bits];exact hK
 refine aW ?_ fun K hK=>by simp -dsimp [m1,m2,m3,hp,hq,hr,hs,w1,w2,w3,w4,w5,w6,w7,w8,wlo,IntKind.bits];exact hK
 exact a6 (by simp)
end Go.Tram
end
section
namespace Go.Tram
open Go.AM Go.Proofs
attribute [-simp] b9q a7M
theorem T4 (a b:Int):b9q a b=min a b:=by unfold b9q;split<;>omega
theorem D1 (a b:Int):a7M a b=max a b:=by unfold a7M;split<;>omega
def orI:List Int->Int
 |[]=>0
 |x::r=>if x≠0 then x else orI r
theorem b4B:∀{l:List Int} {k:Nat} {x:Int},l[k]?=some x->x≠0->(l.take k).all (· ==0)=true->orI l=x
 |[],k,x,h,_,_=>by simp at h
 |y::l,0,x,h,hx,_=>by simp at h;subst h;simp[orI,hx]
 |y::l,k+1,x,h,hx,ha=>by
  simp at h ha;unfold orI;rw[if_neg (by simp[ha.1])];exact b4B h hx (by simpa using ha.2)
theorem b0Z:∀{l:List Int},l.all (· ==0)=true->orI l=0
 |[],_=>rfl
 |y::l,ha=>by
  simp at ha;unfold orI;rw[if_neg (by simp[ha.1])];exact b0Z (by simpa using ha.2)
theorem c7D (l:List Int) (hn:l.length<=1000):a9 Tryz.prog 238 [.full 1 (l.map fun x=>[I x])] (I (orI l)):=by
 refine oB Tryz.func238 Tryz.ntmps238 Tryz.results238 ?_;refine aW ?_;refine aW ?_;refine a5 fun K1 hK1=>?_;refine aW ?_;refine b8 ?_;refine aP [3,6,7,8] ?_;refine c6 [3,6,7] (α:=Nat) (fun k=>[(8,I k)]) (fun _=>[]) (fun k=>k<=l.length/\(l.take k).all (· ==0)=true) (fun k=>l.length-k) 0 ?_ ?_ ?_
 ·simp
 ·exact c9 (by simp)
 rintro k ⟨k1,k2⟩;refine zN ?_;refine aW ?_;refine a5 fun K2 hK2=>?_;refine a7 rfl (fun hc0=>?_) (fun hc0=>?_)
 ·skip
  try simp at hc0
  obtain⟨x,hx⟩:=gx (l:=l) (i:=k) hc0;have wk:=zW k (by omega);refine b9 ?_;refine zQ (hK2 _ _ ?_);refine aP [3,6,7,8] ?_;refine a5 fun K3 hK3=>?_;refine b8 ?_;refine aW ?_ fun K hK=>by simp -dsimp [hx];exact hK
  refine aW ?_;refine a7 rfl (fun hc1=>?_) (fun hc1=>?_)
  ·skip
   try simp at hc1
   have ho:=b4B hx hc1 k2;refine aW ?_;exact a6 (by simp[ho])
  ·skip
   try simp at hc1
   refine b9 ?_;refine zQ (hK3 _ _ ?_);refine aP [3,6,7,8] ?_;refine aV ?_ fun K hK=>by simp -dsimp [wk];exact hK
   refine zQ ?_;exact⟨k+1,⟨by omega,by rw[a0h hx,k2];simp[hc1]⟩,by omega,c9 (by simp)⟩
 ·skip
  try simp at hc0
  have ho:=b0Z (Y2 (by omega) k2);refine d4 ?_;refine zQ (hK1 _ _ ?_);refine aP [3] ?_;refine aW ?_;exact a6 (by simp[ho])
theorem b5Z:(Tryz.prog).underlying 305=some (.int .u64):=by kernel_rfl
theorem b6p (n:Int) (w:World):(convert 3 305 (.int .i64 n)).run Tryz.prog w= .ok (.int .u64 (IntKind.u64.wrap n)) w:=by
 simp[convert,run_underlying a4W,run_underlying b5Z,Conv.intToInt]
theorem a8V (a b:Int) (ha:0<=a) (ha':a<9223372036854775808) (hb:0<=b) (hb':b<9223372036854775808):
  a9 Tryz.prog 234 [I a,I b] (.agg [U (a*b/18446744073709551616),U (a*b % 18446744073709551616)]):=by
 have wa:IntKind.u64.wrap a=a:=Y8 (by omega) (by omega);have wb:IntKind.u64.wrap b=b:=Y8 (by omega) (by omega);refine oB Tryz.func234 Tryz.ntmps234 Tryz.results234 ?_;refine aW ?_;refine aW ?_ fun K hK=>by simp -dsimp;refine⟨_,b6p a,?_⟩;simp -dsimp [wa];refine⟨_,b6p b,?_⟩;simp -dsimp [wb];refine cI (c0L a b ha (by omega) hb (by omega)) ?_;simp -dsimp;exact hK
 refine aW ?_;exact a6 (by simp)
theorem b2W (p q:Int):a9 Tryz.prog 235 [.agg [U (p/18446744073709551616),U (p % 18446744073709551616)], .agg [U (q/18446744073709551616),U (q % 18446744073709551616)]] (I (O5 p q)):=by
 have ho:orI [O5 (p/18446744073709551616) (q/18446744073709551616),O5 (p % 18446744073709551616) (q % 18446744073709551616)]=O5 p q:=by
  rw[<-b5F (p:=p) (q:=q) 18446744073709551616 (by omega)];simp only[orI]
  split
  ·rfl
  ·split
   ·rfl
   ·rename_i h;simp at h;exact h.symm
 have hc:=c7D [O5 (p/18446744073709551616) (q/18446744073709551616),O5 (p % 18446744073709551616) (q % 18446744073709551616)] (by simp);rw[ho]at hc;refine oB Tryz.func235 Tryz.ntmps235 Tryz.results235 ?_;refine aW ?_;refine aD ?_ fun K hK=>by simp -dsimp;refine cI (a6s _ _) ?_;simp -dsimp;refine cI (a6s _ _) ?_;simp -dsimp;refine cI (hc) ?_;simp -dsimp;exact hK
 exact a6 (by simp)
@[simp] def c6M (a b:Spot):List AV:=[I a.X,I a.Y,I b.X,I b.Y]
abbrev seg (a b:Spot):AV:= .agg (c6M a b)
theorem b2p (a b p:Spot) (ha:l7 a=true) (hb:l7 b=true) (hp:l7 p=true):a9 Tryz.prog 236 [seg a b,p.av] (I (N0 a b p)):=by
 refine oB Tryz.func236 Tryz.ntmps236 Tryz.results236 ?_;refine aW ?_;refine aD ?_ fun K hK=>by simp -dsimp;refine cI (a2h a b ha hb) ?_;simp -dsimp;refine cI (a2h a p ha hp) ?_;simp -dsimp;refine cI (b0N a b a p ha hb ha hp) ?_;simp -dsimp;refine cI (a1T _ _) ?_;simp -dsimp;exact hK
 exact a6 (by simp[N0])
theorem b4P (a b c d:Spot) (ha:l7 a=true) (hb:l7 b=true) (hc:l7 c=true) (hd:l7 d=true):a9 Tryz.prog 231 [seg a b,seg c d] (Bo (X7 a b c d)):=by
 have w:∀{x y:Int},-1<=x/\x<=1-> -1<=y/\y<=1->IntKind.i64.wrap (x*y)=x*y:=by
  intro x y hx hy;have:=y6 (a:=x) (b:=y) (A:=1) (B:=1) hx.1 hx.2 hy.1 hy.2;exact c4 (by omega) (by omega)
 have w1:IntKind.i64.wrap (N0 a b c*N0 a b d)=N0 a b c*N0 a b d:=w a0m a0m;have w2:IntKind.i64.wrap (N0 c d a*N0 c d b)=N0 c d a*N0 c d b:=w a0m a0m;refine oB Tryz.func231 Tryz.ntmps231 Tryz.results231 ?_;refine aW ?_;refine aD ?_ fun K hK=>by simp -dsimp [w1,w2];refine cI (b2p a b c ha hb hc) ?_;simp -dsimp [w1,w2];refine cI (b2p a b d ha hb hd) ?_;simp -dsimp [w1,w2];refine cY (fun hm=>b2p c d a hc hd ha) ?_;simp -dsimp [w1,w2];refine cY (fun hm=>b2p c d b hc hd hb) ?_;simp -dsimp [w1,w2];exact hK
 exact a6 (by simp[X7])
theorem a0p (a b p:Spot) (d:Int) (ha:l7 a=true) (hb:l7 b=true) (hp:l7 p=true) (h0:0<=d) (h1:d<=1000000):a9 Tryz.prog 223 [seg a b,p.av,I d] (I (x7 a b p d)):=by
 have m1:=y6 (a:=d) (b:=d) (A:=1000000) (B:=1000000) (by omega) (by omega) (by omega) (by omega);have hdd:=b2C d;have w1:IntKind.i64.wrap (d*d)=d*d:=c4 (by omega) (by omega);have hl:=a1q ha hb ha hb;have hl0:=a6M a b;have hc:=a9d ha hb ha hp;have w2:IntKind.i64.wrap (0-j6 a b a p)=-j6 a b a p:=by rw[c4 (by omega) (by omega)];omega
 have w2':IntKind.i64.wrap (-j6 a b a p)=-j6 a b a p:=c4 (by omega) (by omega);have hm:max (j6 a b a p) (-j6 a b a p)*max (j6 a b a p) (-j6 a b a p)=j6 a b a p*j6 a b a p:=by
  rcases Int.le_total (j6 a b a p) (-j6 a b a p)with h|h
  ·rw[Int.max_eq_right h,Int.neg_mul_neg]
  ·rw[Int.max_eq_left h]
 refine oB Tryz.func223 Tryz.ntmps223 Tryz.results223 ?_;refine aW ?_;refine aD ?_ fun K hK=>by simp -dsimp;refine cI (a2h a b ha hb) ?_;simp -dsimp;refine cI (a2h a p ha hp) ?_;simp -dsimp;exact hK
 refine aW ?_ fun K hK=>by simp -dsimp;refine cI (a8I a b a p ha hb ha hp) ?_;simp -dsimp;exact hK
 refine a5 fun K1 hK1=>?_;refine b8 ?_;refine aW ?_;refine a7 rfl (fun hc0=>?_) (fun hc0=>?_)
 ·skip
  try simp at hc0
  refine aW ?_ fun K hK=>by simp -dsimp [w1];refine cI (a8I a p a p ha hp ha hp) ?_;simp -dsimp [w1];refine cI (a1T _ _) ?_;simp -dsimp [w1];exact hK
  exact a6 (by simp[x7,hc0])
 ·skip
  try simp at hc0
  have hc0':¬z4 a b a p<=0:=by omega
  refine aW ?_ fun K hK=>by simp -dsimp;refine cI (a8I a b a b ha hb ha hb) ?_;simp -dsimp;exact hK
  refine a7 rfl (fun hc1=>?_) (fun hc1=>?_)
  ·skip
   try simp at hc1
   refine aW ?_ fun K hK=>by simp -dsimp;refine cI (a2h b p hb hp) ?_;simp -dsimp;exact hK
   refine aW ?_ fun K hK=>by simp -dsimp [w1];refine cI (a8I b p b p hb hp hb hp) ?_;simp -dsimp [w1];refine cI (a1T _ _) ?_;simp -dsimp [w1];exact hK
   exact a6 (by simp[x7,hc0',hc1])
  ·skip
   try simp at hc1
   have hc1':¬z4 a b a b<=z4 a b a p:=by omega
   refine b9 ?_;refine zQ (hK1 _ _ ?_);refine aP [2,7,8] ?_;refine aW ?_ fun K hK=>by simp -dsimp;refine cI (b0N a b a p ha hb ha hp) ?_;simp -dsimp;exact hK
   refine aW ?_ fun K hK=>by simp -dsimp [w2,w2',D1];exact hK
   refine aD ?_ fun K hK=>by simp -dsimp [w1];refine cI (a8V (max (j6 a b a p) (-j6 a b a p)) (max (j6 a b a p) (-j6 a b a p)) (by omega) (by omega) (by omega) (by omega)) ?_;simp -dsimp [w1];refine cI (a8I a b a b ha hb ha hb) ?_;simp -dsimp [w1];refine cI (a8V (d*d) (z4 a b a b) hdd (by omega) hl0 (by omega)) ?_;simp -dsimp [w1];refine cI (b2W _ _) ?_;simp -dsimp [w1];exact hK
   exact a6 (by simp[x7,hc0',hc1',hm])
theorem c1I (a b c d:Spot) (r:Int) (ha:l7 a=true) (hb:l7 b=true) (hc:l7 c=true) (hd:l7 d=true) (h0:0<=r) (h1:r<=1000000):a9 Tryz.prog 220 [seg a b,seg c d,I r] (I (apart a b c d r)):=by
 refine oB Tryz.func220 Tryz.ntmps220 Tryz.results220 ?_;refine aW ?_;refine a5 fun K1 hK1=>?_;refine aW ?_ fun K hK=>by simp -dsimp;refine cI (b4P a b c d ha hb hc hd) ?_;simp -dsimp;exact hK
 refine a7 rfl (fun hc0=>?_) (fun hc0=>?_)
 ·skip
  try simp at hc0
  refine aW ?_ fun K hK=>by simp -dsimp;refine cI (a1T _ _) ?_;simp -dsimp;exact hK
  exact a6 (by simp[apart,hc0])
 ·skip
  try simp at hc0
  refine b9 ?_;refine zQ (hK1 _ _ ?_);refine aP [2,3,4] ?_;refine aD ?_ fun K hK=>by simp -dsimp [T4];refine cI (a0p a b c r ha hb hc h0 h1) ?_;simp -dsimp [T4];refine cI (a0p a b d r ha hb hd h0 h1) ?_;simp -dsimp [T4];refine cI (a0p c d a r hc hd ha h0 h1) ?_;simp -dsimp [T4];refine cI (a0p c d b r hc hd hb h0 h1) ?_;simp -dsimp [T4];exact hK
  exact a6 (by simp[apart,hc0,c3q])
end Go.Tram
end
section
namespace Go.Tram
open Go.AM Go.Proofs
theorem b4h {nt:Nat} {T:Tm} {H:Hp} (g:List (Option Nat)) (hn:N5 g=true):Go.AM.Sub nt T H (T.map fun p=>(p.1,Z7 (g8 H) g 3 (Go.AM.i8 T p.1))) (a2i H g):=by
 refine a5F g hn ?_ rfl;have gen:∀l:Tm,a4V H g T (l.map fun p=>(p.1,Z7 (g8 H) g 3 (Go.AM.i8 T p.1))):=by
  intro l
  induction l with
  |nil=>trivial
  |cons x l ih=>exact⟨Or.inr rfl,ih⟩
 exact gen T
def V9:AV->Bool
 | .v _=>true
 | .lst _ _=>true
 | .full _ _=>true
 | .iptr _=>true
 |_=>false
theorem P7 {x:AV} (h:V9 x=true) (g:List (Option Nat)) (n:Nat):p5 g n x=x:=by cases x<;>first|(cases n<;>rfl)|cases h
theorem a2Q {x:AV} (h:V9 x=true) (H:Nat->Option n9) (g:List (Option Nat)) (n:Nat):Z7 H g n x=x:=by cases x<;>first|(cases n<;>rfl)|cases h
theorem O8 {x:AV} (h:V9 x=true) (H:Hp) (n:Nat):M0 H n x=x:=by cases x<;>first|(cases n<;>rfl)|cases h
theorem x6 {f:AV->AV} (hf:∀x,V9 x=true->f x=x) {es:List (List AV)} (h:es.all (fun e=>e.all V9)=true):es.map (fun e=>e.map f)=es:=by
 have:es.map (fun e=>e.map f)=es.map id:=by
  refine List.map_congr_left fun e he=>?_;have he':=qn.1 h e he;have:e.map f=e.map id:=List.map_congr_left fun x hx=>hf x (qn.1 he' x hx);simpa using this
 simpa using this
theorem a6u (l:List Spot):(l.map Spot.cells).all (fun e=>e.all V9)=true:=by simp[V9]
theorem b4R (l:List SS):(l.map SS.cells).all (fun e=>e.all V9)=true:=by simp[V9]
theorem a2G (p:Plan) (n:Nat):(k8 p n).all (fun e=>e.all V9)=true:=by simp[k8,V9]
@[simp high] theorem b7g (l:List Spot) (g:List (Option Nat)) (n:Nat):(l.map Spot.cells).map (fun e=>e.map (p5 g n))=l.map Spot.cells:=x6 (fun x h=>P7 h g n) (a6u l)
@[simp high] theorem b5n (l:List Spot) (H:Hp) (n:Nat):(l.map Spot.cells).map (fun e=>e.map (M0 H n))=l.map Spot.cells:=x6 (fun x h=>O8 h H n) (a6u l)
@[simp high] theorem c2e (l:List SS) (g:List (Option Nat)) (n:Nat):(l.map SS.cells).map (fun e=>e.map (p5 g n))=l.map SS.cells:=x6 (fun x h=>P7 h g n) (b4R l)
@[simp high] theorem c0m (l:List SS) (H:Nat->Option n9) (g:List (Option Nat)) (n:Nat):(l.map SS.cells).map (fun e=>e.map (Z7 H g n))=l.map SS.cells:=x6 (fun x h=>a2Q h H g n) (b4R l)
@[simp high] theorem c3Y (p:Plan) (k:Nat) (g:List (Option Nat)) (n:Nat):(k8 p k).map (fun e=>e.map (p5 g n))=k8 p k:=x6 (fun x h=>P7 h g n) (a2G p k)
@[simp high] theorem c3n (p:Plan) (k:Nat) (H:Nat->Option n9) (g:List (Option Nat)) (n:Nat):(k8 p k).map (fun e=>e.map (Z7 H g n))=k8 p k:=x6 (fun x h=>a2Q h H g n) (a2G p k)
@[simp high] theorem c3p (p:Plan) (k:Nat) (H:Hp) (n:Nat):(k8 p k).map (fun e=>e.map (M0 H n))=k8 p k:=x6 (fun x h=>O8 h H n) (a2G p k)
theorem a6Y (p:Plan) (n:Nat):(k8 p n).length=n:=by simp[k8]
theorem a5B (p:Plan) (n:Nat):k8 p (n+1)=k8 p n++[[.lst 9 ((p.strips (n:Int)).map SS.cells)]]:=by simp[k8,List.range_succ]
theorem a7A {p:Plan} {n k:Nat} (h:k<n):(k8 p n)[k]?=some [.lst 9 ((p.strips (k:Int)).map SS.cells)]:=by simp[k8,h]
theorem a3w (l:List Spot) (r:Int) (n:Nat):(A0 l r n).length=n:=by simp[A0]
theorem a6O (l:List Spot) (r:Int) (n:Nat):A0 l r (n+1)=A0 l r n++[o9 l r n]:=by simp[A0,List.range_succ]
def D7 (l:List Spot) (j m:Nat):List Spot:=(List.range m).flatMap fun i=>N1 l (j+i)
theorem X8 (l:List Spot) (j m:Nat):D7 l j (m+1)=D7 l j m++N1 l (j+m):=by simp[D7,List.range_succ]
theorem a2D (l:List Spot) (j:Nat):∀m,(D7 l j m).length<=m
 |0=>by simp[D7]
 |m+1=>by
  have h1:=a2D l j m;have h2:=a1x l (j+m);rw[X8,List.length_append];omega
theorem W3 (l:List Spot) (j m:Nat):((D7 l j m).map Spot.cells).take (D7 l j m).length=(D7 l j m).map Spot.cells:=qg (by simp)
theorem a1y (l:List Spot) (r:Int) (n:Nat):((A0 l r n).map SS.cells).take n=(A0 l r n).map SS.cells:=qg (by simp[A0])
theorem a6A (l:List Spot) (j:Nat):D7 l j 2=N1 l j++N1 l (j+1):=by simp[D7,List.range_succ]
theorem c4i (l:List Spot) (k:Nat) (hk:k<l.length) (hl:l.length<=1000) (hs:l.all l7=true):a9 Tryz.prog 153 [I k, .iptr [.lst 2 (l.map Spot.cells)]] (Bo (a7U l k)):=by
 have hb:∀i,i<l.length->l7 (nth l i)=true:=fun i hi=>qn.1 hs _ (qd (y8 hi));have w1:IntKind.i64.wrap ((l.length:Int)-1)=(l.length:Int)-1:=c4 (by omega) (by omega);have w2:0<k->IntKind.i64.wrap ((k:Int)-1)=((k-1:Nat):Int):=fun h=>by rw[c4 (by omega) (by omega)];omega
 have w3:IntKind.i64.wrap ((k:Int)+1)=((k+1:Nat):Int):=by rw[c4 (by omega) (by omega)];omega
 have g0:(l.map Spot.cells)[k-1]?=some (nth l (k-1)).cells:=by rw[qe,y8 (by omega)];rfl
 have g1:(l.map Spot.cells)[k]?=some (nth l k).cells:=by rw[qe,y8 hk];rfl
 have g2:k+1<l.length->(l.map Spot.cells)[k+1]?=some (nth l (k+1)).cells:=fun h=>by rw[qe,y8 h];rfl
 refine oB Tryz.func153 Tryz.ntmps153 Tryz.results153 ?_;refine aW ?_;refine b1p a1H rfl fun K hK=>?_;simp -dsimp [w1,w3];refine⟨by intros;rw[w2 (by omega)];omega,j7 (nth l (k-1)).cells (fun hm=>by simp at hm;rw[w2 hm.1];exact g0) ?_⟩;simp -dsimp [w3];refine j7 (nth l k).cells (fun _=>g1) ?_;simp -dsimp [w1,w3];refine cY (fun hm=>a2h (nth l (k-1)) (nth l k) (hb _ (by omega)) (hb _ (by omega))) ?_;simp -dsimp [w1,w3];refine j7 (nth l k).cells (fun _=>g1) ?_;simp -dsimp [w1,w3];refine⟨by intros;omega,j7 (nth l (k+1)).cells (fun hm=>by simp at hm;exact g2 (by omega)) ?_⟩;simp -dsimp;refine cY (fun hm=>a2h (nth l k) (nth l (k+1)) (hb _ (by omega)) (hb _ (by simp at hm;omega))) ?_;simp -dsimp [w1,w3];refine cY (fun hm=>b3s (nth l (k-1)) (nth l k) (nth l k) (nth l (k+1)) (hb _ (by omega)) (hb _ (by omega)) (hb _ (by omega)) (hb _ (by simp at hm;omega))) ?_;simp -dsimp [w1,w3];refine hK _ _ _ (by decide+kernel) ?_;clear hK K;have hdec:decide ((k:Int)<(l.length:Int)-1)=decide (k+1<l.length):=decide_eq_decide.2 (by omega);refine a6 ?_;simp[a7U,T8,hdec,Bool.and_assoc]
theorem c1e (p:Plan) (h:d8 p=true):a9 Tryz.prog 117 [p.av] (.tup [.iptr (a3F p),Bo true]):=by
 have hck:=b0C p;rw[h]at hck;obtain⟨hN,hR,hA,hB,_⟩:=j9 h;refine oB Tryz.func117 Tryz.ntmps117 Tryz.results117 ?_;refine aW ?_;refine a5 fun K1 hK1=>?_;refine aW ?_ fun K hK=>by simp -dsimp;refine cI (hck) ?_;simp -dsimp;exact hK
 refine a7 rfl (fun hc0=>?_) (fun hc0=>?_)
 ·simp at hc0
 ·refine b9 ?_;refine zQ (hK1 _ _ ?_);refine aP [1] ?_;refine aW ?_;refine a5 fun K2 hK2=>?_;refine aW ?_;refine b8 ?_;refine aP [1,4,24,25] ?_;refine c6 [1,4,24] (α:=Nat) (fun k=>[(25,I k)]) (fun k=>[some (.els 2 [p.cells]),some (.els 3 [p.cells++[.row 2 0 (k8 p k).length]]),some (.els 1 (k8 p k))]) (fun k=>k<=p.Rails.length) (fun k=>p.Rails.length-k) 0 ?_ ?_ ?_
  ·simp
  ·exact(a2f 1 0 2 1 (es:=[p.cells++[.v (.slice none 0 0)]]) (e:=p.cells++[.v (.slice none 0 0)]) (by simp) (by simp) (by simp)).trans (c9 (by simp[k8]))
  rintro k k1;refine zN ?_;refine aW ?_;refine a5 fun K3 hK3=>?_;refine a7 rfl (fun hc1=>?_) (fun hc1=>?_)
  ·skip
   try simp at hc1
   have ro:=P9 h (r:=(k:Int)) (by omega) (by omega);have hl:=ro.len;have hs30:=ro.s;have wk:=zW k (by omega);have f1:R2 (k+1) 25:=n7 (by omega) (by omega);have hll:=a6Y p k;have htk:(k8 p k).take k=k8 p k:=qg (by omega);refine b9 ?_;refine zQ (hK3 _ _ ?_);refine aP [1,4,24,25] ?_;refine a5 fun K4 hK4=>?_;refine b8 ?_;refine aW ?_;refine aW ?_ fun K hK=>by simp -dsimp;refine cI (c2w p k h (by omega) (by omega)) ?_;simp -dsimp;exact hK
   refine a5 fun K5 hK5=>?_;refine aW ?_;refine a7 rfl (fun hc2=>?_) (fun hc2=>?_)
   ·simp at hc2
   ·have wl:IntKind.i64.wrap (((p.line k).length:Int)-1)=(((p.rail k).Shape.length+1:Nat):Int):=by rw[c4 (by omega) (by omega)];omega
    refine b9 ?_;refine zQ (hK5 _ _ ?_);refine aP [1,4,5,6,24,25] ?_;refine aW ?_;refine aW ?_;refine aW ?_;refine a5 fun K6 hK6=>?_;refine aW ?_ fun K hK=>by simp -dsimp [wl];exact hK
    refine b8 ?_;refine aP [1,4,5,6,8,9,10,24,25,39,40] ?_;refine c6 [1,4,5,6,8,24,25,39] (α:=Nat) (fun j=>[(9, .row 4 0 j),(10,I (N7 (p.line k) j)),(40,I j)]) (fun j=>[some (.els 2 [p.cells]),some (.els 3 [p.cells++[.row 2 0 (k8 p k).length]]),some (.els 1 (k8 p k)),some (.els 1 [[.lst 2 ((p.line k).map Spot.cells)]]),some (.els 9 ((A0 (p.line k) k j).map SS.cells))]) (fun j=>j<=(p.rail k).Shape.length+1) (fun j=>(p.rail k).Shape.length+1-j) 0 ?_ ?_ ?_
    ·simp
    ·exact(V7 9 9 (by simp)).trans (c9 (by simp[A0,N7]))
    rintro j j1;refine zN ?_;refine aW ?_;refine a5 fun K7 hK7=>?_;refine a7 rfl (fun hc3=>?_) (fun hc3=>?_)
    ·skip
     try simp at hc3
     have g1:=y8 (l:=p.line k) (k:=j) (by omega);have g2:=y8 (l:=p.line k) (k:=j+1) (by omega);have wj:=zW j (by omega);have sa:=ro.spot j (by omega);have sb:=ro.spot (j+1) (by omega);have hd:=a1q sa sb sa sb;have hd0:=a6M (nth (p.line k) j) (nth (p.line k) (j+1));have hsb:=a1N ro j (by omega);have hsb1:=a1N ro (j+1) (by omega);have hseg:isq (z4 (nth (p.line k) j) (nth (p.line k) (j+1)) (nth (p.line k) j) (nth (p.line k) (j+1)))=D4 (p.line k) j:=by rw[a1U];unfold D4 far;rfl
     have wsum:IntKind.i64.wrap (N7 (p.line k) j+isq (z4 (nth (p.line k) j) (nth (p.line k) (j+1)) (nth (p.line k) j) (nth (p.line k) (j+1))))=N7 (p.line k) (j+1):=by rw[hseg];exact c4 (by simp only[N7]at hsb1;omega) (by simp only[N7]at hsb1;omega)
     have f2:R2 (j+1) 89:=n7 (by omega) (by omega);have hsl:=a3w (p.line k) k j;refine b9 ?_;refine zQ (hK7 _ _ ?_);refine aP [1,4,5,6,8,9,10,24,25,39,40] ?_;refine a5 fun K8 hK8=>?_;refine b8 ?_;refine aW ?_;refine aD ?_ fun K hK=>by simp -dsimp [wj,g1,g2];refine⟨by omega,?_⟩;exact hK
     refine aW ?_ fun K hK=>by simp -dsimp;refine cI (a2h _ _ sa sb) ?_;simp -dsimp;exact hK
     refine aW ?_ fun K hK=>by simp -dsimp [wsum];refine cI (a8I _ _ _ _ sa sb sa sb) ?_;simp -dsimp [wsum];refine cI (c1w _ hd0 (by omega)) ?_;simp -dsimp [wsum];exact hK
     refine aW ?_;refine a5 fun K9 hK9=>?_;refine aW ?_ fun K hK=>by simp -dsimp [wj];exact hK
     refine b8 ?_;refine aP [1,4,5,6,8,9,10,12,24,25,39,40,76,77,78] ?_;refine c6 [1,4,5,6,8,9,10,12,24,25,39,40,76,77] (α:=Nat) (fun m=>[(78,I m)]) (fun m=>[some (.els 2 [p.cells]),some (.els 3 [p.cells++[.row 2 0 (k8 p k).length]]),some (.els 1 (k8 p k)),some (.els 1 [[.lst 2 ((p.line k).map Spot.cells)]]),some (.els 9 ((A0 (p.line k) k j).map SS.cells)),some (.els 9 [[I k,I j,I (nth (p.line k) j).X,I (nth (p.line k) j).Y,I (nth (p.line k) (j+1)).X,I (nth (p.line k) (j+1)).Y, .row 6 0 (D7 (p.line k) j m).length,I (N7 (p.line k) j),I (N7 (p.line k) (j+1))]]),some (.els 2 ((D7 (p.line k) j m).map Spot.cells))]) (fun m=>m<=2) (fun m=>2-m) 0 ?_ ?_ ?_
     ·simp
     ·refine(a2f 5 0 6 2 (sz0:=9) (by simp;rfl) (by simp;rfl) (by simp)).trans ?_;exact g7 [some 0,some 1,some 2,some 3,some 4,some 5,some 7] rfl (by simp) (by simp[D7])
     rintro m m1;refine zN ?_;refine aW ?_;refine a5 fun K10 hK10=>?_;refine a7 rfl (fun hc4=>?_) (fun hc4=>?_)
     ·skip
      try simp at hc4
      have hx:([[I (j:Int)],[I ((j:Int)+1)]]:List (List AV))[m]?=some [I ((j:Int)+(m:Int))]:=by
       have:m=0∨m=1:=by omega
       rcases this with rfl|rfl<;>simp
      have gm:=y8 (l:=p.line k) (k:=j+m) (by omega);have wm:=zW m (by omega);have hbl:=a1x (p.line k) j;have hbtl:=a2D (p.line k) j m;have hbt:=W3 (p.line k) j m;have f3:R2 ((D7 (p.line k) j m).length+1) 17:=n7 (by omega) (by omega);have hcb:=c4i (p.line k) (j+m) (by omega) (by omega) ro.spots;rw[Int.natCast_add]at hcb;have htn:((j:Int)+(m:Int)).toNat=j+m:=by omega
      refine b9 ?_;refine zQ (hK10 _ _ ?_);refine aP [1,4,5,6,8,9,10,12,24,25,39,40,76,77,78] ?_;refine a5 fun K11 hK11=>?_;refine b8 ?_;refine aW ?_ fun K hK=>by simp -dsimp [hx];exact hK
      refine aW ?_ fun K hK=>by simp -dsimp;refine cI (hcb) ?_;simp -dsimp;exact hK
      refine a7 rfl (fun hc5=>?_) (fun hc5=>?_)
      ·skip
       try simp at hc5
       refine aE ?_ fun K hK=>by simp -dsimp [gm,f3,htn];refine⟨by omega,?_⟩;exact hK
       refine zQ (hK11 _ _ ?_);refine aP [1,4,5,6,8,9,10,12,24,25,39,40,76,77,78] ?_;refine aV ?_ fun K hK=>by simp -dsimp [wm];exact hK
       refine zQ ?_;exact⟨m+1,by omega,by omega,g7 [some 0,some 1,some 2,some 3,some 4,some 5,some 7] rfl (by simp) (by simp[X8,N1,hc5,hbt])⟩
      ·skip
       try simp at hc5
       refine b9 ?_;refine zQ (hK11 _ _ ?_);refine aP [1,4,5,6,8,9,10,12,24,25,39,40,76,77,78] ?_;refine aV ?_ fun K hK=>by simp -dsimp [wm];exact hK
       refine zQ ?_;exact⟨m+1,by omega,by omega,g7 [some 0,some 1,some 2,some 3,some 4,some 5,some 6] rfl (by simp) (by simp[X8,N1,hc5])⟩
     ·skip
      try simp at hc4
      have hm2:m=2:=by omega
      subst hm2;refine a4e (b4h [some 0,some 1,some 2,some 3,some 4,some 5] rfl) ?_;simp[W3];refine d4 ?_;refine zQ (hK9 _ _ ?_);refine aP [1,4,5,6,8,9,10,12,24,25,39,40] ?_;refine aV ?_ fun K hK=>by simp -dsimp [hsl,f2];exact hK
      refine zQ (hK8 _ _ ?_);refine aP [1,4,5,6,8,9,10,24,25,39,40] ?_;refine aV ?_ fun K hK=>by simp -dsimp [wj];exact hK
      refine zQ ?_;have hso:o9 (p.line k) k j=⟨k,j,nth (p.line k) j,nth (p.line k) (j+1),D7 (p.line k) j 2,N7 (p.line k) j,N7 (p.line k) (j+1)⟩:=by simp[o9,a6A]
      exact⟨j+1,by omega,by omega,g7 [some 0,some 1,some 2,some 3,some 6] rfl (by simp) (by simp[a6O,hso,a1y])⟩
    ·skip
     try simp at hc3
     have hjj:j=(p.rail k).Shape.length+1:=by omega
     subst hjj;refine a4e (b4h [some 0,some 1,some 2,some 3] rfl) ?_;simp[a1y,a3w];refine d4 ?_;refine zQ (hK6 _ _ ?_);refine aP [1,4,9,24,25] ?_;refine aV ?_ fun K hK=>by simp -dsimp [hll,f1];exact hK
     refine zQ (hK4 _ _ ?_);refine aP [1,4,24,25] ?_;refine aV ?_ fun K hK=>by simp -dsimp [wk];exact hK
     refine zQ ?_;exact⟨k+1,by omega,by omega,g7 [some 0,some 1,some 4] rfl (by simp) (by simp[a5B,htk,hll,Plan.strips])⟩
  ·skip
   try simp at hc1
   have hk:k=p.Rails.length:=by omega
   subst hk;have htk:(k8 p p.Rails.length).take (k8 p p.Rails.length).length=k8 p p.Rails.length:=qg (qo _);refine d4 ?_;refine zQ (hK2 _ _ ?_);refine aP [4] ?_;refine aW ?_;exact a6 (by simp[a3F,htk])
end Go.Tram
end
section
namespace Go.Tram
open Go.AM Go.Proofs
theorem L9 {x:Profile}:z5 x=true↔(1<=x.Half/\x.Half<=2000)/\0<=x.Swing/\x.Swing<=1500:=by simp[z5,g6]
theorem c0N (x:Profile):a9 Tryz.prog 159 [.agg x.cells] (Bo (!z5 x)):=by
 refine oB Tryz.func159 Tryz.ntmps159 Tryz.results159 ?_;refine aW ?_;refine aW ?_;refine a6 ?_;simp[z5,inr];exact qj.2 (by simp;omega)
theorem b2D (l:List Profile) (hn:l.length<=100000):a9 Tryz.prog 118 [.lst 2 (l.map Profile.cells)] (Bo (l.all z5)):=by
 have hq:(l.any fun x=> !z5 x)= !l.all z5:=(List.not_all_eq_any_not).symm;have hc:=a5w l 159 [] (fun x=> !z5 x) (fun x _=>c0N x) hn;refine oB Tryz.func118 Tryz.ntmps118 Tryz.results118 ?_;refine aW ?_;refine aW ?_ fun K hK=>by simp -dsimp;refine cI (hc) ?_;simp -dsimp;exact hK
 exact a6 (by simp[hq])
theorem c4X (s t:SS) (x y:Profile) (hs:s.Ok) (ht:t.Ok) (hx:z5 x=true) (hy:z5 y=true):a9 Tryz.prog 203 [s.av,x.av,t.av,y.av] (Bo (decide (apart s.a s.b t.a t.b (x.Half+y.Half)<=0))):=by
 rw[L9]at hx hy;have w:IntKind.i64.wrap (x.Half+y.Half)=x.Half+y.Half:=c4 (by omega) (by omega);refine oB Tryz.func203 Tryz.ntmps203 Tryz.results203 ?_;refine aW ?_;refine aW ?_ fun K hK=>by simp -dsimp [w];refine cI (c1I s.a s.b t.a t.b (x.Half+y.Half) hs.a hs.b ht.a ht.b (by omega) (by omega)) ?_;simp -dsimp [w];exact hK
 exact a6 (by simp)
theorem b7D (t:SS) (x y:Profile) (q:Spot) (ht:t.Ok) (hq:l7 q=true) (hx:z5 x=true) (hy:z5 y=true):
  a9 Tryz.prog 222 [.agg q.cells, .iptr t.cells, .iptr x.cells, .iptr y.cells] (Bo (decide (x7 t.a t.b q (x.Half+x.Swing+y.Half)<=0))):=by
 rw[L9]at hx hy;have w1:IntKind.i64.wrap (x.Half+x.Swing)=x.Half+x.Swing:=c4 (by omega) (by omega);have w2:IntKind.i64.wrap (x.Half+x.Swing+y.Half)=x.Half+x.Swing+y.Half:=c4 (by omega) (by omega);refine oB Tryz.func222 Tryz.ntmps222 Tryz.results222 ?_;refine aW ?_;refine aW ?_ fun K hK=>by simp -dsimp [w1,w2];refine cI (a0p t.a t.b q (x.Half+x.Swing+y.Half) ht.a ht.b hq (by omega) (by omega)) ?_;simp -dsimp [w1,w2];exact hK
 exact a6 (by simp)
theorem b5c (s t:SS) (x y:Profile) (hs:s.Ok) (ht:t.Ok) (hx:z5 x=true) (hy:z5 y=true):a9 Tryz.prog 204 [s.av,x.av,t.av,y.av] (Bo (P4 s t (x.Half+x.Swing+y.Half))):=by
 have hsn:=hs.n;have hc:=b0F s.bends 222 [t.cells,x.cells,y.cells] (fun q=>decide (x7 t.a t.b q (x.Half+x.Swing+y.Half)<=0)) (fun q hq=>b7D t x y q ht (qn.1 hs.l q hq) hx hy) (by omega);refine oB Tryz.func204 Tryz.ntmps204 Tryz.results204 ?_;refine aW ?_;refine aW ?_ fun K hK=>by simp -dsimp;refine cI (hc) ?_;simp -dsimp;exact hK
 exact a6 (by simp[P4])
theorem b8Z (s t:SS) (x y:Profile) (hs:s.Ok) (ht:t.Ok) (hx:z5 x=true) (hy:z5 y=true):a9 Tryz.prog 205 [s.av,x.av,t.av,y.av] (Bo (P4 t s (y.Half+y.Swing+x.Half))):=by
 refine oB Tryz.func205 Tryz.ntmps205 Tryz.results205 ?_;refine aW ?_;refine aW ?_ fun K hK=>by simp -dsimp;refine cI (b5c t s y x ht hs hy hx) ?_;simp -dsimp;exact hK
 exact a6 (by simp)
theorem c4K (s t:SS) (x y:Profile) (hs:s.Ok) (ht:t.Ok) (hx:z5 x=true) (hy:z5 y=true):a9 Tryz.prog 206 [s.av,x.av,t.av,y.av] (Bo (a5s s t (x.Half+x.Swing+y.Half+y.Swing))):=by
 rw[L9]at hx hy;have w1:IntKind.i64.wrap (x.Half+x.Swing)=x.Half+x.Swing:=c4 (by omega) (by omega);have w2:IntKind.i64.wrap (x.Half+x.Swing+y.Half)=x.Half+x.Swing+y.Half:=c4 (by omega) (by omega);have w3:IntKind.i64.wrap (x.Half+x.Swing+y.Half+y.Swing)=x.Half+x.Swing+y.Half+y.Swing:=c4 (by omega) (by omega);have hsn:=hs.n;have htn:=ht.n;refine oB Tryz.func206 Tryz.ntmps206 Tryz.results206 ?_;refine aW ?_;refine aW ?_ fun K hK=>by simp -dsimp [w1,w2,w3];exact hK
 refine a5 fun K1 hK1=>?_;refine aW ?_;refine b8 ?_;refine aP [6,9,27,28,29] ?_;refine c6 [6,9,27,28] (α:=Nat) (fun k=>[(29,I k)]) (fun _=>[some (.els 9 [s.cells]),some (.els 2 [x.cells]),some (.els 9 [t.cells]),some (.els 2 [y.cells])]) (fun k=>k<=s.bends.length/\((s.bends.take k).any fun q=>t.bends.any fun r=>decide (z4 q r q r<=(x.Half+x.Swing+y.Half+y.Swing)*(x.Half+x.Swing+y.Half+y.Swing)))=false) (fun k=>s.bends.length-k) 0 ?_ ?_ ?_
 ·simp
 ·exact c9 (by simp)
 rintro k ⟨k1,k2⟩;refine zN ?_;refine aW ?_;refine a5 fun K2 hK2=>?_;refine a7 rfl (fun hc0=>?_) (fun hc0=>?_)
 ·skip
  try simp at hc0
  obtain⟨q,hq⟩:=gx (l:=s.bends) (i:=k) hc0;have wk:=zW k (by omega);have sq:=qn.1 hs.l q (qd hq);refine b9 ?_;refine zQ (hK2 _ _ ?_);refine aP [6,9,27,28,29] ?_;refine a5 fun K3 hK3=>?_;refine b8 ?_;refine aW ?_ fun K hK=>by simp -dsimp [hq];exact hK
  refine aW ?_;refine b8 ?_;refine aP [6,9,11,27,28,29,34,35,36] ?_;refine c6 [6,9,11,27,28,29,34,35] (α:=Nat) (fun j=>[(36,I j)]) (fun _=>[some (.els 9 [s.cells]),some (.els 2 [x.cells]),some (.els 9 [t.cells]),some (.els 2 [y.cells]),some (.els 2 [q.cells])]) (fun j=>j<=t.bends.length/\((t.bends.take j).any fun r=>decide (z4 q r q r<=(x.Half+x.Swing+y.Half+y.Swing)*(x.Half+x.Swing+y.Half+y.Swing)))=false) (fun j=>t.bends.length-j) 0 ?_ ?_ ?_
  ·simp
  ·exact c9 (by simp)
  rintro j ⟨j1,j2⟩;refine zN ?_;refine aW ?_;refine a5 fun K4 hK4=>?_;refine a7 rfl (fun hc1=>?_) (fun hc1=>?_)
  ·skip
   try simp at hc1
   obtain⟨r,hr⟩:=gx (l:=t.bends) (i:=j) hc1;have wj:=zW j (by omega);have sr:=qn.1 ht.l r (qd hr);have hdd:=y6 (a:=x.Half+x.Swing+y.Half+y.Swing) (b:=x.Half+x.Swing+y.Half+y.Swing) (A:=7000) (B:=7000) (by omega) (by omega) (by omega) (by omega);have w4:IntKind.i64.wrap ((x.Half+x.Swing+y.Half+y.Swing)*(x.Half+x.Swing+y.Half+y.Swing))=(x.Half+x.Swing+y.Half+y.Swing)*(x.Half+x.Swing+y.Half+y.Swing):=c4 (by omega) (by omega);refine b9 ?_;refine zQ (hK4 _ _ ?_);refine aP [6,9,11,27,28,29,34,35,36] ?_;refine a5 fun K5 hK5=>?_;refine b8 ?_;refine aW ?_ fun K hK=>by simp -dsimp [hr];exact hK
   refine aW ?_ fun K hK=>by simp -dsimp;refine cI (a2h q r sq sr) ?_;simp -dsimp;exact hK
   refine aW ?_ fun K hK=>by simp -dsimp [w4];refine cI (a8I q r q r sq sr sq sr) ?_;simp -dsimp [w4];exact hK
   refine a7 rfl (fun hc2=>?_) (fun hc2=>?_)
   ·skip
    try simp at hc2
    have hb:a5s s t (x.Half+x.Swing+y.Half+y.Swing)=true:=by
     unfold a5s;rw[qy];exact⟨q,qd hq,qy.2 ⟨r,qd hr,by simpa using hc2⟩⟩
    refine aW ?_;exact a6 (by simp[hb])
   ·skip
    try simp at hc2
    refine b9 ?_;refine zQ (hK5 _ _ ?_);refine aP [6,9,11,27,28,29,34,35,36] ?_;refine aV ?_ fun K hK=>by simp -dsimp [wj];exact hK
    refine zQ ?_;exact⟨j+1,⟨by omega,by rw[any_take hr,j2];simp;omega⟩,by omega,aB [some 0,some 1,some 2,some 3,some 4]⟩
  ·skip
   try simp at hc1
   have hin:=v6 (by omega) j2;refine d4 ?_;refine zQ (hK3 _ _ ?_);refine aP [6,9,27,28,29] ?_;refine aV ?_ fun K hK=>by simp -dsimp [wk];exact hK
   refine zQ ?_;exact⟨k+1,⟨by omega,by rw[any_take hq,k2,hin];rfl⟩,by omega,aB [some 0,some 1,some 2,some 3]⟩
 ·skip
  try simp at hc0
  have hall:=v6 (by omega) k2;have hb:a5s s t (x.Half+x.Swing+y.Half+y.Swing)=false:=hall;refine d4 ?_;refine zQ (hK1 _ _ ?_);refine aP [] ?_;refine aW ?_;exact a6 (by simp[hb])
def a0Y:List FuncId:=[203,204,205,206]
def a0X (s:SS) (x:Profile) (t:SS) (y:Profile):List Bool:=[decide (apart s.a s.b t.a t.b (x.Half+y.Half)<=0),P4 s t (x.Half+x.Swing+y.Half),P4 t s (y.Half+y.Swing+x.Half),a5s s t (x.Half+x.Swing+y.Half+y.Swing)]
theorem a4z (s:SS) (x:Profile) (t:SS) (y:Profile):(a0X s x t y).any id=Z5 s x t y:=by simp[a0X,Z5]
theorem c2n:a9 Tryz.prog 186 [] (.full 1 (a0Y.map fun f=>[.clo f []])):=by
 refine oB Tryz.func186 Tryz.ntmps186 Tryz.results186 ?_;refine aW ?_;refine aW ?_;exact a6 (by simp[a0Y])
theorem c3Z (s t:SS) (x y:Profile) (hs:s.Ok) (ht:t.Ok) (hx:z5 x=true) (hy:z5 y=true) {k:Nat} {f:FuncId} {b:Bool} (hf:a0Y[k]?=some f) (hb:(a0X s x t y)[k]?=some b):
  a9 Tryz.prog f [s.av,x.av,t.av,y.av] (Bo b):=by
 match k,hf,hb with
 |0,hf,hb=>simp[a0Y,a0X]at hf hb;subst hf hb;exact c4X s t x y hs ht hx hy
 |1,hf,hb=>simp[a0Y,a0X]at hf hb;subst hf hb;exact b5c s t x y hs ht hx hy
 |2,hf,hb=>simp[a0Y,a0X]at hf hb;subst hf hb;exact b8Z s t x y hs ht hx hy
 |3,hf,hb=>simp[a0Y,a0X]at hf hb;subst hf hb;exact c4K s t x y hs ht hx hy
 |k+4,hf,hb=>simp[a0Y]at hf
theorem c4m (s t:SS) (x y:Profile) (hs:s.Ok) (ht:t.Ok) (hx:z5 x=true) (hy:z5 y=true):a9 Tryz.prog 162 [s.av,x.av,t.av,y.av] (Bo (Z5 s x t y)):=by
 have hfl:a0Y.length=4:=rfl;have hbl:(a0X s x t y).length=4:=rfl;refine oB Tryz.func162 Tryz.ntmps162 Tryz.results162 ?_;refine aW ?_;refine b4H ?_;refine aW ?_;refine c3T ?_;refine a5 fun K1 hK1=>?_;refine aW ?_ fun K hK=>by simp -dsimp [hfl];refine cI (c2n) ?_;simp -dsimp [hfl];exact hK
 refine b8 ?_;refine aP [4,5,6,7,9,12,13,14] ?_;refine c6 [4,5,6,7,12,13] (α:=Nat) (fun k=>[(14,I k),(9,Bo false)]) (fun _=>[some (.els 9 [s.cells]),some (.els 2 [x.cells]),some (.els 9 [t.cells]),some (.els 2 [y.cells])]) (fun k=>k<=4/\((a0X s x t y).take k).any id=false) (fun k=>4-k) 0 ?_ ?_ ?_
 ·simp
 ·exact c9 (by simp)
 rintro k ⟨k1,k2⟩;refine zN ?_;refine aW ?_;refine a5 fun K2 hK2=>?_;refine a7 rfl (fun hc0=>?_) (fun hc0=>?_)
 ·skip
  try simp at hc0
  obtain⟨f,hf⟩:=gx (l:=a0Y) (i:=k) (by omega);obtain⟨b,hb⟩:∃b,(a0X s x t y)[k]?=some b:=⟨_,qc (by omega)⟩;have wk:=zW k (by omega);refine b9 ?_;refine zQ (hK2 _ _ ?_);refine aP [4,5,6,7,9,12,13,14] ?_;refine a5 fun K3 hK3=>?_;refine b8 ?_;refine aW ?_ fun K hK=>by simp -dsimp [hf];exact hK
  refine aW ?_ fun K hK=>by simp -dsimp;refine cI (c3Z s t x y hs ht hx hy hf hb) ?_;simp -dsimp;exact hK
  refine a7 rfl (fun hc1=>?_) (fun hc1=>?_)
  ·skip
   try simp at hc1
   have hv:Z5 s x t y=true:=by rw[<-a4z,qy];exact⟨b,qd hb,by simpa using hc1⟩
   refine aW ?_;refine d4 ?_;refine zQ (hK1 _ _ ?_);refine aP [9] ?_;refine aW ?_;exact a6 (by simp[hv])
  ·skip
   try simp at hc1
   refine b9 ?_;refine zQ (hK3 _ _ ?_);refine aP [4,5,6,7,9,12,13,14] ?_;refine aV ?_ fun K hK=>by simp -dsimp [wk];exact hK
   refine zQ ?_;exact⟨k+1,⟨by omega,by rw[any_take hb,k2,hc1];rfl⟩,by omega,aB [some 0,some 1,some 2,some 3]⟩
 ·skip
  try simp at hc0
  have hv:Z5 s x t y=false:=by rw[<-a4z];exact v6 (by omega) k2
  refine d4 ?_;refine zQ (hK1 _ _ ?_);refine aP [9] ?_;refine aW ?_;exact a6 (by simp[hv])
end Go.Tram
end
section
namespace Go.Tram
open Go.AM Go.Proofs
theorem a3v {p:Plan} {r:Int} (h0:0<=r) (h1:r<p.Rails.length):(k8 p p.Rails.length)[r.toNat]?=some [.lst 9 ((p.strips r).map SS.cells)]:=by
 rw[a7A (by omega),show((r.toNat:Nat):Int)=r by omega]
end Go.Tram
end
section
namespace Go.Tram
open Go.AM Go.Proofs
structure Plan.Fit (p:Plan):Prop where
 n:p.Nodes.length<=9223372036854775807
 r:p.Rails.length<=9223372036854775807
def fewB (p:Plan):Bool:=p.Rails.all (fun r=>decide (r.Shape.length<=40))&&(p.Nodes.all (fun n=>decide (n.Ends.length<=10))&&(decide (p.Rails.length<=12)&&decide (p.Nodes.length<=16)))
def l5:Plan:=
 {Nodes:=[⟨⟨0,0⟩,1,[⟨0,false⟩],0⟩,⟨⟨1000,0⟩,4,[⟨0,true⟩,⟨1,false⟩,⟨2,false⟩],0⟩,⟨⟨2000,0⟩,1,[⟨1,true⟩],0⟩,⟨⟨2000,500⟩,1,[⟨2,true⟩],0⟩]
  Rails:=[⟨0,1,[],8000,0⟩,⟨1,2,[],8000,0⟩,⟨1,3,[⟨1600,0⟩],8000,0⟩]}
def c2o:AV:= .agg [.full 5 [[I 0,I 0,I 1, .full 2 [[I 0,Bo false]],I 0],[I 1000,I 0,I 4, .full 2 [[I 0,Bo true],[I 1,Bo false],[I 2,Bo false]],I 0],[I 2000,I 0,I 1, .full 2 [[I 1,Bo true]],I 0],[I 2000,I 500,I 1, .full 2 [[I 2,Bo true]],I 0]],
 .full 5 [[I 0,I 1, .v (.slice none 0 0),I 8000,I 0],[I 1,I 2, .v (.slice none 0 0),I 8000,I 0],[I 1,I 3, .full 2 [[I 1600,I 0]],I 8000,I 0]]]
theorem b1x (a b:Spot) (k:Int) (hk:b9u (sqd a b) k):far a b=k:=b1B hk
theorem c6F:D4 (l5.line 0) 0=1000:=by unfold D4;exact b1x _ _ 1000 (by unfold b9u;decide+kernel)
theorem c7v:D4 (l5.line 1) 0=1000:=by unfold D4;exact b1x _ _ 1000 (by unfold b9u;decide+kernel)
theorem c6C:D4 (l5.line 2) 0=600:=by unfold D4;exact b1x _ _ 600 (by unfold b9u;decide+kernel)
theorem c7h:D4 (l5.line 2) 1=640:=by unfold D4;exact b1x _ _ 640 (by unfold b9u;decide+kernel)
theorem c6j:E5 l5 (l5.rail 0)=true:=by
 have h1:S8 l5 (l5.rail 0)=true:=by decide+kernel
 have h2:(l5.rail 0).Shape=[]:=by decide+kernel
 have e:v9 l5 (l5.rail 0)=l5.line 0:=rfl;simp[E5,h1,h2,e,List.range_succ,a8O,c6F,inr]
theorem c5C:E5 l5 (l5.rail 1)=true:=by
 have h1:S8 l5 (l5.rail 1)=true:=by decide+kernel
 have h2:(l5.rail 1).Shape=[]:=by decide+kernel
 have e:v9 l5 (l5.rail 1)=l5.line 1:=rfl;simp[E5,h1,h2,e,List.range_succ,a8O,c7v,inr]
theorem c5S:E5 l5 (l5.rail 2)=true:=by
 have h1:S8 l5 (l5.rail 2)=true:=by decide+kernel
 have h2:(l5.rail 2).Shape=[⟨1600,0⟩]:=by decide+kernel
 have h3:l7 ⟨1600,0⟩=true:=by decide+kernel
 have e:v9 l5 (l5.rail 2)=l5.line 2:=rfl;simp[E5,h1,h2,h3,e,List.range_succ,a8O,c6C,c7h,inr]
theorem b0S:d8 l5=true:=by
 have h1:l5.Nodes.all C3=true:=by decide+kernel
 have h2:a1b l5=true:=by decide+kernel
 have e:l5.Rails=[l5.rail 0,l5.rail 1,l5.rail 2]:=by unfold Plan.rail;rfl
 have h3:l5.Rails.all (E5 l5)=true:=by rw[e];simp[c6j,c5C,c5S]
 have h4:inr (l5.Nodes.length) 1 300=true:=by decide+kernel
 have h5:inr (l5.Rails.length) 1 400=true:=by decide+kernel
 simp[d8,a1d,h1,h2,h3,h4,h5]
theorem ex_foul:Z5 (l5.strip ⟨0,0⟩) ⟨275,50⟩ (l5.strip ⟨2,1⟩) ⟨275,50⟩=true:=by decide+kernel
end Go.Tram
end
section
namespace Go.Tram
open Go.AM Go.Proofs
def RC (w:World) (avs:List AV) (cs:List Value):Prop:=avs.length=cs.length/\∀(i:Nat) c x,avs[i]?=some c->cs[i]?=some x->r8 w (fun _=>False) c x/\I0 x=true
theorem RC.one {w:World} {a:AV} {x:Value} (h:r8 w (fun _=>False) a x) (hc:I0 x=true):RC w [a] [x]:=by
 refine⟨rfl,fun i c y h1 h2=>?_⟩
 cases i with
 |zero=>simp at h1 h2;subst h1 h2;exact⟨h,hc⟩
 |succ i=>simp at h1
theorem RC.app {w:World} {a b:List AV} {x y:List Value} (h:RC w a x) (k:RC w b y):RC w (a++b) (x++y):=by
 refine⟨by simp[h.1,k.1],fun i c u h1 h2=>?_⟩
 by_cases hi:i<a.length
 ·rw[qw hi]at h1;rw[qw (by rw[<-h.1];exact hi)]at h2;exact h.2 i c u h1 h2
 ·rw[qv (by omega)]at h1;rw[qv (by rw[<-h.1];omega),<-h.1]at h2;exact k.2 _ c u h1 h2
def b7b:List (Nat×Nat×TypeId)->Nat->Nat->Bool
 |[],o,n=>o==n
 |(off,sz,_)::r,o,n=>off==o&&b7b r (o+sz) n
theorem b6L:∀(fs:List (Nat×Nat×TypeId)) (o n:Nat),b7b fs o n=true->o<=n
 |[],o,n,h=>by simp[b7b]at h;omega
 |(off,sz,t)::r,o,n,h=>by
  simp only[b7b,qh]at h;have:=b6L r _ _ h.2;omega
theorem b0R:∀(fs:List (Nat×Nat×TypeId)) (o n:Nat),b7b fs o n=true->∀f∈fs,o<=f.1
 |[],o,n,h,f,hf=>by cases hf
 |(off,sz,t)::r,o,n,h,f,hf=>by
  simp only[b7b,qh,beq_iff_eq]at h
  rcases List.mem_cons.1 hf with rfl|hf
  ·simp only[];omega
  ·have:=b0R r _ _ h.2 f hf;omega
theorem b2k {w:World} {Q:(Nat×Nat×TypeId)->List AV->Prop}:∀(fs:List (Nat×Nat×TypeId)) (o N:Nat) (cs:List Value),b7b fs o N=true->cs.length=N->
  (∀f∈fs,∃a,RC w a ((cs.drop f.1).take f.2.1)/\Q f a)->∃avs,RC w avs (cs.drop o)/\∀f∈fs,Q f ((avs.drop (f.1-o)).take f.2.1)
 |[],o,N,cs,h,hl,_=>by
  simp only[b7b,beq_iff_eq]at h;refine⟨[],⟨by simp;omega,fun i c x h1=>by simp at h1⟩,fun f hf=>by cases hf⟩
 |(off,sz,t)::r,o,N,cs,h,hl,hq=>by
  simp only[b7b,qh,beq_iff_eq]at h;obtain⟨rfl,h2⟩:=h;have hle:=b6L r _ _ h2;obtain⟨a,ha,hqa⟩:=hq _ (List.mem_cons_self ..);obtain⟨b,hb,hqb⟩:=b2k r (off+sz) N cs h2 hl (fun f hf=>hq f (List.mem_cons_of_mem _ hf));have hal:a.length=sz:=by rw[ha.1];simp;omega
  have hsplit:cs.drop off=(cs.drop off).take sz++cs.drop (off+sz):=by rw[<-List.drop_drop,List.take_append_drop]
  refine⟨a++b,by rw[hsplit];exact ha.app hb,fun f hf=>?_⟩
  rcases List.mem_cons.1 hf with rfl|hf
  ·simp only[Nat.sub_self,List.drop_zero];rw[List.take_append_of_le_length (by omega),qg (by omega)];exact hqa
  ·have ho:=b0R r _ _ h2 f hf;have:=hqb f hf;rw[List.drop_append,List.drop_eq_nil_of_le (by omega),List.nil_append,hal,show f.1-off-sz=f.1-(off+sz)by omega];exact this
section
variable {P:Program}
def b0B (P:Program):Nat->TypeId->Bool
 |0,_=>false
 | n+1,t=>match a3y P t with
  |some _=>true
  |none=>match d6 P t with
   | .slice e=>decide ((d6 P e).size≠0)&&b0B P n e
   | .agg z fs=>b7b fs 0 z.length&&fs.all fun f=>b0B P n f.2.2
   |_=>false
def x3 (P:Program):Nat->TypeId->List AV->Prop
 |0,_,_=>False
 | n+1,t,avs=>match a3y P t with
  |some (.i k)=>∃m,avs=[.v (.int k m)]/\(Lit.int k m).wf=true
  |some .b=>∃b,avs=[.v (.bool b)]
  |none=>match d6 P t with
   | .slice e=>∃els,avs=[.lst (d6 P e).size els]/\els.length<=maxLen/\∀el∈els,x3 P n e el
   | .agg z fs=>avs.length=z.length/\∀f∈fs,x3 P n f.2.2 ((avs.drop f.1).take f.2.1)
   |_=>False
theorem b2G (w:World) {e:TypeId} (h:d6 P e≠ .bad):P.cellsOf e=(d6 P e).size:=by
 obtain⟨i,h1,h2,_⟩:=X5 (P:=P) (w:=w) h;simp[Program.cellsOf,h1,h2]
theorem b2j {w:World} {R:List AV->List Value->Prop} {g:Nat->Option (List Value)}:∀n,(∀i,i<n->∃cs,g i=some cs/\∃a,R a cs)->
  ∃(els:List (List AV)) (css:List (List Value)),els.length=n/\css.length=n/\∀(i:Nat) a cs,els[i]?=some a->css[i]?=some cs->g i=some cs/\R a cs
 |0,_=>⟨[],[],rfl,rfl,fun i a cs h=>by simp at h⟩
 | n+1,h=>by
  obtain⟨els,css,h1,h2,h3⟩:=b2j (w:=w) (R:=R) (g:=g) n (fun i hi=>h i (by omega));obtain⟨cs,hg,a,ha⟩:=h n (by omega);refine⟨els++[a],css++[cs],by simp[h1],by simp[h2],fun i b ds k1 k2=>?_⟩
  by_cases hi:i<n
  ·rw[qw (by omega)]at k1 k2;exact h3 i b ds k1 k2
  ·have hn:i=n:=by
    have:=(qa.1 k1).1;simp[h1]at this;omega
   subst hn;rw[qv (by omega)]at k1 k2;simp[h1,h2]at k1 k2;subst k1 k2;exact⟨hg,ha⟩
theorem b4E {H:Type} {enc:TypeId×Value->H} {w:World} {spare:Nat->Bool} {held:Bool}:∀(n:Nat) (fuel:Nat) (t:TypeId) (cs:List Value) (x:DataW H×List MemPlace),b0B P n t=true->
  DataW.trod enc P w 0 spare held fuel t cs=some x->∃avs,RC w avs cs/\x3 P n t avs:=by
 intro n
 induction n with
 |zero=>intro fuel t cs x h;simp[b0B]at h
 | succ n ih=>
  intro fuel t cs x hg h;unfold b0B at hg;unfold x3
  cases hk:a3y P t with
  | some kt=>
   have hu:=(G5 hk).2.2.2
   cases kt with
   |i k=>
    obtain⟨m,rfl,rfl,hw⟩:=DataW.trod_int hu h;exact⟨[.v (.int k m)],RC.one (.v _) rfl,m,rfl,hw⟩
   |b=>
    obtain⟨b,rfl,rfl⟩:=DataW.trod_bool hu h;exact⟨[.v (.bool b)],RC.one (.v _) rfl,b,rfl⟩
  | none=>
   rw[hk]at hg;simp only at hg ⊢
   cases ht:d6 P t with
   |cell z=>rw[ht]at hg;simp at hg
   |arr z m e=>rw[ht]at hg;simp at hg
   |bad=>rw[ht]at hg;simp at hg
   | slice e=>
    rw[ht]at hg;simp only[qh,decide_eq_true_eq]at hg ⊢;obtain⟨hsz,hge⟩:=hg;have hne:d6 P e≠ .bad:=by intro hb;rw[hb]at hsz;exact hsz rfl
    have hc:=b2G w hne;obtain⟨info,h1,h2,_⟩:=o6 ht
    rcases DataW.trod_slice h2 h with⟨rfl,rfl⟩|⟨a,len,cap,elems,rest,n',rfl,rfl,rfl,hb,hl,hcap,hel,hall,_⟩
    ·exact⟨[.lst (d6 P e).size []],RC.one (.lstNil _ _ _) rfl,[],rfl,by simp,by simp⟩
    ·rw [hc]at hall;obtain⟨els,css,e1,e2,e3⟩:=b2j (w:=w) (R:=fun a cs=>RC w a cs/\x3 P n e a) (g:=fun i=>w.cells? 0 (a.add (i*(d6 P e).size)) (d6 P e).size) len (fun i hi=>by
      have h3:=hall i hi;obtain⟨y,hy⟩:=gx (l:=elems) (i:=i) (by omega);rw[hy,Option.bind_eq_some_iff]at h3;obtain⟨cs,q1,q2⟩:=h3;obtain⟨av,r1,r2⟩:=ih _ _ _ _ hge q2;exact⟨cs,q1,av,r1,r2⟩)
     refine⟨[.lst (d6 P e).size els],?_,els,rfl,by omega,?_⟩
     ·refine RC.one ?_ rfl
      by_cases hlen:len=0
      ·have:els=[]:=List.eq_nil_of_length_eq_zero (by omega);subst this;subst hlen;exact .lstNil _ _ _
      ·have hcell:∀(i j:Nat) cs,css[i]?=some cs->j<(d6 P e).size->w.cell? ((a.add (i*(d6 P e).size)).add j)=cs[j]?/\cs.length=(d6 P e).size:=by
        intro i j cs hi hj;have hil:=(qa.1 hi).1;obtain⟨av,hav⟩:=gx (l:=els) (i:=i) (by omega);have:=World.cells?_some (e3 i av cs hav hi).1;exact⟨this.2.2 j hj,this.2.1⟩
       have hspot:a.spot=none:=by
        obtain⟨cs,hcs⟩:=gx (l:=css) (i:=0) (by omega);obtain⟨k1,k2⟩:=hcell 0 0 cs hcs (by omega);rw[qc (by omega)]at k1;have ha:(a.add (0*(d6 P e).size)).add 0=a:=by simp[Addr.add]
        rw[ha]at k1;exact World.cell?_spot k1
       obtain⟨b,off,sp⟩:=a;simp only at hspot;subst hspot;have hcl:∀c∈css,c.length=(d6 P e).size:=by
        intro c hc';obtain⟨i,hi⟩:=List.getElem?_of_mem hc';exact(hcell i 0 c hi (by omega)).2
       have hell:∀c∈els,c.length=(d6 P e).size:=by
        intro c hc';obtain⟨i,hi⟩:=List.getElem?_of_mem hc';have hil:=(qa.1 hi).1;obtain⟨cs,hcs⟩:=gx (l:=css) (i:=i) (by omega);rw[(e3 i c cs hi hcs).2.1.1];exact hcl cs (qd hcs)
       have key:∀(i:Nat) (x:Value),css.flatten[i]?=some x->∃q j cs,i=q*(d6 P e).size+j/\j<(d6 P e).size/\css[q]?=some cs/\cs[j]?=some x:=by
        intro i x hx;have hil:=(qa.1 hx).1;rw[j4 hcl]at hil;have hq:i/ (d6 P e).size<css.length:=by rw[Nat.div_lt_iff_lt_mul (by omega)];exact hil
        have hj:=Nat.mod_lt i (show(d6 P e).size>0 by omega);have hme:i=i/ (d6 P e).size*(d6 P e).size+i % (d6 P e).size:=by rw[Nat.mul_comm];exact(Nat.div_add_mod i _).symm
        obtain⟨cs,hcs⟩:∃cs,css[i/ (d6 P e).size]?=some cs:=⟨_,qc hq⟩;refine⟨_,_,cs,hme,hj,hcs,?_⟩;have:=o8 hcl hcs (i % (d6 P e).size) hj;rw[<-hme]at this;rw[<-this];exact hx
       have hre:els.length=len:=e1;rw[<-hre];have hblk:b<w.heap.size:=by
        obtain⟨cs,hcs⟩:=gx (l:=css) (i:=0) (by omega);obtain⟨k1,k2⟩:=hcell 0 0 cs hcs (by omega);rw[qc (by omega)]at k1;simp only[Nat.zero_mul,Addr.add_lit,Nat.add_zero]at k1
        rcases Nat.lt_or_ge b w.heap.size with hlt|hge
        ·exact hlt
        ·simp[World.cell?,Array.getElem?_eq_none hge]at k1
       refine r8.lst _ els b off cap css.flatten (fun h=>h) hblk (by omega) hell (by rw[j4 hell,j4 hcl,e1,e2]) ?_ ?_
       ·intro i x hx;obtain⟨q,j,cs,rfl,hj,hcs,hxj⟩:=key i x hx;obtain⟨k1,_⟩:=hcell q j cs hcs hj;rw[Addr.add_lit,Addr.add_lit,hxj]at k1;obtain⟨av,hav⟩:=gx (l:=els) (i:=q) (by have:=(qa.1 hcs).1;omega);have hr:=(e3 q av cs hav hcs).2.1;obtain⟨c,hc'⟩:∃c,av[j]?=some c:=⟨_,qc (by rw[hr.1];exact(qa.1 hxj).1)⟩;refine⟨?_,(hr.2 j c x hc' hxj).2⟩;rw[<-Nat.add_assoc];exact k1
       ·intro i c x hc' hx;obtain⟨q,j,cs,rfl,hj,hcs,hxj⟩:=key i x hx;obtain⟨av,hav⟩:=gx (l:=els) (i:=q) (by have:=(qa.1 hcs).1;omega);rw[o8 hell hav j hj]at hc';exact((e3 q av cs hav hcs).2.1.2 j c x hc' hxj).1
     ·intro el hel';obtain⟨i,hi⟩:=List.getElem?_of_mem hel';have hil:=(qa.1 hi).1;obtain⟨cs,hcs⟩:=gx (l:=css) (i:=i) (by omega);exact(e3 i el cs hi hcs).2.2
   | agg z fs=>
    rw[ht]at hg;simp only[qh]at hg ⊢;obtain⟨hlay,hgf⟩:=hg;obtain⟨info,fa,h1,h2,h3,h4,hfs,_,hall⟩:=G9 ht;obtain⟨xs,n',rfl,rfl,hl,hxl,hf⟩:=DataW.trod_struct h2 h;have hcl:cs.length=z.length:=by rw[hl];simp[Program.cellsOf,h1,h4]
    obtain⟨avs,hr,hq⟩:=b2k (w:=w) (Q:=fun f a=>x3 P n f.2.2 a) fs 0 z.length cs hlay hcl (fun f hff=>by
     have hff':=hff;rw[hfs,List.mem_map]at hff';obtain⟨fd,hfd,rfl⟩:=hff';obtain⟨i,hi⟩:=List.getElem?_of_mem hfd;have hia:fa[i]?=some fd:=by simpa using hi
     have htr:=hf i fd hia;have hil:i<xs.length:=by rw[hxl];exact(Array.getElem?_eq_some_iff.1 hia).1
     rw[qc hil]at htr;exact ih _ _ _ _ (qn.1 hgf _ hff) htr)
    rw[List.drop_zero]at hr;refine⟨avs,hr,by rw[hr.1,hcl],fun f hff=>?_⟩;have:=hq f hff
    rwa [Nat.sub_zero]at this
end
end Go.Tram
end
section
namespace Go.Tram
open Go.AM Go.Proofs
section
variable {P:Program}
theorem A5 {n:Nat} {t e:TypeId} {avs:List AV} (hk:a3y P t=none) (ht:d6 P t= .slice e) (h:x3 P (n+1) t avs):∃els,avs=[.lst (d6 P e).size els]/\els.length<=maxLen/\∀el∈els,x3 P n e el:=by
 simp only[x3,hk,ht]at h;exact h
theorem C0 {n:Nat} {t:TypeId} {z:List Value} {fs:List (Nat×Nat×TypeId)} {avs:List AV} (hk:a3y P t=none) (ht:d6 P t= .agg z fs) (h:x3 P (n+1) t avs):avs.length=z.length/\∀f∈fs,x3 P n f.2.2 ((avs.drop f.1).take f.2.1):=by
 simp only[x3,hk,ht]at h;exact h
theorem a6o {n:Nat} {t:TypeId} {k:IntKind} {avs:List AV} (hk:a3y P t=some (.i k)) (h:x3 P (n+1) t avs):∃m,avs=[.v (.int k m)]/\(Lit.int k m).wf=true:=by
 simp only[x3,hk]at h;exact h
theorem a5b {n:Nat} {t:TypeId} {avs:List AV} (hk:a3y P t=some .b) (h:x3 P (n+1) t avs):∃b,avs=[.v (.bool b)]:=by
 simp only[x3,hk]at h;exact h
end
theorem W6 {α:Type} {c:α->List AV} {R:α->Prop}:∀{els:List (List AV)},(∀el∈els,∃a,el=c a/\R a)->∃l:List α,els=l.map c/\∀a∈l,R a
 |[],_=>⟨[],rfl,by simp⟩
 |e::els,h=>by
  obtain⟨a,rfl,ha⟩:=h e (List.mem_cons_self ..);obtain⟨l,rfl,hl⟩:=W6 (els:=els) (c:=c) (R:=R) (fun el hel=>h el (List.mem_cons_of_mem _ hel));refine⟨a::l,rfl,fun b hb=>?_⟩
  rcases List.mem_cons.1 hb with rfl|hb
  ·exact ha
  ·exact hl b hb
theorem a8X:(Tryz.prog).underlying 4=some .bool:=by kernel_rfl
theorem c5X:a3y Tryz.prog 3=some (.i .i64):=by kernel_rfl
theorem c3F:a3y Tryz.prog 77=some (.i .i64):=by kernel_rfl
theorem c0x:a3y Tryz.prog 4=some .b:=by kernel_rfl
def I64 (n:Int):Prop:=-9223372036854775808<=n/\n<=9223372036854775807
theorem c3C {m:Int} (h:(Lit.int .i64 m).wf=true):I64 m:=by
 simpa [Lit.wf,IntKind.min,IntKind.max,IntKind.signed,IntKind.bits,I64]using h
theorem R9 {n:Nat} {avs:List AV} (h:x3 Tryz.prog (n+1) 3 avs):∃m,avs=[I m]/\I64 m:=by
 obtain⟨m,h1,h2⟩:=a6o c5X h;exact⟨m,h1,c3C h2⟩
theorem b4G {α:Type} {l:List α} (h:l.length=2):∃a b,l=[a,b]:=by match l,h with|[a,b],_=>exact⟨a,b,rfl⟩
theorem c5a {α:Type} {l:List α} (h:l.length=5):∃a b c d e,l=[a,b,c,d,e]:=by match l,h with|[a,b,c,d,e],_=>exact⟨a,b,c,d,e,rfl⟩
theorem b6a {n:Nat} {avs:List AV} (h:x3 Tryz.prog (n+2) 76 avs):∃s:Spot,avs=s.cells:=by
 obtain⟨h1,h2⟩:=C0 (by kernel_rfl) c7w h;obtain⟨a,b,rfl⟩:=b4G h1;obtain⟨x,hx,_⟩:=R9 (h2 (0,1,3) (by simp));obtain⟨y,hy,_⟩:=R9 (h2 (1,1,3) (by simp));simp at hx hy;subst hx hy;exact⟨⟨x,y⟩,rfl⟩
theorem c4b {n:Nat} {avs:List AV} (h:x3 Tryz.prog (n+2) 161 avs):∃s:E1,avs=s.cells:=by
 obtain⟨h1,h2⟩:=C0 (by kernel_rfl) c6b h;obtain⟨a,b,rfl⟩:=b4G h1;obtain⟨x,hx,_⟩:=R9 (h2 (0,1,3) (by simp));obtain⟨y,hy⟩:=a5b c0x (h2 (1,1,4) (by simp));simp at hx hy;subst hx hy;exact⟨⟨x,y⟩,rfl⟩
theorem c2Q {n:Nat} {avs:List AV} (h:x3 Tryz.prog (n+5) 80 avs):∃s:Node,avs=s.cells:=by
 obtain⟨h1,h2⟩:=C0 (by kernel_rfl) c7l h;obtain⟨a,b,c,d,e,rfl⟩:=c5a h1;obtain⟨s,hs⟩:=b6a (h2 (0,2,76) (by simp));obtain⟨k,hk,_⟩:=a6o c3F (h2 (2,1,77) (by simp));obtain⟨els,hl,_,hels⟩:=A5 (by kernel_rfl) c7s (h2 (3,1,78) (by simp));obtain⟨m,hm,_⟩:=R9 (h2 (4,1,3) (by simp));obtain⟨l,rfl,_⟩:=W6 (c:=E1.cells) (R:=fun _=>True) (fun el hel=>by obtain⟨s,hs⟩:=c4b (hels el hel);exact⟨s,hs,trivial⟩);simp at hs hk hl hm;obtain⟨rfl,rfl⟩:=hs;subst hk hl hm;exact⟨⟨s,k,l,m⟩,by simp⟩
theorem c1d {n:Nat} {avs:List AV} (h:x3 Tryz.prog (n+5) 83 avs):∃s:Rail,avs=s.cells:=by
 obtain⟨h1,h2⟩:=C0 (by kernel_rfl) c8c h;obtain⟨a,b,c,d,e,rfl⟩:=c5a h1;obtain⟨x,hx,_⟩:=R9 (h2 (0,1,3) (by simp));obtain⟨y,hy,_⟩:=R9 (h2 (1,1,3) (by simp));obtain⟨els,hl,_,hels⟩:=A5 (by kernel_rfl) c7m (h2 (2,1,81) (by simp));obtain⟨u,hu,_⟩:=R9 (h2 (3,1,3) (by simp));obtain⟨v,hv,_⟩:=R9 (h2 (4,1,3) (by simp));obtain⟨l,rfl,_⟩:=W6 (c:=Spot.cells) (R:=fun _=>True) (fun el hel=>by obtain⟨s,hs⟩:=b6a (hels el hel);exact⟨s,hs,trivial⟩);simp at hx hy hl hu hv;subst hx hy hl hu hv;exact⟨⟨x,y,l,u,v⟩,by simp⟩
theorem c2F {n:Nat} {avs:List AV} (h:x3 Tryz.prog (n+8) 25 avs):∃p:Plan,avs=p.cells/\p.Fit:=by
 obtain⟨h1,h2⟩:=C0 (by kernel_rfl) c7g h;obtain⟨a,b,rfl⟩:=b4G h1;obtain⟨e1,hl1,b1,he1⟩:=A5 (by kernel_rfl) c6X (h2 (0,1,22) (by simp));obtain⟨e2,hl2,b2,he2⟩:=A5 (by kernel_rfl) c8e (h2 (1,1,23) (by simp));obtain⟨l1,rfl,_⟩:=W6 (c:=Node.cells) (R:=fun _=>True) (fun el hel=>by obtain⟨s,hs⟩:=c2Q (he1 el hel);exact⟨s,hs,trivial⟩);obtain⟨l2,rfl,_⟩:=W6 (c:=Rail.cells) (R:=fun _=>True) (fun el hel=>by obtain⟨s,hs⟩:=c1d (he2 el hel);exact⟨s,hs,trivial⟩);simp at hl1 hl2;subst hl1 hl2;rw[List.length_map]at b1 b2;have hm:maxLen=9223372036854775807:=by decide
 exact⟨⟨l1,l2⟩,by simp,⟨by simp only[];omega,by simp only[];omega⟩⟩
theorem c3a {n:Nat} {avs:List AV} (h:x3 Tryz.prog (n+2) 108 avs):∃s:Profile,avs=s.cells/\I64 s.Half/\I64 s.Swing:=by
 obtain⟨h1,h2⟩:=C0 (by kernel_rfl) c5w h;obtain⟨a,b,rfl⟩:=b4G h1;obtain⟨x,hx,bx⟩:=R9 (h2 (0,1,3) (by simp));obtain⟨y,hy,yb⟩:=R9 (h2 (1,1,3) (by simp));simp at hx hy;subst hx hy;exact⟨⟨x,y⟩,rfl,bx,yb⟩
theorem b9w {n:Nat} {avs:List AV} (h:x3 Tryz.prog (n+3) 26 avs):∃l:List Profile,avs=[.lst 2 (l.map Profile.cells)]/\l.length<=maxLen/\∀s∈l,I64 s.Half/\I64 s.Swing:=by
 obtain⟨els,hl,hb,he⟩:=A5 (by kernel_rfl) c7P h;obtain⟨l,rfl,hR⟩:=W6 (c:=Profile.cells) (R:=fun s=>I64 s.Half/\I64 s.Swing) (fun el hel=>c3a (he el hel));simp at hl hb;exact⟨l,hl,hb,hR⟩
open Go.WideShapes in
theorem c1F {H:Type} {enc:TypeId×Value->H} {W:World} {base n:Nat} {t:TypeId} {v:Value} {d:DataW H} {p:List MemPlace} {z:List Value} {fs:List (Nat×Nat×TypeId)} (hg:b0B Tryz.prog n t=true) (ht:d6 Tryz.prog t= .agg z fs)
  (hv:Value.okWide Tryz.prog W .any base t v) (h:DataW.Trod enc Tryz.prog W 0 (fun _=>true) true t v d p):∃avs,r8 W (fun _=>False) (.agg avs) v/\x3 Tryz.prog n t avs:=by
 obtain⟨fuel,h⟩:=h;obtain⟨avs,hr,hs⟩:=b4E n fuel t _ _ hg h;obtain⟨info,fa,h1,h2,_⟩:=G9 ht;obtain⟨cs,rfl,_⟩:=okWide_struct h2 hv;refine⟨avs,?_,hs⟩;have:=r8.agg (w:=W) (S:=fun _=>False) avs cs.toList hr.1 (fun x hx=>by
  obtain⟨i,hi⟩:=List.getElem?_of_mem hx;have hil:=(qa.1 hi).1;obtain⟨c,hc⟩:=gx (l:=avs) (i:=i) (by rw[hr.1];exact hil);exact(hr.2 i c x hc hi).2) (fun i c x h1 h2=>(hr.2 i c x h1 h2).1)
 simpa using this
open Go.WideShapes in
theorem b4L {H:Type} {enc:TypeId×Value->H} {W:World} {base n:Nat} {t e:TypeId} {v:Value} {d:DataW H} {p:List MemPlace} (hg:b0B Tryz.prog n t=true) (ht:d6 Tryz.prog t= .slice e)
  (hv:Value.okWide Tryz.prog W .any base t v) (h:DataW.Trod enc Tryz.prog W 0 (fun _=>true) true t v d p):∃av,r8 W (fun _=>False) av v/\x3 Tryz.prog n t [av]:=by
 obtain⟨fuel,h⟩:=h;obtain⟨avs,hr,hs⟩:=b4E n fuel t _ _ hg h;obtain⟨info,h1,h2,_⟩:=o6 ht;obtain⟨a,len,cap,rfl⟩:=okWide_slice h2 hv;have hl:avs.length=1:=by rw[hr.1];rfl
 match avs,hl,hr,hs with
 |[av],_,hr,hs=>exact⟨av,(hr.2 0 av _ rfl rfl).1,hs⟩
theorem c7S:laidOutB Tryz.prog=true:=by kernel_rfl
theorem c3I:mapsRowed Tryz.prog=true:=by kernel_rfl
theorem c7Q:Kids Tryz.prog (· <Tryz.prog.types.size):=kids_rows c7S c3I
theorem full:∀t e,t<Tryz.prog.types.size->Tryz.prog.underlying t=some (.slice e)->0<Tryz.prog.cellsOf e:=slices_full_of Tryz.prog (by kernel_rfl)
theorem b8k {w w':World} (h:Ext (fun _=>False) w w') {a:Addr} (ha:a.block<w.heap.size):w'.cell? a=w.cell? a:=B2 (h.block _ ha (fun k=>k))
theorem b7s {H:Type} {enc:TypeId×Value->H} {f:Func} {s:ChangeSpec} {fresh handsOn again:Bool} {W W':World} {args:Array Value} {v:Value} {ds:List (DataW H)} {before:List MemPlace}
  (hvars:s.vars=[]) (hres:(s.fn H ds).results=[.lit (.bool true)]) (hargs:(s.fn H ds).args=ds) (hvs:(s.fn H ds).vars=[]) (hf:f.resultTypes= #[4]) (hts:∀t∈f.params.toList,t<Tryz.prog.types.size)
  (hW:DataW.Whole enc Tryz.prog f.params.toList s.vars false W args.toList ds [] before) (hext:Ext (fun _=>False) W W') (hv:v= .bool true):
  s.post enc Tryz.prog f false fresh handsOn again W args v W':=by
 subst hv;have hlt:=hW.lt;have hW':=hW;obtain⟨p,q,hA,hV,hpq,hz,hn⟩:=hW;rw[hvars]at hV;obtain⟨_,rfl⟩:=Go.ChangeShapes.trodVars_none hV;rw[List.append_nil]at hpq;subst hpq;have carry:∀(ts:List TypeId) (vs:List Value) (ds:List (DataW H)) (ps:List MemPlace),DataW.TrodAll enc Tryz.prog W 0 (fun _=>true) true ts vs ds ps->(∀x∈ps,x.block<W.heap.size)->DataW.TrodAll enc Tryz.prog W' 0 (fun _=>true) true ts vs ds ps:=by
  intro ts
  induction ts with
  |nil=>intro vs ds ps h _;match vs,ds,h with|[],[],h=>exact h
  | cons t ts ih=>
   intro vs ds ps h hl
   match vs,ds,h with
   |v::vs,d::ds,⟨p1,q1,⟨n,h1⟩,h2,he⟩=>
    subst he;refine⟨p1,q1,⟨n,DataW.trod_carry n _ _ _ h1 (fun x hx=>?_)⟩,ih vs ds q1 h2 (fun x hx=>hl x (List.mem_append_right _ hx)),rfl⟩;have hb:=hl x (List.mem_append_left _ hx)
    cases x with
    |cell b off=>exact b8k hext hb
    |map b=>exact hext.block b hb (fun k=>k)
 have hA':=carry _ _ _ _ hA hlt;have hag:∀sp:Nat->Bool,(∀x∈before,sp x.block=true)->DataW.TrodAll enc Tryz.prog W' 0 sp true f.params.toList args.toList (s.fn H (ds++[])).args before:=by
  intro sp hs;rw[List.append_nil,hargs];exact hA'.respare c7Q full hts hs
 have hr:∀(b:Nat) (sp:Nat->Bool) (hd:Bool),DataW.TrodAll enc Tryz.prog W' b sp hd f.resultTypes.toList ((Value.bool true).resultList f.resultTypes.size) (s.fn H (ds++[])).results []:=by
  intro b sp hd;rw[List.append_nil,hres,hf];exact Go.ChangeShapes.trodAll_mk1 (Go.RowKit.shut_bool a8X _)
 have hkept:W.keptBut W' (· ∈before):=by
  refine⟨hext.os,hext.output,fun i hi=>?_⟩;rw[hext.block i hi (fun k=>k)]
  cases hb:W.heap[i]? with
  |none=>trivial
  |some o=>cases o<;>simp
 have hv0:∀sp:Nat->Bool,DataW.TrodVars enc Tryz.prog W' sp s.vars (s.fn H (ds++[])).vars []:=by
  intro sp;rw[hvars,List.append_nil,hvs]
  rfl
 have hold:∀x∈before,(fun b=>decide (b<W.heap.size)) x.block=true:=fun x hx=>by simpa using hlt x hx
 refine⟨ds,[],before,[],before,[],hW',hr _ _ _,hag _ hold,hv0 _,World.keptBut_mono (fun x hx=>⟨hx,Or.inr (Or.inl hx)⟩) hkept,fun _=>?_⟩;refine⟨Go.RowKit.ok_one hf rfl (Go.RowKit.okWide_bool_mk a8X _),_,_,([]++before)++[],⟨[]++before,[],Go.ChangeShapes.trodAll_append (hag _ (fun _ _=>rfl)) (hr _ _ _),hv0 _,rfl,?_,?_⟩,?_⟩
 ·intro b off hp;have hp':MemPlace.cell b off∈before:=by simpa using hp
  have hb:=hlt _ hp';have:W'.frozen? ⟨b,off,none⟩=W.frozen? ⟨b,off,none⟩:=by unfold World.frozen?;rw[hext.block b hb (fun k=>k)]
  rw[this];exact hz b off hp'
 ·intro ha;cases ha
 ·intro x hx _;simpa using hx
theorem b5A {P : Program} {f : FuncId} {fn : Func} {c : Code} {avs : List AV} {vs : List Value} {W : World} (hf : P.funcs[f]? = some fn) (hb : fn.body = some c) (hname : (fn.name == "runtime.NumGoroutine") = false)
  (h:a9 P f avs (Bo true)) (hl:avs.length=vs.length) (hr:∀(i:Nat) c x,avs[i]?=some c->vs[i]?=some x->r8 W (fun _=>False) c x):
  Calls P f vs.toArray W fun e W'=>e= .returned (.bool true)/\Ext (fun _=>False) W W':=by
 have hn' : ¬ fn.name = "runtime.NumGoroutine" := by simpa using hname
 rcases h with⟨_,h2⟩|h2
 ·refine(h2 (fun _=>False) W vs (fun b k=>k.elim) hl hr).mono fun e W' ⟨v,q1,q2,q3⟩=>?_
  cases q2
  exact⟨q1,q3⟩
 ·exfalso;obtain⟨v,q1,_⟩:=h2 (fun _=>False) W vs hl hr;have:(callFunc f vs.toArray).run P W= .ok (.enter f vs.toArray) W:=by simp[callFunc,hf,hn',hb]
  rw[this]at q1
  cases q1
theorem c1S {W:World}:∀(i:Nat) c x,([]:List AV)[i]?=some c->([]:List Value)[i]?=some x->r8 W (fun _=>False) c x:=fun i c x h=>by simp at h
theorem b1g {W:World} {a:AV} {v:Value} {xs:List AV} {vs:List Value} (h:r8 W (fun _=>False) a v) (k:∀(i:Nat) c x,xs[i]?=some c->vs[i]?=some x->r8 W (fun _=>False) c x):
  ∀(i:Nat) c x,(a::xs)[i]?=some c->(v::vs)[i]?=some x->r8 W (fun _=>False) c x:=fun i c x h1 h2=>by
 cases i with
 |zero=>simp at h1 h2;subst h1 h2;exact h
 |succ i=>exact k i c x (by simpa using h1) (by simpa using h2)
end Go.Tram
end
section
namespace Go.Tram
open Go.AM Go.Proofs
def ins (x:Int):List Int->List Int
 |[]=>[x]
 |y::l=>if x<y then x::y::l else y::ins x l
def srt (l:List Int):List Int:=l.foldl (fun s x=>ins x s) []
theorem b5J (x:Int):∀l,(ins x l).length=l.length+1
 |[]=>rfl
 |y::l=>by
  simp only[ins]
  split
  ·rfl
  ·simp[b5J x l]
theorem a4A (x z:Int):∀l,z∈ins x l↔z=x∨z∈l
 |[]=>by simp[ins]
 | y::l=>by
  simp only[ins]
  split
  ·simp
  ·simp only[List.mem_cons,a4A x z l];constructor
   ·rintro(h|h|h)<;>simp[h]
   ·rintro(h|h|h)<;>simp[h]
theorem a6m (x:Int):∀l:List Int,l.Pairwise (· <= ·)->(ins x l).Pairwise (· <= ·)
 |[],_=>by simp[ins]
 | y::l,h=>by
  rw[List.pairwise_cons]at h;simp only[ins]
  split
  ·rename_i hx;rw[List.pairwise_cons,List.pairwise_cons];refine⟨fun z hz=>?_,h⟩
   rcases List.mem_cons.1 hz with rfl|hz
   ·omega
   ·have:=h.1 z hz;omega
  ·rename_i hx;rw[List.pairwise_cons];refine⟨fun z hz=>?_,a6m x l h.2⟩
   rcases(a4A x z l).1 hz with rfl|hz
   ·omega
   ·exact h.1 z hz
theorem a4k (x:Int) (B:List Int) (hB:∀y∈B,x<y):∀A:List Int,(∀y∈A,y<=x)->ins x (A++B)=A++x::B
 |[],_=>by
  cases B with
  |nil=>rfl
  |cons y B=>simp only[List.nil_append,ins];rw[if_pos (hB y (by simp))]
 |a::A,h=>by
  simp only[List.cons_append,ins];rw[if_neg (by have:=h a (by simp);omega),a4k x B hB A fun y hy=>h y (by simp[hy])]
theorem b8f {l:List Int} {i:Nat} {x:Int} (h:l[i]?=some x):srt (l.take (i+1))=ins x (srt (l.take i)):=by
 rw[qz,h];simp[srt]
theorem a7f (l:List Int):(srt l).length=l.length:=by
 have gen:∀(l s:List Int),(l.foldl (fun s x=>ins x s) s).length=s.length+l.length:=by
  intro l
  induction l with
  |nil=>simp
  |cons x l ih=>intro s;rw[List.foldl_cons,ih,b5J];simp;omega
 have:=gen l [];simpa [srt]using this
theorem b3x (l:List Int):(srt l).Pairwise (· <= ·):=by
 have gen:∀(l s:List Int),s.Pairwise (· <= ·)->(l.foldl (fun s x=>ins x s) s).Pairwise (· <= ·):=by
  intro l
  induction l with
  |nil=>intro s h;exact h
  |cons x l ih=>intro s h;exact ih _ (a6m x s h)
 exact gen l [] List.Pairwise.nil
theorem c3x {L:List Int} (h:L.Pairwise (· <= ·)) {j:Nat} {y:Int} (hy:L[j]?=some y):∀a∈L.take (j+1),a<=y:=by
 intro a ha;obtain⟨hj,he⟩:=qa.1 hy;rw[qz,hy]at ha
 rcases List.mem_append.1 ha with ha|ha
 ·have hs:L=L.take j++y::L.drop (j+1):=by rw[<-he,List.getElem_cons_drop,List.take_append_drop]
  rw[hs,List.pairwise_append]at h;exact h.2.2 a ha y (by simp)
 ·simp at ha;omega
def b0c (L:List Int) (x:Int) (R:List Int) (j:Nat):List Int:=L.take j++x::(L.drop j++R)
theorem b0u {L:List Int} {x:Int} {R:List Int} {j:Nat} (h:j<=L.length):(b0c L x R j)[j]?=some x:=by
 unfold b0c;rw[qv (by simp;omega)];simp[Nat.min_eq_left h]
theorem b0L {L:List Int} {x y:Int} {R:List Int} {j:Nat} (h:L[j]?=some y):(b0c L x R (j+1))[j]?=some y:=by
 have hj:=(qa.1 h).1;unfold b0c;rw[qw (by simp;omega),qk];simp[h]
theorem b6j {L:List Int} {x y:Int} {R:List Int} {j:Nat} (h:L[j]?=some y):((b0c L x R (j+1)).set (j+1) y).set j x=b0c L x R j:=by
 obtain⟨hj,hy⟩:=qa.1 h;have h1:L.take (j+1)=L.take j++[y]:=by rw[qz,h];rfl
 have h2:L.drop j=y::L.drop (j+1):=by rw[List.drop_eq_getElem_cons hj,hy]
 have hl:(L.take j).length=j:=by rw[qm];omega
 unfold b0c;rw[h1,h2,List.append_assoc,List.set_append,if_neg (by omega),List.set_append,if_neg (by omega),hl];simp
@[simp] def f9 (n:Int):List AV:=[I n]
theorem b5H (l:List Int):(l.map f9).all (fun e=>e.all V9)=true:=by simp[V9]
@[simp high] theorem c3k (l:List Int) (g:List (Option Nat)) (n:Nat):(l.map f9).map (fun e=>e.map (p5 g n))=l.map f9:=x6 (fun x h=>P7 h g n) (b5H l)
@[simp high] theorem c1f (l:List Int) (H:Nat->Option n9) (g:List (Option Nat)) (n:Nat):(l.map f9).map (fun e=>e.map (Z7 H g n))=l.map f9:=x6 (fun x h=>a2Q h H g n) (b5H l)
@[simp high] theorem c1M (l:List Int) (H:Hp) (n:Nat):(l.map f9).map (fun e=>e.map (M0 H n))=l.map f9:=x6 (fun x h=>O8 h H n) (b5H l)
theorem c0t (a b:Int):a9 Tryz.prog 195 [I a,I b] (Bo (decide (a<b))):=by
 refine oB Tryz.func195 Tryz.ntmps195 Tryz.results195 ?_;refine aW ?_;refine aW ?_ fun K hK=>by simp -dsimp;refine cI (a7E a) ?_;simp -dsimp;refine cY (fun hm=>a7E b) ?_;simp -dsimp;exact hK
 exact a6 (by simp)
theorem c1r (xs:List Int) (h1:1<=xs.length) (hn:xs.length<=1000):c7 Tryz.prog 189 [.row 0 0 xs.length,I 0,I xs.length] [some (.els 1 (xs.map f9))] [] (.tup []) [some (.els 1 ((srt xs).map f9))] []:=by
 have w01:IntKind.i64.wrap 1=1:=c4 (by omega) (by omega);have wm1:IntKind.i64.wrap (-1)=-1:=c4 (by omega) (by omega);refine oG [0] Tryz.func189 Tryz.ntmps189 Tryz.results189 ?_;intro J hJ;refine gW ?_ fun K hK=>by simp -dsimp [w01];exact hK
 refine c8 ?_;refine gP [0,1,2,6] ?_;refine e9 [0,1,2] (α:=Nat) (fun i=>[(6,I i)]) (fun i=>[some (.els 1 ((srt (xs.take i)++xs.drop i).map f9))]) (fun i=>1<=i/\i<=xs.length) (fun i=>xs.length-i) 1 ?_ ?_ ?_
 ·exact⟨qo _,h1⟩
 ·refine G0 (g7 [some 0] rfl (by simp) ?_) (by simp);obtain⟨x,l,rfl⟩:∃x l,xs=x::l:=by cases xs with|nil=>simp at h1|cons x l=>exact⟨x,l,rfl⟩
  simp[srt,ins]
 rintro i ⟨i1,i2⟩;refine zN ?_;refine a8 fun K1 hK1=>?_;refine gW ?_;refine c3 rfl (fun hc0=>?_) (fun hc0=>?_)
 ·skip
  try simp at hc0
  have wi:=zW i (by omega);obtain⟨x,hx⟩:=gx (l:=xs) (i:=i) hc0;obtain⟨hxi,hxe⟩:=qa.1 hx;have hdr:xs.drop i=x::xs.drop (i+1):=by rw[List.drop_eq_getElem_cons hxi,hxe]
  have hdm:(xs.map f9).drop i=[I x]::(xs.drop (i+1)).map f9:=by rw[<-List.map_drop,hdr];rfl
  have hst:=b8f hx;have hsl:(srt (xs.take i)).length=i:=by rw[a7f,qm];omega
  have hso:=b3x (xs.take i);generalize srt (xs.take i)=L at hst hsl hso ⊢;generalize hR:xs.drop (i+1)=R at hdr hdm ⊢;have hRl:R.length=xs.length-(i+1):=by rw[<-hR,qx]
  refine c5 ?_;refine zQ (hK1 _ _ ?_);refine gP [0,1,2,6] ?_;refine a8 fun K2 hK2=>?_;refine c8 ?_;refine gW ?_;refine c8 ?_;refine gP [0,1,2,6,7] ?_;refine e9 [0,1,2,6] (α:=Nat) (fun j=>[(7,I j)]) (fun j=>[some (.els 1 ((b0c L x R j).map f9))]) (fun j=>j<=i/\∀y∈L.drop j,x<y) (fun j=>j) i ?_ ?_ ?_
  ·exact⟨qo _,by rw[List.drop_of_length_le (by omega)];simp⟩
  ·refine G0 (g7 [some 0] rfl (by simp) ?_) (by simp);simp[b0c,hdm,qg (show L.length<=i by omega),List.drop_of_length_le (show L.length<=i by omega)]
  rintro j ⟨j1,j2⟩
  rcases j with _|j
  rotate_left
  obtain⟨y,hy⟩:=gx (l:=L) (i:=j) (by omega);have gj:=b0u (L:=L) (x:=x) (R:=R) (j:=j+1) (by omega);have gb:=b0L (x:=x) (R:=R) hy;have wj:IntKind.i64.wrap (j:Int)=j:=c4 (by omega) (by omega);have hj1:j+1<xs.length:=by omega
  have hj0:j<xs.length:=by omega
  have hdj:L.drop j=y::L.drop (j+1):=by obtain⟨hh,he⟩:=qa.1 hy;rw[List.drop_eq_getElem_cons hh,he]
  rotate_left
  ·refine zN ?_;refine a8 fun K3 hK3=>?_;refine gD ?_ fun K hK=>by simp -dsimp [b0u (L:=L) (x:=x) (R:=R) (qp _),wm1];refine cY (fun hm=>c0t x x) ?_;simp -dsimp [b0u (L:=L) (x:=x) (R:=R) (qp _),wm1];exact hK
   refine c3 rfl (fun hc1=>?_) (fun hc1=>?_)
   ·simp at hc1
   ·have hfin:ins x L=x::L:=by have:=a4k x L (by simpa using j2) [] (by simp);simpa using this
    have he:srt (xs.take (i+1))++xs.drop (i+1)=b0c L x R 0:=by rw[hst,hR,hfin];simp[b0c]
    refine o5 ?_;refine zQ (hK2 _ _ ?_);refine gP [0,1,2,6] ?_;refine gV ?_ fun K hK=>by simp -dsimp [wi];exact hK
    refine zQ ?_;exact⟨i+1,⟨by omega,by omega⟩,by omega,G0 (g7 [some 0] rfl (by simp) (by simp only[he];simp)) (by simp)⟩
  ·refine zN ?_;refine a8 fun K4 hK4=>?_;refine c0p a1H rfl (by decide) rfl rfl fun K hK=>?_;simp -dsimp [gj,gb,wj,hj1,hj0];refine⟨by omega,?_⟩
   try simp -dsimp [gj,gb,wj,hj1,hj0]
   refine cY (fun hm=>c0t x y) ?_;simp -dsimp [gj,gb,wj,hj1,hj0];refine hK _ _ _ (by decide+kernel) ?_;clear hK K;refine c3 rfl (fun hc1=>?_) (fun hc1=>?_)
   ·skip
    try simp at hc1
    refine c5 ?_;refine zQ (hK4 _ _ ?_);refine gP [0,1,2,6,7] ?_;refine a8 fun K5 hK5=>?_;refine c8 ?_;refine a7t a1H rfl (by decide) rfl rfl fun K hK=>?_;simp -dsimp [gj,gb,wj,hj1,hj0]
    repeat (refine⟨by omega,?_⟩;try simp -dsimp [gj,gb,wj,hj1,hj0])
    refine hK _ _ _ (by decide+kernel) ?_;clear hK K;refine zQ (hK5 _ _ ?_);refine gP [0,1,2,6,7] ?_;refine gV ?_ fun K hK=>by simp -dsimp [wj];exact hK
    refine zQ ?_;have hsw:(((b0c L x R (j+1)).map f9).set (j+1) [I y]).set j [I x]=(b0c L x R j).map f9:=by rw[<-b6j hy,List.map_set,List.map_set];rfl
    exact⟨j,⟨by omega,by intro z hz;rw[hdj]at hz;rcases List.mem_cons.1 hz with rfl|hz;exact hc1;exact j2 z hz⟩,by omega,gB [some 0] (hH:=by simp[hsw])⟩
   ·skip
    try simp at hc1
    have hfin:ins x L=L.take (j+1)++x::L.drop (j+1):=by have:=a4k x (L.drop (j+1)) j2 (L.take (j+1)) (fun a ha=>Int.le_trans (c3x hso hy a ha) hc1);rwa [List.take_append_drop]at this
    have he:srt (xs.take (i+1))++xs.drop (i+1)=b0c L x R (j+1):=by rw[hst,hR,hfin];simp[b0c]
    refine o5 ?_;refine zQ (hK2 _ _ ?_);refine gP [0,1,2,6] ?_;refine gV ?_ fun K hK=>by simp -dsimp [wi];exact hK
    refine zQ ?_;exact⟨i+1,⟨by omega,by omega⟩,by omega,G0 (g7 [some 0] rfl (by simp) (by simp only[he];simp)) (by simp)⟩
 ·skip
  try simp at hc0
  have hie:i=xs.length:=by omega
  subst hie;refine o5 ?_
  try simp only[zT,reduceIte,Nat.reduceEqDiff]
  exact⟨[some 0],rfl,by simp,by simp,by simp[h1],by simp[N6,r9]⟩
theorem c0E:(Tryz.prog).underlying 9=some .string:=by kernel_rfl
theorem b9K:(Tryz.prog).underlying 5=some (.int .u8):=by kernel_rfl
theorem b9A:(Tryz.prog).underlying 275=some (.int .u64):=by kernel_rfl
theorem b4i (s:ByteArray) (n:Int) (h0:0<=n) (h1:n.toNat<s.size) (w:World):(Instr.index 9 (.string s) (.int .u8 n)).run Tryz.prog w= .ok (.int .u8 (s[n.toNat]).toNat) w:=by
 have hs:s[n.toNat]?=some s[n.toNat]:=getElem?_pos s n.toNat h1;simp[Instr.index,asIntOf,run_underlying c0E,h0,hs]
theorem b4q (n:Int) (w:World):(convert 3 275 (.int .i64 n)).run Tryz.prog w= .ok (.int .u64 (IntKind.u64.wrap n)) w:=by
 simp[convert,run_underlying a4W,run_underlying b9A,Conv.intToInt]
theorem c0F (n:Int) (w:World):(convert 305 5 (.int .u64 n)).run Tryz.prog w= .ok (.int .u8 (IntKind.u8.wrap n)) w:=by
 simp[convert,run_underlying b5Z,run_underlying b9K,Conv.intToInt]
theorem c2k (n:Int) (w:World):(convert 5 3 (.int .u8 n)).run Tryz.prog w= .ok (.int .i64 (IntKind.i64.wrap n)) w:=by
 simp[convert,run_underlying a4W,run_underlying b9K,Conv.intToInt]
theorem c3c (n:Int) (h0:0<=n) (h1:n<=200):∃k,a9 Tryz.prog 199 [U n] (I k):=by
 have w8:IntKind.u8.wrap n=n:=by rw[IntKind.wrap_u8];omega
 have h2:¬4294967296<=n:=by omega
 have h3:¬65536<=n:=by omega
 have h4:¬256<=n:=by omega
 apply Exists.intro;refine oB Tryz.func199 Tryz.ntmps199 Tryz.results199 ?_;refine aW ?_;refine a5 fun K1 hK1=>?_;refine aW ?_;refine a7 rfl (fun hc0=>?_) (fun hc0=>?_)
 ·skip
  try simp at hc0
  omega
 ·skip
  try simp at hc0
  refine b9 ?_;refine zQ (hK1 _ _ ?_);refine aP [0,2] ?_;refine a5 fun K2 hK2=>?_;refine aW ?_;refine a7 rfl (fun hc1=>?_) (fun hc1=>?_)
  ·skip
   try simp at hc1
   omega
  ·skip
   try simp at hc1
   refine b9 ?_;refine zQ (hK2 _ _ ?_);refine aP [0,2] ?_;refine a5 fun K3 hK3=>?_;refine aW ?_;refine a7 rfl (fun hc2=>?_) (fun hc2=>?_)
   ·skip
    try simp at hc2
    omega
   ·skip
    try simp at hc2
    refine b9 ?_;refine zQ (hK3 _ _ ?_);refine aP [0,2] ?_;refine aS fun K hK=>?_;simp -dsimp;refine⟨_,c0F n,?_⟩
    try simp -dsimp [w8]
    refine⟨_,b4i _ n h0 (qq (show n.toNat<256 by omega) (by decide+kernel)),?_⟩
    try simp -dsimp
    refine⟨_,c2k _,?_⟩
    try simp -dsimp
    apply hK;clear hK K;exact a6 rfl
theorem c4q (n:Int) (h0:0<=n) (h1:n<=200):∃k,a9 Tryz.prog 169 [U n] (I k):=by
 obtain⟨k,hk⟩:=c3c n h0 h1;refine⟨k,?_⟩;refine oB Tryz.func169 Tryz.ntmps169 Tryz.results169 ?_;refine aW ?_;refine a5 fun K1 hK1=>?_;refine a7 rfl (fun hc0=>?_) (fun hc0=>?_)
 ·simp at hc0
 ·refine b9 ?_;refine zQ (hK1 _ _ ?_);refine aP [0] ?_;refine aW ?_ fun K hK=>by simp -dsimp;refine cI (hk) ?_;simp -dsimp;exact hK
  exact a6 (by simp)
theorem c6c (xs:List Int) (k:Int) (h1:1<=xs.length) (hn:xs.length<=12):c7 Tryz.prog 168 [.row 0 0 xs.length,I 0,I xs.length,I k] [some (.els 1 (xs.map f9))] [] (.tup []) [some (.els 1 ((srt xs).map f9))] []:=by
 have hs:=c1r xs h1 (by omega);have wl:IntKind.i64.wrap (xs.length:Int)=xs.length:=c4 (by omega) (by omega);refine oG [0] Tryz.func168 Tryz.ntmps168 Tryz.results168 ?_;intro J hJ;refine gW ?_;refine gW ?_;refine c8 ?_;refine gP [0,1,2,3,8,9] ?_;refine e9 [0] (α:=Unit) (fun _=>[(1,I 0),(2,I xs.length),(3,I k),(8,Bo true),(9,Bo true)]) (fun _=>[some (.els 1 (xs.map f9))]) (fun _=>True) (fun _=>0) () ?_ ?_ ?_
 ·simp
 ·exact G0 (c9 (by simp)) (by simp)
 rintro u-;refine zN ?_;refine c8 ?_;refine gW ?_ fun K hK=>by simp -dsimp [wl];exact hK
 refine a8 fun K1 hK1=>?_;refine gW ?_;refine c3 rfl (fun hc0=>?_) (fun hc0=>?_)
 ·skip
  try simp at hc0
  refine gW ?_ fun K hK=>by simp -dsimp;refine cM [0] [] (hs) ?_;simp -dsimp;exact hK
  exact d9 ⟨[some 0],rfl,by simp,by simp,by simp[h1],by simp[N6,r9]⟩
 ·skip
  try simp at hc0
  omega
theorem c4P (xs:List Int) (h1:1<=xs.length) (hn:xs.length<=12):c7 Tryz.prog 124 [.row 0 0 xs.length] [some (.els 1 (xs.map f9))] [] (.tup []) [some (.els 1 ((srt xs).map f9))] []:=by
 obtain⟨k,hk⟩:=c4q xs.length (by omega) (by omega);have hs:=c6c xs k h1 hn;have wu:IntKind.u64.wrap (xs.length:Int)=xs.length:=Y8 (by omega) (by omega);refine oG [0] Tryz.func124 Tryz.ntmps124 Tryz.results124 ?_;intro J hJ;refine gW ?_;refine gV ?_ fun K hK=>by simp -dsimp;refine⟨_,b4q _,?_⟩;simp -dsimp [wu];refine cI (hk) ?_;simp -dsimp;refine cM [0] [] (hs) ?_;simp -dsimp;exact hK
 try simp only[zT,reduceIte,Nat.reduceEqDiff]
 exact⟨[some 0],rfl,by simp,by simp,by simp[h1],by simp[N6,r9]⟩
theorem b9e:a9 Tryz.prog 189 [.lst 1 [],I 0,I 0] (.tup []):=by
 have w01:IntKind.i64.wrap 1=1:=c4 (by omega) (by omega);refine oB Tryz.func189 Tryz.ntmps189 Tryz.results189 ?_;refine aW ?_ fun K hK=>by simp -dsimp [w01];exact hK
 refine b8 ?_;refine aP [0,1,2,6] ?_;refine c6 [0,1,2] (α:=Unit) (fun i=>[(6,I 1)]) (fun i=>[]) (fun i=>True) (fun i=>0) () ?_ ?_ ?_
 ·simp
 ·exact c9 (by simp)
 rintro u-;refine zN ?_;refine a5 fun K1 hK1=>?_;refine aW ?_;refine a7 rfl (fun hc0=>?_) (fun hc0=>?_)
 ·simp at hc0
 ·refine d4 ?_
  try simp only[zT,reduceIte,Nat.reduceEqDiff]
  simp[N6,r9]
theorem c4G (k:Int):a9 Tryz.prog 168 [.lst 1 [],I 0,I 0,I k] (.tup []):=by
 have wl:IntKind.i64.wrap 0=0:=c4 (by omega) (by omega);refine oB Tryz.func168 Tryz.ntmps168 Tryz.results168 ?_;refine aW ?_;refine aW ?_;refine b8 ?_;refine aP [0,1,2,3,8,9] ?_;refine c6 [0] (α:=Unit) (fun _=>[(1,I 0),(2,I 0),(3,I k),(8,Bo true),(9,Bo true)]) (fun _=>[]) (fun _=>True) (fun _=>0) () ?_ ?_ ?_
 ·simp
 ·exact c9 (by simp)
 rintro u-;refine zN ?_;refine b8 ?_;refine aW ?_ fun K hK=>by simp -dsimp [wl];exact hK
 refine a5 fun K1 hK1=>?_;refine aW ?_;refine a7 rfl (fun hc0=>?_) (fun hc0=>?_)
 ·refine aW ?_ fun K hK=>by simp -dsimp;refine cI (b9e) ?_;simp -dsimp;exact hK
  exact a6 (by simp[N6,r9])
 ·simp at hc0
theorem c1C:a9 Tryz.prog 124 [.lst 1 []] (.tup []):=by
 obtain⟨k,hk⟩:=c4q 0 (by omega) (by omega);have wu:IntKind.u64.wrap 0=0:=Y8 (by omega) (by omega);refine oB Tryz.func124 Tryz.ntmps124 Tryz.results124 ?_;refine aW ?_;refine aV ?_ fun K hK=>by simp -dsimp;refine⟨_,b4q _,?_⟩;simp -dsimp [wu];refine cI (hk) ?_;simp -dsimp;refine cI (c4G k) ?_;simp -dsimp;exact hK
 try simp only[zT,reduceIte,Nat.reduceEqDiff]
 simp[N6,r9]
end Go.Tram
end
section
namespace Go.Tram
open Go.AM Go.Proofs
structure Move where
 Rail:Int
 Back:Bool
 deriving DecidableEq,Inhabited
@[simp] def Move.cells (m:Move):List AV:=[I m.Rail,Bo m.Back]
abbrev Move.av (m:Move):AV:= .agg m.cells
def H8 (m:Move):E1:=⟨m.Rail, !m.Back⟩
def a1j (m:Move):E1:=⟨m.Rail,m.Back⟩
def a6d (m:Move):Int:=if m.Back then 2*m.Rail+1 else 2*m.Rail
def a0q (k:Int):Move:=⟨k/2,decide (k % 2=1)⟩
def C6 (p:Plan) (m:Move):Bool:=inr m.Rail 0 (p.Rails.length-1)
theorem E9 (q k:List KC) (u:Value):∀kvs:List (List KC×Value),s8 (M9 kvs k u) q=if q=k then some u else s8 kvs q
 |[]=>by simp[M9,s8]
 | (k0,v0)::r=>by
  simp only[M9]
  split
  ·rename_i e;subst e;simp only[s8]
   split<;>rfl
  ·rename_i e;simp only[s8]
   split
   ·rename_i e2;subst e2;rw[if_neg (fun h=>e h.symm)]
   ·exact E9 q k u r
def c3l (p:Plan) (e:E1):Value:=(s8 (I1 p p.Nodes.length) [.i .i64 e.Rail, .b e.Last]).getD (.int .i64 0)
def plc (p:Plan) (e:E1):Int:=match c3l p e with| .int _ n=>n|_=>0
def c2l (kvs:List (List KC×Value)):Prop:=∀q v,s8 kvs q=some v->∃n:Nat,n<=1000/\v= .int .i64 n
theorem a8B {kvs:List (List KC×Value)} {es:List E1} (h:c2l kvs):∀j,j<=1000->c2l (b4S kvs es j)
 |0,_=>h
 |j+1,hj=>by
  intro q v hq;simp only[b4S]at hq;rw[E9]at hq
  split at hq
  ·simp only[qb]at hq;exact⟨j,by omega,hq.symm⟩
  ·exact a8B h j (by omega) q v hq
theorem a3o {p:Plan} (hE:∀i:Nat,i<p.Nodes.length->(p.node i).Ends.length<=4):∀i,i<=p.Nodes.length->c2l (I1 p i)
 |0,_=>by intro q v h;simp[I1,s8]at h
 |i+1,hi=>by
  simp only[I1];exact a8B (a3o hE i (by omega)) _ (by have:=hE i (by omega);omega)
theorem a0a {p:Plan} (hv:d8 p=true) {i:Int} (h0:0<=i) (h1:i<p.Nodes.length):C3 (p.node i)=true:=qn.1 (j9 hv).2.2.1 _ (qd (p.node_get h0 h1))
theorem U2 {n:Node} (h:C3 n=true):(1<=n.Kind/\n.Kind<=6)/\n.Ends.length<=4/\(0<=n.Normal/\n.Normal<=2):=by
 simp only[C3,qh,decide_eq_true_eq]at h;obtain⟨h1,_,h2,h3⟩:=h;unfold T7 at h2 h3;refine⟨by omega,by omega,?_⟩
 split at h1
 ·have:=g6.1 h1;omega
 ·simp only[decide_eq_true_eq]at h1;omega
theorem a9X {p:Plan} (hv:d8 p=true) (e:E1):c3l p e= .int .i64 (plc p e)/\0<=plc p e/\plc p e<=1000:=by
 have hi:=a3o (p:=p) (fun i hi=>(U2 (a0a hv (i:=i) (by omega) (by omega))).2.1) p.Nodes.length (qo _);have key:∃n:Nat,n<=1000/\c3l p e= .int .i64 n:=by
  unfold c3l
  cases hk:s8 (I1 p p.Nodes.length) [.i .i64 e.Rail, .b e.Last]with
  |none=>exact⟨0,by omega,rfl⟩
  |some v=>obtain⟨n,h1,h2⟩:=hi _ v hk;exact⟨n,h1,h2⟩
 obtain⟨n,h1,h2⟩:=key;unfold plc;rw[h2];exact⟨rfl,by show(0:Int)<=n;omega,by show(n:Int)<=1000;omega⟩
def D9 (n:Node) (f t:Int):Bool:=
 if n.Kind=1 then false else if n.Kind=2 then decide (f≠t)else if n.Kind=3 then decide (f≠t)&&decide ((f+t) % 2=0)
 else if n.Kind=4 then decide (f≠t)&&(decide (f=0)||decide (t=0))else if n.Kind=5 then(decide (f≠0)&&decide (t=0))||(decide (f=0)&&decide (t=n.Normal))
 else(decide (f=0)&&decide (t=n.Normal))||(decide (f=n.Normal)&&decide (t=0))
theorem c3E (n:Node) (f t:Int):a9 Tryz.prog 225 [.agg n.cells,I f,I t] (Bo false):=by
 refine oB Tryz.func225 Tryz.ntmps225 Tryz.results225 ?_;refine aW ?_;refine aW ?_;exact a6 (by simp)
theorem b7V (n:Node) (f t:Int):a9 Tryz.prog 226 [.agg n.cells,I f,I t] (Bo (decide (f≠t))):=by
 refine oB Tryz.func226 Tryz.ntmps226 Tryz.results226 ?_;refine aW ?_;refine aW ?_;refine a6 ?_;simp;exact qj.2 (by simp)
theorem b7Z (n:Node) (f t:Int) (hf:0<=f/\f<=1000) (ht:0<=t/\t<=1000):a9 Tryz.prog 227 [.agg n.cells,I f,I t] (Bo (decide (f≠t)&&decide ((f+t) % 2=0))):=by
 have w:IntKind.i64.wrap (f+t)=f+t:=c4 (by omega) (by omega);have w2:(f+t).tmod 2=(f+t) % 2:=Int.tmod_eq_emod_of_nonneg (by omega);refine oB Tryz.func227 Tryz.ntmps227 Tryz.results227 ?_;refine aW ?_;refine aW ?_ fun K hK=>by simp -dsimp [w,w2];exact hK
 refine a6 ?_;simp;exact qj.2 (by simp)
theorem c3B (n:Node) (f t:Int):a9 Tryz.prog 228 [.agg n.cells,I f,I t] (Bo (decide (f≠t)&&(decide (f=0)||decide (t=0)))):=by
 refine oB Tryz.func228 Tryz.ntmps228 Tryz.results228 ?_;refine aW ?_;refine aW ?_;refine a6 ?_;simp;exact qj.2 (by simp)
theorem b4s (n:Node) (f t:Int):a9 Tryz.prog 229 [.agg n.cells,I f,I t] (Bo ((decide (f≠0)&&decide (t=0))||(decide (f=0)&&decide (t=n.Normal)))):=by
 refine oB Tryz.func229 Tryz.ntmps229 Tryz.results229 ?_;refine aW ?_;refine aW ?_;refine a6 ?_;simp;exact qj.2 (by simp)
theorem b5e (n:Node) (f t:Int):a9 Tryz.prog 230 [.agg n.cells,I f,I t] (Bo ((decide (f=0)&&decide (t=n.Normal))||(decide (f=n.Normal)&&decide (t=0)))):=by
 refine oB Tryz.func230 Tryz.ntmps230 Tryz.results230 ?_;refine aW ?_;refine aW ?_;refine a6 ?_;simp;exact qj.2 (by simp)
theorem c0S (n:Node) (f t:Int) (hf:0<=f/\f<=1000) (ht:0<=t/\t<=1000) (hk:n.Kind=1):a9 Tryz.prog 216 [.agg n.cells,I f,I t] (Bo (D9 n f t)):=by
 have hc:=c3E n f t;unfold D9;simp only[Node.cells,hk,Int.reduceEq,if_false,if_true,reduceIte]at hc ⊢;refine oB Tryz.func216 Tryz.ntmps216 Tryz.results216 ?_;refine aW ?_;refine aW ?_;refine aD ?_ fun K hK=>by simp -dsimp;refine cI (hc) ?_;simp -dsimp;exact hK
 exact a6 (by simp)
theorem c1y (n:Node) (f t:Int) (hf:0<=f/\f<=1000) (ht:0<=t/\t<=1000) (hk:n.Kind=2):a9 Tryz.prog 216 [.agg n.cells,I f,I t] (Bo (D9 n f t)):=by
 have hc:=b7V n f t;unfold D9;simp only[Node.cells,hk,Int.reduceEq,if_false,if_true,reduceIte]at hc ⊢;refine oB Tryz.func216 Tryz.ntmps216 Tryz.results216 ?_;refine aW ?_;refine aW ?_;refine aD ?_ fun K hK=>by simp -dsimp;refine cI (hc) ?_;simp -dsimp;exact hK
 exact a6 (by simp)
theorem c1O (n:Node) (f t:Int) (hf:0<=f/\f<=1000) (ht:0<=t/\t<=1000) (hk:n.Kind=3):a9 Tryz.prog 216 [.agg n.cells,I f,I t] (Bo (D9 n f t)):=by
 have hc:=b7Z n f t hf ht;unfold D9;simp only[Node.cells,hk,Int.reduceEq,if_false,if_true,reduceIte]at hc ⊢;refine oB Tryz.func216 Tryz.ntmps216 Tryz.results216 ?_;refine aW ?_;refine aW ?_;refine aD ?_ fun K hK=>by simp -dsimp;refine cI (hc) ?_;simp -dsimp;exact hK
 exact a6 (by simp)
theorem c2R (n:Node) (f t:Int) (hf:0<=f/\f<=1000) (ht:0<=t/\t<=1000) (hk:n.Kind=4):a9 Tryz.prog 216 [.agg n.cells,I f,I t] (Bo (D9 n f t)):=by
 have hc:=c3B n f t;unfold D9;simp only[Node.cells,hk,Int.reduceEq,if_false,if_true,reduceIte]at hc ⊢;refine oB Tryz.func216 Tryz.ntmps216 Tryz.results216 ?_;refine aW ?_;refine aW ?_;refine aD ?_ fun K hK=>by simp -dsimp;refine cI (hc) ?_;simp -dsimp;exact hK
 exact a6 (by simp)
theorem c3e (n:Node) (f t:Int) (hf:0<=f/\f<=1000) (ht:0<=t/\t<=1000) (hk:n.Kind=5):a9 Tryz.prog 216 [.agg n.cells,I f,I t] (Bo (D9 n f t)):=by
 have hc:=b4s n f t;unfold D9;simp only[Node.cells,hk,Int.reduceEq,if_false,if_true,reduceIte]at hc ⊢;refine oB Tryz.func216 Tryz.ntmps216 Tryz.results216 ?_;refine aW ?_;refine aW ?_;refine aD ?_ fun K hK=>by simp -dsimp;refine cI (hc) ?_;simp -dsimp;exact hK
 exact a6 (by simp)
theorem c2J (n:Node) (f t:Int) (hf:0<=f/\f<=1000) (ht:0<=t/\t<=1000) (hk:n.Kind=6):a9 Tryz.prog 216 [.agg n.cells,I f,I t] (Bo (D9 n f t)):=by
 have hc:=b5e n f t;unfold D9;simp only[Node.cells,hk,Int.reduceEq,if_false,if_true,reduceIte]at hc ⊢;refine oB Tryz.func216 Tryz.ntmps216 Tryz.results216 ?_;refine aW ?_;refine aW ?_;refine aD ?_ fun K hK=>by simp -dsimp;refine cI (hc) ?_;simp -dsimp;exact hK
 exact a6 (by simp)
theorem c4y (n:Node) (f t:Int) (hf:0<=f/\f<=1000) (ht:0<=t/\t<=1000) (hk:1<=n.Kind/\n.Kind<=6):a9 Tryz.prog 216 [.agg n.cells,I f,I t] (Bo (D9 n f t)):=by
 have:n.Kind=1∨n.Kind=2∨n.Kind=3∨n.Kind=4∨n.Kind=5∨n.Kind=6:=by omega
 rcases this with h|h|h|h|h|h
 ·exact c0S n f t hf ht h
 ·exact c1y n f t hf ht h
 ·exact c1O n f t hf ht h
 ·exact c2R n f t hf ht h
 ·exact c3e n f t hf ht h
 ·exact c2J n f t hf ht h
theorem a5k (m:Move):a9 Tryz.prog 173 [m.av] (.agg [I m.Rail,Bo (!m.Back)]):=by
 refine oB Tryz.func173 Tryz.ntmps173 Tryz.results173 ?_;refine aW ?_;refine aW ?_;exact a6 (by simp)
theorem b8K (m:Move) (h0:0<=m.Rail) (h1:m.Rail<=100000):a9 Tryz.prog 217 [m.av] (I (a6d m)):=by
 have w1:IntKind.i64.wrap (2*m.Rail)=2*m.Rail:=c4 (by omega) (by omega);have w2:IntKind.i64.wrap (2*m.Rail+1)=2*m.Rail+1:=c4 (by omega) (by omega);refine oB Tryz.func217 Tryz.ntmps217 Tryz.results217 ?_;refine aW ?_;refine a5 fun K1 hK1=>?_;refine aW ?_;refine a7 rfl (fun hc0=>?_) (fun hc0=>?_)
 ·skip
  try simp at hc0
  refine aW ?_ fun K hK=>by simp -dsimp [w1,w2];exact hK
  exact a6 (by simp[a6d,hc0])
 ·skip
  try simp at hc0
  refine b9 ?_;refine zQ (hK1 _ _ ?_);refine aP [1] ?_;refine aW ?_ fun K hK=>by simp -dsimp [w1];exact hK
  exact a6 (by simp[a6d,hc0])
theorem c3y (k:Int) (h0:0<=k) (h1:k<=1000000):a9 Tryz.prog 218 [I k] (.agg [I (a0q k).Rail,Bo (a0q k).Back]):=by
 have w1:k.tdiv 2=k/2:=Int.tdiv_eq_ediv_of_nonneg h0;have w2:k.tmod 2=k % 2:=Int.tmod_eq_emod_of_nonneg h0;have w3:IntKind.i64.wrap (k/2)=k/2:=c4 (by omega) (by omega);refine oB Tryz.func218 Tryz.ntmps218 Tryz.results218 ?_;refine aW ?_;refine aW ?_ fun K hK=>by simp -dsimp [w1,w2,w3];exact hK
 refine a6 ?_;simp[a0q];exact qj.2 (by simp)
theorem c2K (p:Plan) (m:Move):a9 Tryz.prog 200 [.iptr (net p),m.av] (.clo 215 [.iptr [.iptr (net p)], .iptr m.cells]):=by
 generalize net p=sh;refine oB Tryz.func200 Tryz.ntmps200 Tryz.results200 ?_;refine aW ?_;refine aW ?_;exact a6 (by simp)
end Go.Tram
end
section
namespace Go.Tram
open Go.AM Go.Proofs Go.ChangeShapes Go.WideShapes
theorem c1c {n:Nat} {avs:List AV} (h:x3 Tryz.prog (n+1) 4 avs):∃b,avs=[Bo b]:=a5b c0x h
theorem b6r {n:Nat} {avs:List AV} (h:x3 Tryz.prog (n+2) 56 avs):∃s:Move,avs=s.cells/\I64 s.Rail:=by
 obtain⟨h1,h2⟩:=C0 (by kernel_rfl) c7G h;obtain⟨a,b,rfl⟩:=b4G h1;obtain⟨x,hx,bx⟩:=R9 (h2 (0,1,3) (by simp));obtain⟨y,hy⟩:=c1c (h2 (1,1,4) (by simp));simp at hx hy;subst hx hy;exact⟨⟨x,y⟩,rfl,bx⟩
theorem b1O {n:Nat} {avs:List AV} (h:x3 Tryz.prog (n+3) 49 avs):∃l:List Move,avs=[.lst 2 (l.map Move.cells)]/\l.length<=maxLen/\∀s∈l,I64 s.Rail:=by
 obtain⟨els,hl,hb,he⟩:=A5 (by kernel_rfl) c6Y h;obtain⟨l,rfl,hR⟩:=W6 (c:=Move.cells) (R:=fun s=>I64 s.Rail) (fun el hel=>b6r (he el hel));simp at hl hb;exact⟨l,hl,hb,hR⟩
end Go.Tram
end
section
namespace Go.Tram
open Go.AM Go.Proofs
structure Fnd where
 Move:Int
 Len:Int
 Mv:Int
 deriving DecidableEq,Inhabited
@[simp] def Fnd.cells (x:Fnd):List AV:=[I x.Move,I x.Len,I x.Mv]
abbrev Fnd.av (x:Fnd):AV:= .agg x.cells
section
variable {α:Type} [Inhabited α] (lt:α->α->Bool)
def gd (l:List α) (i:Nat):α:=l.getD i default
def c7c (l:List α) (i j:Nat):List α:=(l.set i (gd l j)).set j (gd l i)
def c5M (l:List α) (i n:Nat):Nat:=if 2*i+2<n/\lt (gd l (2*i+2)) (gd l (2*i+1))=true then 2*i+2 else 2*i+1
def c2P:Nat->List α->Nat->Nat->List α
 |0,l,_,_=>l
 |k+1,l,i,n=>if n<=2*i+1∨lt (gd l (c5M lt l i n)) (gd l i)=false then l else c2P k (c7c l i (c5M lt l i n)) (c5M lt l i n) n
end
end Go.Tram
end
section
namespace Go.Tram
open Go.AM Go.Proofs
abbrev n8 (r n:Nat):Option n9:=some (.els 1 [[.row r 0 n]])
end Go.Tram
end
section
namespace Go.Tram
open Go.AM Go.Proofs
def n5 (p:Plan) (m:Move):Node:=p.node (p.at (H8 m))
def nxK (p:Plan) (m:Move) (k:Nat):List Int:=match (n5 p m).Ends[k]? with
 |some e=>if D9 (n5 p m) (plc p (H8 m)) k then [a6d ⟨e.Rail,e.Last⟩]else []
 |none=>[]
def a9a (p:Plan) (m:Move) (j:Nat):List Int:=(List.range j).flatMap (nxK p m)
def b0H (p:Plan) (m:Move):List Move:=(srt (a9a p m (n5 p m).Ends.length)).map a0q
theorem a8j (p:Plan) (m:Move) (j:Nat):a9a p m (j+1)=a9a p m j++nxK p m j:=by
 simp only[a9a,List.range_succ,List.flatMap_append,List.flatMap_cons,List.flatMap_nil,List.append_nil]
theorem b8J (p:Plan) (m:Move) (j:Nat):(a9a p m j).length<=j:=by
 induction j with
 |zero=>simp[a9a]
 |succ j ih=>
  rw[a8j,List.length_append];have:(nxK p m j).length<=1:=by unfold nxK;split<;>(try split)<;>simp
  omega
theorem Q7 {p:Plan} (hv:d8 p=true) {i:Nat} (hi:i<p.Nodes.length) {j:Nat} {e:E1} (he:(p.node i).Ends[j]?=some e):(0<=e.Rail/\e.Rail<p.Rails.length)/\p.at e=i:=by
 obtain⟨r,hr⟩:=a6P hi he;have hE:=(j9 hv).2.2.2.2;simp only[a1b,qh,qn]at hE;have:=hE.1 (i,e) (by rw[hr];simp);simp only[endB,qh,decide_eq_true_eq,g6]at this;exact⟨by omega,this.2⟩
theorem b5V {p:Plan} (hv:d8 p=true) {e:E1} (h0:0<=e.Rail) (h1:e.Rail<p.Rails.length):0<=p.at e/\p.at e<p.Nodes.length:=by
 have ro:=P9 hv h0 h1;unfold Plan.at
 split
 ·exact ro.t
 ·exact ro.f
theorem G8 {p:Plan} {m:Move}:C6 p m=true↔0<=m.Rail/\m.Rail<p.Rails.length:=by
 unfold C6;rw[g6];omega
theorem b9o {p:Plan} (hv:d8 p=true) {m:Move} (hm:C6 p m=true):∀j,∀k∈a9a p m j,0<=k/\k<=100000/\C6 p (a0q k)=true:=by
 have hm':=G8.1 hm;have ha:=b5V hv (e:=H8 m) hm'.1 hm'.2;have hR:=(j9 hv).2.1;intro j k hk;simp only[a9a,List.mem_flatMap,List.mem_range]at hk;obtain⟨i,hi,hk⟩:=hk;unfold nxK at hk
 split at hk
 ·rename_i e he
  split at hk
  ·obtain rfl:k=a6d ⟨e.Rail,e.Last⟩:=by simpa using hk
   have hn:n5 p m=p.node ((p.at (H8 m)).toNat:Nat):=by unfold n5;rw[show(((p.at (H8 m)).toNat:Nat):Int)=p.at (H8 m)by omega]
   rw[hn]at he;have:=Q7 hv (i:=(p.at (H8 m)).toNat) (by omega) he;rw[G8];simp only[a6d,a0q]
   split<;>omega
  ·simp at hk
 ·simp at hk
theorem a6T {l:List Int}:∀{z:Int},z∈srt l↔z∈l:=by
 have gen:∀(l s:List Int) (z:Int),z∈l.foldl (fun s x=>ins x s) s↔z∈s∨z∈l:=by
  intro l
  induction l with
  |nil=>simp
  |cons x l ih=>
   intro s z;rw[List.foldl_cons,ih,a4A];simp only[List.mem_cons];constructor
   ·rintro((h|h)|h)<;>simp[h]
   ·rintro(h|h|h)<;>simp[h]
 intro z;have:=gen l [] z;simpa [srt]using this
theorem c1V (p:Plan) (m:Move) (hv:d8 p=true) (hm:C6 p m=true):X3 Tryz.prog 215 [.iptr [.iptr (net p)], .iptr m.cells] ((b0H p m).map fun k=>[k.av]):=by
 have hm':=G8.1 hm;have ha:=b5V hv (e:=H8 m) hm'.1 hm'.2;have hnode:=p.node_get ha.1 ha.2;have hnf:=U2 (a0a hv ha.1 ha.2);have hb:=b9o hv hm;have hplc:=a9X hv (H8 m);have hcar:=a5k m;have hce:=a7v p (H8 m) hm'.1 hm'.2;have hna:p.node (p.at (H8 m))=n5 p m:=rfl;have hno:∀(j:Nat) (e:E1),(n5 p m).Ends[j]?=some e->(0<=e.Rail/\e.Rail<p.Rails.length):=by
  intro j e he;have hn:n5 p m=p.node ((p.at (H8 m)).toNat:Nat):=by unfold n5;rw[show(((p.at (H8 m)).toNat:Nat):Int)=p.at (H8 m)by omega]
  rw[hn]at he;exact(Q7 hv (i:=(p.at (H8 m)).toNat) (by omega) he).1
 have hR:=(j9 hv).2.1;have hxk:∀(j:Nat) (e:E1),(n5 p m).Ends[j]?=some e->nxK p m j=if D9 (n5 p m) (plc p (H8 m)) j then [a6d ⟨e.Rail,e.Last⟩]else []:=by intro j e he;unfold nxK;rw[he]
 have hnl:b0H p m=(srt (a9a p m (n5 p m).Ends.length)).map a0q:=rfl;rw[hna]at hnode hnf;generalize n5 p m=n at hnode hnf hno hxk hnl;unfold net;refine J9.of_body Tryz.func215 rfl (by decide) (by simp[Tryz.ntmps215]) (by simp[Tryz.ntmps215]) (by simp[Tryz.results215]) ?_;intro J l hmk hY;simp only[Tryz.ntmps215,Tryz.results215];refine gD ?_ fun K hK=>by simp -dsimp [hnode,ha.1];refine cI (hcar) ?_;simp -dsimp [hnode,ha.1];refine cI (hce) ?_;simp -dsimp [hnode,ha.1];exact hK
 refine gW ?_;refine a8 fun K1 hK1=>?_;refine gW ?_;refine c8 ?_;refine s9 [0,1,2,4,5,25,26,27,999999] (Or.inl (by decide)) ?_;refine zN ?_;refine e9 [0,1,2,4,25,26] (α:=Nat) (fun j=>[(27,I j),(5, .row 1 0 (a9a p m j).length),(999999,Z8 0)]) (fun j=>[some (.els 5 [n.cells]),some (.els 1 ((a9a p m j).map f9))]) (fun j=>j<=n.Ends.length) (fun j=>n.Ends.length-j) 0 ?_ ?_ ?_
 ·simp
 ·exact G0 ((V7 5 1 (by simp)).trans (g7 [some 0,some 1] rfl (by simp[a9a]) (by simp[a9a]))) (by simp)
 rintro j j1;have hsu:=a8j p m j;have hlj:=b8J p m j;have hbj:=hb j;refine zN ?_;refine gW ?_;refine a8 fun K2 hK2=>?_;refine c3 rfl (fun hc0=>?_) (fun hc0=>?_)
 ·skip
  try simp at hc0
  obtain⟨e,he⟩:=gx (l:=n.Ends) (i:=j) hc0;have wj:=zW j (by omega);have her:=hno j e he;rw[hxk j e he]at hsu;generalize hA:a9a p m j=A at hsu hlj hbj ⊢;have f1:R2 (A.length+1) 9:=n7 (by omega) (by omega);have hot:(A.map f9).take A.length=A.map f9:=qg (by simp);refine c5 ?_;refine zQ (hK2 _ _ ?_);refine s9 [0,1,2,4,5,25,26,27,999999] (Or.inl (by decide)) ?_;refine zN ?_;refine a8 fun K3 hK3=>?_;refine c8 ?_;refine gW ?_ fun K hK=>by simp -dsimp [he];exact hK
  refine gD ?_ fun K hK=>by simp -dsimp;refine cI (hcar) ?_;simp -dsimp;refine d7 (I (plc p (H8 m))) (fun hm=>congrArg AV.v hplc.1) ?_;simp -dsimp;refine cI (c4y n (plc p (H8 m)) j ⟨hplc.2.1,hplc.2.2⟩ ⟨by omega,by omega⟩ hnf.1) ?_;simp -dsimp;exact hK
  refine c3 rfl (fun hc1=>?_) (fun hc1=>?_)
  ·rw[hc1,if_pos rfl]at hsu;refine gV ?_ fun K hK=>by simp -dsimp [f1];refine cI (b8K ⟨e.Rail,e.Last⟩ her.1 (by have:=her.2;show e.Rail<=100000;omega)) ?_;simp -dsimp [f1];exact hK
   refine zQ (hK3 _ _ ?_);refine s9 [0,1,2,4,5,25,26,27,999999] (Or.inl (by decide)) ?_;refine zN ?_;refine gV ?_ fun K hK=>by simp -dsimp [wj];exact hK
   refine zQ ?_;exact⟨j+1,by omega,by omega,G0 (g7 [some 0,some 3] rfl (by simp[hsu]) (by simp[hsu,hot])) (by simp)⟩
  ·rw[hc1,if_neg (by simp)]at hsu;refine c5 ?_;refine zQ (hK3 _ _ ?_);refine s9 [0,1,2,4,5,25,26,27,999999] (Or.inl (by decide)) ?_;refine zN ?_;refine gV ?_ fun K hK=>by simp -dsimp [wj];exact hK
   refine zQ ?_;exact⟨j+1,by omega,by omega,G0 (g7 [some 0,some 1] rfl (by simp[hsu]) (by simp[hsu])) (by simp)⟩
 ·skip
  try simp at hc0
  have hje:j=n.Ends.length:=by omega
  subst hje;generalize hA:a9a p m n.Ends.length=A at hlj hbj hnl ⊢;refine o5 ?_;refine zQ (hK1 _ _ ?_);refine s9 [0,5,999999] (Or.inl (by decide)) ?_;refine zN ?_
  rcases Decidable.em (A=[])with rfl|hA0
  ·refine gW ?_ fun K hK=>by simp -dsimp;refine cI (c1C) ?_;simp -dsimp;exact hK
   refine gW ?_;refine c8 ?_;refine s9 [0,55,56,57,999999] (Or.inl (by decide)) ?_;refine zN ?_;refine e9 [0,55,56] (α:=Nat) (fun i=>[(57,I i),(999999,Z8 i)]) (fun i=>[some (.els 5 [n.cells]),some (.els 1 [])]) (fun i=>i<=0) (fun i=>0) 0 ?_ ?_ ?_
   ·simp
   ·exact G0 (c9 (by simp)) (by simp)
   rintro i i1;refine zN ?_;refine gW ?_;refine a8 fun K4 hK4=>?_;refine c3 rfl (fun hc2=>?_) (fun hc2=>?_)
   ·simp at hc2;omega
   ·refine o5 ?_
    try simp only[zT,reduceIte,Nat.reduceEqDiff]
    have hi0:i=0:=by omega
    simp[hnl,srt,hi0]
  ·refine gW ?_ fun K hK=>by simp -dsimp;refine cM [1] [] (c4P A (List.length_pos_iff.2 hA0) (by omega)) ?_;simp -dsimp;exact hK
   refine gW ?_;refine c8 ?_;refine s9 [0,55,56,57,999999] (Or.inl (by decide)) ?_;refine zN ?_;refine e9 [0,55,56] (α:=Nat) (fun i=>[(57,I i),(999999,Z8 i)]) (fun i=>[some (.els 5 [n.cells]),some (.els 1 ((srt A).map f9))]) (fun i=>i<=(srt A).length) (fun i=>(srt A).length-i) 0 ?_ ?_ ?_
   ·simp
   ·exact G0 (c9 (by simp)) (by simp)
   rintro i i1;refine zN ?_;refine gW ?_;refine a8 fun K5 hK5=>?_;refine c3 rfl (fun hc2=>?_) (fun hc2=>?_)
   ·have hsl:=a7f A;obtain⟨k,hk⟩:∃k,(srt A)[i]?=some k:=⟨_,qc (by simpa [hsl]using hc2)⟩;have hkb:=hbj k (a6T.1 (qd hk));have wi:=zW i (by omega);have hiA:i<A.length:=by simpa using hc2
    refine c5 ?_;refine zQ (hK5 _ _ ?_);refine s9 [0,55,56,57,999999] (Or.inl (by decide)) ?_;refine zN ?_;refine a8 fun K6 hK6=>?_;refine c8 ?_;refine gW ?_ fun K hK=>by simp -dsimp [hk];refine⟨hiA,?_⟩;exact hK
    refine b5I hmk hY rfl (by decide) rfl rfl fun K hK=>?_;simp -dsimp;refine cI (c3y k hkb.1 (by omega)) ?_;simp -dsimp;refine a7e (by rw[hnl,qe,qe,hk];rfl) ?_ ?_
    ·apply hK;clear hK K;refine c3 rfl (fun hc3=>?_) (fun hc3=>?_)
     ·simp at hc3
     ·refine c5 ?_;refine zQ (hK6 _ _ ?_);refine s9 [0,55,56,57,999999] (Or.inl (by decide)) ?_;refine zN ?_;refine gV ?_ fun K hK=>by simp -dsimp [wi];exact hK
      refine zQ ?_;exact⟨i+1,by omega,by omega,gB [some 0,some 1]⟩
    ·apply hK;clear hK K;refine c3 rfl (fun hc3=>?_) (fun hc3=>?_)
     ·exact d9 (by simp)
     ·simp at hc3
   ·refine o5 ?_
    try simp only[zT,reduceIte,Nat.reduceEqDiff]
    have hie:i=A.length:=by have:=a7f A;simp at hc2;omega
    simp[hnl,a7f,hie]
def G6 (p:Plan) (m k:Move):Bool:=(b0H p m).any fun x=>decide (x=k)
theorem a4U (p:Plan) (m k:Move) (hv:d8 p=true) (hm:C6 p m=true):a9 Tryz.prog 172 [.iptr (net p),m.av,k.av] (Bo (G6 p m k)):=by
 have hit:=c1V p m hv hm;have hnx:=c2K p m;generalize net p=sh at hit hnx;refine a9.of_bodyG Tryz.func172 rfl (by decide) (by simp[Tryz.ntmps172]) ?_;intro J hJ;simp only[Tryz.ntmps172,Tryz.results172];refine gW ?_;refine a8 fun K1 hK1=>?_;refine gW ?_ fun K hK=>by simp -dsimp;refine cI (hnx) ?_;simp -dsimp;exact hK
 refine c8 ?_;refine gP [5,6,10] ?_;refine a1e hJ [5,6,10] (fun _=>[some (.els 2 [m.cells]),some (.els 2 [k.cells]),some (.els 1 [[Bo false]])]) (fun n=>((b0H p m).take n).any (fun x=>decide (x=k))=false) rfl (hit) rfl (by simp) (by decide) (by decide) (by decide) (by intro z hz;obtain⟨q,_,rfl⟩:=List.mem_map.1 hz;rfl) ?_ ?_ ?_ ?_
 ·trivial
 ·exact c9 (by simp)
 ·intro n xv hxn hi l1 J1 hJ1;obtain⟨q,hq,rfl⟩:∃q,(b0H p m)[n]?=some q/\[q.av]=xv:=by simpa using hxn
  simp only[List.zip_cons_cons,List.zip_nil_left,List.zip_nil_right,List.cons_append,List.nil_append];refine gV ?_;simp only[a9q];intro J2 hJ2;refine gP [5,6,7,10] ?_;refine c8 ?_;refine gW ?_;refine c3 rfl (fun hc0=>?_) (fun hc0=>?_)
  ·have hqe:q=k:=by simp at hc0;cases q;cases k;simp_all
   have hany:(b0H p m).any (fun x=>decide (x=k))=true:=qy.2 ⟨q,qd hq,by simpa using hqe⟩;refine gW ?_;exact d9 ⟨[some (.els 2 [m.cells]),some (.els 2 [k.cells]),some (.els 1 [[Bo true]])],aB [some 0,some 1,some 2],by simp[G6,hany]⟩
  ·have hne:decide (q=k)=false:=by rw[decide_eq_false_iff_not];rintro rfl;simp at hc0
   refine c5 ?_;simp only[Z3,H5,a4w,reduceIte,Nat.reduceEqDiff,eq_self];refine⟨?_,aB [some 0,some 1,some 2]⟩;rw[qz,List.any_append,hi,hq];simp[hne]
 ·intro hdone;refine zQ (hK1 _ _ ?_);refine gP [6] ?_;refine gW ?_;refine d9 ?_;rw[qg (by simp)]at hdone;simp[G6,hdone]
def X6 (p:Plan) (l:List Move) (i:Nat):Bool:=C6 p (l[i]?.getD default)&&(decide (i=0)||G6 p (l[i-1]?.getD default) (l[i]?.getD default))
def wayB (p:Plan) (l:List Move):Bool:=(List.range l.length).all (X6 p l)&&inr l.length 1 2000
theorem a4P (f:Nat->Bool) (n:Nat):(List.range (n+1)).all f=((List.range n).all f&&f n):=by
 rw[List.range_succ,List.all_append];simp
theorem a1h {f:Nat->Bool} {n k:Nat} (h:(List.range n).all f=true) (hk:k<n):f k=true:=qn.1 h k (List.mem_range.2 hk)
theorem a3P (a f:Bool) (i:Nat):(!a||(decide (0<i)&& !f))= !(a&&(decide (i=0)||f)):=by cases a<;>cases f<;>by_cases h:i=0<;>simp[h]<;>omega
theorem b9b (p:Plan) (l:List Move) (hv:d8 p=true) (hn:l.length<=100000):a9 Tryz.prog 129 [.iptr (net p), .lst 2 (l.map Move.cells)] (Bo (wayB p l)):=by
 have hhas:=fun r b=>a6e p r b hv;have hfol:=fun m k=>a4U p m k hv;generalize net p=sh at hhas hfol;refine oB Tryz.func129 Tryz.ntmps129 Tryz.results129 ?_;refine aW ?_;refine a5 fun K1 hK1=>?_;refine aW ?_;refine b8 ?_;refine aP [0,1,7,8,9] ?_;refine c6 [0,1,7,8] (α:=Nat) (fun i=>[(9,I i)]) (fun i=>[]) (fun i=>i<=l.length/\(List.range i).all (X6 p l)=true) (fun i=>l.length-i) 0 ?_ ?_ ?_
 ·simp
 ·exact c9 (by simp)
 rintro i ⟨i1,i2⟩;refine zN ?_;refine aW ?_;refine a5 fun K2 hK2=>?_;refine a7 rfl (fun hc0=>?_) (fun hc0=>?_)
 ·skip
  try simp at hc0
  obtain⟨m,hgm⟩:=gx (l:=l) (i:=i) hc0;have wi:=zW i (by omega);have w1:IntKind.i64.wrap ((i:Int)-1)=(i:Int)-1:=c4 (by omega) (by omega);have hprev:0<i->l[i-1]?=some (l[i-1]?.getD default):=fun h=>by rw[qc (by omega)];rfl
  have hpm:0<i->C6 p (l[i-1]?.getD default)=true:=fun h=>(Bool.and_eq_true_iff.1 (a1h i2 (show i-1<i by omega))).1;have hst:X6 p l i=(C6 p m&&(decide (i=0)||G6 p (l[i-1]?.getD default) m)):=by unfold X6;rw[hgm];rfl
  generalize l[i-1]?.getD default=m' at hprev hpm hst;have hmv:C6 p m=inr m.Rail 0 (p.Rails.length-1):=rfl;refine b9 ?_;refine zQ (hK2 _ _ ?_);refine aP [0,1,7,8,9] ?_;refine a5 fun K3 hK3=>?_;refine b8 ?_;refine aW ?_ fun K hK=>by simp -dsimp [hgm];exact hK
  refine b1p a1H rfl fun K hK=>?_;simp -dsimp [w1];refine cI (hhas m.Rail m.Back) ?_;simp -dsimp [w1];refine⟨fun _ h=>by omega,?_⟩
  try simp -dsimp
  refine j7 m'.cells (fun hq=>by simp at hq;rw[qe,hprev hq.2];rfl) ?_;simp -dsimp [w1];refine cY (fun hm=>(hfol m' m (hpm (by simp at hm;exact hm.2)))) ?_;simp -dsimp [w1];refine hK _ _ _ (by decide+kernel) ?_;clear hK K;refine a7 rfl (fun hc1=>?_) (fun hc1=>?_)
  ·rw[a3P,<-hmv,<-hst]at hc1;have hsf:X6 p l i=false:=by simpa using hc1
   have hb:wayB p l=false:=by unfold wayB;rw[show(List.range l.length).all (X6 p l)=false from by rw[List.all_eq_false];exact⟨i,List.mem_range.2 hc0,by simp[hsf]⟩];rfl
   refine aW ?_;exact a6 (by simp[hb])
  ·rw[a3P,<-hmv,<-hst]at hc1;have hst1:X6 p l i=true:=by simpa using hc1
   refine b9 ?_;refine zQ (hK3 _ _ ?_);refine aP [0,1,7,8,9] ?_;refine aV ?_ fun K hK=>by simp -dsimp [wi];exact hK
   refine zQ ?_;exact⟨i+1,⟨by omega,by rw[a4P,i2,hst1];rfl⟩,by omega,aB []⟩
 ·skip
  try simp at hc0
  have hie:i=l.length:=by omega
  subst hie;refine d4 ?_;refine zQ (hK1 _ _ ?_);refine aP [1] ?_;refine aW ?_ fun K hK=>by simp -dsimp;refine cI (D5 l.length 1 2000) ?_;simp -dsimp;exact hK
  exact a6 (by simp[wayB,i2])
end Go.Tram
end
section
namespace Go.Tram
open Go.AM Go.Proofs
def y4 (l:List Move) (i:Nat):Move:=l[i]?.getD default
def a1M (p:Plan) (l:List Move):Nat->Int
 |0=>0
 |i+1=>a1M p l i+p.len (y4 l i).Rail
theorem c4U {p:Plan} (hv:d8 p=true) {r:Int} (h0:0<=r) (h1:r<p.Rails.length):1<=p.len r/\p.len r<=31000000:=by
 have ro:=P9 hv h0 h1;have hl:=ro.len;have hs:=ro.s;have h:=a1N ro ((p.rail r).Shape.length+1) (by omega);unfold Plan.len;omega
theorem E3 {p:Plan} {l:List Move} (h:wayB p l=true):∀i,i<l.length->C6 p (y4 l i)=true:=by
 intro i hi;have:=(Bool.and_eq_true_iff.1 h).1;exact(Bool.and_eq_true_iff.1 (a1h this hi)).1
theorem F3 {p:Plan} {l:List Move} (h:wayB p l=true):1<=l.length/\l.length<=2000:=by
 have:=g6.1 (Bool.and_eq_true_iff.1 h).2;omega
theorem b1U {p:Plan} {l:List Move} (hv:d8 p=true) (h:wayB p l=true):∀i,i<=l.length->0<=a1M p l i/\a1M p l i<=31000000*i
 |0,_=>by simp[a1M]
 |i+1,hi=>by
  have h1:=b1U hv h i (by omega);have h2:=G8.1 (E3 h i (by omega));have h3:=c4U hv h2.1 h2.2;simp only[a1M];omega
theorem a9C (p:Plan) (l:List Move) (hv:d8 p=true) (hw:wayB p l=true):a9 Tryz.prog 170 [.iptr (net p), .lst 2 (l.map Move.cells)] (I (a1M p l l.length)):=by
 have hl:=F3 hw;unfold net;refine oB Tryz.func170 Tryz.ntmps170 Tryz.results170 ?_;refine aW ?_;refine aW ?_;refine a5 fun K1 hK1=>?_;refine aW ?_;refine b8 ?_;refine aP [0,5,8,9,10] ?_;refine c6 [0,8,9] (α:=Nat) (fun i=>[(10,I i),(5,I (a1M p l i))]) (fun i=>[]) (fun i=>i<=l.length) (fun i=>l.length-i) 0 ?_ ?_ ?_
 ·simp
 ·exact c9 (by simp[a1M])
 rintro i i1;refine zN ?_;refine aW ?_;refine a5 fun K2 hK2=>?_;refine a7 rfl (fun hc0=>?_) (fun hc0=>?_)
 ·skip
  try simp at hc0
  obtain⟨m,hgm⟩:=gx (l:=l) (i:=i) hc0;have wi:=zW i (by omega);have hma:y4 l i=m:=by simp[y4,hgm]
  have hmv:=E3 hw i hc0;have hb1:=b1U hv hw (i+1) (by omega);have hbs:a1M p l (i+1)=a1M p l i+p.len m.Rail:=by simp only[a1M];rw[hma]
  rw[hma]at hmv;have hmr:=G8.1 hmv;have hlg:(L0 p p.Rails.length)[m.Rail.toNat]?=some [I (p.len m.Rail)]:=by rw[b6B (by omega),show((m.Rail.toNat:Nat):Int)=m.Rail by omega]
  have ws:IntKind.i64.wrap (a1M p l i+p.len m.Rail)=a1M p l (i+1):=by rw[<-hbs];exact c4 (by omega) (by omega)
  refine b9 ?_;refine zQ (hK2 _ _ ?_);refine aP [0,5,8,9,10] ?_;refine a5 fun K3 hK3=>?_;refine b8 ?_;refine aW ?_ fun K hK=>by simp -dsimp [hgm];exact hK
  refine aE ?_ fun K hK=>by simp -dsimp [hlg,ws,hmr.1];exact hK
  refine zQ (hK3 _ _ ?_);refine aP [0,5,8,9,10] ?_;refine aV ?_ fun K hK=>by simp -dsimp [wi];exact hK
  refine zQ ?_;exact⟨i+1,by omega,by omega,aB []⟩
 ·skip
  try simp at hc0
  have hie:i=l.length:=by omega
  subst hie;refine d4 ?_;refine zQ (hK1 _ _ ?_);refine aP [5] ?_;refine aW ?_;exact a6 (by simp)
end Go.Tram
end
section
namespace Go.Tram
open Go.AM Go.Proofs
def nxF (p:Plan) (x:Fnd) (k:Nat):Fnd:=⟨k,x.Len+p.len (x.Move/2),x.Mv+1⟩
end Go.Tram
end
section
namespace Go.Tram
open Go.AM Go.Proofs
theorem c0f (l:List Move):(l.map Move.cells).all (fun e=>e.all V9)=true:=by simp[V9]
@[simp high] theorem c3h (l:List Move) (g:List (Option Nat)) (n:Nat):(l.map Move.cells).map (fun e=>e.map (p5 g n))=l.map Move.cells:=x6 (fun x h=>P7 h g n) (c0f l)
@[simp high] theorem c2r (l:List Move) (H:Hp) (n:Nat):(l.map Move.cells).map (fun e=>e.map (M0 H n))=l.map Move.cells:=x6 (fun x h=>O8 h H n) (c0f l)
abbrev a1t (l:List Move):AV:= .lst 2 (l.map Move.cells)
@[simp] theorem c8d (l:List Move):List.take l.length (l.map Move.cells)=l.map Move.cells:=qg (by simp)
theorem a8x (p:Plan) (m k:Move) (hv:d8 p=true) (hm:C6 p m=true) (hk:C6 p k=true):a9 Tryz.prog 175 [p.av,m.av,k.av] (.tup [Bo (G6 p m k),I 0]):=by
 have hop:=V8 p hv;have hh:=a6e p m.Rail m.Back hv;have hhk:=a6e p k.Rail k.Back hv;rw[show inr m.Rail 0 (p.Rails.length-1)=true from hm]at hh;rw[show inr k.Rail 0 (p.Rails.length-1)=true from hk]at hhk;have hf:=a4U p m k hv hm;generalize net p=sh at hop hh hhk hf;refine oB Tryz.func175 Tryz.ntmps175 Tryz.results175 ?_;refine aW ?_;refine aW ?_ fun K hK=>by simp -dsimp;refine cI (hop) ?_;simp -dsimp;exact hK
 refine a5 fun K1 hK1=>?_;refine aW ?_ fun K hK=>by simp -dsimp;refine cY (fun hm=>hh) ?_;simp -dsimp;refine cY (fun hm=>hhk) ?_;simp -dsimp;exact hK
 refine a7 rfl (fun hc0=>?_) (fun hc0=>?_)
 ·simp at hc0
 ·refine b9 ?_;refine zQ (hK1 _ _ ?_);refine aP [4,5,8] ?_;refine aW ?_ fun K hK=>by simp -dsimp;refine cI (hf) ?_;simp -dsimp;exact hK
  exact a6 (by simp)
theorem a5u (p:Plan) (l:List Move) (hv:d8 p=true) (h:wayB p l=true):a9 Tryz.prog 126 [p.av,a1t l] (.tup [I (a1M p l l.length),I 0]):=by
 have hl:=F3 h;have hop:=V8 p hv;have hh:=b9b p l hv (by omega);have hw:=a9C p l hv h;rw[h]at hh;generalize net p=sh at hop hh hw;refine oB Tryz.func126 Tryz.ntmps126 Tryz.results126 ?_;refine aW ?_;refine aW ?_ fun K hK=>by simp -dsimp;refine cI (hop) ?_;simp -dsimp;exact hK
 refine a5 fun K1 hK1=>?_;refine aW ?_ fun K hK=>by simp -dsimp;refine cY (fun hm=>hh) ?_;simp -dsimp;exact hK
 refine a7 rfl (fun hc0=>?_) (fun hc0=>?_)
 ·simp at hc0
 ·refine b9 ?_;refine zQ (hK1 _ _ ?_);refine aP [1,6] ?_;refine aW ?_ fun K hK=>by simp -dsimp;refine cI (hw) ?_;simp -dsimp;exact hK
  exact a6 (by simp)
end Go.Tram
end
section
namespace Go.Tram
open Go.AM Go.Proofs
theorem b1h {α:Type} [DecidableEq α]:∀(l u:List α),l.Nodup->(∀x∈l,x∈u)->u.length<=l.length->∀x∈u,x∈l
 |[],u,_,_,h,x,hx=>by
  have:u=[]:=List.length_eq_zero_iff.1 (by simpa using h);rw[this]at hx;cases hx
 | a::l,u,hn,hs,h,x,hx=>by
  rw[List.nodup_cons]at hn
  by_cases e:x=a
  ·simp[e]
  ·have ha:a∈u:=hs a (by simp);have hlen:=List.length_erase_of_mem ha;have hup:0<u.length:=List.length_pos_of_mem ha;refine List.mem_cons_of_mem _ (b1h l (u.erase a) hn.2 (fun y hy=>?_) (by simp at h;omega) x ((List.mem_erase_of_ne e).2 hx));have hya:y≠a:=by rintro rfl;exact hn.1 hy
   exact(List.mem_erase_of_ne hya).2 (hs y (by simp[hy]))
theorem a6B {p:Plan}:∀{n:Nat} {x:Nat×E1},x∈s6 p n->x.1<n/\∃j:Nat,(p.node x.1).Ends[j]?=some x.2
 |0,x,h=>by simp[s6]at h
 |n+1,x,h=>by
  simp only[s6,List.mem_append,List.mem_map]at h
  rcases h with h|⟨e,he,rfl⟩
  ·obtain⟨h1,h2⟩:=a6B h;exact⟨by omega,h2⟩
  ·obtain⟨j,hj⟩:=List.getElem?_of_mem he;exact⟨by simp,j,hj⟩
theorem b6c {p:Plan} (hv:d8 p=true):(∀x∈s6 p p.Nodes.length,endB p x=true)/\((s6 p p.Nodes.length).map (·.2)).Nodup/\(s6 p p.Nodes.length).length=2*p.Rails.length:=by
 have h:=(j9 hv).2.2.2.2;simp only[a1b,qh,qn,decide_eq_true_eq]at h;exact⟨h.1,h.2.1,h.2.2⟩
theorem b6F {p:Plan} (hv:d8 p=true) {e:E1} (h0:0<=e.Rail) (h1:e.Rail<p.Rails.length):∃i:Nat,i<p.Nodes.length/\p.at e=i/\∃j:Nat,(p.node i).Ends[j]?=some e:=by
 obtain⟨hall,hnd,hlen⟩:=b6c hv;have hfull:=b1h ((s6 p p.Nodes.length).map (·.2)) ((List.range p.Rails.length).flatMap fun(r:Nat)=>[(⟨r,false⟩:E1),⟨r,true⟩]) hnd (fun x hx=>by
  obtain⟨y,hy,rfl⟩:=List.mem_map.1 hx;have:=hall y hy;simp only[endB,qh,decide_eq_true_eq,g6]at this;rw[List.mem_flatMap];refine⟨y.2.Rail.toNat,List.mem_range.2 (by omega),?_⟩;obtain⟨y1,⟨r,b⟩⟩:=y;simp only at this ⊢;rw[show((r.toNat:Nat):Int)=r by omega]
  cases b<;>simp) (by
   have gen:∀n:Nat,((List.range n).flatMap fun(r:Nat)=>[(⟨r,false⟩:E1),⟨r,true⟩]).length=2*n:=by
    intro n
    induction n with
    |zero=>rfl
    |succ n ih=>rw[List.range_succ,List.flatMap_append,List.length_append,ih];simp;omega
   rw[gen,List.length_map,hlen];exact qo _) e (by
  rw[List.mem_flatMap];refine⟨e.Rail.toNat,List.mem_range.2 (by omega),?_⟩;obtain⟨r,b⟩:=e;simp only at h0 h1 ⊢;rw[show((r.toNat:Nat):Int)=r by omega]
  cases b<;>simp)
 obtain⟨x,hx,rfl⟩:=List.mem_map.1 hfull;obtain⟨h2,j,hj⟩:=a6B hx;exact⟨x.1,h2,(Q7 hv h2 hj).2,j,hj⟩
theorem b1A {p:Plan} (hv:d8 p=true) {i:Nat} (hi:i<p.Nodes.length) {j j':Nat} {e:E1} (h:(p.node i).Ends[j]?=some e) (h':(p.node i).Ends[j']?=some e):j=j':=by
 have key:∀{j j':Nat},(p.node i).Ends[j]?=some e->(p.node i).Ends[j']?=some e->¬j'<j:=by
  intro j j' h h' hlt;have hm:(i,e)∈a0S p i j:=by
   unfold a0S;rw[List.mem_append,List.mem_map];refine Or.inr ⟨e,?_,rfl⟩;have:((p.node i).Ends.take j)[j']?=some e:=by rw[qk,if_pos hlt];exact h'
   exact qd this
  obtain⟨m,hmm⟩:=List.getElem?_of_mem hm;have:=a0w hi h hmm rfl;rw[hv]at this;cases this
 have h1:=key h h';have h2:=key h' h;omega
theorem a8q {kvs:List (List KC×Value)} {es:List E1} {e:E1}:∀n,n<=es.length->(∀j:Nat,j<n->es[j]?≠some e)->s8 (b4S kvs es n) (a2T e)=s8 kvs (a2T e)
 |0,_,_=>rfl
 |n+1,hn,h=>by
  simp only[b4S];rw[E9,if_neg,a8q n (by omega) fun j hj=>h j (by omega)];intro hk;have:=a1Y.1 hk;have h2:=h n (by omega);rw[qc (by omega)]at this h2;simp only[Option.getD_some]at this;exact h2 (by rw[this])
theorem a8o {kvs:List (List KC×Value)} {es:List E1} {e:E1} {j:Nat} (hj:es[j]?=some e):∀n,n<=es.length->j<n->(∀j':Nat,es[j']?=some e->j'=j)->s8 (b4S kvs es n) (a2T e)=some (.int .i64 j)
 |0,_,h,_=>by omega
 |n+1,hn,h,hu=>by
  simp only[b4S];rw[E9]
  by_cases e1:n=j
  ·subst e1;rw[hj];exact if_pos rfl
  ·rw[if_neg,a8o hj n (by omega) (by omega) hu];intro hk;have:=a1Y.1 hk;rw[qc (by omega)]at this;simp only[Option.getD_some]at this;exact e1 (hu n (by rw[qc (by omega),this]))
theorem a3O {p:Plan} (hv:d8 p=true) {i:Nat} (hi:i<p.Nodes.length) {j:Nat} {e:E1} (h:(p.node i).Ends[j]?=some e):plc p e=j:=by
 have hat:=(Q7 hv hi h).2;have gen:∀k,k<=p.Nodes.length->i<k->s8 (I1 p k) (a2T e)=some (.int .i64 j):=by
  intro k
  induction k with
  |zero=>intro _ h;omega
  |succ k ih=>
   intro hk hik;simp only[I1]
   by_cases e1:k=i
   ·subst e1;exact a8o h _ (qo _) (qa.1 h).1 fun j' hj'=>b1A hv hi hj' h
   ·rw[a8q _ (qo _),ih (by omega) (by omega)];intro j' _ hj';have:=(Q7 hv (i:=k) (by omega) hj').2;omega
 have hg:=gen p.Nodes.length (qo _) hi;have hp:c3l p e= .int .i64 j:=by
  unfold c3l;have:s8 (I1 p p.Nodes.length) [.i .i64 e.Rail, .b e.Last]=some (.int .i64 j):=hg;rw[this];rfl
 unfold plc;rw[hp]
def a3a (e:E1):List E1->Int->Int
 |[],_=>-1
 |x::l,i=>if x=e then i else a3a e l (i+1)
def a2S (n:Node) (e:E1):Int:=a3a e n.Ends 0
theorem a6n {e:E1}:∀(l:List E1) (i:Int) (j:Nat),l[j]?=some e->(∀j':Nat,l[j']?=some e->j'=j)->a3a e l i=i+j
 |[],i,j,h,_=>by simp at h
 | x::l,i,j,h,hu=>by
  simp only[a3a]
  split
  ·rename_i hx;have:=hu 0 (by simp[hx]);omega
  ·rename_i hx
   cases j with
   |zero=>simp at h;exact absurd h hx
   |succ j=>
    rw[a6n l (i+1) j (by simpa using h) fun j' hj'=>by have:=hu (j'+1) (by simpa using hj');omega];omega
theorem a0L {e:E1}:∀(l:List E1) (i:Int),(∀j:Nat,l[j]?≠some e)->a3a e l i=-1
 |[],i,_=>rfl
 |x::l,i,h=>by
  simp only[a3a];rw[if_neg (by rintro rfl;exact h 0 (by simp))];exact a0L l _ fun j=>by have:=h (j+1);simpa using this
theorem a0d {p:Plan} (hv:d8 p=true) {i:Nat} (hi:i<p.Nodes.length) {j:Nat} {e:E1} (h:(p.node i).Ends[j]?=some e):a2S (p.node i) e=j:=by
 unfold a2S;rw[a6n _ 0 j h fun j' hj'=>b1A hv hi hj' h];omega
def a5z (p:Plan) (m k:Move):Bool:=decide (0<=a2S (n5 p m) (H8 m))&&(decide (0<=a2S (n5 p m) (a1j k))&&D9 (n5 p m) (a2S (n5 p m) (H8 m)) (a2S (n5 p m) (a1j k)))
theorem b0e {p:Plan} (hv:d8 p=true) {m:Move} (hm:C6 p m=true):∃i:Nat,i<p.Nodes.length/\p.at (H8 m)=i/\n5 p m=p.node i/\∃j:Nat,(p.node i).Ends[j]?=some (H8 m)/\plc p (H8 m)=j/\a2S (p.node i) (H8 m)=j:=by
 have hm':=G8.1 hm;obtain⟨i,hi,ha,j,hj⟩:=b6F hv (e:=H8 m) hm'.1 hm'.2;exact⟨i,hi,ha,by unfold n5;rw[ha],j,hj,a3O hv hi hj,a0d hv hi hj⟩
theorem a2X {m:Move} (h:0<=m.Rail):a0q (a6d m)=m:=by
 obtain⟨r,b⟩:=m;simp only at h
 cases b
 ·simp only[a6d,a0q,Bool.false_eq_true,if_false];rw[show 2*r/2=r by omega,decide_eq_false (by omega)]
 ·simp only[a6d,a0q,if_true];rw[show(2*r+1)/2=r by omega,decide_eq_true (by omega)]
theorem b2B {k:Int} (h:0<=k):a6d (a0q k)=k:=by
 simp only[a6d,a0q,decide_eq_true_eq]
 split<;>omega
theorem c0b {p:Plan} (hv:d8 p=true) {m:Move} (hm:C6 p m=true) {k:Int}:k∈a9a p m (n5 p m).Ends.length↔0<=k/\k<2*p.Rails.length/\a5z p m (a0q k)=true:=by
 obtain⟨i,hi,ha,hn,j,hj,hp,hx⟩:=b0e hv hm;simp only[a9a,List.mem_flatMap,List.mem_range];constructor
 ·rintro⟨t,ht,hk⟩;unfold nxK at hk;rw[hn]at hk ht;rw[qc ht]at hk;simp only at hk
  split at hk
  ·rename_i hl;simp only[List.mem_singleton]at hk;have hte:=qc ht;generalize (p.node i).Ends[t]=e at hk hte;have her:=(Q7 hv hi hte).1;have hb:0<=a6d ⟨e.Rail,e.Last⟩/\a6d ⟨e.Rail,e.Last⟩<2*p.Rails.length:=by simp only[a6d];split<;>omega
   subst hk;refine⟨hb.1,hb.2,?_⟩;rw[a2X her.1];have hle:a1j ⟨e.Rail,e.Last⟩=e:=rfl;simp only[a5z,hn,hle,hx,a0d hv hi hte,qh,decide_eq_true_eq];rw[hp]at hl;exact⟨by omega,by omega,hl⟩
  ·simp at hk
 ·rintro⟨h0,h1,hf⟩;simp only[a5z,hn,qh,decide_eq_true_eq]at hf;obtain⟨_,hb,hl⟩:=hf;have:∃t:Nat,(p.node i).Ends[t]?=some (a1j (a0q k)):=by
   by_cases h:∃t:Nat,(p.node i).Ends[t]?=some (a1j (a0q k))
   ·exact h
   ·have:=a0L (e:=a1j (a0q k)) (p.node i).Ends 0 fun j hj=>h ⟨j,hj⟩;unfold a2S at hb;omega
  obtain⟨t,ht⟩:=this;rw[hx,a0d hv hi ht]at hl;refine⟨t,by rw[hn];exact(qa.1 ht).1,?_⟩;unfold nxK;rw[hn,ht,hp];simp only;rw[if_pos hl,List.mem_singleton];show k=a6d (a0q k);rw[b2B h0]
theorem a6Q {p:Plan} (hv:d8 p=true) {m k:Move} (hm:C6 p m=true) (hk:C6 p k=true):G6 p m k=a5z p m k:=by
 have hk':=G8.1 hk;have hnb:0<=a6d k/\a6d k<2*p.Rails.length:=by unfold a6d;split<;>omega
 rw[qj];unfold G6 b0H;rw[qy];constructor
 ·rintro⟨x,hx,hxk⟩;simp only[decide_eq_true_eq]at hxk;subst hxk;obtain⟨q,hq,rfl⟩:=List.mem_map.1 hx;exact((c0b hv hm).1 (a6T.1 hq)).2.2
 ·intro h;refine⟨k,List.mem_map.2 ⟨a6d k,a6T.2 ((c0b hv hm).2 ⟨hnb.1,hnb.2,?_⟩),a2X hk'.1⟩,by simp⟩;rw[a2X hk'.1];exact h
theorem a8E {x:Int}:∀{l:List Int},l.Nodup->x∉l->(ins x l).Nodup
 |[],_,_=>by simp[ins]
 |y::l,h,hx=>by
  rw[List.nodup_cons]at h;simp only[List.mem_cons,not_or]at hx;simp only[ins]
  split
  ·simp[List.nodup_cons,hx,h]
  ·rw[List.nodup_cons,a4A];exact⟨by rintro(rfl|h1);exact hx.1 rfl;exact h.1 h1,a8E h.2 hx.2⟩
theorem srt_nodup {l:List Int} (h:l.Nodup):(srt l).Nodup:=by
 have gen:∀(l s:List Int),s.Nodup->l.Nodup->(∀x∈l,x∉s)->(l.foldl (fun s x=>ins x s) s).Nodup:=by
  intro l
  induction l with
  |nil=>intro s h _ _;exact h
  |cons x l ih=>
   intro s hs hl hd;rw[List.nodup_cons]at hl;refine ih _ (a8E hs (hd x (by simp))) hl.2 fun y hy=>?_;rw[a4A];rintro(rfl|h)
   ·exact hl.1 hy
   ·exact hd y (by simp[hy]) h
 exact gen l [] (by simp) h (by simp)
end Go.Tram
end
section
namespace Go.Tram
open Go.AM Go.Proofs
theorem c0H (p:Plan):a9 Tryz.prog 34 [p.av] (Bo (d8 p)):=by
 refine oB Tryz.func34 Tryz.ntmps34 Tryz.results34 ?_;refine aW ?_;refine a5 fun K1 hK1=>?_;refine aW ?_ fun K hK=>by simp -dsimp;refine cI (b3w _ _ _) ?_;simp -dsimp;refine cY (fun hm=>b3w _ _ _) ?_;simp -dsimp;exact hK
 refine a7 rfl (fun hc0=>?_) (fun hc0=>?_)
 ·skip
  try simp at hc0
  refine aW ?_;refine a6 ?_;have:d8 p=false:=by simp[d8,a1d];intro h1 h2;rcases hc0 with hc0|hc0<;>simp_all
  simp[this]
 ·skip
  try simp at hc0
  have hN:=g6.1 hc0.1;have hR:=g6.1 hc0.2;refine b9 ?_;refine zQ (hK1 _ _ ?_);refine aP [1] ?_;refine a5 fun K2 hK2=>?_;refine aW ?_;refine b8 ?_;refine aP [1,3] ?_;refine c6 [1] (α:=Nat) (fun k=>[(3,I k)]) (fun _=>[some (.els 2 [p.cells])]) (fun k=>k<=p.Nodes.length/\(p.Nodes.take k).all C3=true) (fun k=>p.Nodes.length-k) 0 ?_ ?_ ?_
  ·simp
  ·exact c9 (by simp)
  rintro k ⟨k1,k2⟩;refine zN ?_;refine a5 fun K3 hK3=>?_;refine aW ?_;refine a7 rfl (fun hc1=>?_) (fun hc1=>?_)
  ·skip
   try simp at hc1
   have g0:=p.node_get (i:=(k:Int)) (by omega) (by omega);simp only[Int.toNat_natCast]at g0;have wi:=zW k (by omega);refine b9 ?_;refine zQ (hK3 _ _ ?_);refine aP [1,3] ?_;refine a5 fun K4 hK4=>?_;refine b8 ?_;refine aW ?_ fun K hK=>by simp -dsimp [g0];exact hK
   refine aW ?_;refine a5 fun K5 hK5=>?_;refine aW ?_;refine a7 rfl (fun hc2=>?_) (fun hc2=>?_)
   ·skip
    try simp at hc2
    refine aV ?_ fun K hK=>by simp -dsimp;refine cI (b3w _ _ _) ?_;simp -dsimp;exact hK
    refine zQ (hK5 _ _ ?_);refine aP [1,3,4,5] ?_;refine aD ?_ fun K hK=>by simp -dsimp;refine cI (b4Z (p.node k).Spot) ?_;simp -dsimp;refine cY (fun hm=>b2c (p.node k).Kind) ?_;simp -dsimp;refine cY (fun hm=>b2c (p.node k).Kind) ?_;simp -dsimp;exact hK
    refine a7 rfl (fun hc3=>?_) (fun hc3=>?_)
    ·skip
     try simp at hc3
     refine aW ?_;refine a6 ?_;have:C3 (p.node k)=false:=by simp[C3,hc2];intro h1 h2 h3;simp_all
     simp[a1B g0 this]
    ·skip
     try simp at hc3
     refine b9 ?_;refine zQ (hK4 _ _ ?_);refine aP [1,3] ?_;refine aV ?_ fun K hK=>by simp -dsimp [wi];exact hK
     refine zQ ?_;refine⟨k+1,⟨by omega,?_⟩,by omega,aB [some 0]⟩;rw[a0h g0,k2];simp[C3,hc2,hc3]
   ·skip
    try simp at hc2
    refine b9 ?_;refine zQ (hK5 _ _ ?_);refine aP [1,3,4,5] ?_;refine aD ?_ fun K hK=>by simp -dsimp;refine cI (b4Z (p.node k).Spot) ?_;simp -dsimp;refine cY (fun hm=>b2c (p.node k).Kind) ?_;simp -dsimp;refine cY (fun hm=>b2c (p.node k).Kind) ?_;simp -dsimp;exact hK
    refine a7 rfl (fun hc3=>?_) (fun hc3=>?_)
    ·skip
     try simp at hc3
     refine aW ?_;refine a6 ?_;have:C3 (p.node k)=false:=by simp[C3,hc2];intro h1 h2 h3;simp_all
     simp[a1B g0 this]
    ·skip
     try simp at hc3
     refine b9 ?_;refine zQ (hK4 _ _ ?_);refine aP [1,3] ?_;refine aV ?_ fun K hK=>by simp -dsimp [wi];exact hK
     refine zQ ?_;refine⟨k+1,⟨by omega,?_⟩,by omega,aB [some 0]⟩;rw[a0h g0,k2];simp[C3,hc2,hc3]
  ·skip
   try simp at hc1
   have hA:=Y2 (by omega) k2;refine d4 ?_;refine zQ (hK2 _ _ ?_);refine aP [1] ?_;refine a5 fun K6 hK6=>?_;refine aW ?_;refine b8 ?_;refine aP [1,6] ?_;refine c6 [1] (α:=Nat) (fun k=>[(6,I k)]) (fun _=>[some (.els 2 [p.cells])]) (fun k=>k<=p.Rails.length/\(p.Rails.take k).all (E5 p)=true) (fun k=>p.Rails.length-k) 0 ?_ ?_ ?_
   ·simp
   ·exact c9 (by simp)
   rintro u ⟨u1,u2⟩;refine zN ?_;refine a5 fun K7 hK7=>?_;refine aW ?_;refine a7 rfl (fun hc4=>?_) (fun hc4=>?_)
   ·skip
    try simp at hc4
    have r0:=p.rail_get (i:=(u:Int)) (by omega) (by omega);simp only[Int.toNat_natCast]at r0;have wu:=zW u (by omega);have wn:IntKind.i64.wrap ((p.Nodes.length:Int)-1)=(p.Nodes.length:Int)-1:=c4 (by omega) (by omega);refine b9 ?_;refine zQ (hK7 _ _ ?_);refine aP [1,6] ?_;refine a5 fun K8 hK8=>?_;refine b8 ?_;refine aW ?_ fun K hK=>by simp -dsimp [r0];exact hK
    refine a5 fun K9 hK9=>?_;refine aW ?_ fun K hK=>by simp -dsimp [wn];refine cI (b3w _ _ _) ?_;simp -dsimp [wn];refine cY (fun hm=>b3w _ _ _) ?_;simp -dsimp [wn];refine cY (fun hm=>b3w _ _ _) ?_;simp -dsimp [wn];refine cY (fun hm=>b3w _ _ _) ?_;simp -dsimp [wn];exact hK
    refine a7 rfl (fun hc5=>?_) (fun hc5=>?_)
    ·skip
     try simp at hc5
     have hra:S8 p (p.rail u)=false:=by
      cases hq:S8 p (p.rail u)with
      |false=>rfl
      |true=>simp[S8]at hq;simp[hq]at hc5;omega
     refine aW ?_;exact a6 (by simp[Y3 r0 (by simp[E5,hra]:E5 p (p.rail u)=false)])
    ·skip
     try simp at hc5
     have hra:S8 p (p.rail u)=true:=by simp[S8,hc5];omega
     have hF:=g6.1 hc5.1.1.1.1;have hT:=g6.1 hc5.1.1.1.2;have hlen:(p.rail u).Shape.length<=30:=by omega
     have sF:=O7 (C4 hA (i:=(p.rail u).From) (by omega) (by omega));have sT:=O7 (C4 hA (i:=(p.rail u).To) (by omega) (by omega));refine b9 ?_;refine zQ (hK9 _ _ ?_);refine aP [1,6,7] ?_;refine a5 fun K10 hK10=>?_;refine aW ?_;refine b8 ?_;refine aP [1,6,7,8] ?_;refine c6 [1,6,7] (α:=Nat) (fun j=>[(8,I j)]) (fun _=>[some (.els 2 [p.cells]),some (.els 5 [(p.rail u).cells])]) (fun j=>j<=(p.rail u).Shape.length/\((p.rail u).Shape.take j).all l7=true) (fun j=>(p.rail u).Shape.length-j) 0 ?_ ?_ ?_
     ·simp
     ·exact c9 (by simp)
     rintro j ⟨j1,j2⟩;refine zN ?_;refine a5 fun K11 hK11=>?_;refine aW ?_;refine a7 rfl (fun hc6=>?_) (fun hc6=>?_)
     ·skip
      try simp at hc6
      have s0:(p.rail u).Shape[j]?=some (nth (p.rail u).Shape j):=y8 hc6;have wj:=zW j (by omega);refine b9 ?_;refine zQ (hK11 _ _ ?_);refine aP [1,6,7,8] ?_;refine a5 fun K12 hK12=>?_;refine b8 ?_;refine aW ?_ fun K hK=>by simp -dsimp [s0];refine cI (b4Z (nth (p.rail u).Shape j)) ?_;simp -dsimp [s0];exact hK
      refine a7 rfl (fun hc7=>?_) (fun hc7=>?_)
      ·skip
       try simp at hc7
       refine aW ?_;exact a6 (by simp[Y3 r0 (by simp[E5,b1m s0 hc7]:E5 p (p.rail u)=false)])
      ·skip
       try simp at hc7
       refine b9 ?_;refine zQ (hK12 _ _ ?_);refine aP [1,6,7,8] ?_;refine aV ?_ fun K hK=>by simp -dsimp [wj];exact hK
       refine zQ ?_;refine⟨j+1,⟨by omega,?_⟩,by omega,c9 (by simp)⟩;rw[a0h s0,j2];simp[hc7]
     ·skip
      try simp at hc6
      have hS:=Y2 (by omega) j2;have hls:(p.line u).all l7=true:=a6g sF sT hS;have hll:=b1v p u;have hb:∀m,m<(p.line u).length->l7 (nth (p.line u) m)=true:=fun m hm=>qn.1 hls _ (qd (y8 hm));refine d4 ?_;refine zQ (hK10 _ _ ?_);refine aP [1,6] ?_;refine aW ?_ fun K hK=>by simp -dsimp;refine cI (b6Z p u (by omega) (by omega) ⟨by omega,by omega⟩ ⟨by omega,by omega⟩ (by omega)) ?_;simp -dsimp;exact hK
      refine aW ?_;refine b8 ?_;refine aP [1,6,9,10] ?_;refine c6 [1,6,9] (α:=Nat) (fun j=>[(10,I j)]) (fun _=>[some (.els 2 [p.cells]),some (.els 5 [(p.rail u).cells])]) (fun j=>1<=j/\j<=(p.line u).length/\∀m,m+1<j->a8O (p.line u) m=true) (fun j=>(p.line u).length-j) 1 ?_ ?_ ?_
      ·refine⟨by omega,by omega,fun m hm=>by omega⟩
      ·exact c9 (by simp)
      rintro j ⟨j1,j2,j3⟩;refine zN ?_;refine a5 fun K13 hK13=>?_;refine aW ?_;refine a7 rfl (fun hc8=>?_) (fun hc8=>?_)
      ·skip
       try simp at hc8
       have wk:IntKind.i64.wrap ((j:Int)-1)=((j-1:Nat):Int):=by rw[c4 (by omega) (by omega)];omega
       have wj:=zW j (by omega);have l1:=y8 (l:=p.line u) (k:=j-1) (by omega);have l2:=y8 (l:=p.line u) (k:=j) (by omega);refine b9 ?_;refine zQ (hK13 _ _ ?_);refine aP [1,6,9,10] ?_;refine a5 fun K14 hK14=>?_;refine b8 ?_;refine aD ?_ fun K hK=>by simp -dsimp [wk,l1,l2];refine cI (c6e (nth (p.line u) (j-1)) (nth (p.line u) j) (hb _ (by omega)) (hb _ (by omega))) ?_;simp -dsimp [wk,l1,l2];refine cI (b3w _ _ _) ?_;simp -dsimp [wk,l1,l2];exact hK
       refine a7 rfl (fun hc9=>?_) (fun hc9=>?_)
       ·simp at hc9;have hseg:a8O (p.line u) (j-1)=inr (far (nth (p.line u) (j-1)) (nth (p.line u) j)) 1 1000000:=by simp only[a8O,D4];rw[show j-1+1=j by omega]
        have hfs:E5 p (p.rail u)=false:=by
         have:(List.range ((p.rail u).Shape.length+1)).all (a8O (v9 p (p.rail u)))=false:=by rw[List.all_eq_false];exact⟨j-1,by simp;omega,by rw[show v9 p (p.rail u)=p.line u from rfl,hseg];simp[hc9]⟩
         simp[E5,this]
        refine aW ?_;exact a6 (by simp[Y3 r0 hfs])
       ·simp at hc9;have hseg:a8O (p.line u) (j-1)=inr (far (nth (p.line u) (j-1)) (nth (p.line u) j)) 1 1000000:=by simp only[a8O,D4];rw[show j-1+1=j by omega]
        refine b9 ?_;refine zQ (hK14 _ _ ?_);refine aP [1,6,9,10] ?_;refine aV ?_ fun K hK=>by simp -dsimp [wj];exact hK
        refine zQ ?_;refine⟨j+1,⟨by omega,by omega,fun m hm=>?_⟩,by omega,c9 (by simp)⟩
        by_cases hmj:m+1<j
        ·exact j3 m hmj
        ·rw[show m=j-1 by omega,hseg];exact hc9
      ·skip
       try simp at hc8
       refine d4 ?_;refine zQ (hK8 _ _ ?_);refine aP [1,6] ?_;refine aV ?_ fun K hK=>by simp -dsimp [wu];exact hK
       refine zQ ?_;refine⟨u+1,⟨by omega,?_⟩,by omega,aB [some 0]⟩;rw[a0h r0,u2,E5,hra,hS];simp only[Bool.true_and];rw[qn];intro m hm;simp only[List.mem_range]at hm;exact j3 m (by omega)
   ·skip
    try simp at hc4
    have hB:=Y2 (by omega) u2;refine d4 ?_;refine zQ (hK6 _ _ ?_);refine aP [1] ?_;refine aW ?_;refine a5 fun K15 hK15=>?_;refine aW ?_;refine b8 ?_;refine aP [1,11,12] ?_;refine c6 [1] (α:=Nat) (fun i=>[(11, .row 1 0 (s6 p i).length),(12,I i)]) (fun i=>[some (.els 2 [p.cells]),some (.els 2 (b4p (s6 p i)))]) (fun i=>i<=p.Nodes.length/\(s6 p i).all (endB p)=true/\((s6 p i).map (·.2)).Nodup) (fun i=>p.Nodes.length-i) 0 ?_ ?_ ?_
    ·simp[s6]
    ·exact(V7 11 2 (by simp)).trans (c9 (by simp[s6]))
    rintro i ⟨i1,i2,i3⟩;refine zN ?_;refine a5 fun K16 hK16=>?_;refine aW ?_;refine a7 rfl (fun hc10=>?_) (fun hc10=>?_)
    ·skip
     try simp at hc10
     have n0:=p.node_get (i:=(i:Int)) (by omega) (by omega);simp only[Int.toNat_natCast]at n0;have wi:=zW i (by omega);have wr:IntKind.i64.wrap ((p.Rails.length:Int)-1)=(p.Rails.length:Int)-1:=c4 (by omega) (by omega);have hle:=a0c (C4 hA (i:=(i:Int)) (by omega) (by omega));refine b9 ?_;refine zQ (hK16 _ _ ?_);refine aP [1,11,12] ?_;refine a5 fun K17 hK17=>?_;refine b8 ?_;refine aW ?_;refine b8 ?_;refine aP [1,11,12,13] ?_;refine c6 [1,12] (α:=Nat) (fun j=>[(11, .row 1 0 (a0S p i j).length),(13,I j)]) (fun j=>[some (.els 2 [p.cells]),some (.els 2 (b4p (a0S p i j)))]) (fun j=>j<=(p.node i).Ends.length/\(a0S p i j).all (endB p)=true/\((a0S p i j).map (·.2)).Nodup) (fun j=>(p.node i).Ends.length-j) 0 ?_ ?_ ?_
     ·rw[a1X];exact⟨by omega,i2,i3⟩
     ·simp only[a1X];exact c9 (by simp)
     rintro j ⟨j1,j2,j3⟩;refine zN ?_;refine a5 fun K18 hK18=>?_;refine aW ?_ fun K hK=>by simp -dsimp [n0];exact hK
     refine a7 rfl (fun hc11=>?_) (fun hc11=>?_)
     ·skip
      try simp at hc11
      obtain⟨e,he⟩:∃e,(p.node i).Ends[j]?=some e:=⟨_,qc hc11⟩;have hcl:=b8p hA (j:=j) hc10;have wj:=zW j (by omega);have f1:R2 ((a0S p i j).length+1) 17:=n7 (by omega) (by omega);have f2:R2 ((a0S p i j).length+1) 25:=n7 (by omega) (by omega);refine b9 ?_;refine zQ (hK18 _ _ ?_);refine aP [1,11,12,13] ?_;refine a5 fun K19 hK19=>?_;refine b8 ?_;refine aW ?_ fun K hK=>by simp -dsimp [n0,he];exact hK
      refine a5 fun K20 hK20=>?_;refine aW ?_ fun K hK=>by simp -dsimp [wr];refine cI (b3w _ _ _) ?_;simp -dsimp [wr];refine cY (fun hm=>c5H p e (by simp[g6]at hm;omega) (by simp[g6]at hm;omega)) ?_;simp -dsimp [wr];exact hK
      refine a7 rfl (fun hc12=>?_) (fun hc12=>?_)
      ·skip
       try simp at hc12
       have hef:endB p (i,e)=false:=by
        cases hq:endB p (i,e)with
        |false=>rfl
        |true=>simp[endB]at hq;simp[hq]at hc12
       refine aW ?_;exact a6 (by simp[a3m hc10 he hef])
      ·skip
       try simp at hc12
       refine b9 ?_;refine zQ (hK20 _ _ ?_);refine aP [1,11,12,13,14] ?_;refine a5 fun K21 hK21=>?_;refine aW ?_;refine b8 ?_;refine aP [1,11,12,13,14,15] ?_;refine c6 [1,11,12,13,14] (α:=Nat) (fun m=>[(15,I m)]) (fun _=>[some (.els 2 [p.cells]),some (.els 2 (b4p (a0S p i j))),some (.els 2 [e.cells])]) (fun m=>m<=(a0S p i j).length/\∀x∈(a0S p i j).take m,x.2≠e) (fun m=>(a0S p i j).length-m) 0 ?_ ?_ ?_
       ·simp
       ·exact c9 (by simp)
       rintro m ⟨m1,m2⟩;refine zN ?_;refine a5 fun K22 hK22=>?_;refine aW ?_;refine a7 rfl (fun hc13=>?_) (fun hc13=>?_)
       ·skip
        try simp at hc13
        obtain⟨x,hx⟩:∃x,(a0S p i j)[m]?=some x:=⟨_,qc hc13⟩;have wm:=zW m (by omega);refine b9 ?_;refine zQ (hK22 _ _ ?_);refine aP [1,11,12,13,14,15] ?_;refine a5 fun K23 hK23=>?_;refine b8 ?_;refine aD ?_ fun K hK=>by simp -dsimp [hx,hc13];exact hK
        refine a7 rfl (fun hc14=>?_) (fun hc14=>?_)
        ·skip
         try simp at hc14
         refine aW ?_;have hxe:x.2=e:=by cases hxx:x.2;cases e;simp_all
         exact a6 (by simp[a0w hc10 he hx hxe])
        ·skip
         try simp at hc14
         refine b9 ?_;refine zQ (hK23 _ _ ?_);refine aP [1,11,12,13,14,15] ?_;refine aV ?_ fun K hK=>by simp -dsimp [wm];exact hK
         refine zQ ?_;refine⟨m+1,⟨by omega,?_⟩,by omega,c9 (by simp)⟩;intro y hy;rw[qz,hx]at hy
         rcases List.mem_append.1 hy with hy|hy
         ·exact m2 y hy
         ·simp only[Option.toList_some,List.mem_singleton]at hy;subst hy;intro hh;rw[<-hh]at hc14;have hxm:(a0S p i j)[m]=y:=(qa.1 hx).2;simp[hxm]at hc14
       ·skip
        try simp at hc13
        have hne:∀x∈a0S p i j,x.2≠e:=by intro x hx;exact m2 x (by rw[qg (by omega)];exact hx)
        refine d4 ?_;refine zQ (hK21 _ _ ?_);refine aP [1,11,12,13,14] ?_;refine aV ?_ fun K hK=>by simp -dsimp [f1,f2];exact hK
        refine zQ (hK19 _ _ ?_);refine aP [1,11,12,13] ?_;refine aV ?_ fun K hK=>by simp -dsimp [wj];exact hK
        refine zQ ?_;refine⟨j+1,⟨by omega,?_,?_⟩,by omega,g7 [some 0,some 3] rfl (by simp[Q9 he]) (by simp[Q9 he,Function.comp_def,qg])⟩
        ·rw[Q9 he,List.all_append,j2];simp[endB,hc12]
        ·rw[Q9 he,List.map_append,List.nodup_append];refine⟨j3,by simp,?_⟩;intro a ha b hb;simp only[List.map_cons,List.map_nil,List.mem_singleton]at hb;subst hb;obtain⟨y,hy,rfl⟩:=List.mem_map.1 ha;exact hne y hy
     ·skip
      try simp at hc11
      have hce:=b1S (p:=p) (i:=i) (j:=j) (by omega);refine d4 ?_;refine zQ (hK17 _ _ ?_);refine aP [1,11,12] ?_;refine aV ?_ fun K hK=>by simp -dsimp [wi];exact hK
      refine zQ ?_;exact⟨i+1,⟨by omega,by rw[<-hce];exact j2,by rw[<-hce];exact j3⟩,by omega,by simp only[<-hce];exact c9 (by simp)⟩
    ·skip
     try simp at hc10
     have hii:i=p.Nodes.length:=by omega
     subst hii;have hle:=a0D hA p.Nodes.length (qo _);have w2:IntKind.i64.wrap (2*(p.Rails.length:Int))=2*(p.Rails.length:Int):=c4 (by omega) (by omega);refine d4 ?_;refine zQ (hK15 _ _ ?_);refine aP [1,11] ?_;refine aW ?_ fun K hK=>by simp -dsimp [w2];exact hK
     refine a6 ?_;have hv:d8 p=decide ((s6 p p.Nodes.length).length=2*p.Rails.length):=by simp[d8,a1d,a1b,hc0,hA,hB,i2,i3]
     simp only[hv];simp;exact qj.2 (by simp;omega)
end Go.Tram
end
section
namespace Go.Tram
open Go.AM Go.Proofs
theorem b1w (m:Move):a9 Tryz.prog 89 [m.av] (.agg [I m.Rail,Bo (!m.Back)]):=by
 refine oB Tryz.func89 Tryz.ntmps89 Tryz.results89 ?_;refine aW ?_;refine aW ?_;exact a6 (by simp)
theorem b9W (m:Move):a9 Tryz.prog 91 [m.av] (.agg [I m.Rail,Bo m.Back]):=by
 refine oB Tryz.func91 Tryz.ntmps91 Tryz.results91 ?_;refine aW ?_;refine aW ?_;exact a6 (by simp)
theorem a9S (p:Plan) (m:Move) (hR:p.Rails.length<=100000):a9 Tryz.prog 36 [p.av,m.av] (Bo (C6 p m)):=by
 have w:IntKind.i64.wrap ((p.Rails.length:Int)-1)=(p.Rails.length:Int)-1:=c4 (by omega) (by omega);refine oB Tryz.func36 Tryz.ntmps36 Tryz.results36 ?_;refine aW ?_;refine aW ?_ fun K hK=>by simp -dsimp [w];refine cI (b3w m.Rail 0 _) ?_;simp -dsimp [w];exact hK
 exact a6 (by simp[C6])
theorem a7a (n:Node) (e:E1) (hn:n.Ends.length<=1000):a9 Tryz.prog 90 [n.av,e.av] (I (a2S n e)):=by
 refine oB Tryz.func90 Tryz.ntmps90 Tryz.results90 ?_;refine aW ?_;refine a5 fun K1 hK1=>?_;refine aW ?_;refine b8 ?_;refine aP [2,3,5] ?_;refine c6 [2,3] (α:=Nat) (fun k=>[(5,I k)]) (fun _=>[some (.els 5 [n.cells]),some (.els 2 [e.cells])]) (fun k=>k<=n.Ends.length/\a3a e (n.Ends.drop k) k=a2S n e) (fun k=>n.Ends.length-k) 0 ?_ ?_ ?_
 ·exact⟨qp _,rfl⟩
 ·exact c9 (by simp)
 rintro k ⟨k1,k2⟩;refine zN ?_;refine a5 fun K2 hK2=>?_;refine aW ?_;refine a7 rfl (fun hc0=>?_) (fun hc0=>?_)
 ·skip
  try simp at hc0
  obtain⟨x,hx⟩:=gx (l:=n.Ends) (i:=k) (by simpa using hc0);obtain⟨hxl,hxe⟩:=qa.1 hx;have wk:=zW k (by omega);rw[List.drop_eq_getElem_cons hxl,hxe]at k2;simp only[a3a]at k2;refine b9 ?_;refine zQ (hK2 _ _ ?_);refine aP [2,3,5] ?_;refine a5 fun K3 hK3=>?_;refine b8 ?_;refine aD ?_ fun K hK=>by simp -dsimp [hx];exact hK
  refine a7 rfl (fun hc1=>?_) (fun hc1=>?_)
  ·have hxe2:x=e:=by obtain⟨a,b⟩:=x;obtain⟨c,d⟩:=e;simpa using hc1
   rw[if_pos hxe2]at k2;refine aW ?_;exact a6 (by simp[<-k2])
  ·have hxe2:x≠e:=by rintro rfl;simp at hc1
   rw[if_neg hxe2]at k2;refine b9 ?_;refine zQ (hK3 _ _ ?_);refine aP [2,3,5] ?_;refine aV ?_ fun K hK=>by simp -dsimp [wk];exact hK
   refine zQ ?_;exact⟨k+1,⟨by omega,by rw[<-k2];rfl⟩,by omega,c9 (by simp)⟩
 ·skip
  try simp at hc0
  have hke:k=n.Ends.length:=by have:¬k<n.Ends.length:=(by simpa using hc0);omega
  subst hke;rw[List.drop_length]at k2;refine d4 ?_;refine zQ (hK1 _ _ ?_);refine aP [] ?_;refine aW ?_;exact a6 (by simp[<-k2,a3a])
theorem b8x (n:Node) (a b:Int) (ha:0<=a/\a<=1000) (hb:0<=b/\b<=1000) (hk:n.Kind=1):a9 Tryz.prog 145 [n.av,I a,I b] (Bo (D9 n a b)):=by
 have w:IntKind.i64.wrap (a+b)=a+b:=c4 (by omega) (by omega);have w2:(a+b).tmod 2=(a+b) % 2:=Int.tmod_eq_emod_of_nonneg (by omega);unfold D9;simp only[Node.av,Node.cells,hk,Int.reduceEq,if_false,if_true,reduceIte];refine oB Tryz.func145 Tryz.ntmps145 Tryz.results145 ?_;refine aW ?_ fun K hK=>by simp -dsimp [w,w2];exact hK
 refine a5 fun K1 hK1=>?_;refine aW ?_ fun K hK=>by simp -dsimp [w,w2];exact hK
 refine b8 ?_;refine aW ?_ fun K hK=>by simp -dsimp [w,w2];exact hK
 refine a7 rfl (fun hc0=>?_) (fun hc0=>?_)
 ·refine aW ?_ fun K hK=>by simp -dsimp [w,w2];exact hK
  first|(exfalso;simp at hc0;done)|(exfalso;simp at hc1;done)|(exfalso;simp at hc2;done)|(exfalso;simp at hc3;done)|(exfalso;simp at hc4;done)|(refine a6 ?_;simp;done)|(refine a6 ?_;simp;exact qj.2 (by simp;try omega))
 ·refine aW ?_ fun K hK=>by simp -dsimp [w,w2];exact hK
  refine a7 rfl (fun hc1=>?_) (fun hc1=>?_)
  ·refine aW ?_ fun K hK=>by simp -dsimp [w,w2];exact hK
   first|(exfalso;simp at hc0;done)|(exfalso;simp at hc1;done)|(exfalso;simp at hc2;done)|(exfalso;simp at hc3;done)|(exfalso;simp at hc4;done)|(refine a6 ?_;simp;done)|(refine a6 ?_;simp;exact qj.2 (by simp;try omega))
  ·refine aW ?_ fun K hK=>by simp -dsimp [w,w2];exact hK
   refine a7 rfl (fun hc2=>?_) (fun hc2=>?_)
   ·refine aW ?_ fun K hK=>by simp -dsimp [w,w2];exact hK
    first|(exfalso;simp at hc0;done)|(exfalso;simp at hc1;done)|(exfalso;simp at hc2;done)|(exfalso;simp at hc3;done)|(exfalso;simp at hc4;done)|(refine a6 ?_;simp;done)|(refine a6 ?_;simp;exact qj.2 (by simp;try omega))
   ·refine aW ?_ fun K hK=>by simp -dsimp [w,w2];exact hK
    refine a7 rfl (fun hc3=>?_) (fun hc3=>?_)
    ·refine aW ?_ fun K hK=>by simp -dsimp [w,w2];exact hK
     first|(exfalso;simp at hc0;done)|(exfalso;simp at hc1;done)|(exfalso;simp at hc2;done)|(exfalso;simp at hc3;done)|(exfalso;simp at hc4;done)|(refine a6 ?_;simp;done)|(refine a6 ?_;simp;exact qj.2 (by simp;try omega))
    ·refine aW ?_ fun K hK=>by simp -dsimp [w,w2];exact hK
     refine a7 rfl (fun hc4=>?_) (fun hc4=>?_)
     ·refine aW ?_ fun K hK=>by simp -dsimp [w,w2];exact hK
      first|(exfalso;simp at hc0;done)|(exfalso;simp at hc1;done)|(exfalso;simp at hc2;done)|(exfalso;simp at hc3;done)|(exfalso;simp at hc4;done)|(refine a6 ?_;simp;done)|(refine a6 ?_;simp;exact qj.2 (by simp;try omega))
     ·refine b9 ?_;refine zQ (hK1 _ _ ?_);refine aP [] ?_;refine aW ?_ fun K hK=>by simp -dsimp [w,w2];exact hK
      first|(exfalso;simp at hc0;done)|(exfalso;simp at hc1;done)|(exfalso;simp at hc2;done)|(exfalso;simp at hc3;done)|(exfalso;simp at hc4;done)|(refine a6 ?_;simp;done)|(refine a6 ?_;simp;exact qj.2 (by simp;try omega))
theorem b7X (n:Node) (a b:Int) (ha:0<=a/\a<=1000) (hb:0<=b/\b<=1000) (hk:n.Kind=2):a9 Tryz.prog 145 [n.av,I a,I b] (Bo (D9 n a b)):=by
 have w:IntKind.i64.wrap (a+b)=a+b:=c4 (by omega) (by omega);have w2:(a+b).tmod 2=(a+b) % 2:=Int.tmod_eq_emod_of_nonneg (by omega);unfold D9;simp only[Node.av,Node.cells,hk,Int.reduceEq,if_false,if_true,reduceIte];refine oB Tryz.func145 Tryz.ntmps145 Tryz.results145 ?_;refine aW ?_ fun K hK=>by simp -dsimp [w,w2];exact hK
 refine a5 fun K1 hK1=>?_;refine aW ?_ fun K hK=>by simp -dsimp [w,w2];exact hK
 refine b8 ?_;refine aW ?_ fun K hK=>by simp -dsimp [w,w2];exact hK
 refine a7 rfl (fun hc0=>?_) (fun hc0=>?_)
 ·refine aW ?_ fun K hK=>by simp -dsimp [w,w2];exact hK
  first|(exfalso;simp at hc0;done)|(exfalso;simp at hc1;done)|(exfalso;simp at hc2;done)|(exfalso;simp at hc3;done)|(exfalso;simp at hc4;done)|(refine a6 ?_;simp;done)|(refine a6 ?_;simp;exact qj.2 (by simp;try omega))
 ·refine aW ?_ fun K hK=>by simp -dsimp [w,w2];exact hK
  refine a7 rfl (fun hc1=>?_) (fun hc1=>?_)
  ·refine aW ?_ fun K hK=>by simp -dsimp [w,w2];exact hK
   first|(exfalso;simp at hc0;done)|(exfalso;simp at hc1;done)|(exfalso;simp at hc2;done)|(exfalso;simp at hc3;done)|(exfalso;simp at hc4;done)|(refine a6 ?_;simp;done)|(refine a6 ?_;simp;exact qj.2 (by simp;try omega))
  ·refine aW ?_ fun K hK=>by simp -dsimp [w,w2];exact hK
   refine a7 rfl (fun hc2=>?_) (fun hc2=>?_)
   ·refine aW ?_ fun K hK=>by simp -dsimp [w,w2];exact hK
    first|(exfalso;simp at hc0;done)|(exfalso;simp at hc1;done)|(exfalso;simp at hc2;done)|(exfalso;simp at hc3;done)|(exfalso;simp at hc4;done)|(refine a6 ?_;simp;done)|(refine a6 ?_;simp;exact qj.2 (by simp;try omega))
   ·refine aW ?_ fun K hK=>by simp -dsimp [w,w2];exact hK
    refine a7 rfl (fun hc3=>?_) (fun hc3=>?_)
    ·refine aW ?_ fun K hK=>by simp -dsimp [w,w2];exact hK
     first|(exfalso;simp at hc0;done)|(exfalso;simp at hc1;done)|(exfalso;simp at hc2;done)|(exfalso;simp at hc3;done)|(exfalso;simp at hc4;done)|(refine a6 ?_;simp;done)|(refine a6 ?_;simp;exact qj.2 (by simp;try omega))
    ·refine aW ?_ fun K hK=>by simp -dsimp [w,w2];exact hK
     refine a7 rfl (fun hc4=>?_) (fun hc4=>?_)
     ·refine aW ?_ fun K hK=>by simp -dsimp [w,w2];exact hK
      first|(exfalso;simp at hc0;done)|(exfalso;simp at hc1;done)|(exfalso;simp at hc2;done)|(exfalso;simp at hc3;done)|(exfalso;simp at hc4;done)|(refine a6 ?_;simp;done)|(refine a6 ?_;simp;exact qj.2 (by simp;try omega))
     ·refine b9 ?_;refine zQ (hK1 _ _ ?_);refine aP [] ?_;refine aW ?_ fun K hK=>by simp -dsimp [w,w2];exact hK
      first|(exfalso;simp at hc0;done)|(exfalso;simp at hc1;done)|(exfalso;simp at hc2;done)|(exfalso;simp at hc3;done)|(exfalso;simp at hc4;done)|(refine a6 ?_;simp;done)|(refine a6 ?_;simp;exact qj.2 (by simp;try omega))
theorem b8P (n:Node) (a b:Int) (ha:0<=a/\a<=1000) (hb:0<=b/\b<=1000) (hk:n.Kind=3):a9 Tryz.prog 145 [n.av,I a,I b] (Bo (D9 n a b)):=by
 have w:IntKind.i64.wrap (a+b)=a+b:=c4 (by omega) (by omega);have w2:(a+b).tmod 2=(a+b) % 2:=Int.tmod_eq_emod_of_nonneg (by omega);unfold D9;simp only[Node.av,Node.cells,hk,Int.reduceEq,if_false,if_true,reduceIte];refine oB Tryz.func145 Tryz.ntmps145 Tryz.results145 ?_;refine aW ?_ fun K hK=>by simp -dsimp [w,w2];exact hK
 refine a5 fun K1 hK1=>?_;refine aW ?_ fun K hK=>by simp -dsimp [w,w2];exact hK
 refine b8 ?_;refine aW ?_ fun K hK=>by simp -dsimp [w,w2];exact hK
 refine a7 rfl (fun hc0=>?_) (fun hc0=>?_)
 ·refine aW ?_ fun K hK=>by simp -dsimp [w,w2];exact hK
  first|(exfalso;simp at hc0;done)|(exfalso;simp at hc1;done)|(exfalso;simp at hc2;done)|(exfalso;simp at hc3;done)|(exfalso;simp at hc4;done)|(refine a6 ?_;simp;done)|(refine a6 ?_;simp;exact qj.2 (by simp;try omega))
 ·refine aW ?_ fun K hK=>by simp -dsimp [w,w2];exact hK
  refine a7 rfl (fun hc1=>?_) (fun hc1=>?_)
  ·refine aW ?_ fun K hK=>by simp -dsimp [w,w2];exact hK
   first|(exfalso;simp at hc0;done)|(exfalso;simp at hc1;done)|(exfalso;simp at hc2;done)|(exfalso;simp at hc3;done)|(exfalso;simp at hc4;done)|(refine a6 ?_;simp;done)|(refine a6 ?_;simp;exact qj.2 (by simp;try omega))
  ·refine aW ?_ fun K hK=>by simp -dsimp [w,w2];exact hK
   refine a7 rfl (fun hc2=>?_) (fun hc2=>?_)
   ·refine aW ?_ fun K hK=>by simp -dsimp [w,w2];exact hK
    first|(exfalso;simp at hc0;done)|(exfalso;simp at hc1;done)|(exfalso;simp at hc2;done)|(exfalso;simp at hc3;done)|(exfalso;simp at hc4;done)|(refine a6 ?_;simp;done)|(refine a6 ?_;simp;exact qj.2 (by simp;try omega))
   ·refine aW ?_ fun K hK=>by simp -dsimp [w,w2];exact hK
    refine a7 rfl (fun hc3=>?_) (fun hc3=>?_)
    ·refine aW ?_ fun K hK=>by simp -dsimp [w,w2];exact hK
     first|(exfalso;simp at hc0;done)|(exfalso;simp at hc1;done)|(exfalso;simp at hc2;done)|(exfalso;simp at hc3;done)|(exfalso;simp at hc4;done)|(refine a6 ?_;simp;done)|(refine a6 ?_;simp;exact qj.2 (by simp;try omega))
    ·refine aW ?_ fun K hK=>by simp -dsimp [w,w2];exact hK
     refine a7 rfl (fun hc4=>?_) (fun hc4=>?_)
     ·refine aW ?_ fun K hK=>by simp -dsimp [w,w2];exact hK
      first|(exfalso;simp at hc0;done)|(exfalso;simp at hc1;done)|(exfalso;simp at hc2;done)|(exfalso;simp at hc3;done)|(exfalso;simp at hc4;done)|(refine a6 ?_;simp;done)|(refine a6 ?_;simp;exact qj.2 (by simp;try omega))
     ·refine b9 ?_;refine zQ (hK1 _ _ ?_);refine aP [] ?_;refine aW ?_ fun K hK=>by simp -dsimp [w,w2];exact hK
      first|(exfalso;simp at hc0;done)|(exfalso;simp at hc1;done)|(exfalso;simp at hc2;done)|(exfalso;simp at hc3;done)|(exfalso;simp at hc4;done)|(refine a6 ?_;simp;done)|(refine a6 ?_;simp;exact qj.2 (by simp;try omega))
theorem b7j (n:Node) (a b:Int) (ha:0<=a/\a<=1000) (hb:0<=b/\b<=1000) (hk:n.Kind=4):a9 Tryz.prog 145 [n.av,I a,I b] (Bo (D9 n a b)):=by
 have w:IntKind.i64.wrap (a+b)=a+b:=c4 (by omega) (by omega);have w2:(a+b).tmod 2=(a+b) % 2:=Int.tmod_eq_emod_of_nonneg (by omega);unfold D9;simp only[Node.av,Node.cells,hk,Int.reduceEq,if_false,if_true,reduceIte];refine oB Tryz.func145 Tryz.ntmps145 Tryz.results145 ?_;refine aW ?_ fun K hK=>by simp -dsimp [w,w2];exact hK
 refine a5 fun K1 hK1=>?_;refine aW ?_ fun K hK=>by simp -dsimp [w,w2];exact hK
 refine b8 ?_;refine aW ?_ fun K hK=>by simp -dsimp [w,w2];exact hK
 refine a7 rfl (fun hc0=>?_) (fun hc0=>?_)
 ·refine aW ?_ fun K hK=>by simp -dsimp [w,w2];exact hK
  first|(exfalso;simp at hc0;done)|(exfalso;simp at hc1;done)|(exfalso;simp at hc2;done)|(exfalso;simp at hc3;done)|(exfalso;simp at hc4;done)|(refine a6 ?_;simp;done)|(refine a6 ?_;simp;exact qj.2 (by simp;try omega))
 ·refine aW ?_ fun K hK=>by simp -dsimp [w,w2];exact hK
  refine a7 rfl (fun hc1=>?_) (fun hc1=>?_)
  ·refine aW ?_ fun K hK=>by simp -dsimp [w,w2];exact hK
   first|(exfalso;simp at hc0;done)|(exfalso;simp at hc1;done)|(exfalso;simp at hc2;done)|(exfalso;simp at hc3;done)|(exfalso;simp at hc4;done)|(refine a6 ?_;simp;done)|(refine a6 ?_;simp;exact qj.2 (by simp;try omega))
  ·refine aW ?_ fun K hK=>by simp -dsimp [w,w2];exact hK
   refine a7 rfl (fun hc2=>?_) (fun hc2=>?_)
   ·refine aW ?_ fun K hK=>by simp -dsimp [w,w2];exact hK
    first|(exfalso;simp at hc0;done)|(exfalso;simp at hc1;done)|(exfalso;simp at hc2;done)|(exfalso;simp at hc3;done)|(exfalso;simp at hc4;done)|(refine a6 ?_;simp;done)|(refine a6 ?_;simp;exact qj.2 (by simp;try omega))
   ·refine aW ?_ fun K hK=>by simp -dsimp [w,w2];exact hK
    refine a7 rfl (fun hc3=>?_) (fun hc3=>?_)
    ·refine aW ?_ fun K hK=>by simp -dsimp [w,w2];exact hK
     first|(exfalso;simp at hc0;done)|(exfalso;simp at hc1;done)|(exfalso;simp at hc2;done)|(exfalso;simp at hc3;done)|(exfalso;simp at hc4;done)|(refine a6 ?_;simp;done)|(refine a6 ?_;simp;exact qj.2 (by simp;try omega))
    ·refine aW ?_ fun K hK=>by simp -dsimp [w,w2];exact hK
     refine a7 rfl (fun hc4=>?_) (fun hc4=>?_)
     ·refine aW ?_ fun K hK=>by simp -dsimp [w,w2];exact hK
      first|(exfalso;simp at hc0;done)|(exfalso;simp at hc1;done)|(exfalso;simp at hc2;done)|(exfalso;simp at hc3;done)|(exfalso;simp at hc4;done)|(refine a6 ?_;simp;done)|(refine a6 ?_;simp;exact qj.2 (by simp;try omega))
     ·refine b9 ?_;refine zQ (hK1 _ _ ?_);refine aP [] ?_;refine aW ?_ fun K hK=>by simp -dsimp [w,w2];exact hK
      first|(exfalso;simp at hc0;done)|(exfalso;simp at hc1;done)|(exfalso;simp at hc2;done)|(exfalso;simp at hc3;done)|(exfalso;simp at hc4;done)|(refine a6 ?_;simp;done)|(refine a6 ?_;simp;exact qj.2 (by simp;try omega))
theorem b7U (n:Node) (a b:Int) (ha:0<=a/\a<=1000) (hb:0<=b/\b<=1000) (hk:n.Kind=5):a9 Tryz.prog 145 [n.av,I a,I b] (Bo (D9 n a b)):=by
 have w:IntKind.i64.wrap (a+b)=a+b:=c4 (by omega) (by omega);have w2:(a+b).tmod 2=(a+b) % 2:=Int.tmod_eq_emod_of_nonneg (by omega);unfold D9;simp only[Node.av,Node.cells,hk,Int.reduceEq,if_false,if_true,reduceIte];refine oB Tryz.func145 Tryz.ntmps145 Tryz.results145 ?_;refine aW ?_ fun K hK=>by simp -dsimp [w,w2];exact hK
 refine a5 fun K1 hK1=>?_;refine aW ?_ fun K hK=>by simp -dsimp [w,w2];exact hK
 refine b8 ?_;refine aW ?_ fun K hK=>by simp -dsimp [w,w2];exact hK
 refine a7 rfl (fun hc0=>?_) (fun hc0=>?_)
 ·refine aW ?_ fun K hK=>by simp -dsimp [w,w2];exact hK
  first|(exfalso;simp at hc0;done)|(exfalso;simp at hc1;done)|(exfalso;simp at hc2;done)|(exfalso;simp at hc3;done)|(exfalso;simp at hc4;done)|(refine a6 ?_;simp;done)|(refine a6 ?_;simp;exact qj.2 (by simp;try omega))
 ·refine aW ?_ fun K hK=>by simp -dsimp [w,w2];exact hK
  refine a7 rfl (fun hc1=>?_) (fun hc1=>?_)
  ·refine aW ?_ fun K hK=>by simp -dsimp [w,w2];exact hK
   first|(exfalso;simp at hc0;done)|(exfalso;simp at hc1;done)|(exfalso;simp at hc2;done)|(exfalso;simp at hc3;done)|(exfalso;simp at hc4;done)|(refine a6 ?_;simp;done)|(refine a6 ?_;simp;exact qj.2 (by simp;try omega))
  ·refine aW ?_ fun K hK=>by simp -dsimp [w,w2];exact hK
   refine a7 rfl (fun hc2=>?_) (fun hc2=>?_)
   ·refine aW ?_ fun K hK=>by simp -dsimp [w,w2];exact hK
    first|(exfalso;simp at hc0;done)|(exfalso;simp at hc1;done)|(exfalso;simp at hc2;done)|(exfalso;simp at hc3;done)|(exfalso;simp at hc4;done)|(refine a6 ?_;simp;done)|(refine a6 ?_;simp;exact qj.2 (by simp;try omega))
   ·refine aW ?_ fun K hK=>by simp -dsimp [w,w2];exact hK
    refine a7 rfl (fun hc3=>?_) (fun hc3=>?_)
    ·refine aW ?_ fun K hK=>by simp -dsimp [w,w2];exact hK
     first|(exfalso;simp at hc0;done)|(exfalso;simp at hc1;done)|(exfalso;simp at hc2;done)|(exfalso;simp at hc3;done)|(exfalso;simp at hc4;done)|(refine a6 ?_;simp;done)|(refine a6 ?_;simp;exact qj.2 (by simp;try omega))
    ·refine aW ?_ fun K hK=>by simp -dsimp [w,w2];exact hK
     refine a7 rfl (fun hc4=>?_) (fun hc4=>?_)
     ·refine aW ?_ fun K hK=>by simp -dsimp [w,w2];exact hK
      first|(exfalso;simp at hc0;done)|(exfalso;simp at hc1;done)|(exfalso;simp at hc2;done)|(exfalso;simp at hc3;done)|(exfalso;simp at hc4;done)|(refine a6 ?_;simp;done)|(refine a6 ?_;simp;exact qj.2 (by simp;try omega))
     ·refine b9 ?_;refine zQ (hK1 _ _ ?_);refine aP [] ?_;refine aW ?_ fun K hK=>by simp -dsimp [w,w2];exact hK
      first|(exfalso;simp at hc0;done)|(exfalso;simp at hc1;done)|(exfalso;simp at hc2;done)|(exfalso;simp at hc3;done)|(exfalso;simp at hc4;done)|(refine a6 ?_;simp;done)|(refine a6 ?_;simp;exact qj.2 (by simp;try omega))
theorem b7t (n:Node) (a b:Int) (ha:0<=a/\a<=1000) (hb:0<=b/\b<=1000) (hk:n.Kind=6):a9 Tryz.prog 145 [n.av,I a,I b] (Bo (D9 n a b)):=by
 have w:IntKind.i64.wrap (a+b)=a+b:=c4 (by omega) (by omega);have w2:(a+b).tmod 2=(a+b) % 2:=Int.tmod_eq_emod_of_nonneg (by omega);unfold D9;simp only[Node.av,Node.cells,hk,Int.reduceEq,if_false,if_true,reduceIte];refine oB Tryz.func145 Tryz.ntmps145 Tryz.results145 ?_;refine aW ?_ fun K hK=>by simp -dsimp [w,w2];exact hK
 refine a5 fun K1 hK1=>?_;refine aW ?_ fun K hK=>by simp -dsimp [w,w2];exact hK
 refine b8 ?_;refine aW ?_ fun K hK=>by simp -dsimp [w,w2];exact hK
 refine a7 rfl (fun hc0=>?_) (fun hc0=>?_)
 ·refine aW ?_ fun K hK=>by simp -dsimp [w,w2];exact hK
  first|(exfalso;simp at hc0;done)|(exfalso;simp at hc1;done)|(exfalso;simp at hc2;done)|(exfalso;simp at hc3;done)|(exfalso;simp at hc4;done)|(refine a6 ?_;simp;done)|(refine a6 ?_;simp;exact qj.2 (by simp;try omega))
 ·refine aW ?_ fun K hK=>by simp -dsimp [w,w2];exact hK
  refine a7 rfl (fun hc1=>?_) (fun hc1=>?_)
  ·refine aW ?_ fun K hK=>by simp -dsimp [w,w2];exact hK
   first|(exfalso;simp at hc0;done)|(exfalso;simp at hc1;done)|(exfalso;simp at hc2;done)|(exfalso;simp at hc3;done)|(exfalso;simp at hc4;done)|(refine a6 ?_;simp;done)|(refine a6 ?_;simp;exact qj.2 (by simp;try omega))
  ·refine aW ?_ fun K hK=>by simp -dsimp [w,w2];exact hK
   refine a7 rfl (fun hc2=>?_) (fun hc2=>?_)
   ·refine aW ?_ fun K hK=>by simp -dsimp [w,w2];exact hK
    first|(exfalso;simp at hc0;done)|(exfalso;simp at hc1;done)|(exfalso;simp at hc2;done)|(exfalso;simp at hc3;done)|(exfalso;simp at hc4;done)|(refine a6 ?_;simp;done)|(refine a6 ?_;simp;exact qj.2 (by simp;try omega))
   ·refine aW ?_ fun K hK=>by simp -dsimp [w,w2];exact hK
    refine a7 rfl (fun hc3=>?_) (fun hc3=>?_)
    ·refine aW ?_ fun K hK=>by simp -dsimp [w,w2];exact hK
     first|(exfalso;simp at hc0;done)|(exfalso;simp at hc1;done)|(exfalso;simp at hc2;done)|(exfalso;simp at hc3;done)|(exfalso;simp at hc4;done)|(refine a6 ?_;simp;done)|(refine a6 ?_;simp;exact qj.2 (by simp;try omega))
    ·refine aW ?_ fun K hK=>by simp -dsimp [w,w2];exact hK
     refine a7 rfl (fun hc4=>?_) (fun hc4=>?_)
     ·refine aW ?_ fun K hK=>by simp -dsimp [w,w2];exact hK
      first|(exfalso;simp at hc0;done)|(exfalso;simp at hc1;done)|(exfalso;simp at hc2;done)|(exfalso;simp at hc3;done)|(exfalso;simp at hc4;done)|(refine a6 ?_;simp;done)|(refine a6 ?_;simp;exact qj.2 (by simp;try omega))
     ·refine b9 ?_;refine zQ (hK1 _ _ ?_);refine aP [] ?_;refine aW ?_ fun K hK=>by simp -dsimp [w,w2];exact hK
      first|(exfalso;simp at hc0;done)|(exfalso;simp at hc1;done)|(exfalso;simp at hc2;done)|(exfalso;simp at hc3;done)|(exfalso;simp at hc4;done)|(refine a6 ?_;simp;done)|(refine a6 ?_;simp;exact qj.2 (by simp;try omega))
theorem c1h (n:Node) (a b:Int) (ha:0<=a/\a<=1000) (hb:0<=b/\b<=1000) (hk:1<=n.Kind/\n.Kind<=6):a9 Tryz.prog 145 [n.av,I a,I b] (Bo (D9 n a b)):=by
 have:n.Kind=1∨n.Kind=2∨n.Kind=3∨n.Kind=4∨n.Kind=5∨n.Kind=6:=by omega
 rcases this with h|h|h|h|h|h
 ·exact b8x n a b ha hb h
 ·exact b7X n a b ha hb h
 ·exact b8P n a b ha hb h
 ·exact b7j n a b ha hb h
 ·exact b7U n a b ha hb h
 ·exact b7t n a b ha hb h
theorem b2n (e:E1):∀(l:List E1) (i:Int),0<=i-> -1<=a3a e l i/\a3a e l i<=i+l.length
 |[],i,h=>by simp[a3a];omega
 |x::l,i,h=>by
  have:=b2n e l (i+1) (by omega);simp only[a3a]
  split<;>simp<;>omega
theorem b4N (n:Node) (e:E1):-1<=a2S n e/\a2S n e<=n.Ends.length:=by
 have:=b2n e n.Ends 0 (by omega);unfold a2S;omega
theorem b2R (p:Plan) (m k:Move) (hv:d8 p=true) (hm:C6 p m=true):a9 Tryz.prog 106 [p.av,m.av,k.av] (Bo (a5z p m k)):=by
 have hm':=G8.1 hm;have ha:=b5V hv (e:=H8 m) hm'.1 hm'.2;have hnode:=p.node_get ha.1 ha.2;have hnf:=U2 (a0a hv ha.1 ha.2);have hca:=c5H p (H8 m) hm'.1 hm'.2;have hna:p.node (p.at (H8 m))=n5 p m:=rfl;rw[hna]at hnode hnf;have hi1:=a7a (n5 p m) (H8 m) (by omega);have hi2:=a7a (n5 p m) (a1j k) (by omega);have hb1:=b4N (n5 p m) (H8 m);have hb2:=b4N (n5 p m) (a1j k);have hlt:=fun h1 h2=>c1h (n5 p m) (a2S (n5 p m) (H8 m)) (a2S (n5 p m) (a1j k)) ⟨h1,by omega⟩ ⟨h2,by omega⟩ hnf.1;have hrf:a5z p m k=(decide (0<=a2S (n5 p m) (H8 m))&&(decide (0<=a2S (n5 p m) (a1j k))&&D9 (n5 p m) (a2S (n5 p m) (H8 m)) (a2S (n5 p m) (a1j k)))):=rfl;rw[hrf];generalize D9 (n5 p m) (a2S (n5 p m) (H8 m)) (a2S (n5 p m) (a1j k))=lt at hlt ⊢;generalize n5 p m=n at*
 refine oB Tryz.func106 Tryz.ntmps106 Tryz.results106 ?_;refine aW ?_;refine aD ?_ fun K hK=>by simp -dsimp;refine cI (b1w m) ?_;simp -dsimp;refine cI (hca) ?_;simp -dsimp;exact hK
 refine aW ?_ fun K hK=>by simp -dsimp [hnode,ha.1];exact hK
 refine aD ?_ fun K hK=>by simp -dsimp;refine cI (b1w m) ?_;simp -dsimp;refine cI (hi1) ?_;simp -dsimp;refine cI (b9W k) ?_;simp -dsimp;refine cI (hi2) ?_;simp -dsimp;exact hK
 refine aW ?_ fun K hK=>by simp -dsimp;refine cY (fun hm=>hlt (by simp at hm;exact hm.1) (by simp at hm;exact hm.2)) ?_;simp -dsimp;exact hK
 exact a6 (by simp[Bool.and_assoc])
structure R0 where
 Node:Int
 Leg:Int
 deriving DecidableEq,Inhabited
@[simp] def R0.cells (s:R0):List AV:=[I s.Node,I s.Leg]
def b7I (p:Plan) (m k:Move):R0:=⟨p.at (H8 m),a7M (a2S (n5 p m) (H8 m)) (a2S (n5 p m) (a1j k))⟩
def F8 (p:Plan) (m:Move):Bool:=decide ((n5 p m).Kind=4)
theorem b2O (p:Plan) (m k:Move) (hv:d8 p=true) (hm:C6 p m=true):a9 Tryz.prog 47 [p.av,m.av,k.av] (.tup [.agg (if F8 p m then b7I p m k else⟨0,0⟩).cells,Bo (F8 p m)]):=by
 have hm':=G8.1 hm;have ha:=b5V hv (e:=H8 m) hm'.1 hm'.2;have hnode:=p.node_get ha.1 ha.2;have hnf:=U2 (a0a hv ha.1 ha.2);have hca:=c5H p (H8 m) hm'.1 hm'.2;have hna:p.node (p.at (H8 m))=n5 p m:=rfl;rw[hna]at hnode hnf;have hi1:=a7a (n5 p m) (H8 m) (by omega);have hi2:=a7a (n5 p m) (a1j k) (by omega);have hrb:b7I p m k=⟨p.at (H8 m),a7M (a2S (n5 p m) (H8 m)) (a2S (n5 p m) (a1j k))⟩:=rfl;have his:F8 p m=decide ((n5 p m).Kind=4):=rfl;rw[hrb,his];generalize n5 p m=n at*
 refine oB Tryz.func47 Tryz.ntmps47 Tryz.results47 ?_;refine aW ?_;refine aD ?_ fun K hK=>by simp -dsimp;refine cI (b1w m) ?_;simp -dsimp;refine cI (hca) ?_;simp -dsimp;exact hK
 refine aW ?_ fun K hK=>by simp -dsimp [hnode,ha.1];exact hK
 refine a5 fun K1 hK1=>?_;refine aW ?_;refine a7 rfl (fun hc0=>?_) (fun hc0=>?_)
 ·skip
  try simp at hc0
  refine aW ?_;exact a6 (by simp_all)
 ·skip
  try simp at hc0
  refine b9 ?_;refine zQ (hK1 _ _ ?_);refine aP [4,5,6,8,9] ?_;refine aD ?_ fun K hK=>by simp -dsimp;refine cI (b1w m) ?_;simp -dsimp;refine cI (hi1) ?_;simp -dsimp;refine cI (b9W k) ?_;simp -dsimp;refine cI (hi2) ?_;simp -dsimp;exact hK
  exact a6 (by simp_all)
end Go.Tram
end
section
namespace Go.Tram
open Go.AM Go.Proofs
def F9 (p:Plan) (m k:Move):R0:=⟨p.at (H8 m),a7M (plc p (H8 m)) (plc p (a1j k))⟩
theorem c2z {p:Plan} (hv:d8 p=true) {m k:Move} (hm:C6 p m=true) (hf:a5z p m k=true):F9 p m k=b7I p m k:=by
 obtain⟨i,hi,ha,hn,j,hj,hp,hx⟩:=b0e hv hm;simp only[a5z,hn,qh,decide_eq_true_eq]at hf;have:∃t:Nat,(p.node i).Ends[t]?=some (a1j k):=by
  by_cases h:∃t:Nat,(p.node i).Ends[t]?=some (a1j k)
  ·exact h
  ·have:=a0L (e:=a1j k) (p.node i).Ends 0 fun j hj=>h ⟨j,hj⟩;have h2:=hf.2.1;unfold a2S at h2;omega
 obtain⟨t,ht⟩:=this;unfold F9 b7I;rw[hn,hp,hx,a3O hv hi ht,a0d hv hi ht]
theorem b5X (m:Move):a9 Tryz.prog 174 [m.av] (.agg [I m.Rail,Bo m.Back]):=by
 refine oB Tryz.func174 Tryz.ntmps174 Tryz.results174 ?_;refine aW ?_;refine aW ?_;exact a6 (by simp)
theorem a2L (p:Plan) (m k:Move) (hv:d8 p=true) (hm:C6 p m=true):a9 Tryz.prog 130 [.iptr (net p),m.av,k.av] (.tup [.agg (if F8 p m then F9 p m k else⟨0,0⟩).cells,Bo (F8 p m)]):=by
 have hm':=G8.1 hm;have ha:=b5V hv (e:=H8 m) hm'.1 hm'.2;have hnode:=p.node_get ha.1 ha.2;have hce:=a7v p (H8 m) hm'.1 hm'.2;have hna:p.node (p.at (H8 m))=n5 p m:=rfl;rw[hna]at hnode;have hp1:=a9X hv (H8 m);have hp2:=a9X hv (a1j k);have hrb:F9 p m k=⟨p.at (H8 m),a7M (plc p (H8 m)) (plc p (a1j k))⟩:=rfl;have his:F8 p m=decide ((n5 p m).Kind=4):=rfl;rw[hrb,his];generalize n5 p m=n at*
 unfold net;refine oB Tryz.func130 Tryz.ntmps130 Tryz.results130 ?_;refine aW ?_;refine aD ?_ fun K hK=>by simp -dsimp;refine cI (a5k m) ?_;simp -dsimp;refine cI (hce) ?_;simp -dsimp;exact hK
 refine a5 fun K1 hK1=>?_;refine aW ?_ fun K hK=>by simp -dsimp [hnode,ha.1];exact hK
 refine a7 rfl (fun hc0=>?_) (fun hc0=>?_)
 ·skip
  try simp at hc0
  refine aW ?_;exact a6 (by simp_all)
 ·skip
  try simp at hc0
  refine b9 ?_;refine zQ (hK1 _ _ ?_);refine aP [0,4,5,6,8] ?_;refine aD ?_ fun K hK=>by simp -dsimp;refine cI (a5k m) ?_;simp -dsimp;refine d7 (I (plc p (H8 m))) (fun hm=>congrArg AV.v hp1.1) ?_;simp -dsimp;refine cI (b5X k) ?_;simp -dsimp;refine d7 (I (plc p (a1j k))) (fun hm=>congrArg AV.v hp2.1) ?_;simp -dsimp;exact hK
  exact a6 (by simp_all)
theorem a8w (p:Plan) (m k:Move) (hv:d8 p=true) (hm:C6 p m=true) (hk:C6 p k=true):a9 Tryz.prog 139 [p.av,m.av,k.av] (.tup [.agg (if G6 p m k&&F8 p m then F9 p m k else⟨0,0⟩).cells,I (if G6 p m k&&F8 p m then 0 else 4)]):=by
 have hop:=V8 p hv;have hh:=a6e p m.Rail m.Back hv;have hhk:=a6e p k.Rail k.Back hv;rw[show inr m.Rail 0 (p.Rails.length-1)=true from hm]at hh;rw[show inr k.Rail 0 (p.Rails.length-1)=true from hk]at hhk;have hf:=a4U p m k hv hm;have hb:=a2L p m k hv hm;generalize net p=sh at hop hh hhk hf hb;refine oB Tryz.func139 Tryz.ntmps139 Tryz.results139 ?_;refine aW ?_;refine aW ?_ fun K hK=>by simp -dsimp;refine cI (hop) ?_;simp -dsimp;exact hK
 refine a5 fun K1 hK1=>?_;refine aW ?_ fun K hK=>by simp -dsimp;refine cY (fun hm=>hh) ?_;simp -dsimp;refine cY (fun hm=>hhk) ?_;simp -dsimp;exact hK
 refine a7 rfl (fun hc0=>?_) (fun hc0=>?_)
 ·simp at hc0
 ·refine b9 ?_;refine zQ (hK1 _ _ ?_);refine aP [4,5,6,8] ?_;refine a5 fun K2 hK2=>?_;refine aW ?_ fun K hK=>by simp -dsimp;refine cI (hf) ?_;simp -dsimp;exact hK
  refine a7 rfl (fun hc1=>?_) (fun hc1=>?_)
  ·skip
   try simp at hc1
   refine aW ?_ fun K hK=>by simp -dsimp;refine cI (hb) ?_;simp -dsimp;exact hK
   refine aW ?_;refine a7 rfl (fun hc2=>?_) (fun hc2=>?_)
   ·skip
    try simp at hc2
    refine aW ?_;exact a6 (by simp_all)
   ·skip
    try simp at hc2
    refine b9 ?_;refine zQ (hK2 _ _ ?_);refine aP [6] ?_;refine aW ?_;exact a6 (by simp_all)
  ·skip
   try simp at hc1
   refine b9 ?_;refine zQ (hK2 _ _ ?_);refine aP [6] ?_;refine aW ?_;exact a6 (by simp_all)
end Go.Tram
end
section
namespace Go.Tram
open Go.AM Go.Proofs
theorem b9D:a9 Tryz.prog 65 [] c2o:=by
 refine oB Tryz.func65 Tryz.ntmps65 Tryz.results65 ?_;refine aW ?_;refine aW ?_;exact a6 (by simp[c2o])
theorem b3G:a9 Tryz.prog 65 [] l5.av:=by
 have e:wkN 2 6 c2o=l5.av:=by rfl
 refine b9D.res fun w S y h=>?_;rw[<-e];exact a9J 2 6 _ _ h
end Go.Tram
end
section
namespace Go.Tram
open Go.AM Go.Proofs
def b2f (m:Move):Move:=⟨m.Rail, !m.Back⟩
@[simp] theorem b6N (m:Move):H8 (b2f m)=a1j m:=by simp[H8,a1j,b2f]
@[simp] theorem c1n (m:Move):a1j (b2f m)=H8 m:=by simp[H8,a1j,b2f]
theorem a8Z {p:Plan} (hv:d8 p=true) {m k:Move} (hm:C6 p m=true) (hf:a5z p m k=true):∃i:Nat,i<p.Nodes.length/\p.at (H8 m)=i/\p.at (a1j k)=i/\n5 p m=p.node i/\∃a b:Nat,(p.node i).Ends[a]?=some (H8 m)/\(p.node i).Ends[b]?=some (a1j k)/\D9 (p.node i) a b=true:=by
 obtain⟨i,hi,ha,hn,j,hj,hp,hx⟩:=b0e hv hm;simp only[a5z,hn,qh,decide_eq_true_eq]at hf;have:∃t:Nat,(p.node i).Ends[t]?=some (a1j k):=by
  by_cases h:∃t:Nat,(p.node i).Ends[t]?=some (a1j k)
  ·exact h
  ·have:=a0L (e:=a1j k) (p.node i).Ends 0 fun j hj=>h ⟨j,hj⟩;have h2:=hf.2.1;unfold a2S at h2;omega
 obtain⟨t,ht⟩:=this;refine⟨i,hi,ha,(Q7 hv hi ht).2,hn,j,t,hj,ht,?_⟩;have:=hf.2.2;rw[hx,a0d hv hi ht]at this;exact this
def c4n (K N f t:Int):Bool:=
 if K=1 then false else if K=2 then decide (f≠t)else if K=3 then decide (f≠t)&&decide ((f+t) % 2=0)
 else if K=4 then decide (f≠t)&&(decide (f=0)||decide (t=0))else if K=5 then(decide (f≠0)&&decide (t=0))||(decide (f=0)&&decide (t=N))
 else(decide (f=0)&&decide (t=N))||(decide (f=N)&&decide (t=0))
theorem b8w (n:Node) (f t:Int):D9 n f t=c4n n.Kind n.Normal f t:=rfl
theorem b4T (x y:Int):a7M x y=a7M y x:=by unfold a7M;split<;>split<;>omega
end Go.Tram
end
section
namespace Go.Tram
open Go.AM Go.Proofs
theorem c4l (p:Plan) (l:List Move) (hv:d8 p=true) (hn:l.length<=100000):a9 Tryz.prog 88 [p.av,a1t l] (Bo (wayB p l)):=by
 have hR:=(j9 hv).2.1;have hmo:=fun m=>a9S p m (by omega);have hfol:∀m k,C6 p m=true->C6 p k=true->a9 Tryz.prog 106 [p.av,m.av,k.av] (Bo (G6 p m k)):=fun m k h1 h2=>by rw[a6Q hv h1 h2];exact b2R p m k hv h1
 refine oB Tryz.func88 Tryz.ntmps88 Tryz.results88 ?_;refine aW ?_;refine a5 fun K1 hK1=>?_;refine aW ?_;refine b8 ?_;refine aP [1,2,5] ?_;refine c6 [1,2] (α:=Nat) (fun i=>[(5,I i)]) (fun i=>[some (.els 2 [p.cells])]) (fun i=>i<=l.length/\(List.range i).all (X6 p l)=true) (fun i=>l.length-i) 0 ?_ ?_ ?_
 ·simp
 ·exact c9 (by simp)
 rintro i ⟨i1,i2⟩;refine zN ?_;refine a5 fun K2 hK2=>?_;refine aW ?_;refine a7 rfl (fun hc0=>?_) (fun hc0=>?_)
 ·skip
  try simp at hc0
  obtain⟨m,hgm⟩:=gx (l:=l) (i:=i) hc0;have wi:=zW i (by omega);have w1:IntKind.i64.wrap ((i:Int)-1)=(i:Int)-1:=c4 (by omega) (by omega);have hprev:0<i->l[i-1]?=some (l[i-1]?.getD default):=fun h=>by rw[qc (by omega)];rfl
  have hpm:0<i->C6 p (l[i-1]?.getD default)=true:=fun h=>(Bool.and_eq_true_iff.1 (a1h i2 (show i-1<i by omega))).1;have hst:X6 p l i=(C6 p m&&(decide (i=0)||G6 p (l[i-1]?.getD default) m)):=by unfold X6;rw[hgm];rfl
  generalize l[i-1]?.getD default=m' at hprev hpm hst;refine b9 ?_;refine zQ (hK2 _ _ ?_);refine aP [1,2,5] ?_;refine a5 fun K3 hK3=>?_;refine b8 ?_;refine b1p a1H rfl fun K hK=>?_;simp -dsimp [hgm,w1];refine cI (hmo m) ?_;simp -dsimp [hgm,w1];refine⟨fun _ h=>by omega,?_⟩
  try simp -dsimp
  refine j7 m'.cells (fun hq=>by simp at hq;rw[qe,hprev hq.2];rfl) ?_;simp -dsimp [hgm,w1];refine j7 m.cells (fun _=>by rw[qe,hgm];rfl) ?_;simp -dsimp [hgm,w1];refine cY (fun hm=>(hfol m' m (hpm (by simp at hm;exact hm.2)) (by simp at hm;exact hm.1))) ?_;simp -dsimp [hgm,w1];refine hK _ _ _ (by decide+kernel) ?_;clear hK K;refine a7 rfl (fun hc1=>?_) (fun hc1=>?_)
  ·rw[a3P,<-hst]at hc1;have hsf:X6 p l i=false:=by simpa using hc1
   have hb:wayB p l=false:=by unfold wayB;rw[show(List.range l.length).all (X6 p l)=false from by rw[List.all_eq_false];exact⟨i,List.mem_range.2 hc0,by simp[hsf]⟩];rfl
   refine aW ?_;exact a6 (by simp[hb])
  ·rw[a3P,<-hst]at hc1;have hst1:X6 p l i=true:=by simpa using hc1
   refine b9 ?_;refine zQ (hK3 _ _ ?_);refine aP [1,2,5] ?_;refine aV ?_ fun K hK=>by simp -dsimp [wi];exact hK
   refine zQ ?_;exact⟨i+1,⟨by omega,by rw[a4P,i2,hst1];rfl⟩,by omega,aB [some 0]⟩
 ·skip
  try simp at hc0
  have hie:i=l.length:=by omega
  subst hie;refine d4 ?_;refine zQ (hK1 _ _ ?_);refine aP [1] ?_;refine aW ?_ fun K hK=>by simp -dsimp;refine cI (b3w l.length 1 2000) ?_;simp -dsimp;exact hK
  exact a6 (by simp[wayB,i2])
end Go.Tram
end
section
namespace Go.Tram
open Go.AM Go.Proofs
attribute [-simp] b9q a7M
theorem a9n (p:Plan) (r:Int) (h0:0<=r) (h1:r<p.Rails.length) (hs:(p.rail r).Shape.length<=1000):a9 Tryz.prog 121 [p.av,I r] (I ((p.rail r).Shape.length+1)):=by
 have g0:=p.rail_get h0 h1;have w:IntKind.i64.wrap (((p.rail r).Shape.length:Int)+1)=((p.rail r).Shape.length:Int)+1:=c4 (by omega) (by omega);refine oB Tryz.func121 Tryz.ntmps121 Tryz.results121 ?_;refine aW ?_;refine aW ?_ fun K hK=>by simp -dsimp [g0,h0,w];exact hK
 exact a6 (by simp)
theorem a7B (p:Plan) (r:Int) (k:Nat) (h0:0<=r) (h1:r<p.Rails.length) (ro:a0g p r) (hk:k<(p.rail r).Shape.length+1):
  a9 Tryz.prog 164 [p.av, .agg [I r,I k]] (.tup [(nth (p.line r) k).av,(nth (p.line r) (k+1)).av]):=by
 have hl:=ro.len;have hs:=ro.s;have g1:=y8 (l:=p.line r) (k:=k) (by omega);have g2:=y8 (l:=p.line r) (k:=k+1) (by omega);have wk:=zW k (by omega);refine oB Tryz.func164 Tryz.ntmps164 Tryz.results164 ?_;refine aW ?_;refine aW ?_ fun K hK=>by simp -dsimp;refine cI (b6Z p r h0 h1 ro.f ro.t (by omega)) ?_;simp -dsimp;exact hK
 refine aD ?_ fun K hK=>by simp -dsimp [g1,g2,wk];refine⟨by omega,?_⟩;exact hK
 exact a6 (by simp)
theorem a5d {a b:Int} (h:0<=a):a.tdiv b=a/b:=Int.tdiv_eq_ediv_of_nonneg h
theorem a4G {a b:Int} (h:0<=a):a.tmod b=a % b:=Int.tmod_eq_emod_of_nonneg h
theorem a5M (a b:Int) (ha:0<=a) (ha':a<4611686018427387904) (hb:0<=b) (hb':b<4611686018427387904):
  a9 Tryz.prog 208 [I a,I b] (.tup [I (a*b/4611686018427387904),I (a*b % 4611686018427387904)]):=by
 obtain⟨p1,p2⟩:=c3O ha ha' hb hb';have hab:=u9 ha ha' hb hb';have a1:=u9 (a:=a/2147483648) (b:=b/2147483648) (A:=2147483648) (B:=2147483648) (by omega) (by omega) (by omega) (by omega);have a2:=u9 (a:=a/2147483648) (b:=b % 2147483648) (A:=2147483648) (B:=2147483648) (by omega) (by omega) (by omega) (by omega);have a3:=u9 (a:=a % 2147483648) (b:=b/2147483648) (A:=2147483648) (B:=2147483648) (by omega) (by omega) (by omega) (by omega);have a4:=u9 (a:=a % 2147483648) (b:=b % 2147483648) (A:=2147483648) (B:=2147483648) (by omega) (by omega) (by omega) (by omega);have t1:=a5d (b:=2147483648) ha;have t2:=a4G (b:=2147483648) ha;have t3:=a5d (b:=2147483648) hb;have t4:=a4G (b:=2147483648) hb;have v1:IntKind.i64.wrap (a/2147483648)=a/2147483648:=c4 (by omega) (by omega);have v2:IntKind.i64.wrap (b/2147483648)=b/2147483648:=c4 (by omega) (by omega);generalize hp:a/2147483648*(b/2147483648)=p at*
 generalize hq:a/2147483648*(b % 2147483648)=q at*
 generalize hr:a % 2147483648*(b/2147483648)=r at*
 generalize hs:a % 2147483648*(b % 2147483648)=s at*
 have w1:IntKind.i64.wrap s=s:=c4 (by omega) (by omega);have w2:IntKind.i64.wrap q=q:=c4 (by omega) (by omega);have w3:IntKind.i64.wrap r=r:=c4 (by omega) (by omega);have w4:IntKind.i64.wrap p=p:=c4 (by omega) (by omega);have t5:=a5d (b:=2147483648) a4.1;have v3:IntKind.i64.wrap (s/2147483648)=s/2147483648:=c4 (by omega) (by omega);have w5:IntKind.i64.wrap (q+s/2147483648)=q+s/2147483648:=c4 (by omega) (by omega);have t6:=a5d (a:=q+s/2147483648) (b:=2147483648) (by omega);have v4:IntKind.i64.wrap ((q+s/2147483648)/2147483648)=(q+s/2147483648)/2147483648:=c4 (by omega) (by omega);have w6:IntKind.i64.wrap (p+(q+s/2147483648)/2147483648)=p+(q+s/2147483648)/2147483648:=c4 (by omega) (by omega);have t7:=a4G (a:=q+s/2147483648) (b:=2147483648) (by omega);have w7:IntKind.i64.wrap ((q+s/2147483648) % 2147483648+r)=(q+s/2147483648) % 2147483648+r:=c4 (by omega) (by omega);have t8:=a5d (a:=(q+s/2147483648) % 2147483648+r) (b:=2147483648) (by omega);have t9:=a4G (a:=(q+s/2147483648) % 2147483648+r) (b:=2147483648) (by omega);have t10:=a4G (b:=2147483648) a4.1;have v5:IntKind.i64.wrap (((q+s/2147483648) % 2147483648+r)/2147483648)=((q+s/2147483648) % 2147483648+r)/2147483648:=c4 (by omega) (by omega);have w8:IntKind.i64.wrap (p+(q+s/2147483648)/2147483648+((q+s/2147483648) % 2147483648+r)/2147483648)=a*b/4611686018427387904:=by rw[p1];exact c4 (by omega) (by omega)
 have w9:IntKind.i64.wrap (((q+s/2147483648) % 2147483648+r) % 2147483648*2147483648)=((q+s/2147483648) % 2147483648+r) % 2147483648*2147483648:=c4 (by omega) (by omega);have w10:IntKind.i64.wrap (((q+s/2147483648) % 2147483648+r) % 2147483648*2147483648+s % 2147483648)=a*b % 4611686018427387904:=by rw[p2];exact c4 (by omega) (by omega)
 have nm:((q+s/2147483648) % 2147483648+r) % 2147483648=(q+s/2147483648+r) % 2147483648:=by omega
 rw[nm]at w9 w10;refine oB Tryz.func208 Tryz.ntmps208 Tryz.results208 ?_;refine aW ?_ fun K hK=>by simp -dsimp [t1,t2,t3,t4,t5,t6,t7,t8,t9,t10,v1,v2,v3,v4,v5,hp,hq,hr,hs,w1,w2,w3,w4,w5,w6,w7,w8,w9,w10];exact hK
 refine aW ?_ fun K hK=>by simp -dsimp [t1,t2,t3,t4,t5,t6,t7,t8,t9,t10,v1,v2,v3,v4,v5,hp,hq,hr,hs,w1,w2,w3,w4,w5,w6,w7,w8,w9,w10];exact hK
 refine aW ?_ fun K hK=>by simp -dsimp [t1,t2,t3,t4,t5,t6,t7,t8,t9,t10,v1,v2,v3,v4,v5,hp,hq,hr,hs,w1,w2,w3,w4,w5,w6,w7,w8,w9,w10];exact hK
 refine aW ?_ fun K hK=>by simp -dsimp [t1,t2,t3,t4,t5,t6,t7,t8,t9,t10,v1,v2,v3,v4,v5,hp,hq,hr,hs,w1,w2,w3,w4,w5,w6,w7,w8,w9,w10];exact hK
 refine aW ?_ fun K hK=>by simp -dsimp [t1,t2,t3,t4,t5,t6,t7,t8,t9,t10,v1,v2,v3,v4,v5,hp,hq,hr,hs,w1,w2,w3,w4,w5,w6,w7,w8,w9,w10];exact hK
 refine aW ?_ fun K hK=>by simp -dsimp [t1,t2,t3,t4,t5,t6,t7,t8,t9,t10,v1,v2,v3,v4,v5,hp,hq,hr,hs,w1,w2,w3,w4,w5,w6,w7,w8,w9,w10];exact hK
 refine aW ?_ fun K hK=>by simp -dsimp [t1,t2,t3,t4,t5,t6,t7,t8,t9,t10,v1,v2,v3,v4,v5,hp,hq,hr,hs,w1,w2,w3,w4,w5,w6,w7,w8,w9,w10];exact hK
 refine aW ?_ fun K hK=>by simp -dsimp [t1,t2,t3,t4,t5,t6,t7,t8,t9,t10,v1,v2,v3,v4,v5,hp,hq,hr,hs,w1,w2,w3,w4,w5,w6,w7,w8,w9,w10];exact hK
 exact a6 (by simp)
theorem a5h (less:Bool) (a b:Int):a0R less (O5 a b)=if less then decide (a<b)else decide (a<=b):=by
 unfold a0R
 cases less
 ·simp only[Bool.false_eq_true,if_false];exact decide_eq_decide.2 c2C
 ·simp only[if_true];exact decide_eq_decide.2 a3V
theorem b7h (a b c d:Int) (less:Bool) (ha:0<=a) (ha':a<4611686018427387904) (hb:0<=b) (hb':b<4611686018427387904) (hc:0<=c) (hc':c<4611686018427387904) (hd:0<=d) (hd':d<4611686018427387904):
  a9 Tryz.prog 188 [I a,I b,I c,I d,Bo less] (Bo (a0R less (O5 (a*b) (c*d)))):=by
 refine oB Tryz.func188 Tryz.ntmps188 Tryz.results188 ?_;refine aW ?_;refine aW ?_ fun K hK=>by simp -dsimp;refine cI (a5M a b ha ha' hb hb') ?_;simp -dsimp;exact hK
 refine aW ?_ fun K hK=>by simp -dsimp;refine cI (a5M c d hc hc' hd hd') ?_;simp -dsimp;exact hK
 refine aW ?_;refine a6 ?_;rw[a5h];generalize a*b=m;generalize c*d=n
 cases less<;>simp<;>exact qj.2 (by simp;omega)
theorem b1V (a b c:Spot) (ha:l7 a=true) (hb:l7 b=true) (hc:l7 c=true):a9 Tryz.prog 207 [a.av,b.av,c.av] (I (N0 a b c)):=by
 have h1:=A3 ha hb;have h2:=A3 ha hc;have m1:=y6 (a:=b.X-a.X) (b:=c.Y-a.Y) (A:=20000000) (B:=20000000) (by omega) (by omega) (by omega) (by omega);have m2:=y6 (a:=b.Y-a.Y) (b:=c.X-a.X) (A:=20000000) (B:=20000000) (by omega) (by omega) (by omega) (by omega);have u1:IntKind.i64.wrap (b.X-a.X)=b.X-a.X:=c4 (by omega) (by omega);have u2:IntKind.i64.wrap (b.Y-a.Y)=b.Y-a.Y:=c4 (by omega) (by omega);have u3:IntKind.i64.wrap (c.X-a.X)=c.X-a.X:=c4 (by omega) (by omega);have u4:IntKind.i64.wrap (c.Y-a.Y)=c.Y-a.Y:=c4 (by omega) (by omega);have w1:IntKind.i64.wrap ((b.X-a.X)*(c.Y-a.Y))=(b.X-a.X)*(c.Y-a.Y):=c4 (by omega) (by omega);have w2:IntKind.i64.wrap ((b.Y-a.Y)*(c.X-a.X))=(b.Y-a.Y)*(c.X-a.X):=c4 (by omega) (by omega);have w3:IntKind.i64.wrap ((b.X-a.X)*(c.Y-a.Y)-(b.Y-a.Y)*(c.X-a.X))=j6 a b a c:=c4 (by omega) (by omega);refine oB Tryz.func207 Tryz.ntmps207 Tryz.results207 ?_;refine aW ?_ fun K hK=>by simp -dsimp [u1,u2,u3,u4,w1,w2,w3,T4];exact hK
 refine aW ?_ fun K hK=>by simp -dsimp [u1,u2,u3,u4,w1,w2,w3,T4];exact hK
 refine a5 fun K1 hK1=>?_;refine aW ?_ fun K hK=>by simp -dsimp [u1,u2,u3,u4,w1,w2,w3,T4];exact hK
 refine a7 rfl (fun hc0=>?_) (fun hc0=>?_)
 ·skip
  try simp at hc0
  refine aW ?_ fun K hK=>by simp -dsimp [u1,u2,u3,u4,w1,w2,w3,T4];exact hK
  exact a6 (by simp[N0,O5];omega)
 ·skip
  try simp at hc0
  refine b9 ?_;refine zQ (hK1 _ _ ?_);refine aP [7] ?_;refine aW ?_ fun K hK=>by simp -dsimp [u1,u2,u3,u4,w1,w2,w3,T4];exact hK
  exact a6 (by simp[N0,O5];split<;>(try split)<;>omega)
theorem b1z (less:Bool) (s d:Int):(decide (s<d)||(decide (s=d)&& !less))=a0R less (O5 s d):=by
 rw[a5h]
 cases less<;>simp
 exact qj.2 (by simp;omega)
theorem b5v (a b c d:Spot):z4 a b c d=z4 c d a b:=by
 unfold z4;rw[Int.mul_comm (b.X-a.X),Int.mul_comm (b.Y-a.Y)]
theorem O6 (s a b:Spot) (d:Int) (less:Bool) (hs:l7 s=true) (ha:l7 a=true) (hb:l7 b=true) (h0:0<=d) (h1:d<=1000000):
  a9 Tryz.prog 166 [s.av,a.av,b.av,I d,Bo less] (Bo (a0R less (x7 a b s d))):=by
 have d1:=A3 ha hs;have d2:=A3 ha hb;have d3:=A3 hb hs;have mm:∀{x y:Int},(-20000000<=x/\x<=20000000)->(-20000000<=y/\y<=20000000)->IntKind.i64.wrap (x*y)=x*y:=by
  intro x y hx hy;have:=y6 (a:=x) (b:=y) (A:=20000000) (B:=20000000) hx.1 hx.2 hy.1 hy.2;exact c4 (by omega) (by omega)
 have u1:IntKind.i64.wrap (s.X-a.X)=s.X-a.X:=c4 (by omega) (by omega);have u2:IntKind.i64.wrap (s.Y-a.Y)=s.Y-a.Y:=c4 (by omega) (by omega);have u3:IntKind.i64.wrap (b.X-a.X)=b.X-a.X:=c4 (by omega) (by omega);have u4:IntKind.i64.wrap (b.Y-a.Y)=b.Y-a.Y:=c4 (by omega) (by omega);have u5:IntKind.i64.wrap (s.X-b.X)=s.X-b.X:=c4 (by omega) (by omega);have u6:IntKind.i64.wrap (s.Y-b.Y)=s.Y-b.Y:=c4 (by omega) (by omega);have m1:=mm d2.1 d2.1;have m2:=mm d2.2 d2.2;have m3:=mm d1.1 d2.1;have m4:=mm d1.2 d2.2;have m5:=mm d1.1 d1.1;have m6:=mm d1.2 d1.2;have m7:=mm d3.1 d3.1;have m8:=mm d3.2 d3.2;have m9:=mm d1.1 d2.2;have m10:=mm d1.2 d2.1;have b1:=a1q ha hb ha hb;have b2:=a1q ha hs ha hb;have b3:=a1q ha hs ha hs;have b4:=a1q hb hs hb hs;have b5:=a9d ha hs ha hb;have n1:=a6M a b;have s1:IntKind.i64.wrap ((b.X-a.X)*(b.X-a.X)+(b.Y-a.Y)*(b.Y-a.Y))=z4 a b a b:=c4 (by unfold z4 at b1;omega) (by unfold z4 at b1;omega);have s2:IntKind.i64.wrap ((s.X-a.X)*(b.X-a.X)+(s.Y-a.Y)*(b.Y-a.Y))=z4 a s a b:=c4 (by unfold z4 at b2;omega) (by unfold z4 at b2;omega);have s3:IntKind.i64.wrap ((s.X-a.X)*(s.X-a.X)+(s.Y-a.Y)*(s.Y-a.Y))=z4 a s a s:=c4 (by unfold z4 at b3;omega) (by unfold z4 at b3;omega);have s4:IntKind.i64.wrap ((s.X-b.X)*(s.X-b.X)+(s.Y-b.Y)*(s.Y-b.Y))=z4 b s b s:=c4 (by unfold z4 at b4;omega) (by unfold z4 at b4;omega);have s5:IntKind.i64.wrap ((s.X-a.X)*(b.Y-a.Y)-(s.Y-a.Y)*(b.X-a.X))=j6 a s a b:=c4 (by unfold j6 at b5;omega) (by unfold j6 at b5;omega);have md:=y6 (a:=d) (b:=d) (A:=1000000) (B:=1000000) (by omega) (by omega) (by omega) (by omega);have hdd:=b2C d;have wd:IntKind.i64.wrap (d*d)=d*d:=c4 (by omega) (by omega);have ec:z4 a s a b=z4 a b a s:=b5v _ _ _ _;have wn:IntKind.i64.wrap (0-j6 a s a b)=-j6 a s a b:=by rw[c4 (by omega) (by omega)];omega
 have wn':IntKind.i64.wrap (-j6 a s a b)=-j6 a s a b:=c4 (by omega) (by omega);have hx:j6 a s a b=-j6 a b a s:=by
  simp only[j6];rw[Int.mul_comm (s.X-a.X),Int.mul_comm (s.Y-a.Y)];omega
 have hm:max (j6 a s a b) (-j6 a s a b)*max (j6 a s a b) (-j6 a s a b)=j6 a b a s*j6 a b a s:=by
  rcases Int.le_total (j6 a s a b) (-j6 a s a b)with h|h
  ·rw[Int.max_eq_right h,hx,Int.neg_neg]
  ·rw[Int.max_eq_left h,hx,Int.neg_mul_neg]
 refine oB Tryz.func166 Tryz.ntmps166 Tryz.results166 ?_;refine aW ?_ fun K hK=>by simp -dsimp [u1,u2,u3,u4,u5,u6,m1,m2,m3,m4,m5,m6,m7,m8,m9,m10,s1,s2,s3,s4,s5,wd,wn,wn',D1];exact hK
 refine aD ?_ fun K hK=>by simp -dsimp [u1,u2,u3,u4,u5,u6,m1,m2,m3,m4,m5,m6,m7,m8,m9,m10,s1,s2,s3,s4,s5,wd,wn,wn',D1];exact hK
 refine aD ?_ fun K hK=>by simp -dsimp [u1,u2,u3,u4,u5,u6,m1,m2,m3,m4,m5,m6,m7,m8,m9,m10,s1,s2,s3,s4,s5,wd,wn,wn',D1];exact hK
 refine aW ?_ fun K hK=>by simp -dsimp [u1,u2,u3,u4,u5,u6,m1,m2,m3,m4,m5,m6,m7,m8,m9,m10,s1,s2,s3,s4,s5,wd,wn,wn',D1];exact hK
 refine aW ?_ fun K hK=>by simp -dsimp [u1,u2,u3,u4,u5,u6,m1,m2,m3,m4,m5,m6,m7,m8,m9,m10,s1,s2,s3,s4,s5,wd,wn,wn',D1];exact hK
 refine aW ?_ fun K hK=>by simp -dsimp [u1,u2,u3,u4,u5,u6,m1,m2,m3,m4,m5,m6,m7,m8,m9,m10,s1,s2,s3,s4,s5,wd,wn,wn',D1];exact hK
 refine a5 fun K1 hK1=>?_;refine aW ?_ fun K hK=>by simp -dsimp [u1,u2,u3,u4,u5,u6,m1,m2,m3,m4,m5,m6,m7,m8,m9,m10,s1,s2,s3,s4,s5,wd,wn,wn',D1];exact hK
 refine a7 rfl (fun hc0=>?_) (fun hc0=>?_)
 ·skip
  try simp at hc0
  have hf:a0R less (x7 a b s d)=a0R less (O5 (z4 b s b s) (d*d)):=by unfold x7;rw[if_neg (by omega),if_pos (by omega)]
  refine aD ?_ fun K hK=>by simp -dsimp [u1,u2,u3,u4,u5,u6,m1,m2,m3,m4,m5,m6,m7,m8,m9,m10,s1,s2,s3,s4,s5,wd,wn,wn',D1];exact hK
  refine aV ?_ fun K hK=>by simp -dsimp [u1,u2,u3,u4,u5,u6,m1,m2,m3,m4,m5,m6,m7,m8,m9,m10,s1,s2,s3,s4,s5,wd,wn,wn',D1];exact hK
  refine zQ (hK1 _ _ ?_);refine aP [3,4,11,12,13,14,15,16,17] ?_;refine a5 fun K2 hK2=>?_;refine aW ?_ fun K hK=>by simp -dsimp [u1,u2,u3,u4,u5,u6,m1,m2,m3,m4,m5,m6,m7,m8,m9,m10,s1,s2,s3,s4,s5,wd,wn,wn',D1,hc0];exact hK
  refine a7 rfl (fun hc1=>?_) (fun hc1=>?_)
  ·refine aW ?_ fun K hK=>by simp -dsimp [u1,u2,u3,u4,u5,u6,m1,m2,m3,m4,m5,m6,m7,m8,m9,m10,s1,s2,s3,s4,s5,wd,wn,wn',D1];exact hK
   exact a6 (by simp;rw[hf,<-b1z];rfl)
  ·simp at hc1
 ·skip
  try simp at hc0
  have hc0':¬z4 a b a b<z4 a s a b:=by omega
  refine b9 ?_;refine zQ (hK1 _ _ ?_);refine aP [3,4,11,12,13,14,15,16,17] ?_;refine a5 fun K3 hK3=>?_;refine aW ?_ fun K hK=>by simp -dsimp [u1,u2,u3,u4,u5,u6,m1,m2,m3,m4,m5,m6,m7,m8,m9,m10,s1,s2,s3,s4,s5,wd,wn,wn',D1,hc0'];exact hK
  refine a7 rfl (fun hc1=>?_) (fun hc1=>?_)
  ·simp at hc1;refine aW ?_ fun K hK=>by simp -dsimp [u1,u2,u3,u4,u5,u6,m1,m2,m3,m4,m5,m6,m7,m8,m9,m10,s1,s2,s3,s4,s5,wd,wn,wn',D1];exact hK
   refine a6 ?_;have hf:a0R less (x7 a b s d)=a0R less (O5 (z4 a s a s) (d*d)):=by unfold x7;rw[if_pos (by omega)]
   simp;rw[hf,<-b1z];rfl
  ·simp at hc1;refine b9 ?_;refine zQ (hK3 _ _ ?_);refine aP [3,4,11,12,13,14,15] ?_;refine aW ?_ fun K hK=>by simp -dsimp [u1,u2,u3,u4,u5,u6,m1,m2,m3,m4,m5,m6,m7,m8,m9,m10,s1,s2,s3,s4,s5,wd,wn,wn',D1];exact hK
   refine aW ?_ fun K hK=>by simp -dsimp [u1,u2,u3,u4,u5,u6,m1,m2,m3,m4,m5,m6,m7,m8,m9,m10,s1,s2,s3,s4,s5,wd,wn,wn',D1];refine cI (b7h (max (j6 a s a b) (-j6 a s a b)) (max (j6 a s a b) (-j6 a s a b)) (d*d) (z4 a b a b) less (by omega) (by omega) (by omega) (by omega) hdd (by omega) n1 (by omega)) ?_;simp -dsimp [u1,u2,u3,u4,u5,u6,m1,m2,m3,m4,m5,m6,m7,m8,m9,m10,s1,s2,s3,s4,s5,wd,wn,wn',D1];exact hK
   refine a6 ?_;have hf:O5 (j6 a b a s*j6 a b a s) (d*d*z4 a b a b)=x7 a b s d:=by
    unfold x7;rw[if_neg (by omega)]
    split
    ·exact a8K (by omega) (by omega)
    ·rfl
   simp[hm,hf]
theorem c2b (a b c d:Spot) (r:Int) (less:Bool) (ha:l7 a=true) (hb:l7 b=true) (hc:l7 c=true) (hd:l7 d=true) (h0:0<=r) (h1:r<=1000000):
  a9 Tryz.prog 187 [a.av,b.av,c.av,d.av,I r,Bo less] (Bo (a0R less (apart a b c d r))):=by
 have w:∀{x y:Int},-1<=x/\x<=1-> -1<=y/\y<=1->IntKind.i64.wrap (x*y)=x*y:=by
  intro x y hx hy;have:=y6 (a:=x) (b:=y) (A:=1) (B:=1) hx.1 hx.2 hy.1 hy.2;exact c4 (by omega) (by omega)
 have w1:IntKind.i64.wrap (N0 a b c*N0 a b d)=N0 a b c*N0 a b d:=w a0m a0m;have w2:IntKind.i64.wrap (N0 c d a*N0 c d b)=N0 c d a*N0 c d b:=w a0m a0m;refine oB Tryz.func187 Tryz.ntmps187 Tryz.results187 ?_;refine aW ?_;refine a5 fun K1 hK1=>?_;refine aD ?_ fun K hK=>by simp -dsimp [w1,w2];refine cI (b1V a b c ha hb hc) ?_;simp -dsimp [w1,w2];refine cI (b1V a b d ha hb hd) ?_;simp -dsimp [w1,w2];refine cY (fun hm=>b1V c d a hc hd ha) ?_;simp -dsimp [w1,w2];refine cY (fun hm=>b1V c d b hc hd hb) ?_;simp -dsimp [w1,w2];exact hK
 refine a7 rfl (fun hc0=>?_) (fun hc0=>?_)
 ·skip
  try simp at hc0
  have hcr:X7 a b c d=true:=by simp[X7,hc0]
  refine aW ?_;refine a6 ?_;simp[apart,hcr,a5h]
  cases less<;>simp[h0]
 ·skip
  try simp at hc0
  have hcr:X7 a b c d=false:=by unfold X7;simp;simpa using hc0
  refine b9 ?_;refine zQ (hK1 _ _ ?_);refine aP [4,5,6,7,8,9] ?_;refine aW ?_ fun K hK=>by simp -dsimp;refine cI (O6 a c d r less ha hc hd h0 h1) ?_;simp -dsimp;refine cY (fun hm=>O6 b c d r less hb hc hd h0 h1) ?_;simp -dsimp;refine cY (fun hm=>O6 c a b r less hc ha hb h0 h1) ?_;simp -dsimp;refine cY (fun hm=>O6 d a b r less hd ha hb h0 h1) ?_;simp -dsimp;exact hK
  refine a6 ?_;simp[apart,hcr]
  cases less<;>simp[a0R]<;>exact qj.2 (by simp[c0X,b2o];omega)
end Go.Tram
end
section
namespace Go.Tram
open Go.AM Go.Proofs
@[simp] def sAV (r:Int) (k:Nat):AV:= .agg [I r,I k]
theorem b4e (p:Plan) (r:Int) (k:Nat) (r':Int) (k':Nat) (d:Int) (h0:0<=r) (h1:r<p.Rails.length) (ro:a0g p r) (hk:k<(p.rail r).Shape.length+1)
  (h0':0<=r') (h1':r'<p.Rails.length) (ro':a0g p r') (hk':k'<(p.rail r').Shape.length+1) (d0:0<=d) (d1:d<=1000000):
  a9 Tryz.prog 163 [p.av,sAV r k,sAV r' k',I d] (Bo (decide (apart (nth (p.line r) k) (nth (p.line r) (k+1)) (nth (p.line r') k') (nth (p.line r') (k'+1)) d<=0))):=by
 have hl:=ro.len;have hl':=ro'.len;refine oB Tryz.func163 Tryz.ntmps163 Tryz.results163 ?_;refine aW ?_;refine aW ?_ fun K hK=>by simp -dsimp;refine cI (a7B p r k h0 h1 ro hk) ?_;simp -dsimp;exact hK
 refine aW ?_ fun K hK=>by simp -dsimp;refine cI (a7B p r' k' h0' h1' ro' hk') ?_;simp -dsimp;exact hK
 refine aW ?_ fun K hK=>by simp -dsimp;refine cI (c2b _ _ _ _ d false (ro.spot k (by omega)) (ro.spot (k+1) (by omega)) (ro'.spot k' (by omega)) (ro'.spot (k'+1) (by omega)) d0 d1) ?_;simp -dsimp;exact hK
 exact a6 (by simp[a0R])
theorem b1M (p:Plan) (r:Int) (k:Nat) (h0:0<=r) (h1:r<p.Rails.length) (ro:a0g p r) (hk:k<(p.rail r).Shape.length+1):
  a9 Tryz.prog 165 [p.av,sAV r k] (.lst 2 ((N1 (p.line r) k++N1 (p.line r) (k+1)).map Spot.cells)):=by
 have hl:=ro.len;have hs:=ro.s;have wk:=zW k (by omega);have wl:IntKind.i64.wrap (((p.line r).length:Int)-1)=((p.line r).length:Int)-1:=c4 (by omega) (by omega);rw[<-a6A];refine oB Tryz.func165 Tryz.ntmps165 Tryz.results165 ?_;refine aW ?_;refine aW ?_ fun K hK=>by simp -dsimp;refine cI (b6Z p r h0 h1 ro.f ro.t (by omega)) ?_;simp -dsimp;exact hK
 refine aW ?_;refine a5 fun K1 hK1=>?_;refine aW ?_;refine b8 ?_;refine aP [3,5,6,7] ?_;refine c6 [3,5] (α:=Nat) (fun i=>[(7,I i),(6, .row 2 0 (D7 (p.line r) k (i-k)).length)]) (fun i=>[some (.els 2 [p.cells]),some (.els 2 [[I r,I k]]),some (.els 2 ((D7 (p.line r) k (i-k)).map Spot.cells))]) (fun i=>k<=i/\i<=k+2) (fun i=>k+2-i) k ?_ ?_ ?_
 ·exact⟨by omega,by omega⟩
 ·exact(V7 6 2 (by simp)).trans (g7 [some 0,some 1,some 2] rfl (by simp[D7]) (by simp[D7]))
 rintro i ⟨i1,i2⟩;have hbt:=W3 (p.line r) k (i-k);refine zN ?_;refine a5 fun K2 hK2=>?_;refine aW ?_ fun K hK=>by simp -dsimp [wk];exact hK
 refine a7 rfl (fun hc0=>?_) (fun hc0=>?_)
 ·skip
  try simp at hc0
  have hi2:i<=k+1:=by omega
  have wi:=zW i (by omega);have hsucc:D7 (p.line r) k (i+1-k)=D7 (p.line r) k (i-k)++N1 (p.line r) i:=by rw[show i+1-k=i-k+1 by omega,X8,show k+(i-k)=i by omega]
  refine b9 ?_;refine zQ (hK2 _ _ ?_);refine aP [3,5,6,7] ?_;refine a5 fun K3 hK3=>?_;refine b8 ?_;refine a5 fun K4 hK4=>?_;refine aW ?_ fun K hK=>by simp -dsimp [wl];exact hK
  refine a7 rfl (fun hc1=>?_) (fun hc1=>?_)
  ·skip
   try simp at hc1
   have hnb:N1 (p.line r) i=[]:=by
    have:a7U (p.line r) i=false:=by simp[a7U];omega
    simp[N1,this]
   refine d4 ?_;refine zQ (hK3 _ _ ?_);refine aP [3,5,6,7] ?_;refine aV ?_ fun K hK=>by simp -dsimp [wi];exact hK
   refine zQ ?_;exact⟨i+1,⟨by omega,by omega⟩,by omega,g7 [some 0,some 1,some 2] rfl (by simp[hsucc,hnb]) (by simp[hsucc,hnb])⟩
  ·skip
   try simp at hc1
   have hi0:0<i:=by omega
   have hi3:i+1<(p.line r).length:=by omega
   have qi:IntKind.i64.wrap ((i:Int)-1)=((i-1:Nat):Int):=by rw[c4 (by omega) (by omega)];omega
   have g0:=y8 (l:=p.line r) (k:=i-1) (by omega);have g1:=y8 (l:=p.line r) (k:=i) (by omega);have g2:=y8 (l:=p.line r) (k:=i+1) (by omega);have sa:=ro.spot (i-1) (by omega);have sb:=ro.spot i (by omega);have sc:=ro.spot (i+1) (by omega);have d1:=A3 sa sb;have d2:=A3 sb sc;have mm:∀{x y:Int},(-20000000<=x/\x<=20000000)->(-20000000<=y/\y<=20000000)->IntKind.i64.wrap (x*y)=x*y:=by
    intro x y hx hy;have:=y6 (a:=x) (b:=y) (A:=20000000) (B:=20000000) hx.1 hx.2 hy.1 hy.2;exact c4 (by omega) (by omega)
   have u1:IntKind.i64.wrap ((nth (p.line r) i).X-(nth (p.line r) (i-1)).X)=(nth (p.line r) i).X-(nth (p.line r) (i-1)).X:=c4 (by omega) (by omega);have u2:IntKind.i64.wrap ((nth (p.line r) i).Y-(nth (p.line r) (i-1)).Y)=(nth (p.line r) i).Y-(nth (p.line r) (i-1)).Y:=c4 (by omega) (by omega);have u3:IntKind.i64.wrap ((nth (p.line r) (i+1)).X-(nth (p.line r) i).X)=(nth (p.line r) (i+1)).X-(nth (p.line r) i).X:=c4 (by omega) (by omega);have u4:IntKind.i64.wrap ((nth (p.line r) (i+1)).Y-(nth (p.line r) i).Y)=(nth (p.line r) (i+1)).Y-(nth (p.line r) i).Y:=c4 (by omega) (by omega);have m1:=mm d1.1 d2.2;have m2:=mm d1.2 d2.1;have m3:=mm d1.1 d2.1;have m4:=mm d1.2 d2.2;have bd:=a1q sa sb sb sc;have ws:IntKind.i64.wrap (((nth (p.line r) i).X-(nth (p.line r) (i-1)).X)*((nth (p.line r) (i+1)).X-(nth (p.line r) i).X)+((nth (p.line r) i).Y-(nth (p.line r) (i-1)).Y)*((nth (p.line r) (i+1)).Y-(nth (p.line r) i).Y))=z4 (nth (p.line r) (i-1)) (nth (p.line r) i) (nth (p.line r) i) (nth (p.line r) (i+1)):=c4 (by unfold z4 at bd;omega) (by unfold z4 at bd;omega);have hst:=b8Y (ro.seg (i-1) (by omega)).1 (ro.seg i (by omega)).1 hi0;have f3:R2 ((D7 (p.line r) k (i-k)).length+1) 17:=n7 (by have:=a2D (p.line r) k (i-k);omega) (by omega);refine b9 ?_;refine zQ (hK4 _ _ ?_);refine aP [3,5,6,7] ?_;refine aD ?_ fun K hK=>by simp -dsimp [qi,g0,g1,u1,u2];exact hK
   refine aD ?_ fun K hK=>by simp -dsimp [wi,g1,g2,u3,u4];refine⟨by omega,?_⟩;exact hK
   refine aW ?_ fun K hK=>by simp -dsimp [m1,m2,m3,m4,ws];exact hK
   refine a7 rfl (fun hc2=>?_) (fun hc2=>?_)
   ·have hb:N1 (p.line r) i=[nth (p.line r) i]:=by
     have:T8 (p.line r) i=false:=by
      rw[hst];simp only[Bool.not_eq_false',Bool.or_eq_true,decide_eq_true_eq];simp at hc2
      rcases hc2 with h|h
      ·left;unfold j6;omega
      ·right;exact h
     simp[N1,a7U,hi0,hi3,this]
    refine aV ?_ fun K hK=>by simp -dsimp [g1,f3];exact hK
    refine zQ (hK3 _ _ ?_);refine aP [3,5,6,7] ?_;refine aV ?_ fun K hK=>by simp -dsimp [wi];exact hK
    refine zQ ?_;exact⟨i+1,⟨by omega,by omega⟩,by omega,g7 [some 0,some 1,some 3] rfl (by simp[hsucc,hb]) (by simp[hsucc,hb,hbt])⟩
   ·have hb:N1 (p.line r) i=[]:=by
     have:T8 (p.line r) i=true:=by
      rw[hst];simp only[Bool.not_eq_true',Bool.or_eq_false_iff,decide_eq_false_iff_not];simp at hc2;refine⟨?_,?_⟩
      ·unfold j6;omega
      ·omega
     simp[N1,a7U,this]
    refine b9 ?_;refine zQ (hK3 _ _ ?_);refine aP [3,5,6,7] ?_;refine aV ?_ fun K hK=>by simp -dsimp [wi];exact hK
    refine zQ ?_;exact⟨i+1,⟨by omega,by omega⟩,by omega,g7 [some 0,some 1,some 2] rfl (by simp[hsucc,hb]) (by simp[hsucc,hb])⟩
 ·skip
  try simp at hc0
  have hi:i-k=2:=by omega
  refine d4 ?_;refine zQ (hK1 _ _ ?_);refine aP [6] ?_;refine aW ?_;exact a6 (by simp[hi,W3])
end Go.Tram
end
section
namespace Go.Tram
open Go.AM Go.Proofs
theorem c0G (p:Plan) (r:Int) (k:Nat) (x:Profile) (r':Int) (k':Nat) (y:Profile) (h0:0<=r) (h1:r<p.Rails.length) (ro:a0g p r) (hk:k<(p.rail r).Shape.length+1)
  (h0':0<=r') (h1':r'<p.Rails.length) (ro':a0g p r') (hk':k'<(p.rail r').Shape.length+1) (hx:z5 x=true) (hy:z5 y=true):
  a9 Tryz.prog 122 [p.av,sAV r k,x.av,sAV r' k',y.av] (Bo (Z5 (o9 (p.line r) r k) x (o9 (p.line r') r' k') y)):=by
 have hl:=ro.len;have hl':=ro'.len;have os:=a7q ro hk;have ot:=a7q ro' hk';have hw:=b4e p r k r' k' (x.Half+y.Half) h0 h1 ro hk h0' h1' ro' hk' (by have:=L9.1 hx;have:=L9.1 hy;omega) (by have:=L9.1 hx;have:=L9.1 hy;omega);have he:=a7B p r k h0 h1 ro hk;have he':=a7B p r' k' h0' h1' ro' hk';have hb:=b1M p r k h0 h1 ro hk;have hb':=b1M p r' k' h0' h1' ro' hk';have f1:Z5 (o9 (p.line r) r k) x (o9 (p.line r') r' k') y=(decide (apart (nth (p.line r) k) (nth (p.line r) (k+1)) (nth (p.line r') k') (nth (p.line r') (k'+1)) (x.Half+y.Half)<=0)||(P4 (o9 (p.line r) r k) (o9 (p.line r') r' k') (x.Half+x.Swing+y.Half)||(P4 (o9 (p.line r') r' k') (o9 (p.line r) r k) (x.Half+y.Half+y.Swing)||a5s (o9 (p.line r) r k) (o9 (p.line r') r' k') (x.Half+x.Swing+y.Half+y.Swing)))):=by
  unfold Z5;rw[show y.Half+y.Swing+x.Half=x.Half+y.Half+y.Swing by omega]
  rfl
 have ea:(o9 (p.line r) r k).a=nth (p.line r) k:=rfl;have eb:(o9 (p.line r) r k).b=nth (p.line r) (k+1):=rfl;have ec:(o9 (p.line r') r' k').a=nth (p.line r') k':=rfl;have ed:(o9 (p.line r') r' k').b=nth (p.line r') (k'+1):=rfl;have el:(o9 (p.line r) r k).bends=N1 (p.line r) k++N1 (p.line r) (k+1):=rfl;have el':(o9 (p.line r') r' k').bends=N1 (p.line r') k'++N1 (p.line r') (k'+1):=rfl;rw[f1];rw[<-el]at hb;rw[<-el']at hb';generalize o9 (p.line r) r k=S at*
 generalize o9 (p.line r') r' k'=T at*
 rw[<-ea,<-eb]at he;rw[<-ec,<-ed]at he';rw[<-ea,<-eb,<-ec,<-ed]at hw ⊢;clear f1 ea eb ec ed el el';rw[L9]at hx hy;have sn:=os.n;have tn:=ot.n;have w1:IntKind.i64.wrap (x.Half+y.Half)=x.Half+y.Half:=c4 (by omega) (by omega);have w2:IntKind.i64.wrap (x.Half+x.Swing)=x.Half+x.Swing:=c4 (by omega) (by omega);have w3:IntKind.i64.wrap (x.Half+x.Swing+y.Half)=x.Half+x.Swing+y.Half:=c4 (by omega) (by omega);have w4:IntKind.i64.wrap (x.Half+x.Swing+y.Half+y.Swing)=x.Half+x.Swing+y.Half+y.Swing:=c4 (by omega) (by omega);have w5:IntKind.i64.wrap (x.Half+y.Half+y.Swing)=x.Half+y.Half+y.Swing:=c4 (by omega) (by omega);have hdd:=y6 (a:=x.Half+x.Swing+y.Half+y.Swing) (b:=x.Half+x.Swing+y.Half+y.Swing) (A:=7000) (B:=7000) (by omega) (by omega) (by omega) (by omega);have w6:IntKind.i64.wrap ((x.Half+x.Swing+y.Half+y.Swing)*(x.Half+x.Swing+y.Half+y.Swing))=(x.Half+x.Swing+y.Half+y.Swing)*(x.Half+x.Swing+y.Half+y.Swing):=c4 (by omega) (by omega);refine oB Tryz.func122 Tryz.ntmps122 Tryz.results122 ?_;refine aW ?_;refine a5 fun K1 hK1=>?_;refine aW ?_ fun K hK=>by simp -dsimp [w1];refine cI (hw) ?_;simp -dsimp [w1];exact hK
 refine a7 rfl (fun hc0=>?_) (fun hc0=>?_)
 ·skip
  try simp at hc0
  have hv:(decide (apart S.a S.b T.a T.b (x.Half+y.Half)<=0)||(P4 S T (x.Half+x.Swing+y.Half)||(P4 T S (x.Half+y.Half+y.Swing)||a5s S T (x.Half+x.Swing+y.Half+y.Swing))))=true:=by simp[hc0]
  refine aW ?_;exact a6 (by simp[hc0])
 ·skip
  try simp at hc0
  refine b9 ?_;refine zQ (hK1 _ _ ?_);refine aP [5,6,7,8,9] ?_;refine aW ?_ fun K hK=>by simp -dsimp;refine cI (he) ?_;simp -dsimp;exact hK
  refine aW ?_ fun K hK=>by simp -dsimp;refine cI (he') ?_;simp -dsimp;exact hK
  refine aD ?_ fun K hK=>by simp -dsimp;refine cI (hb) ?_;simp -dsimp;refine cI (hb') ?_;simp -dsimp;exact hK
  refine a5 fun K2 hK2=>?_;refine aW ?_;refine b8 ?_;refine aP [7,9,11,12,13,14,15,16,17] ?_;refine c6 [7,9,11,12,13,14,15,16] (α:=Nat) (fun i=>[(17,I i)]) (fun _=>[some (.els 2 [p.cells]),some (.els 2 [[I r,I k]]),some (.els 2 [x.cells]),some (.els 2 [[I r',I k']]),some (.els 2 [y.cells]),some (.els 2 [S.a.cells]),some (.els 2 [S.b.cells]),some (.els 2 [T.a.cells]),some (.els 2 [T.b.cells])]) (fun i=>i<=S.bends.length/\((S.bends.take i).any fun q=>decide (x7 T.a T.b q (x.Half+x.Swing+y.Half)<=0))=false/\((S.bends.take i).any fun q=>T.bends.any fun t=>decide (z4 q t q t<=(x.Half+x.Swing+y.Half+y.Swing)*(x.Half+x.Swing+y.Half+y.Swing)))=false) (fun i=>S.bends.length-i) 0 ?_ ?_ ?_
  ·simp
  ·exact c9 (by simp)
  rintro i ⟨i1,i2,i3⟩;refine zN ?_;refine a5 fun K3 hK3=>?_;refine aW ?_;refine a7 rfl (fun hc1=>?_) (fun hc1=>?_)
  ·skip
   try simp at hc1
   obtain⟨q,hq⟩:=gx (l:=S.bends) (i:=i) hc1;have wi:=zW i (by omega);have sq:=qn.1 os.l q (qd hq);refine b9 ?_;refine zQ (hK3 _ _ ?_);refine aP [7,9,11,12,13,14,15,16,17] ?_;refine a5 fun K4 hK4=>?_;refine b8 ?_;refine a5 fun K5 hK5=>?_;refine aD ?_ fun K hK=>by simp -dsimp [hq,w2,w3];refine cI (O6 q T.a T.b (x.Half+x.Swing+y.Half) false sq ot.a ot.b (by omega) (by omega)) ?_;simp -dsimp [hq,w2,w3];exact hK
   refine a7 rfl (fun hc2=>?_) (fun hc2=>?_)
   ·simp[a0R]at hc2;have hv:P4 S T (x.Half+x.Swing+y.Half)=true:=qy.2 ⟨q,qd hq,by simp[hc2]⟩;refine aW ?_;exact a6 (by simp[hv])
   ·simp[a0R]at hc2;refine b9 ?_;refine zQ (hK5 _ _ ?_);refine aP [7,9,11,12,13,14,15,16,17] ?_;refine aW ?_;refine b8 ?_;refine aP [7,9,11,12,13,14,15,16,17,18] ?_;refine c6 [7,9,11,12,13,14,15,16,17] (α:=Nat) (fun j=>[(18,I j)]) (fun _=>[some (.els 2 [p.cells]),some (.els 2 [[I r,I k]]),some (.els 2 [x.cells]),some (.els 2 [[I r',I k']]),some (.els 2 [y.cells]),some (.els 2 [S.a.cells]),some (.els 2 [S.b.cells]),some (.els 2 [T.a.cells]),some (.els 2 [T.b.cells])]) (fun j=>j<=T.bends.length/\((T.bends.take j).any fun t=>decide (z4 q t q t<=(x.Half+x.Swing+y.Half+y.Swing)*(x.Half+x.Swing+y.Half+y.Swing)))=false) (fun j=>T.bends.length-j) 0 ?_ ?_ ?_
    ·simp
    ·exact c9 (by simp)
    rintro j ⟨j1,j2⟩;refine zN ?_;refine a5 fun K6 hK6=>?_;refine aW ?_;refine a7 rfl (fun hc3=>?_) (fun hc3=>?_)
    ·skip
     try simp at hc3
     obtain⟨t,ht⟩:=gx (l:=T.bends) (i:=j) hc3;have wj:=zW j (by omega);have st:=qn.1 ot.l t (qd ht);have d1:=A3 st sq;have u1:IntKind.i64.wrap (q.X-t.X)=q.X-t.X:=c4 (by omega) (by omega);have u2:IntKind.i64.wrap (q.Y-t.Y)=q.Y-t.Y:=c4 (by omega) (by omega);have b1:=y6 (a:=q.X-t.X) (b:=q.X-t.X) (A:=20000000) (B:=20000000) (by omega) (by omega) (by omega) (by omega);have b2:=y6 (a:=q.Y-t.Y) (b:=q.Y-t.Y) (A:=20000000) (B:=20000000) (by omega) (by omega) (by omega) (by omega);have u3:IntKind.i64.wrap ((q.X-t.X)*(q.X-t.X))=(q.X-t.X)*(q.X-t.X):=c4 (by omega) (by omega);have u4:IntKind.i64.wrap ((q.Y-t.Y)*(q.Y-t.Y))=(q.Y-t.Y)*(q.Y-t.Y):=c4 (by omega) (by omega);have u5:IntKind.i64.wrap ((q.X-t.X)*(q.X-t.X)+(q.Y-t.Y)*(q.Y-t.Y))=z4 q t q t:=by rw[b8j];exact c4 (by omega) (by omega)
     refine b9 ?_;refine zQ (hK6 _ _ ?_);refine aP [7,9,11,12,13,14,15,16,17,18] ?_;refine a5 fun K7 hK7=>?_;refine b8 ?_;refine aD ?_ fun K hK=>by simp -dsimp [hq,ht,u1,u2];exact hK
     refine aW ?_ fun K hK=>by simp -dsimp [w2,w3,w4];exact hK
     refine aW ?_ fun K hK=>by simp -dsimp [u3,u4,u5,w6];exact hK
     refine a7 rfl (fun hc4=>?_) (fun hc4=>?_)
     ·skip
      try simp at hc4
      have hv:a5s S T (x.Half+x.Swing+y.Half+y.Swing)=true:=qy.2 ⟨q,qd hq,qy.2 ⟨t,qd ht,by simpa using hc4⟩⟩;refine aW ?_;exact a6 (by simp[hv])
     ·skip
      try simp at hc4
      refine b9 ?_;refine zQ (hK7 _ _ ?_);refine aP [7,9,11,12,13,14,15,16,17,18] ?_;refine aV ?_ fun K hK=>by simp -dsimp [wj];exact hK
      refine zQ ?_;exact⟨j+1,⟨by omega,by rw[any_take ht,j2];simp;omega⟩,by omega,c9 (by simp)⟩
    ·skip
     try simp at hc3
     have hin:=v6 (by omega) j2;refine d4 ?_;refine zQ (hK4 _ _ ?_);refine aP [7,9,11,12,13,14,15,16,17] ?_;refine aV ?_ fun K hK=>by simp -dsimp [wi];exact hK
     refine zQ ?_;exact⟨i+1,⟨by omega,by rw[any_take hq,i2];simp[hc2],by rw[any_take hq,i3,hin];rfl⟩,by omega,c9 (by simp)⟩
  ·skip
   try simp at hc1
   have v1:P4 S T (x.Half+x.Swing+y.Half)=false:=v6 (by omega) i2;have v2:a5s S T (x.Half+x.Swing+y.Half+y.Swing)=false:=v6 (by omega) i3;refine d4 ?_;refine zQ (hK2 _ _ ?_);refine aP [7,9,11,12,16] ?_;refine a5 fun K8 hK8=>?_;refine aW ?_;refine b8 ?_;refine aP [7,9,11,12,16,22] ?_;refine c6 [7,9,11,12,16] (α:=Nat) (fun j=>[(22,I j)]) (fun _=>[some (.els 2 [p.cells]),some (.els 2 [[I r,I k]]),some (.els 2 [x.cells]),some (.els 2 [[I r',I k']]),some (.els 2 [y.cells]),some (.els 2 [S.a.cells]),some (.els 2 [S.b.cells]),some (.els 2 [T.a.cells]),some (.els 2 [T.b.cells])]) (fun j=>j<=T.bends.length/\((T.bends.take j).any fun t=>decide (x7 S.a S.b t (x.Half+y.Half+y.Swing)<=0))=false) (fun j=>T.bends.length-j) 0 ?_ ?_ ?_
   ·simp
   ·exact c9 (by simp)
   rintro j ⟨j1,j2⟩;refine zN ?_;refine a5 fun K9 hK9=>?_;refine aW ?_;refine a7 rfl (fun hc5=>?_) (fun hc5=>?_)
   ·skip
    try simp at hc5
    obtain⟨t,ht⟩:=gx (l:=T.bends) (i:=j) hc5;have wj:=zW j (by omega);have st:=qn.1 ot.l t (qd ht);refine b9 ?_;refine zQ (hK9 _ _ ?_);refine aP [7,9,11,12,16,22] ?_;refine a5 fun K10 hK10=>?_;refine b8 ?_;refine aD ?_ fun K hK=>by simp -dsimp [ht,w1,w5];refine cI (O6 t S.a S.b (x.Half+y.Half+y.Swing) false st os.a os.b (by omega) (by omega)) ?_;simp -dsimp [ht,w1,w5];exact hK
    refine a7 rfl (fun hc6=>?_) (fun hc6=>?_)
    ·simp[a0R]at hc6;have hv:P4 T S (x.Half+y.Half+y.Swing)=true:=qy.2 ⟨t,qd ht,by simp[hc6]⟩;refine aW ?_;exact a6 (by simp[hv])
    ·simp[a0R]at hc6;refine b9 ?_;refine zQ (hK10 _ _ ?_);refine aP [7,9,11,12,16,22] ?_;refine aV ?_ fun K hK=>by simp -dsimp [wj];exact hK
     refine zQ ?_;exact⟨j+1,⟨by omega,by rw[any_take ht,j2];simp[hc6]⟩,by omega,c9 (by simp)⟩
   ·skip
    try simp at hc5
    have v3:P4 T S (x.Half+y.Half+y.Swing)=false:=v6 (by omega) j2;refine d4 ?_;refine zQ (hK8 _ _ ?_);refine aP [] ?_;refine aW ?_;exact a6 (by simp[v1,v2,v3,hc0])
end Go.Tram
end
section
namespace Go.Tram
open Go.AM Go.Proofs
theorem b9X (l:List R0):(l.map R0.cells).all (fun e=>e.all V9)=true:=by simp[V9]
@[simp high] theorem c3v (l:List R0) (g:List (Option Nat)) (n:Nat):(l.map R0.cells).map (fun e=>e.map (p5 g n))=l.map R0.cells:=x6 (fun x h=>P7 h g n) (b9X l)
@[simp high] theorem c2d (l:List R0) (H:Hp) (n:Nat):(l.map R0.cells).map (fun e=>e.map (M0 H n))=l.map R0.cells:=x6 (fun x h=>O8 h H n) (b9X l)
@[simp] theorem c6Q (l:List R0):List.take l.length (l.map R0.cells)=l.map R0.cells:=qg (by simp)
def Y4 (p:Plan) (l:List Move) (i:Nat):List R0:=if F8 p (y4 l i)then [F9 p (y4 l i) (y4 l (i+1))]else []
def O9 (p:Plan) (l:List Move) (n:Nat):List R0:=(List.range n).flatMap (Y4 p l)
@[simp] theorem c4r (p:Plan) (l:List Move):O9 p l 0=[]:=rfl
theorem V4 (p:Plan) (l:List Move) (n:Nat):O9 p l (n+1)=O9 p l n++Y4 p l n:=by
 simp only[O9,List.range_succ,List.flatMap_append,List.flatMap_cons,List.flatMap_nil,List.append_nil]
theorem a3L (p:Plan) (l:List Move) (n:Nat):(O9 p l n).length<=n:=by
 induction n with
 |zero=>simp
 |succ n ih=>
  rw[V4,List.length_append];have:(Y4 p l n).length<=1:=by unfold Y4;split<;>simp
  omega
theorem a6H {p:Plan} {l:List Move} (h:wayB p l=true) {i:Nat} (hi:i+1<l.length):G6 p (y4 l i) (y4 l (i+1))=true:=by
 have:=a1h (Bool.and_eq_true_iff.1 h).1 hi;unfold X6 at this;have h2:=(Bool.and_eq_true_iff.1 this).2;simp at h2;exact h2
end Go.Tram
end
section
namespace Go.Tram
open Go.AM Go.Proofs
theorem a7k (p:Plan) (l:List Move) (hv:d8 p=true) (hw:wayB p l=true):a9 Tryz.prog 87 [p.av,a1t l] (.tup [.lst 2 ((O9 p l (l.length-1)).map R0.cells),I 0]):=by
 have hl:=F3 hw;have hop:=V8 p hv;have hh:=b9b p l hv (by omega);rw[hw]at hh;have hbe:∀i,i+1<l.length->a9 Tryz.prog 130 [.iptr (net p),(y4 l i).av,(y4 l (i+1)).av] (.tup [.agg (if F8 p (y4 l i)then F9 p (y4 l i) (y4 l (i+1))else⟨0,0⟩).cells,Bo (F8 p (y4 l i))]):=by
  intro i hi;exact a2L p _ _ hv (E3 hw i (by omega))
 generalize net p=sh at hop hh hbe;refine oB Tryz.func87 Tryz.ntmps87 Tryz.results87 ?_;refine aW ?_;refine aW ?_ fun K hK=>by simp -dsimp;refine cI (hop) ?_;simp -dsimp;exact hK
 refine a5 fun K1 hK1=>?_;refine aW ?_ fun K hK=>by simp -dsimp;refine cY (fun hm=>hh) ?_;simp -dsimp;exact hK
 refine a7 rfl (fun hc0=>?_) (fun hc0=>?_)
 ·simp at hc0
 ·refine b9 ?_;refine zQ (hK1 _ _ ?_);refine aP [1,6] ?_;refine aW ?_;refine a5 fun K2 hK2=>?_;refine aW ?_;refine b8 ?_;refine aP [1,6,8,9] ?_;refine c6 [1,6] (α:=Nat) (fun i=>[(9,I ((i:Int)+1)),(8, .row 1 0 (O9 p l i).length)]) (fun i=>[some (.els 2 [p.cells]),some (.els 2 ((O9 p l i).map R0.cells))]) (fun i=>i<=l.length-1) (fun i=>l.length-i) 0 ?_ ?_ ?_
  ·simp
  ·exact(V7 8 2 (by simp)).trans (g7 [some 0,some 1] rfl (by simp) (by simp))
  rintro i i1;refine zN ?_;refine a5 fun K3 hK3=>?_;refine aW ?_;refine a7 rfl (fun hc1=>?_) (fun hc1=>?_)
  ·have hi:i+1<l.length:=by simp at hc1;omega
   have hsj:=V4 p l i;have hlj:=a3L p l i;have hb:=hbe i hi;have g0:l[i]?=some (y4 l i):=by unfold y4;rw[qc (by omega)];rfl
   have g1:l[i+1]?=some (y4 l (i+1)):=by unfold y4;rw[qc (by omega)];rfl
   unfold Y4 at hsj;generalize y4 l i=m at*
   generalize y4 l (i+1)=k at*
   have wi:IntKind.i64.wrap ((i:Int)+1+1)=(i:Int)+1+1:=c4 (by omega) (by omega);have wj:IntKind.i64.wrap (i:Int)=i:=c4 (by omega) (by omega);have tj:((i:Int)+1).toNat=i+1:=by omega
   have t0:0<=(i:Int)+1:=by omega
   generalize hA:O9 p l i=A at hsj hlj ⊢;have f1:R2 (A.length+1) 17:=n7 (by omega) (by omega);refine b9 ?_;refine zQ (hK3 _ _ ?_);refine aP [1,6,8,9] ?_;refine a5 fun K4 hK4=>?_;refine b8 ?_;refine aD ?_ fun K hK=>by simp -dsimp [g0,g1,wj,tj,t0];refine cI (hb) ?_;simp -dsimp [g0,g1,wj,tj,t0];exact hK
   refine aW ?_;refine a7 rfl (fun hc2=>?_) (fun hc2=>?_)
   ·skip
    try simp only at hc2
    rw[hc2,if_pos rfl]at hsj;refine aV ?_ fun K hK=>by simp -dsimp [f1];exact hK
    refine zQ (hK4 _ _ ?_);refine aP [1,6,8,9] ?_;refine aV ?_ fun K hK=>by simp -dsimp [wi];exact hK
    refine zQ ?_;exact⟨i+1,by omega,by omega,g7 [some 0,some 3] rfl (by simp[hsj]) (by simp[hsj,hc2])⟩
   ·skip
    try simp only at hc2
    rw[hc2,if_neg (by simp)]at hsj;refine b9 ?_;refine zQ (hK4 _ _ ?_);refine aP [1,6,8,9] ?_;refine aV ?_ fun K hK=>by simp -dsimp [wi];exact hK
    refine zQ ?_;exact⟨i+1,by omega,by omega,g7 [some 0,some 1] rfl (by simp[hsj]) (by simp[hsj])⟩
  ·have hie:i=l.length-1:=by simp at hc1;omega
   subst hie;refine d4 ?_;refine zQ (hK2 _ _ ?_);refine aP [8] ?_;refine aW ?_;exact a6 (by simp)
end Go.Tram
end
section
namespace Go.Tram
open Go.AM Go.Proofs
def b1H (q:SS×SS):List AV:=[q.1.av,q.2.av]
theorem b2N (p:Plan) (a b:Int):∀z∈(a2A p a b).map b1H,z.length=2:=by
 intro z hz;obtain⟨q,_,rfl⟩:=List.mem_map.1 hz
 rfl
theorem c5G (p:Plan) (a b:Int):a9 Tryz.prog 161 [.iptr (a3F p),I a,I b] (.clo 185 [.iptr [.iptr (a3F p)], .iptr [I a], .iptr [I b]]):=by
 generalize a3F p=sh;refine oB Tryz.func161 Tryz.ntmps161 Tryz.results161 ?_;refine aW ?_;refine aW ?_;exact a6 (by simp)
theorem c3w (p : Plan) (a b : Int) (ha : inr a 0 (p.Rails.length-1)=true) (hb:inr b 0 (p.Rails.length-1)=true) (hla:(p.strips a).length<=1000000) (hlb:(p.strips b).length<=1000000):
    X3 Tryz.prog 185 [.iptr [.iptr (a3F p)], .iptr [I a], .iptr [I b]] ((a2A p a b).map b1H):=by
  have ia:=g6.1 ha
  have ib:=g6.1 hb
  have ga:=a3v (p:=p) (r:=a) (by omega) (by omega)
  have gb:=a3v (p:=p) (r:=b) (by omega) (by omega)
  have hpl:=b6h p a b
  unfold a3F
  refine J9.of_body Tryz.func185 rfl (by decide) (by simp[Tryz.ntmps185]) (by simp[Tryz.ntmps185]) (by simp[Tryz.results185]) ?_
  intro J l hmk hY
  simp only[Tryz.ntmps185,Tryz.results185]
  refine gD ?_ fun K hK=>by simp -dsimp [ga,ia.1];exact hK
  refine c8 ?_
  refine s9 [0,1,3,15,16,17,999999] (Or.inl (by decide)) ?_
  refine zN ?_
  refine e9 [0,1,3,15,16] (α:=Nat) (fun k=>[(17,I k),(999999,Z8 (k*(p.strips b).length))]) (fun k=>[]) (fun k=>k<=(p.strips a).length) (fun k=>(p.strips a).length-k) 0 ?_ ?_ ?_
  · simp
  · exact G0 (c9 (by simp)) (by simp)
  rintro k k1
  refine zN ?_
  refine gW ?_
  refine a8 fun K1 hK1=>?_
  refine c3 rfl (fun hc0=>?_) (fun hc0=>?_)
  · skip
    try simp at hc0
    obtain⟨s,hs⟩:∃s,(p.strips a)[k]?=some s:=⟨_,qc (by simpa using hc0)⟩
    have wk:=zW k (by omega)
    refine c5 ?_
    refine zQ (hK1 _ _ ?_)
    refine s9 [0,1,3,15,16,17,999999] (Or.inl (by decide)) ?_
    refine zN ?_
    refine a8 fun K2 hK2=>?_
    refine c8 ?_
    refine gW ?_ fun K hK=>by simp -dsimp [hs];exact hK
    refine gD ?_ fun K hK=>by simp -dsimp [gb,ib.1];exact hK
    refine c8 ?_
    refine s9 [0,1,3,6,15,16,17,27,28,29,999999] (Or.inl (by decide)) ?_
    refine zN ?_
    refine e9 [0,1,3,6,15,16,17,27,28] (α:=Nat) (fun j=>[(29,I j),(999999,Z8 (k*(p.strips b).length+j))]) (fun j=>[some (.els 9 [s.cells])]) (fun j=>j<=(p.strips b).length) (fun j=>(p.strips b).length-j) 0 ?_ ?_ ?_
    · simp
    · exact G0 (c9 (by simp)) (by simp)
    rintro j j1
    refine zN ?_
    refine gW ?_
    refine a8 fun K3 hK3=>?_
    refine c3 rfl (fun hc1=>?_) (fun hc1=>?_)
    · skip
      try simp at hc1
      obtain⟨t,ht⟩:∃t,(p.strips b)[j]?=some t:=⟨_,qc (by simpa using hc1)⟩
      have wj:=zW j (by omega)
      refine c5 ?_
      refine zQ (hK3 _ _ ?_)
      refine s9 [0,1,3,6,15,16,17,27,28,29,999999] (Or.inl (by decide)) ?_
      refine zN ?_
      refine a8 fun K4 hK4=>?_
      refine c8 ?_
      refine gW ?_ fun K hK=>by simp -dsimp [ht];exact hK
      refine b5I hmk hY rfl (by decide) rfl rfl fun K hK=>?_
      simp -dsimp
      refine a7e (by rw[qe,b8M hs ht];rfl) ?_ ?_
      · apply hK;clear hK K
        refine c3 rfl (fun hc2=>?_) (fun hc2=>?_)
        · skip
          skip
          simp at hc2
        · skip
          skip
          refine c5 ?_
          refine zQ (hK4 _ _ ?_)
          refine s9 [0,1,3,6,15,16,17,27,28,29,999999] (Or.inl (by decide)) ?_
          refine zN ?_
          refine gV ?_ fun K hK=>by simp -dsimp [wj];exact hK
          refine zQ ?_
          exact⟨j+1,by omega,by omega,G0 (g7 [some 0] rfl (by simp[Nat.add_assoc]) (by simp)) (by simp[Nat.add_assoc])⟩
      · apply hK;clear hK K
        refine c3 rfl (fun hc2=>?_) (fun hc2=>?_)
        · skip
          skip
          exact d9 (by simp)
        · skip
          skip
          simp at hc2
    · skip
      try simp at hc1
      have hje : j = (p.strips b).length := by have:¬j<(p.strips b).length:=by simpa using hc1
                                               omega
      refine o5 ?_
      refine zQ (hK2 _ _ ?_)
      refine s9 [0,1,3,15,16,17,999999] (Or.inl (by decide)) ?_
      refine zN ?_
      refine gV ?_ fun K hK=>by simp -dsimp [wk];exact hK
      refine zQ ?_
      exact⟨k+1,by omega,by omega,G0 (g7 [] rfl (by simp[hje,Nat.succ_mul]) (by simp)) (by simp[hje,Nat.succ_mul])⟩
  · skip
    try simp at hc0
    have hke : k = (p.strips a).length := by have:¬k<(p.strips a).length:=by simpa using hc0
                                             omega
    refine o5 ?_
    try simp only[zT,reduceIte,Nat.reduceEqDiff]
    simp[hpl,hke]
end Go.Tram
end
section
namespace Go.Tram
open Go.AM Go.Proofs
theorem b0P {p:Plan} {r:Int} (hr:inr r 0 (p.Rails.length-1)=true):p.Rails[r.toNat]?=some (p.rail r):=by
 have:=g6.1 hr;exact Plan.rail_get (by omega) (by omega)
theorem c3X (p:Plan) (a b:Int) (ha:inr a 0 (p.Rails.length-1)=true) (hb:inr b 0 (p.Rails.length-1)=true):a9 Tryz.prog 160 [.iptr (a3F p),I a,I b] (Bo (b5U p a b)):=by
 have ia:=g6.1 ha;have ib:=g6.1 hb;have ga:=b0P ha;have gb:=b0P hb;unfold a3F;refine oB Tryz.func160 Tryz.ntmps160 Tryz.results160 ?_;refine aW ?_;refine aD ?_ fun K hK=>by simp -dsimp [ga,gb,ia.1,ib.1];exact hK
 refine aW ?_;refine a6 ?_;simp[b5U];exact qj.2 (by simp;try omega)
theorem c0D (p:Plan) (a:Int) (x:Profile) (b:Int) (y:Profile) (hv:d8 p=true) (ha:inr a 0 (p.Rails.length-1)=true) (hb:inr b 0 (p.Rails.length-1)=true) (hx:z5 x=true) (hy:z5 y=true):
  a9 Tryz.prog 119 [.iptr (a3F p),I a,x.av,I b,y.av] (Bo (Y6 p a x b y)):=by
 have ia:=g6.1 ha;have ib:=g6.1 hb;have ra:=P9 hv (r:=a) (by omega) (by omega);have rb:=P9 hv (r:=b) (by omega) (by omega);have sa:=ra.s;have sb:=rb.s;have la:=a5Z p a;have lb:=a5Z p b;have hm:=c3X p a b ha hb;have hall:=c5G p a b;have hit:=c3w p a b ha hb (by omega) (by omega);generalize hsh:a3F p=sh at hm hall hit;refine a9.of_bodyG Tryz.func119 rfl (by decide) (by simp[Tryz.ntmps119]) ?_;intro J hJ;simp only[Tryz.ntmps119,Tryz.results119];refine gW ?_;refine a8 fun K1 hK1=>?_;refine gW ?_ fun K hK=>by simp -dsimp;refine cI (hm) ?_;simp -dsimp;exact hK
 refine c3 rfl (fun hc0=>?_) (fun hc0=>?_)
 ·skip
  try simp at hc0
  refine gW ?_;exact d9 (by simp[a5G hv ha hb hx hy hc0])
 ·skip
  try simp at hc0
  refine c5 ?_;refine zQ (hK1 _ _ ?_);refine gP [0,1,3,7,9,10] ?_;refine a8 fun K2 hK2=>?_;refine gW ?_ fun K hK=>by simp -dsimp;refine cI (hall) ?_;simp -dsimp;exact hK
  refine c8 ?_;refine gP [7,9,10,20] ?_;refine a1e hJ [7,9,10,20] (fun _=>[some (.els 2 [x.cells]),some (.els 2 [y.cells]),some (.els 1 [[Bo false]])]) (fun n=>((a2A p a b).take n).any (fun q=>Z5 q.1 x q.2 y)=false) rfl (hit) rfl (by simp) (by decide) (by decide) (by decide) (b2N p a b) ?_ ?_ ?_ ?_
  ·trivial
  ·exact c9 (by simp)
  ·intro n xv hxn hi l1 J1 hJ1;obtain⟨q,hq,rfl⟩:∃q,(a2A p a b)[n]?=some q/\b1H q=xv:=by simpa using hxn
   have hmq:=b6K (qd hq);have os:=V3 ra hmq.1;have ot:=V3 rb hmq.2;have hcf:=c4m q.1 q.2 x y os ot hx hy;obtain⟨s,t⟩:=q;simp only[b1H]at hcf ⊢;simp only[List.zip_cons_cons,List.zip_nil_left,List.zip_nil_right,List.cons_append,List.nil_append];refine gW ?_;refine gV ?_;simp only[a9q];intro J2 hJ2;refine gP [7,9,10,11,12,20] ?_;refine c8 ?_;refine gW ?_ fun K hK=>by simp -dsimp;refine cI (hcf) ?_;simp -dsimp;exact hK
   refine c3 rfl (fun hc1=>?_) (fun hc1=>?_)
   ·skip
    try simp at hc1
    have hany:(a2A p a b).any (fun q=>Z5 q.1 x q.2 y)=true:=qy.2 ⟨(s,t),qd hq,hc1⟩;refine gW ?_;exact d9 ⟨[some (.els 2 [x.cells]),some (.els 2 [y.cells]),some (.els 1 [[Bo true]])],aB [some 0,some 1,some 2],by simp[Y6,hany]⟩
   ·skip
    try simp at hc1
    refine c5 ?_;simp only[Z3,H5,a4w,reduceIte,Nat.reduceEqDiff,eq_self];refine⟨?_,aB [some 0,some 1,some 2]⟩;rw[qz,List.any_append,hi,hq];simp[hc1]
  ·intro hdone;refine zQ (hK2 _ _ ?_);refine gP [10] ?_;refine gW ?_;refine d9 ?_;rw[qg (by simp)]at hdone;simp[Y6,hdone]
end Go.Tram
end
