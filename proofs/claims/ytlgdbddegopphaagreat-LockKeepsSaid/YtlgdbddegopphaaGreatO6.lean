import Derived.Test.YtlgdbddegopphaaGreatO5
import Derived.Test.YtlgdbddegopphaaGreatLay
set_option maxRecDepth 100000
set_option maxHeartbeats 8000000
set_option linter.unusedVariables false
set_option linter.unusedSimpArgs false
section
namespace Go.Tram
open Go.AM Go.Proofs
theorem b6t (l:List F5):(l.map F5.cells).all (fun e=>e.all V9)=true:=by simp[V9]
@[simp high] theorem c2M (l:List F5) (g:List (Option Nat)) (n:Nat):(l.map F5.cells).map (fun e=>e.map (p5 g n))=l.map F5.cells:=x6 (fun x h=>P7 h g n) (b6t l)
@[simp high] theorem b9T (l:List F5) (H:Hp) (n:Nat):(l.map F5.cells).map (fun e=>e.map (M0 H n))=l.map F5.cells:=x6 (fun x h=>O8 h H n) (b6t l)
theorem a7G (l:List F5):(l.map F5.cells).take l.length=l.map F5.cells:=qg (by simp)
def N4 (l:List Profile):Bool:=decide (1<=l.length)&&(decide (l.length<=6)&&l.all z5)
theorem b3e (p:Plan) (l:List Profile) (hv:d8 p=true) (h:N4 l=true) (hN:p.Rails.length<=20):a9 Tryz.prog 68 [p.av, .lst 2 (l.map Profile.cells)] (.tup [.lst 4 ((A8 p l).map F5.cells),I 0]):=by
 have hl:1<=l.length/\l.length<=6/\∀x∈l,z5 x=true:=by simpa [N4]using h
 obtain⟨hl1,hl6,hpr⟩:=hl;have hpa:l.all z5=true:=by simpa using hpr
 have hcp:=b2D l (by omega);rw[hpa]at hcp;have hb:=c1e p hv;have hcf:=fun a x b y=>c0D p a x b y hv;generalize a3F p=sh at hb hcf;refine oB Tryz.func68 Tryz.ntmps68 Tryz.results68 ?_;refine aW ?_;refine aW ?_ fun K hK=>by simp -dsimp;refine cI (hb) ?_;simp -dsimp;exact hK
 refine a5 fun K1 hK1=>?_;refine aW ?_ fun K hK=>by simp -dsimp;refine cY (fun hm=>hcp) ?_;simp -dsimp;exact hK
 refine a7 rfl (fun hc0=>?_) (fun hc0=>?_)
 ·simp at hc0;omega
 ·refine b9 ?_;refine zQ (hK1 _ _ ?_);refine aP [1,2,6] ?_;refine aW ?_;refine a5 fun K2 hK2=>?_;refine aW ?_;refine b8 ?_;refine aP [1,2,6,8,39,40] ?_;refine c6 [1,2,6,39] (α:=Nat) (fun a=>[(40,I a),(8, .row 1 0 (fA p l a).length)]) (fun a=>[some (.els 2 [p.cells]),some (.els 4 ((fA p l a).map F5.cells))]) (fun a=>a<=p.Rails.length) (fun a=>p.Rails.length-a) 0 ?_ ?_ ?_
  ·simp
  ·exact(V7 8 4 (by simp)).trans (g7 [some 0,some 1] rfl (by simp[fA]) (by simp[fA]))
  rintro a a1;refine zN ?_;refine aW ?_;refine a5 fun K3 hK3=>?_;refine a7 rfl (fun hc1=>?_) (fun hc1=>?_)
  ·skip
   try simp at hc1
   have wa:=zW a (by omega);refine b9 ?_;refine zQ (hK3 _ _ ?_);refine aP [1,2,6,8,39,40] ?_;refine a5 fun K4 hK4=>?_;refine b8 ?_;refine aW ?_;refine aW ?_;refine b8 ?_;refine aP [1,2,6,8,9,39,40,43,44,45] ?_;refine c6 [1,2,6,9,39,40,43,44] (α:=Nat) (fun i=>[(45,I i),(8, .row 1 0 (fA p l a++fI p l a i).length)]) (fun i=>[some (.els 2 [p.cells]),some (.els 4 ((fA p l a++fI p l a i).map F5.cells))]) (fun i=>i<=l.length) (fun i=>l.length-i) 0 ?_ ?_ ?_
   ·simp
   ·exact g7 [some 0,some 1] rfl (by simp[fI]) (by simp[fI])
   rintro i i1;refine zN ?_;refine aW ?_;refine a5 fun K5 hK5=>?_;refine a7 rfl (fun hc2=>?_) (fun hc2=>?_)
   ·skip
    try simp at hc2
    have wi:=zW i (by omega);obtain⟨x,hx⟩:=gx (l:=l) (i:=i) hc2;have px:=hpr x (qd hx);refine b9 ?_;refine zQ (hK5 _ _ ?_);refine aP [1,2,6,8,9,39,40,43,44,45] ?_;refine a5 fun K6 hK6=>?_;refine b8 ?_;refine aW ?_ fun K hK=>by simp -dsimp [hx];exact hK
    refine aW ?_;refine b8 ?_;refine aP [1,2,6,8,9,10,11,12,39,40,43,44,45] ?_;refine c6 [1,2,6,9,10,11,39,40,43,44,45] (α:=Nat) (fun d=>[(12,I ((a:Int)+d)),(8, .row 1 0 (fA p l a++fI p l a i++fB p l a i d).length)]) (fun d=>[some (.els 2 [p.cells]),some (.els 4 ((fA p l a++fI p l a i++fB p l a i d).map F5.cells)),some (.els 2 [x.cells])]) (fun d=>d<=p.Rails.length-a) (fun d=>p.Rails.length-a-d) 0 ?_ ?_ ?_
    ·simp
    ·exact g7 [some 0,some 1,some 2] rfl (by simp[fB]) (by simp[fB])
    rintro d d1;refine zN ?_;refine a5 fun K7 hK7=>?_;refine aW ?_;refine a7 rfl (fun hc3=>?_) (fun hc3=>?_)
    ·skip
     try simp at hc3
     have wd:IntKind.i64.wrap ((a:Int)+d+1)=(a:Int)+d+1:=c4 (by omega) (by omega);refine b9 ?_;refine zQ (hK7 _ _ ?_);refine aP [1,2,6,8,9,10,11,12,39,40,43,44,45] ?_;refine a5 fun K8 hK8=>?_;refine b8 ?_;refine aW ?_;refine b8 ?_;refine aP [1,2,6,8,9,10,11,12,39,40,43,44,45,58,59,60] ?_;refine c6 [1,2,6,9,10,11,12,39,40,43,44,45,58,59] (α:=Nat) (fun k=>[(60,I k),(8, .row 1 0 (fA p l a++fI p l a i++fB p l a i d++fK p l a i (a+d) k).length)]) (fun k=>[some (.els 2 [p.cells]),some (.els 4 ((fA p l a++fI p l a i++fB p l a i d++fK p l a i (a+d) k).map F5.cells)),some (.els 2 [x.cells])]) (fun k=>k<=l.length) (fun k=>l.length-k) 0 ?_ ?_ ?_
     ·simp
     ·exact g7 [some 0,some 1,some 2] rfl (by simp[fK]) (by simp[fK])
     rintro k k1;have hbd:=b2d p l (N:=20) (a:=a) (i:=i) (d:=d) (k:=k) hN (by omega) hc1 i1 (by omega) k1;have hsK:=b6k p l a i (a+d) k;have hsB:=b4O p l a i d;have hsI:=a4H p l a i;generalize hout:fA p l a++fI p l a i++fB p l a i d++fK p l a i (a+d) k=out at hbd ⊢;have f1:R2 (out.length+1) 33:=n7 (by omega) (by omega);have hot:=a7G out;refine zN ?_;refine aW ?_;refine a5 fun K9 hK9=>?_;refine a7 rfl (fun hc4=>?_) (fun hc4=>?_)
     ·skip
      try simp at hc4
      have wk:=zW k (by omega);obtain⟨y,hy⟩:=gx (l:=l) (i:=k) hc4;have py:=hpr y (qd hy);have hF:b1D p l a i (a+d) k=((decide ((a:Int)<a+d)||decide (i<=k))&&Y6 p a x ((a:Int)+d) y):=by unfold b1D;rw[b2l hx,b2l hy,Int.natCast_add,show decide (a<a+d)=decide ((a:Int)<a+d)from decide_eq_decide.2 (by omega)]
      refine b9 ?_;refine zQ (hK9 _ _ ?_);refine aP [1,2,6,8,9,10,11,12,39,40,43,44,45,58,59,60] ?_;refine a5 fun K10 hK10=>?_;refine b8 ?_;refine aW ?_ fun K hK=>by simp -dsimp [hy];exact hK
      refine aW ?_ fun K hK=>by simp -dsimp;refine cY (fun hm=>hcf a x ((a:Int)+d) y (g6.2 (by omega)) (g6.2 (by omega)) px py) ?_;simp -dsimp;exact hK
      refine a7 rfl (fun hc5=>?_) (fun hc5=>?_)
      ·have hh:b1D p l a i (a+d) k=true:=hF.trans hc5;refine aV ?_ fun K hK=>by simp -dsimp [f1];exact hK
       refine zQ (hK10 _ _ ?_);refine aP [1,2,6,8,9,10,11,12,39,40,43,44,45,58,59,60] ?_;refine aV ?_ fun K hK=>by simp -dsimp [wk];exact hK
       refine zQ ?_;exact⟨k+1,by omega,by omega,g7 [some 0,some 4,some 2] rfl (by simp[hsK,hh,<-hout];omega) (by simp[hsK,hh,<-List.append_assoc,hout,hot])⟩
      ·have hh:b1D p l a i (a+d) k=false:=hF.trans hc5;refine b9 ?_;refine zQ (hK10 _ _ ?_);refine aP [1,2,6,8,9,10,11,12,39,40,43,44,45,58,59,60] ?_;refine aV ?_ fun K hK=>by simp -dsimp [wk];exact hK
       refine zQ ?_;exact⟨k+1,by omega,by omega,g7 [some 0,some 1,some 2] rfl (by simp only[hsK,hh,Bool.false_eq_true,if_false,List.append_nil,hout];simp) (by simp only[hsK,hh,Bool.false_eq_true,if_false,List.append_nil,hout];simp[hot])⟩
     ·skip
      try simp at hc4
      have hke:k=l.length:=by omega
      subst hke;refine d4 ?_;refine zQ (hK8 _ _ ?_);refine aP [1,2,6,8,9,10,11,12,39,40,43,44,45] ?_;refine aV ?_ fun K hK=>by simp -dsimp [wd];exact hK
      refine zQ ?_;exact⟨d+1,by omega,by omega,g7 [some 0,some 1,some 2] rfl (by simp[hsB,<-hout,Int.add_assoc]) (by simp[hsB,<-hout])⟩
    ·skip
     try simp at hc3
     have hde:d=p.Rails.length-a:=by omega
     subst hde;refine d4 ?_;refine zQ (hK6 _ _ ?_);refine aP [1,2,6,8,9,39,40,43,44,45] ?_;refine aV ?_ fun K hK=>by simp -dsimp [wi];exact hK
     refine zQ ?_;exact⟨i+1,by omega,by omega,g7 [some 0,some 1] rfl (by simp[a4H]) (by simp[a4H])⟩
   ·skip
    try simp at hc2
    have hie:i=l.length:=by omega
    subst hie;refine d4 ?_;refine zQ (hK4 _ _ ?_);refine aP [1,2,6,8,39,40] ?_;refine aV ?_ fun K hK=>by simp -dsimp [wa];exact hK
    refine zQ ?_;exact⟨a+1,by omega,by omega,g7 [some 0,some 1] rfl (by simp[a7h]) (by simp[a7h])⟩
  ·skip
   try simp at hc1
   have hae:a=p.Rails.length:=by omega
   subst hae;refine d4 ?_;refine zQ (hK2 _ _ ?_);refine aP [8] ?_;refine aW ?_;exact a6 (by simp[A8,a7G])
end Go.Tram
end
section
namespace Go.Tram.Lk
open Go.AM
structure Car where
 Name:Int
 Profile:Int
 Way:List Move
 Front:Int
 deriving DecidableEq,Inhabited
structure j0 where
 Plan:Plan
 Profiles:List Profile
 Singles:List (List Move)
 deriving Inhabited
structure b3q where
 Kind:Int
 Car:Int
 deriving DecidableEq,Inhabited
@[simp] def Car.cells (c:Car):List AV:=[I c.Name,I c.Profile,a1t c.Way,I c.Front]
abbrev Car.av (c:Car):AV:= .agg c.cells
@[simp] def r7 (l:List Move):List AV:=[a1t l]
@[simp] def j0.cells (s:j0):List AV:=[.lst 5 (s.Plan.Nodes.map Node.cells), .lst 5 (s.Plan.Rails.map Rail.cells), .lst 2 (s.Profiles.map Profile.cells), .lst 1 (s.Singles.map r7)]
abbrev j0.av (s:j0):AV:= .agg s.cells
@[simp] def b3q.cells (r:b3q):List AV:=[I r.Kind,I r.Car]
abbrev b3q.av (r:b3q):AV:= .agg r.cells
def a9p (p:Plan) (l:List (List Move)):Bool:=l.all (fun x=>inr x.length 1 100)&&(l.flatten.all (C6 p)&&decide (l.flatten.map (·.Rail)).Nodup)
def Q2 (s:j0):Bool:=d8 s.Plan&&(N4 s.Profiles&&(decide (s.Singles.length<=30)&&a9p s.Plan s.Singles))
def a0Q (s:j0) (r:Int):Option Nat:=s.Singles.findIdx? fun l=>l.any fun m=>decide (m.Rail=r)
def V2 (s:j0) (m:Move):Int:=match a0Q s m.Rail with|some i=>i|none=>-1
def Z2 (s:j0) (m:Move):Int:=match a0Q s m.Rail with|some i=>if s.Singles.flatten.contains m then 1 else 2|none=>0
def D8 (s:j0) (m n:Move):Bool:=decide (0<=V2 s m)&&(decide (V2 s m=V2 s n)&&decide (Z2 s m≠Z2 s n))
def H6 (s:j0) (a x b y:Int):Bool:=(A8 s.Plan s.Profiles).any fun f=>decide (f=⟨a,x,b,y⟩)||decide (f=⟨b,y,a,x⟩)
def B4 (l:List Move):List Int:=l.map (·.Rail)
def a5n (s:j0) (l:List Move):Bool:=decide (1<=l.length)&&(decide (l.length<=20)&&(decide (B4 l).Nodup&&wayB s.Plan l))
def a1k (s:j0) (c:Car):Bool:=inr c.Name 1 1000000&&(inr c.Profile 0 (s.Profiles.length-1)&&(a5n s c.Way&&inr c.Front 0 (c.Way.length-1)))
def E0 (s:j0) (c:Car):List R0:=if wayB s.Plan c.Way then O9 s.Plan c.Way (c.Way.length-1)else []
def x9 (p:Plan):List Int:=p.Nodes.map fun n=>if n.Kind=4 then 1 else 0
def a0W (s:j0) (a b:Car):Bool:=a.Way.all fun m=>b.Way.all fun n=> !H6 s m.Rail a.Profile n.Rail b.Profile&& !D8 s m n
structure Sta where
 Cars:List Car
 Points:List Int
 deriving DecidableEq,Inhabited
def Srt (l:List Car):Prop:=(l.map (·.Name)).Pairwise (· < ·)
def V5 (l:List Car) (n:Int):Option Car:=l.find? fun c=>decide (c.Name=n)
def C7 (c:Car):Move:=c.Way.getLast?.getD default
def N2 (s:j0) (c:Car) (m:Move):Bool:=decide (c.Way≠[])&&(G6 s.Plan (C7 c) m&&F8 s.Plan (C7 c))
def E4 (s:j0) (c:Car) (m:Move):R0:=if N2 s c m then F9 s.Plan (C7 c) m else⟨0,0⟩
def u0 (s:j0) (c:Car) (x:R0):Bool:=(E0 s c).any fun y=>decide (y.Node=x.Node)&&decide (y.Leg≠x.Leg)
def endB (s:j0) (c:Car) (m:Move):Bool:=decide (c.Way≠[])&& !G6 s.Plan (C7 c) m
def b5Y (c:Car) (m:Move):Bool:=(B4 c.Way).contains m.Rail
def a4c (l:List Car) (c:Car) (f:Car->Move->Bool):Option Int:=(l.find? fun x=>decide (x.Name≠c.Name)&&x.Way.any (f x)).map (·.Name)
def B5 (l:List Car) (c:Car):List Car:=l.takeWhile (fun x=>decide (x.Name<c.Name))++c::l.dropWhile (fun x=>decide (x.Name<=c.Name))
def u7 (s:j0) (x:Sta) (c:Car) (m:Move):b3q:=
 if endB s c m then⟨1,0⟩
 else if b5Y c m then⟨2,0⟩
 else match a4c x.Cars c (fun o n=>H6 s m.Rail c.Profile n.Rail o.Profile)with
  |some k=>⟨3,k⟩
  | none=>match (if N2 s c m then((B5 x.Cars c).find? fun o=>u0 s o (E4 s c m)).map (·.Name)else none)with
   |some k=>⟨4,k⟩
   |none=>match a4c x.Cars c (fun _ n=>D8 s m n)with
    |some k=>⟨5,k⟩
    |none=>if 20<=c.Way.length then⟨6,0⟩else⟨0,0⟩
def a3C (s:j0) (c:Car) (m:Move) (p:List Int):List Int:=if N2 s c m then p.set (E4 s c m).Node.toNat (E4 s c m).Leg else p
def r5 (c:Car) (m:Move):Car:={c with Way:=c.Way++[m]}
end Go.Tram.Lk
end
section
namespace Go.Tram.Lk
open Go.AM Go.Proofs
theorem x4 (x lo hi:Int):a9 Tryz.prog 42 [I x,I lo,I hi] (Bo (inr x lo hi)):=by
 refine oB Tryz.func42 Tryz.ntmps42 Tryz.results42 ?_;refine aW ?_;refine aW ?_;exact a6 (by simp_all [inr])
theorem c4t (m:Move):a9 Tryz.prog 142 [m.av] (b2f m).av:=by
 refine oB Tryz.func142 Tryz.ntmps142 Tryz.results142 ?_;refine aW ?_;refine aW ?_;exact a6 (by simp[b2f])
theorem q9 (k c:Int):a9 Tryz.prog 131 [Bo false,I k,I c] (.tup []):=by
 refine oB Tryz.func131 Tryz.ntmps131 Tryz.results131 ?_;refine aW ?_;refine a7 rfl (fun hc0=>?_) (fun hc0=>?_)
 ·simp at hc0
 ·refine b9 ?_
  try simp only[zT,reduceIte,Nat.reduceEqDiff]
  simp
def b1k (k c:Int):Value:= .iface 222 (.agg #[.int .i64 k, .int .i64 c])
theorem I9 (k c:Int):l8 Tryz.prog 131 [Bo true,I k,I c] [] [] (b1k k c) [] []:=by
 refine l8.of_bodyG [] Tryz.func131 rfl (by decide) (by simp[Tryz.ntmps131]) rfl rfl ?_;intro J hJ;simp only[Tryz.ntmps131,Tryz.results131];refine gW ?_;refine c3 rfl (fun hc0=>?_) (fun hc0=>?_)
 ·refine c4a (List.cons_ne_nil _ _) rfl (by decide) rfl rfl rfl rfl fun K hK=>?_;simp only[List.dropLast];simp -dsimp;refine hK _ _ _ _ _ rfl ?_;clear hK K;exact⟨rfl,[],rfl,by simp,by simp,by simp⟩
 ·simp at hc0
end Go.Tram.Lk
end
section
namespace Go.Tram.Lk
open Go.AM Go.Proofs
abbrev Kvs:=List (List KC×Value)
structure b1C (s:j0) (fo si up:Kvs):Prop where
 fo:∀a x b y:Int,(s8 fo [.i .i64 a, .i .i64 x, .i .i64 b, .i .i64 y]).getD (.bool false)= .bool (H6 s a x b y)
 si:∀r:Int,s8 si [.i .i64 r]=(a0Q s r).map fun(i:Nat)=>(.int .i64 i:Value)
 up:∀m:Move,(a0Q s m.Rail).isSome=true->(s8 up [.i .i64 m.Rail, .b m.Back]).getD (.bool false)= .bool (s.Singles.flatten.contains m)
def d5 (s:j0) (fo si up:Kvs) (x y:AV):List AV:=s.cells++[.mpc true [.i .i64, .i .i64, .i .i64, .i .i64] fo, .mpc false [.i .i64] si, .mpc true [.i .i64, .b] up,x,y]
theorem b5p {s:j0} {fo si up:Kvs} (h:b1C s fo si up) (x y:AV) (a b:Car) (m n:Move):a9 Tryz.prog 85 [.iptr (d5 s fo si up x y),a.av,m.av,b.av,n.av] (Bo (H6 s m.Rail a.Profile n.Rail b.Profile)):=by
 have hf:=h.fo m.Rail a.Profile n.Rail b.Profile;refine oB Tryz.func85 Tryz.ntmps85 Tryz.results85 ?_;refine aW ?_ fun K hK=>by simp -dsimp [d5];exact hK
 refine aD ?_ fun K hK=>by simp -dsimp [d5];refine d7 (Bo (H6 s m.Rail a.Profile n.Rail b.Profile)) (fun hm=>congrArg AV.v hf) ?_;simp -dsimp [d5];exact hK
 exact a6 (by simp)
theorem b6y {s:j0} {fo si up:Kvs} (h:b1C s fo si up) (x y:AV) (m:Move) (hn:a0Q s m.Rail=none):a9 Tryz.prog 127 [.iptr (d5 s fo si up x y),m.av] (.tup [I (V2 s m),I (Z2 s m)]):=by
 have hs:=h.si m.Rail;rw[hn]at hs;refine oB Tryz.func127 Tryz.ntmps127 Tryz.results127 ?_;refine aW ?_ fun K hK=>by simp -dsimp [d5];exact hK
 refine aD ?_ fun K hK=>by simp -dsimp [d5];refine d7 (.tup [I 0,Bo false]) (fun hm=>by simp[hs]) ?_;simp -dsimp [d5];exact hK
 refine a5 fun K1 hK1=>?_;refine b8 ?_;refine aW ?_ fun K hK=>by simp -dsimp [d5];exact hK
 refine a7 rfl (fun hc0=>?_) (fun hc0=>?_)
 ·refine aW ?_ fun K hK=>by simp -dsimp [d5];exact hK
  exact a6 (by simp[V2,Z2,hn])
 ·simp at hc0
theorem b4U {s:j0} {fo si up:Kvs} (h:b1C s fo si up) (x y:AV) (m:Move) (i:Nat) (hn:a0Q s m.Rail=some i):a9 Tryz.prog 127 [.iptr (d5 s fo si up x y),m.av] (.tup [I (V2 s m),I (Z2 s m)]):=by
 have hs:=h.si m.Rail;rw[hn]at hs;have hu:=h.up m (by rw[hn];rfl);refine oB Tryz.func127 Tryz.ntmps127 Tryz.results127 ?_;refine aW ?_ fun K hK=>by simp -dsimp [d5];exact hK
 refine aD ?_ fun K hK=>by simp -dsimp [d5];refine d7 (.tup [I i,Bo true]) (fun hm=>by simp[hs]) ?_;simp -dsimp [d5];exact hK
 refine a5 fun K1 hK1=>?_;refine b8 ?_;refine aW ?_ fun K hK=>by simp -dsimp [d5];exact hK
 refine a7 rfl (fun hc0=>?_) (fun hc0=>?_)
 ·simp at hc0
 ·refine aD ?_ fun K hK=>by simp -dsimp [d5];refine d7 (Bo (s.Singles.flatten.contains m)) (fun hm=>congrArg AV.v hu) ?_;simp -dsimp [d5];exact hK
  refine a7 rfl (fun hc1=>?_) (fun hc1=>?_)
  ·refine aW ?_ fun K hK=>by simp -dsimp [d5];exact hK
   exact a6 (by simp_all [V2,Z2])
  ·refine b9 ?_;refine zQ (hK1 _ _ ?_);refine aP [6] ?_;refine aW ?_ fun K hK=>by simp -dsimp [d5];exact hK
   exact a6 (by simp_all [V2,Z2])
theorem b6G {s:j0} {fo si up:Kvs} (h:b1C s fo si up) (x y:AV) (m:Move):a9 Tryz.prog 127 [.iptr (d5 s fo si up x y),m.av] (.tup [I (V2 s m),I (Z2 s m)]):=by
 cases hn:a0Q s m.Rail with
 |none=>exact b6y h x y m hn
 |some i=>exact b4U h x y m i hn
theorem b0x {s:j0} {fo si up:Kvs} (h:b1C s fo si up) (x y:AV) (m n:Move):a9 Tryz.prog 86 [.iptr (d5 s fo si up x y),m.av,n.av] (Bo (D8 s m n)):=by
 have h1:=b6G h x y m;have h2:=b6G h x y n;refine oB Tryz.func86 Tryz.ntmps86 Tryz.results86 ?_;refine aW ?_;refine aW ?_ fun K hK=>by simp -dsimp;refine cI (h1) ?_;simp -dsimp;exact hK
 refine aW ?_ fun K hK=>by simp -dsimp;refine cI (h2) ?_;simp -dsimp;exact hK
 refine aW ?_;exact a6 (by simp[D8,Bool.beq_eq_decide_eq,bne,Bool.and_assoc])
end Go.Tram.Lk
end
section
namespace Go.Tram.Lk
open Go.AM Go.Proofs
theorem b6g (l:List Move) (f:FuncId) (cl:List (List AV)) (q:Move->Bool) (h:∀x∈l,a9 Tryz.prog f (.agg x.cells::H7 cl) (Bo (q x))) (hn:l.length<=100000):
  a9 Tryz.prog 140 [.lst 2 (l.map Move.cells), .clo f (H7 cl)] (I (Y7 l q)):=by
 refine oB Tryz.func140 Tryz.ntmps140 Tryz.results140 ?_;refine aW ?_;refine a5 fun K1 hK1=>?_;refine aW ?_;refine b8 ?_;refine aP [0,1,7,8] ?_;refine c6 [0,1,7] (α:=Nat) (fun k=>[(8,I k)]) (fun _=>[]) (fun k=>k<=l.length/\(l.take k).any q=false) (fun k=>l.length-k) 0 ?_ ?_ ?_
 ·simp
 ·exact c9 (by simp)
 rintro k ⟨k1,k2⟩;refine zN ?_;refine aW ?_;refine a5 fun K2 hK2=>?_;refine a7 rfl (fun hc0=>?_) (fun hc0=>?_)
 ·skip
  try simp at hc0
  obtain⟨x,hx⟩:=gx (l:=l) (i:=k) hc0;have wk:=zW k (by omega);refine b9 ?_;refine zQ (hK2 _ _ ?_);refine aP [0,1,7,8] ?_;refine a5 fun K3 hK3=>?_;refine b8 ?_;refine aW ?_;refine aW ?_ fun K hK=>by simp -dsimp [hx];refine cI (h x (qd hx)) ?_;simp -dsimp [hx];exact hK
  refine a7 rfl (fun hc1=>?_) (fun hc1=>?_)
  ·skip
   try simp at hc1
   refine aW ?_;exact a6 (by simp[P2 hx hc1 k2])
  ·skip
   try simp at hc1
   refine b9 ?_;refine zQ (hK3 _ _ ?_);refine aP [0,1,7,8] ?_;refine aV ?_ fun K hK=>by simp -dsimp [wk];exact hK
   refine zQ ?_;exact⟨k+1,⟨by omega,by rw[any_take hx,k2,hc1];rfl⟩,by omega,c9 (by simp)⟩
 ·skip
  try simp at hc0
  have hall:=v6 (by omega) k2;refine d4 ?_;refine zQ (hK1 _ _ ?_);refine aP [] ?_;refine aW ?_;exact a6 (by simp[F0 hall])
theorem N9 (l:List Move) (f:FuncId) (cl:List (List AV)) (q:Move->Bool) (h:∀x∈l,a9 Tryz.prog f (.agg x.cells::H7 cl) (Bo (q x))) (hn:l.length<=100000):
  a9 Tryz.prog 102 [.lst 2 (l.map Move.cells), .clo f (H7 cl)] (Bo (l.any q)):=by
 refine oB Tryz.func102 Tryz.ntmps102 Tryz.results102 ?_;refine aW ?_;refine aW ?_ fun K hK=>by simp -dsimp;refine cI (b6g l f cl q h hn) ?_;simp -dsimp;exact hK
 exact a6 (by simp[U4])
theorem c0v (m x:Move):a9 Tryz.prog 133 [x.av, .iptr m.cells] (Bo (decide (x.Rail=m.Rail))):=by
 refine oB Tryz.func133 Tryz.ntmps133 Tryz.results133 ?_;refine aW ?_;refine aW ?_;exact a6 (by simp[Bool.beq_eq_decide_eq])
theorem b5W (c:Car) (m:Move):c.Way.any (fun x=>decide (x.Rail=m.Rail))=b5Y c m:=by
 rw[qj,qy];simp only[b5Y,B4,List.contains_iff_mem,List.mem_map,decide_eq_true_eq]
end Go.Tram.Lk
end
section
namespace Go.Tram.Lk
open Go.AM Go.Proofs
theorem b2A (v:Value) (w:World):CallsDIn Fence.wide 0 Tryz.prog 93 #[v] .returning w (fun e u w1=>(∃x,e= .returned x)/\u= .returning/\w1=w):=by
 refine callsDIn_of_wpSIn Tryz.func93 rfl trivial fun c₀ cs hu=>?_;apply wpSIn_seq;apply wpSIn_region;simp[wpOpsSIn,go_sem,recoverD,hu,Tryz.ntmps93,Exit.thenS];apply wpSIn_seq;apply wpSIn_region;simp[wpOpsSIn,go_sem,Exit.thenS];refine wpSIn_cond (t:=false) (by simp[Act.eval,Array.replicate]) ?_;simp only[Bool.false_eq_true,if_false];refine wpSIn_of_wpIn rfl (wpIn_skip ?_)
 cases c₀
 simp_all [bodyPostS,results,Tryz.results93]
theorem c2m {J:Jt} (hJ:JOk J) {nt:Nat} {kp:List Nat} {kv:Nat->Value} {T:Tm} {H:Hp} {a:Act} {w w':World} (hs:SG J nt kp kv T H a w) (he:Ext (fun _=>False) w w'):SG J nt kp kv T H a w':=by
 obtain⟨⟨S0,ρ,L,hc,hL,hj,Ds,h1,h2,h3⟩,hk⟩:=hs;refine⟨⟨S0,ρ,L,hc.foreign he.size (fun b hb _=>he.block b hb (fun h=>h)) (fun b hb=>⟨qq (hc.wf.low b hb) he.size,Or.inl hb⟩),hL,
  hJ _ _ _ _ _ _ hj hc.wf.low hc.owned (he.mono (fun _ _ h=>h.elim)) (fun b hb=>⟨qq (hc.owned b hb).1 he.size,Or.inl hb⟩),Ds,h1,h2,fun D hD=>⟨(h3 D hD).1,(h3 D hD).2.1,?_⟩⟩,hk⟩
 rw[he.block D (hc.wf.low D (h3 D hD).1) (fun h=>h)];exact(h3 D hD).2.2
def c0o (w:World):Jt:={rel:=fun _ S' O w'=>S'=(fun b=>b<w.heap.size)/\Ext (fun b=>w.heap.size<=b) w w'/\∀b,O b->w.heap.size<=b,mark:=fun _=>False,base:=[]}
theorem c1K (w:World):JOk (c0o w):=by
 rintro y S' O O' A A' ⟨rfl,h1,h2⟩ _ _ he ho;refine⟨rfl,h1.trans (he.mono fun b _ hb=>h2 b hb),fun b hb=>?_⟩
 rcases(ho b hb).2 with h|h
 ·exact h2 b h
 ·exact Nat.le_trans h1.size h
theorem b8H {w w':World} (h:Ext (fun b=>w.heap.size<=b) w w'):Ext (fun _=>False) w w':=
 ⟨h.os,h.tape,h.output,h.size,fun b hb _=>h.block b hb (by omega),h.cells⟩
theorem c4R (w:World) {ty:TypeId} {x y p:Value} (hx:x.oneCell'=true) (hy:y.oneCell'=true) {a:Act} (hsz:a.tmps.size=20) (hd:a.defers=[]) (h0:a.tmps.getD 0 undef=p) (h2:a.tmps.getD 2 undef= .iface ty (.agg #[x,y])):
  SG (c0o w) 20 [] (fun _=>undef) [(2, .ifc ty (.agg [.v x, .v y])),(0, .v p)] [] a w:=by
 have ic:∀v:Value,v.oneCell'=true->I0 v=true:=by intro v h;cases v<;>simp_all [Value.oneCell',I0]
 refine⟨⟨fun b=>b<w.heap.size,fun _=>none,fun _=>False,⟨⟨(by intro r r' l l' b h;cases h),(by intro r l b h;cases h),(by intro r l h;cases h),fun b h=>h,fun _ _=>trivial⟩,hsz,rfl,?_,(by intro r row h;cases r<;>cases h),(by intro r h;rfl)⟩,fun r h=>h.elim,⟨rfl,Ext.refl _ _,?_⟩,[],by simp[hd,c0o],List.nodup_nil,by simp⟩,by simp⟩
 ·intro t;show e8 _ _ _ _ _ (a.tmps.getD t undef);simp only[Go.AM.i8]
  split
  ·rename_i e;subst e;rw[h2];refine .ifc _ _ _ (.pure _ _ (.agg _ [x,y] rfl (by intro v hv;simp at hv;rcases hv with rfl|rfl;exact ic _ hx;exact ic _ hy) ?_));intro i c z h1 h3
   match i,h1,h3 with
   |0,h1,h3=>simp at h1 h3;subst h1 h3;exact .v _
   |1,h1,h3=>simp at h1 h3;subst h1 h3;exact .v _
   |i+2,h1,_=>simp at h1
  ·split
   ·rename_i e;subst e;rw[h0];exact .pure _ _ (.v _)
   ·exact .pure _ _ (.any _)
 ·rintro b ⟨r,l,h,_⟩;cases h
theorem b2i {J:Jt} {nt:Nat} {kp:List Nat} {kv:Nat->Value} {T T':Tm} {H:Hp} {a:Act} {w:World} (hs:SG J nt kp kv T H a w) (h:∀p∈T',Go.AM.i8 T p.1=p.2) (hy:Go.AM.i8 T' 999999=Go.AM.i8 T 999999):SG J nt kp kv T' H a w:=by
 obtain⟨⟨S0,ρ,L,hc,hL,hj,hm⟩,hk⟩:=hs;refine⟨⟨S0,ρ,L,⟨hc.wf,hc.size,hc.defers,fun t=>?_,hc.rows,hc.dead⟩,hL,by rw[hy];exact hj,hm⟩,hk⟩;have gen:∀l:Tm,(∀p∈l,Go.AM.i8 T p.1=p.2)->e8 w (Sx S0 ρ) ρ L (Go.AM.i8 l t) ((a2u a).tmps.getD t undef):=by
  intro l
  induction l with
  |nil=>intro _;exact .pure _ _ (.any _)
  |cons q l ih=>
   intro hq;obtain⟨i,x⟩:=q;simp only[Go.AM.i8];have h9:=hq (i,x) (by simp);simp only at h9
   split
   ·rename_i e;subst e;rw[<-h9];exact hc.tmps _
   ·exact ih fun p hp=>hq p (by simp[hp])
 exact gen T' h
theorem b4z (k:Nat) {F:Fence} {P:Program} {ops:Array Oper} {Q:Exit->Act->World->Prop} {l:List Oper} {a:Act} {w:World} (h:wpListIn F 0 P ops Q (l.take k++l.drop k) a w):wpListIn F 0 P ops Q l a w:=by rwa [List.take_append_drop]at h
theorem a7O {J:Jt} {nt:Nat} {kp:List Nat} {kv:Nat->Value} {T:Tm} {H:Hp} {a:Act} {w:World} (t r:Nat) (row:List AV) (x y:Value) (hJ:JOk J) (hnt:nt<=999999) (hs:SG J nt kp kv T H a w) (ht:Go.AM.i8 T t=AV.ptr r 0 0) (hr:g8 H r=some (.els 2 [row])) (n8:row.length=2) (hx:x.oneCell'=true) (hy:y.oneCell'=true):
  CallsDIn Fence.wide 0 Tryz.prog 93 #[a.tmps.getD t undef] (.panicking [{v:= .iface 222 (.agg #[x,y]),recovered:=false}]) w (fun e u w1=>(∃x,e= .returned x)/\settle u= .returning/\SG J nt kp kv T (p9 H r (some (.els 2 [[.v x, .v y]]))) a w1):=by
 obtain⟨p,hp⟩:∃p,p=a.tmps.getD t undef:=⟨_,rfl⟩;rw[<-hp];refine callsDIn_of_wpSIn Tryz.func93 rfl trivial fun c₀ cs hu=>?_;apply wpSIn_seq;apply wpSIn_region;simp[wpOpsSIn,go_sem,recoverD,hu,Tryz.ntmps93,Exit.thenS];apply wpSIn_seq;apply wpSIn_region;simp[wpOpsSIn,go_sem,Exit.thenS];refine wpSIn_cond (t:=true) (by simp[Act.eval,Array.replicate]) ?_;simp only[if_true];refine wpSIn_of_wpIn rfl ?_;have hJ1:=c1K w;refine wpIn_seq (wpIn_mono (Q:=fun e a' w'=>e=Exit.normal/\SG (c0o w) 20 [] (fun _=>undef) [(4,Bo true),(3, .ptr 0 0 0),(0, .v p)] [some (.els 2 [[.v x, .v y]])] a' w') ?_ ?_)
 ·refine wpIn_mono (c2p (J:=c0o w) (kp:=[]) (T:=[(2, .ifc 222 (.agg [.v x, .v y])),(0, .v p)]) (H:=[]) (Q:=fun e T' H'=>e=Exit.normal/\Go.AM.i8 T' 4=Bo true/\Go.AM.i8 T' 3= .ptr 0 0 0/\Go.AM.i8 T' 0= .v p/\Go.AM.i8 T' 999999= .any/\H'=[some (.els 2 [[.v x, .v y]])]) rfl (by decide) rfl rfl (fun K hK=>?_) hJ1 (fun _=>undef) _ w (c4R w hx hy (by simp) rfl (by simp) (by simp))) ?_
  ·simp -dsimp;refine hK _ _ ?_;exact⟨rfl,by simp,by simp,by simp,by simp,by simp⟩
  rintro e a' w' ⟨T',H',⟨rfl,h4,h3,h0,h9,rfl⟩,hs'⟩;exact⟨rfl,b2i hs' (by simp[h4,h3,h0]) (by rw[h9];rfl)⟩
 rintro e a1 w1 ⟨rfl,hs1⟩;refine wpIn_seq (wpIn_mono (Q:=fun e a' w'=>e=Exit.normal/\SG (c0o w) 20 [] (fun _=>undef) [(3, .ptr 0 0 0),(0, .v p)] [some (.els 2 [[.v x, .v y]])] a' w') ?_ ?_)
 ·refine wpIn_mono (a8 (J:=c0o w) (kp:=[]) (T:=[(4,Bo true),(3, .ptr 0 0 0),(0, .v p)]) (H:=[some (.els 2 [[.v x, .v y]])]) (Q:=fun e T' H'=>e=Exit.normal/\Go.AM.i8 T' 3= .ptr 0 0 0/\Go.AM.i8 T' 0= .v p/\Go.AM.i8 T' 999999= .any/\H'=[some (.els 2 [[.v x, .v y]])]) (fun K1 hK1=>?_) hJ1 (fun _=>undef) a1 w1 hs1) ?_
  ·refine gR fun K hK=>?_;simp -dsimp;apply hK;clear hK K;refine hK1 _ _ (c3 rfl (fun hc0=>?_) (fun hc0=>?_))
   ·simp at hc0
   ·exact c5 ⟨rfl,by simp,by simp,by simp,by simp⟩
  rintro e a' w' ⟨T',H',⟨rfl,h3,h0,h9,rfl⟩,hs'⟩;exact⟨rfl,b2i hs' (by simp[h3,h0]) (by rw[h9];rfl)⟩
 rintro e a2 w2 ⟨rfl,hs2⟩;show Code.wpIn Fence.wide 0 _ _ _ a2 w2;refine wpIn_region_lit (b4z 3 ?_);simp only[List.take,List.drop];refine A6 (ro:=none) (J:=c0o w) (kp:=[]) (kv:=fun _=>undef) hJ1 (nt:=20) (by decide) (dsts:=[some 16,some 17,some 18,some 19,none]) (K:=fun T' H'=>Go.AM.i8 T' 16= .v p/\Go.AM.i8 T' 18= .agg [.v x, .v y]) (by intro j;match j with|0=>rfl|1=>rfl|2=>rfl|3=>rfl|4=>rfl|j+5=>rfl) rfl ?_ _ (by simp[o4]) _ _ a2 w2 ?_ hs2
 ·rintro T3 H3 a3 w3 ⟨k1,k2⟩ hs3;have hlt:=W4 hr;obtain⟨⟨S3,ρ3,L3,hc3,_,⟨_,he3,_⟩,Ds,hd3,_,hD3⟩,_⟩:=hs3;have hdef:a3.defers=[]:=by
   cases Ds with
   |nil=>exact hd3
   |cons D Ds=>exact(hD3 D (by simp)).2.1.elim
  have e16:a3.tmps.getD 16 undef=p:=by have:=hc3.tmps 16;rw[k1]at this;exact j5 this
  have e18:a3.tmps.getD 18 undef= .agg #[x,y]:=by
   have:=hc3.tmps 18;rw[k2]at this;obtain⟨vs,hv,hl,hcs⟩:=A2 this
   match vs,hl with
   |[u,v],_=>
    have h1:=j5 (hcs 0 _ _ rfl rfl).2;have h2:=j5 (hcs 1 _ _ rfl rfl).2;have:(a2u a3).tmps.getD 18 undef=a3.tmps.getD 18 undef:=rfl;rw[<-this,hv,h1,h2]
  have hsz:a3.tmps.size=20:=hc3.size;have hout:=c2m hJ hs (b8H he3);obtain⟨q,hq⟩:∃q,p= .pointer (some q):=by
   obtain⟨⟨S0,ρ,L,hc,_⟩,_⟩:=hs;have h1:=hc.tmps t;rw[ht]at h1;obtain⟨l,hl,_⟩:=hc.rows r _ hr;have e:(a2u a).tmps.getD t undef=p:=hp.symm;rw[e]at h1
   cases h1 with
   |pure _ _ h=>cases h
   |ptr _ _ _ _ _ _ h3=>obtain⟨b,_,h⟩:=h3 l hl;exact⟨_,h⟩
  obtain⟨w4,hrun,hs4⟩:=b9E (P:=Tryz.prog) (ty:=62) hJ hnt hout ht hr hlt n8 hx hy (by simp) (by simp);rw[<-hp]at hrun;refine wpListIn_plain rfl fun K hK=>B9 (by simp[o4]) ?_;unfold Oper.wp;rw[show(execOp a3.eval _).run Tryz.prog w3= .ok (.value p) w3 by simp[execOp,Act.eval,e16,hq],Oper.upon_value];refine hK _ _ (wpListIn_plain rfl fun K hK=>B9 (by simp[o4]) ?_);unfold Oper.wp;have g19:(a3.put (some 19) p).tmps.getD 19 undef=p:=by rw[a2b a3 (some 19) p 19 (fun k e=>by cases e;rw[hsz];decide)];simp
  have g18:(a3.put (some 19) p).tmps.getD 18 undef= .agg #[x,y]:=by rw[a2b a3 (some 19) p 18 (fun k e=>by cases e;rw[hsz];decide)];simp[e18]
  rw[show(execOp (a3.put (some 19) p).eval _).run Tryz.prog w3= .ok .skip w4 by simp[execOp,Act.eval,g19,g18,hrun],Oper.upon_skip];refine hK _ _ ?_;exact⟨hdef,_,rfl, .tuple #[],by simp[results,Tryz.results93],⟨_,rfl⟩,rfl,hs4⟩
 ·simp -dsimp
theorem a0E:b4c Tryz.prog 93 222:=
 ⟨fun w vs=>by simp[callFunc,Tryz.func93];rfl,b2A,fun t r row x y h1 h2 h3 h4 h5 h6 h7 h8=>a7O t r row x y h1 h2 h3 h4 h5 h6 h7 h8⟩
end Go.Tram.Lk
end
section
namespace Go.Tram.Lk
open Go.AM Go.Proofs
abbrev tB:Value:= .bool true
abbrev kI (a:Int):List KC:=[.i .i64 a]
abbrev kF (a x b y:Int):List KC:=[.i .i64 a, .i .i64 x, .i .i64 b, .i .i64 y]
abbrev kM (m:Move):List KC:=[.i .i64 m.Rail, .b m.Back]
def b5w (kv:Kvs) (f:F5):Kvs:=M9 (M9 kv (kF f.RailA f.ProfileA f.RailB f.ProfileB) tB) (kF f.RailB f.ProfileB f.RailA f.ProfileA) tB
def b7c (l:List F5) (n:Nat):Kvs:=(l.take n).foldl b5w []
theorem b4Y {l:List F5} {n:Nat} {f:F5} (h:l[n]?=some f):b7c l (n+1)=b5w (b7c l n) f:=by
 unfold b7c;rw[qz,h];simp
theorem b9R (a x b y:Int):∀(l:List F5) (kv:Kvs),s8 (l.foldl b5w kv) (kF a x b y)=if (l.any fun f=>decide (f=⟨a,x,b,y⟩)||decide (f=⟨b,y,a,x⟩))=true then some tB else s8 kv (kF a x b y)
 |[],kv=>rfl
 | f::l,kv=>by
  rw[List.foldl_cons,b9R a x b y l,List.any_cons]
  cases h:l.any fun f=>decide (f=⟨a,x,b,y⟩)||decide (f=⟨b,y,a,x⟩)with
  |true=>simp
  | false=>
   rw[if_neg (by simp),Bool.or_false];unfold b5w;rw[E9,E9];obtain⟨c,d,e,g⟩:=f;have i1:(kF a x b y=kF e g c d)↔((⟨c,d,e,g⟩:F5)=⟨b,y,a,x⟩):=by
    constructor
    ·intro h;simp[kF]at h;obtain⟨rfl,rfl,rfl,rfl⟩:=h;rfl
    ·intro h;cases h;rfl
   have i2:(kF a x b y=kF c d e g)↔((⟨c,d,e,g⟩:F5)=⟨a,x,b,y⟩):=by
    constructor
    ·intro h;simp[kF]at h;obtain⟨rfl,rfl,rfl,rfl⟩:=h;rfl
    ·intro h;cases h;rfl
   simp only[i1,i2]
   by_cases h1:(⟨c,d,e,g⟩:F5)=⟨a,x,b,y⟩
   ·rw[decide_eq_true h1,if_pos h1,Bool.true_or,if_pos rfl];split<;>rfl
   ·rw[decide_eq_false h1,if_neg h1,Bool.false_or]
    by_cases h2:(⟨c,d,e,g⟩:F5)=⟨b,y,a,x⟩
    ·rw[decide_eq_true h2,if_pos h2,if_pos rfl]
    ·rw[decide_eq_false h2,if_neg h2,if_neg (by simp)]
def sgA (l:List (List Move)) (i:Nat):List (Nat×Move):=(List.range i).flatMap fun j=>(l[j]?.getD []).map fun m=>(j,m)
def sgK (l:List (List Move)) (i k:Nat):List (Nat×Move):=((l[i]?.getD []).take k).map fun m=>(i,m)
theorem a1C (l:List (List Move)) (i:Nat) {x:List Move} (h:l[i]?=some x):sgA l (i+1)=sgA l i++sgK l i x.length:=by
 unfold sgA sgK;rw[List.range_succ,List.flatMap_append];simp[h]
theorem a6X (l:List (List Move)) (i k:Nat) {x:List Move} {m:Move} (h:l[i]?=some x) (hm:x[k]?=some m):sgK l i (k+1)=sgK l i k++[(i,m)]:=by
 unfold sgK;rw[h];simp[qz,hm]
def b3n (kv:Kvs) (p:Nat×Move):Kvs:=M9 kv (kI p.2.Rail) (.int .i64 p.1)
def b8s (kv:Kvs) (p:Nat×Move):Kvs:=M9 kv (kM p.2) tB
def O2 (ps:List (Nat×Move)):Kvs:=ps.foldl b3n []
def R4 (ps:List (Nat×Move)):Kvs:=ps.foldl b8s []
theorem b4y (ps:List (Nat×Move)) (p:Nat×Move):O2 (ps++[p])=M9 (O2 ps) (kI p.2.Rail) (.int .i64 p.1):=by simp[O2,b3n]
theorem b4D (ps:List (Nat×Move)) (p:Nat×Move):R4 (ps++[p])=M9 (R4 ps) (kM p.2) tB:=by simp[R4,b8s]
theorem a6K {r:Int}:∀(ps:List (Nat×Move)) (kv:Kvs),(∀p∈ps,p.2.Rail≠r)->s8 (ps.foldl b3n kv) (kI r)=s8 kv (kI r)
 |[],kv,_=>rfl
 |p::ps,kv,h=>by
  rw[List.foldl_cons,a6K ps _ fun q hq=>h q (by simp[hq])];unfold b3n;rw[E9,if_neg];intro e;have:=h p (by simp);simp at e;exact this e.symm
theorem b0f {p:Nat×Move}:∀(ps:List (Nat×Move)) (kv:Kvs),(ps.map (·.2.Rail)).Nodup->p∈ps->s8 (ps.foldl b3n kv) (kI p.2.Rail)=some (.int .i64 p.1)
 | q::ps,kv,hn,hp=>by
  rw[List.map_cons,List.nodup_cons]at hn;rw[List.foldl_cons]
  rcases List.mem_cons.1 hp with rfl|hp
  ·rw[a6K ps _ fun q hq e=>hn.1 (by rw[<-e];exact qu (f:=(·.2.Rail)) hq)]
   unfold b3n;rw[E9,if_pos rfl]
  ·exact b0f ps _ hn.2 hp
theorem c0n (m:Move):∀(ps:List (Nat×Move)) (kv:Kvs),s8 (ps.foldl b8s kv) (kM m)=if (ps.map (·.2)).contains m=true then some tB else s8 kv (kM m)
 |[],kv=>by simp
 | p::ps,kv=>by
  rw[List.foldl_cons,c0n m ps,List.map_cons];unfold b8s;rw[E9];obtain⟨j,⟨r,b⟩⟩:=p;obtain⟨r',b'⟩:=m
  by_cases h1:r'=r/\b'=b
  ·obtain⟨rfl,rfl⟩:=h1;simp
  ·have h2:¬(⟨r',b'⟩:Move)=⟨r,b⟩:=by intro e;simp at e;exact h1 e
   have h3:¬(kM ⟨r',b'⟩=kM ⟨r,b⟩):=by intro e;simp at e;exact h1 e
   rw[if_neg h3,List.contains_cons,beq_eq_false_iff_ne.2 h2,Bool.false_or]
theorem a4d:∀(l:List (List Move)),(sgA l l.length).map (·.2)=l.flatten:=by
 intro l;unfold sgA;rw[List.map_flatMap];have:∀n,n<=l.length->(List.range n).flatMap (fun j=>((l[j]?.getD []).map fun m=>(j,m)).map (·.2))=(l.take n).flatten:=by
  intro n
  induction n with
  |zero=>intro _;rfl
  |succ n ih=>
   intro hn;rw[List.range_succ,List.flatMap_append,ih (by omega),qz,List.flatten_append];have hnl:n<l.length:=by omega
   simp[qc hnl,Function.comp_def]
 rw[this _ (qo _),List.take_length]
theorem b0y {l:List (List Move)} {n:Nat} {p:Nat×Move}:p∈sgA l n↔p.1<n/\∃x,l[p.1]?=some x/\p.2∈x:=by
 obtain⟨i,m⟩:=p;unfold sgA;simp only[List.mem_flatMap,List.mem_range,List.mem_map,qr];constructor
 ·rintro⟨j,hj,m',hm,rfl,rfl⟩;refine⟨hj,?_⟩
  cases h:l[j]? with
  |none=>rw[h]at hm;simp at hm
  |some x=>rw[h]at hm;exact⟨x,rfl,by simpa using hm⟩
 ·rintro⟨h1,x,hx,hm⟩;exact⟨i,h1,m,by rw[hx];exact hm,rfl,rfl⟩
theorem b8c {s:j0} (hn:(s.Singles.flatten.map (·.Rail)).Nodup) (r:Int):s8 (O2 (sgA s.Singles s.Singles.length)) (kI r)=(a0Q s r).map fun(i:Nat)=>(.int .i64 i:Value):=by
 have hn2:((sgA s.Singles s.Singles.length).map (·.2.Rail)).Nodup:=by
  have:(sgA s.Singles s.Singles.length).map (·.2.Rail)=(s.Singles.flatten).map (·.Rail):=by rw[<-a4d,List.map_map];rfl
  rw[this];exact hn
 cases h:a0Q s r with
 |none=>
  unfold O2;rw[a6K]
  ·rfl
  ·intro p hp e;obtain⟨_,x,hx,hm⟩:=b0y.1 hp;unfold a0Q at h;rw[List.findIdx?_eq_none_iff]at h;have:=h x (qd hx);rw[List.any_eq_false]at this;have:=this p.2 hm;simp[e]at this
 |some i=>
  unfold a0Q at h;rw[List.findIdx?_eq_some_iff_getElem]at h;obtain⟨h1,h2,_⟩:=h;rw[qy]at h2;obtain⟨m,hm,hr⟩:=h2;have hp:(i,m)∈sgA s.Singles s.Singles.length:=b0y.2 ⟨h1,_,qc h1,hm⟩;have:=b0f (p:=(i,m)) _ [] hn2 hp;simp only[decide_eq_true_eq]at hr;rw[hr]at this;exact this
theorem c5R {s:j0} (hn:(s.Singles.flatten.map (·.Rail)).Nodup):b1C s (b7c (A8 s.Plan s.Profiles) (A8 s.Plan s.Profiles).length) (O2 (sgA s.Singles s.Singles.length)) (R4 (sgA s.Singles s.Singles.length)):=by
 refine⟨fun a x b y=>?_,b8c hn,fun m _=>?_⟩
 ·unfold b7c;rw[List.take_length,b9R];unfold H6
  split
  ·rename_i h;rw[h];rfl
  ·rename_i h;rw[Bool.not_eq_true]at h;rw[h];rfl
 ·unfold R4;rw[c0n,a4d]
  split
  ·rename_i h;rw[h];rfl
  ·rename_i h;rw[Bool.not_eq_true]at h;rw[h];rfl
def c0y (p:Plan) (ps:List (Nat×Move)):Prop:=(∀q∈ps,C6 p q.2=true)/\(ps.map (·.2.Rail)).Nodup
theorem a0J {p:Plan} {l:List (List Move)}:a9p p l=true↔(∀x∈l,1<=x.length/\x.length<=100)/\c0y p (sgA l l.length):=by
 unfold a9p c0y;have e1:(sgA l l.length).map (·.2.Rail)=l.flatten.map (·.Rail):=by rw[<-a4d,List.map_map];rfl
 rw[e1];simp only[qh,qn,decide_eq_true_eq,g6];have e2:(∀q∈sgA l l.length,C6 p q.2=true)↔∀x∈l.flatten,C6 p x=true:=by
  rw[<-a4d];simp only[List.mem_map];exact⟨fun h x ⟨q,hq,e⟩=>e▸h q hq,fun h q hq=>h _ ⟨q,hq,rfl⟩⟩
 rw[e2];constructor
 ·rintro⟨h1,h2,h3⟩;exact⟨fun x hx=>by have:=h1 x hx;omega,h2,h3⟩
 ·rintro⟨h1,h2,h3⟩;exact⟨fun x hx=>by have:=h1 x hx;omega,h2,h3⟩
theorem c0e {p:Plan} {l:List (List Move)} (h:a9p p l=true) {i k:Nat} {x:List Move} {m:Move} (hx:l[i]?=some x) (hm:x[k]?=some m):(s8 (O2 (sgA l i++sgK l i k)) (kI m.Rail)).isSome=false/\C6 p m=true:=by
 obtain⟨_,h1,h2⟩:=a0J.1 h;have hi:=(qa.1 hx).1;have hp:(i,m)∈sgA l l.length:=b0y.2 ⟨hi,x,hx,qd hm⟩;refine⟨?_,h1 _ hp⟩;unfold O2;rw[a6K]
 ·rfl
 have gen:∀n,i<n->∃rest,sgA l n=(sgA l i++sgK l i k)++(i,m)::rest:=by
  intro n
  induction n with
  |zero=>intro h;omega
  | succ n ih=>
   intro hn
   by_cases e:i=n
   ·subst e;refine⟨(x.drop (k+1)).map fun m=>(i,m),?_⟩;rw[a1C l i hx];have:sgK l i x.length=sgK l i k++(i,m)::(x.drop (k+1)).map fun m=>(i,m):=by
     unfold sgK;rw[hx];simp only[Option.getD_some,List.take_length];have hk:=(qa.1 hm);obtain⟨hk1,hk2⟩:=hk
     conv=>lhs;rw[<-List.take_append_drop k x,List.drop_eq_getElem_cons hk1,hk2]
     simp
    rw[this,List.append_assoc]
   ·obtain⟨rest,hr⟩:=ih (by omega);refine⟨rest++(l[n]?.getD []).map fun m=>(n,m),?_⟩;unfold sgA at hr ⊢;rw[List.range_succ,List.flatMap_append,hr];simp
 obtain⟨rest,hr⟩:=gen l.length hi;rw[hr,List.map_append,List.map_cons,List.nodup_append]at h2;intro q hq e;exact h2.2.2 _ (qu (f:=(·.2.Rail)) hq) _ (by simp) e
abbrev KT4:List KT:=[.i .i64, .i .i64, .i .i64, .i .i64]
abbrev KTM:List KT:=[.i .i64, .b]
abbrev a1p:List KT:=[.i .i64, .b, .i .i64, .b]
abbrev b9l (s:j0) (a b c d e:Nat):n9:= .els 9 [s.cells++[.mp a, .mp b, .mp c, .mp d, .mp e]]
abbrev Z4 (s:j0):Kvs:=b7c (A8 s.Plan s.Profiles) (A8 s.Plan s.Profiles).length
abbrev o7 (s:j0):List (Nat×Move):=sgA s.Singles s.Singles.length
abbrev c2L (s:j0):Hp:=[some (b9l s 1 2 3 4 5),some (.map true KT4 (Z4 s)),some (.map false [.i .i64] (O2 (o7 s))),some (.map true KTM (R4 (o7 s))),some (.map true a1p []),some (.map true a1p [])]
theorem c0j {p:Plan} {l:List Profile} (hN:p.Rails.length<=20) (h:N4 l=true):(A8 p l).length<=100000:=by
 have hl:l.length<=6:=by simp only[N4,qh,decide_eq_true_eq]at h;exact h.2.1
 have h1:=c0q p l p.Rails.length;have h2:p.Rails.length*(l.length*(p.Rails.length*l.length))<=20*(6*(20*6)):=Nat.mul_le_mul hN (Nat.mul_le_mul hl (Nat.mul_le_mul hN hl));unfold A8;omega
theorem b1K (s:j0) (h:Q2 s=true) (hN:s.Plan.Rails.length<=20):c7 Tryz.prog 31 [s.av] [] [] (.tup [.ptr 0 0 0,Bo true]) [] (c2L s):=by
 have h0:d8 s.Plan=true/\N4 s.Profiles=true/\s.Singles.length<=30/\a9p s.Plan s.Singles=true:=by simpa [Q2]using h
 obtain⟨hv,hp,hsn,hsb⟩:=h0;have hck:=b0C s.Plan;rw[hv,if_pos rfl]at hck;have hfo:=b3e s.Plan s.Profiles hv hp hN;have hfl:=c0j hN hp;have hR:s.Plan.Rails.length<=400:=(j9 hv).2.1.2;unfold c2L Z4;generalize A8 s.Plan s.Profiles=fl at hfo hfl;refine oG [] Tryz.func31 Tryz.ntmps31 Tryz.results31 ?_;intro J hJ;refine gW ?_;refine a8 fun K1 hK1=>?_;refine gW ?_ fun K hK=>by simp -dsimp;refine cI (hck) ?_;simp -dsimp;exact hK
 refine c3 rfl (fun hc0=>?_) (fun hc0=>?_)
 ·exfalso;simp at hc0;omega
 ·refine c5 ?_;refine zQ (hK1 _ _ ?_);refine gP [1] ?_;refine gW ?_ fun K hK=>by simp -dsimp;refine cI (hfo) ?_;simp -dsimp;exact hK
  refine a8 fun K2 hK2=>?_;refine gW ?_;refine c3 rfl (fun hc1=>?_) (fun hc1=>?_)
  ·simp at hc1
  ·refine c5 ?_;refine zQ (hK2 _ _ ?_);refine gP [1,4] ?_;refine gW ?_;refine a8 fun K3 hK3=>?_;refine gW ?_;refine c8 ?_;refine gP [1,6,43,44,45] ?_;refine e9 [1,6,43,44] (α:=Nat) (fun k=>[(45,I k)]) (fun k=>[some (.els 4 [s.cells]),some (.map true KT4 (b7c fl k)),some (.map false [.i .i64] []),some (.map true KTM []),some (.map true a1p []),some (.map true a1p []),some (b9l s 1 2 3 4 5)]) (fun k=>k<=fl.length) (fun k=>fl.length-k) 0 ?_ ?_ ?_
   ·exact qp _
   ·exact gB [some 0,some 1,some 2,some 3,some 4,some 5,some 6] (hH:=by simp[b7c])
   rintro k k1;refine zN ?_;refine gW ?_;refine a8 fun K4 hK4=>?_;refine c3 rfl (fun hc2=>?_) (fun hc2=>?_)
   ·skip
    try simp at hc2
    obtain⟨f,hf⟩:=gx (l:=fl) (i:=k) (by simpa using hc2);have wk:=zW k (by omega);have hs1:=b4Y hf;refine c5 ?_;refine zQ (hK4 _ _ ?_);refine gP [1,6,43,44,45] ?_;refine a8 fun K5 hK5=>?_;refine c8 ?_;refine gW ?_ fun K hK=>by simp -dsimp [hf];exact hK
    refine gD ?_;refine gE ?_;refine zQ (hK5 _ _ ?_);refine gP [1,6,43,44,45] ?_;refine gV ?_ fun K hK=>by simp -dsimp [wk];exact hK
    refine zQ ?_;exact⟨k+1,by have:=(qa.1 hf).1;omega,by have:=(qa.1 hf).1;omega,gB [some 0,some 1,some 2,some 3,some 4,some 5,some 6] (hH:=by simp[hs1,b5w])⟩
   ·skip
    try simp at hc2
    have hke:k=fl.length:=by have:¬k<fl.length:=(by simpa using hc2);omega
    subst hke;refine o5 ?_;refine zQ (hK3 _ _ ?_);refine gP [1,6] ?_;refine a8 fun K6 hK6=>?_;refine gW ?_;refine c8 ?_;refine gP [1,6,77,78,79] ?_;refine e9 [1,6,77,78] (α:=Nat) (fun i=>[(79,I i)]) (fun i=>[some (.els 4 [s.cells]),some (.map true KT4 (b7c fl fl.length)),some (.map false [.i .i64] (O2 (sgA s.Singles i))),some (.map true KTM (R4 (sgA s.Singles i))),some (.map true a1p []),some (.map true a1p []),some (b9l s 1 2 3 4 5)]) (fun i=>i<=s.Singles.length) (fun i=>s.Singles.length-i) 0 ?_ ?_ ?_
    ·exact qp _
    ·exact gB [some 0,some 1,some 2,some 3,some 4,some 5,some 6] (hH:=by simp[sgA,O2,R4])
    rintro i i1;refine zN ?_;refine gW ?_;refine a8 fun K7 hK7=>?_;refine c3 rfl (fun hc3=>?_) (fun hc3=>?_)
    ·skip
     try simp at hc3
     obtain⟨x,hx⟩:=gx (l:=s.Singles) (i:=i) (by simpa using hc3);have wi:=zW i (by omega);have hsx:=a1C s.Singles i hx;have hxl:1<=x.length/\x.length<=100:=(a0J.1 hsb).1 x (qd hx);refine c5 ?_;refine zQ (hK7 _ _ ?_);refine gP [1,6,77,78,79] ?_;refine a8 fun K8 hK8=>?_;refine c8 ?_;refine gW ?_ fun K hK=>by simp -dsimp [hx];exact hK
     refine a8 fun K9 hK9=>?_;refine gW ?_ fun K hK=>by simp -dsimp [hx];refine cI (x4 x.length 1 100) ?_;simp -dsimp [hx];exact hK
     refine c3 rfl (fun hc4=>?_) (fun hc4=>?_)
     ·exfalso;simp[inr]at hc4;omega
     ·refine c5 ?_;refine zQ (hK9 _ _ ?_);refine gP [1,6,9,10,77,78,79] ?_;refine gW ?_;refine c8 ?_;refine gP [1,6,9,77,78,79,90,91,92] ?_;refine e9 [1,6,9,77,78,79,90,91] (α:=Nat) (fun k=>[(92,I k)]) (fun k=>[some (.els 4 [s.cells]),some (.map true KT4 (b7c fl fl.length)),some (.map false [.i .i64] (O2 (sgA s.Singles i++sgK s.Singles i k))),some (.map true KTM (R4 (sgA s.Singles i++sgK s.Singles i k))),some (.map true a1p []),some (.map true a1p []),some (b9l s 1 2 3 4 5)]) (fun k=>k<=x.length) (fun k=>x.length-k) 0 ?_ ?_ ?_
      ·exact qp _
      ·exact gB [some 0,some 1,some 2,some 3,some 4,some 5,some 6] (hH:=by simp[sgK])
      rintro k k1;refine zN ?_;refine gW ?_;refine a8 fun K10 hK10=>?_;refine c3 rfl (fun hc5=>?_) (fun hc5=>?_)
      ·skip
       try simp at hc5
       obtain⟨m,hm⟩:=gx (l:=x) (i:=k) (by simpa using hc5);have wk:=zW k (by omega);have wr:IntKind.i64.wrap ((s.Plan.Rails.length:Int)-1)=(s.Plan.Rails.length:Int)-1:=c4 (by omega) (by omega);have hsk:=a6X s.Singles i k hx hm;obtain⟨hmet,hmv⟩:=c0e hsb hx hm;have hs1:=b4y (sgA s.Singles i++sgK s.Singles i k) (i,m);have hs2:=b4D (sgA s.Singles i++sgK s.Singles i k) (i,m);rw[List.append_assoc,<-hsk]at hs1 hs2;simp only at hs1 hs2;generalize O2 (sgA s.Singles i++sgK s.Singles i k)=si at hmet hs1 ⊢;generalize R4 (sgA s.Singles i++sgK s.Singles i k)=up at hs2 ⊢;have hml:inr m.Rail 0 (s.Plan.Rails.length-1)=true:=hmv;refine c5 ?_;refine zQ (hK10 _ _ ?_);refine gP [1,6,9,77,78,79,90,91,92] ?_;refine a8 fun K11 hK11=>?_;refine c8 ?_;refine gW ?_ fun K hK=>by simp -dsimp [hm];exact hK
       refine a8 fun K12 hK12=>?_;refine gD ?_ fun K hK=>by simp -dsimp;refine d7 (.tup [.v ((s8 si (kI m.Rail)).getD (.int .i64 0)),Bo false]) (fun hm=>by rw[hmet]) ?_;simp -dsimp;exact hK
       refine gW ?_ fun K hK=>by simp -dsimp [wr];refine cY (fun hm=>x4 m.Rail 0 (s.Plan.Rails.length-1)) ?_;simp -dsimp [wr];exact hK
       refine c3 rfl (fun hc6=>?_) (fun hc6=>?_)
       ·exfalso;simp[hmet,hml]at hc6
       ·refine c5 ?_;refine zQ (hK12 _ _ ?_);refine gP [1,6,9,12,77,78,79,90,91,92] ?_;refine gD ?_;refine gE ?_;refine zQ (hK11 _ _ ?_);refine gP [1,6,9,77,78,79,90,91,92] ?_;refine gV ?_ fun K hK=>by simp -dsimp [wk];exact hK
        refine zQ ?_;exact⟨k+1,by have:=(qa.1 hm).1;omega,by have:=(qa.1 hm).1;omega,gB [some 0,some 1,some 2,some 3,some 4,some 5,some 6] (hH:=by simp[hs1,hs2])⟩
      ·skip
       try simp at hc5
       have hke:k=x.length:=by have:¬k<x.length:=(by simpa using hc5);omega
       subst hke;refine o5 ?_;refine zQ (hK8 _ _ ?_);refine gP [1,6,77,78,79] ?_;refine gV ?_ fun K hK=>by simp -dsimp [wi];exact hK
       refine zQ ?_;exact⟨i+1,by have:=(qa.1 hx).1;omega,by have:=(qa.1 hx).1;omega,gB [some 0,some 1,some 2,some 3,some 4,some 5,some 6] (hH:=by simp[hsx])⟩
    ·skip
     try simp at hc3
     have hie:i=s.Singles.length:=by have:¬i<s.Singles.length:=(by simpa using hc3);omega
     subst hie;refine o5 ?_;refine zQ (hK6 _ _ ?_);refine gP [6] ?_;refine gW ?_;exact d9 (gT [some 6,some 1,some 2,some 3,some 4,some 5])
end Go.Tram.Lk
end
section
namespace Go.Tram.Lk
open Go.AM
abbrev kOf (n:Int):List KC:=[.i .i64 n]
def o3 (l:List Car):List (List KC×AV):=l.map fun c=>(kOf c.Name,c.av)
abbrev a9k (l:List Car):n9:= .mpa false [.i .i64] (o3 l)
def a5r (l:List Car) (n:Int):List Car:=l.filter fun c=>decide (c.Name≠n)
theorem k7:∀(l:List Car) (n:Int),A4 (o3 l) (kOf n)=(V5 l n).map Car.av
 |[],n=>rfl
 |c::l,n=>by
  have ih:=k7 l n;unfold o3 at ih ⊢;unfold V5 at ih ⊢;rw[List.map_cons,A4,List.find?_cons]
  by_cases h:c.Name=n
  ·rw[if_pos (by rw[h]),decide_eq_true h];rfl
  ·rw[if_neg (by intro e;simp at e;exact h e.symm),decide_eq_false h];exact ih
theorem a2H (l:List Car):(o3 l).map (·.1)=l.map fun c=>kOf c.Name:=by
 simp[o3,List.map_map]
theorem srt_nodup {l:List Car} (h:Srt l):(l.map (·.Name)).Nodup:=by
 unfold Srt at h;exact h.imp (fun h=>by omega)
theorem a6l {l:List Car} (h:Srt l):((o3 l).map (·.1)).Nodup:=by
 rw[a2H];have:=srt_nodup h;unfold List.Nodup at this ⊢;rw[List.pairwise_map]at this ⊢;exact this.imp fun h e=>h (by simpa [kOf]using e)
theorem V6 {c:Car} {l:List Car}:Srt (c::l)↔(∀x∈l,c.Name<x.Name)/\Srt l:=by
 unfold Srt;rw[List.map_cons,List.pairwise_cons];simp
theorem a4Z (c:Car) (l:List Car) (n:Int):a5r (c::l) n=if c.Name=n then a5r l n else c::a5r l n:=by
 unfold a5r;rw[List.filter_cons]
 by_cases h:c.Name=n<;>simp[h]
theorem a0x {l:List Car} {n:Int} (h:∀x∈l,x.Name≠n):a5r l n=l:=by
 unfold a5r;rw[List.filter_eq_self];intro a ha;simpa using h a ha
theorem a2J:∀(l:List Car) (n:Int),R5 (o3 l) (kOf n)=o3 (a5r l n)
 |[],n=>rfl
 |c::l,n=>by
  have ih:=a2J l n;unfold R5 o3 at ih ⊢;rw[List.map_cons,List.filter_cons,a4Z]
  by_cases h:c.Name=n
  ·rw[if_pos h,if_neg (by simp[h])];exact ih
  ·rw[if_neg h,if_pos (by simp;exact h),List.map_cons,ih]
theorem T5:∀{l:List Car} (c:Car),Srt l->(B5 l c).Perm (c::a5r l c.Name)
 |[],c,_=>by simp[B5,a5r]
 | x ::l,c,h=>by
  obtain⟨h1,h2⟩:=V6.1 h;have ih:=T5 c h2;unfold B5 at ih ⊢;rw[a4Z];rw[List.takeWhile_cons,List.dropWhile_cons]
  by_cases hx:x.Name<c.Name
  ·rw[if_pos (by simpa using hx),if_pos (by simpa using Int.le_of_lt hx),if_neg (by omega),List.cons_append];exact(ih.cons x).trans (List.Perm.swap _ _ _)
  ·rw[if_neg (by simpa using hx),List.nil_append]
   by_cases he:x.Name=c.Name
   ·rw[if_pos (by simp;omega),if_pos he];have e1:l.dropWhile (fun x=>decide (x.Name<=c.Name))=l:=by
     cases l with
     |nil=>rfl
     |cons y l=>rw[List.dropWhile_cons,if_neg];have:=h1 y (by simp);simp;omega
    rw[e1,a0x fun y hy=>by have:=h1 y hy;omega]
   ·rw[if_neg (by simp;omega),if_neg he,a0x fun y hy=>by have:=h1 y hy;omega]
theorem P3 {l:List Car} (c:Car) (h:Srt l):(O1 (o3 l) (kOf c.Name) c.av).Perm (o3 (B5 l c)):=by
 refine(a0z _ _ _ (a6l h)).trans ?_;rw[a2J];have:=(T5 c h).symm.map (fun c:Car=>(kOf c.Name,c.av));simpa [o3]using this
theorem a1z {l:List Car} {n:Int} {x:Car}:x∈a5r l n↔x∈l/\x.Name≠n:=by
 unfold a5r;rw[List.mem_filter];simp
theorem z7 {l:List Car} (h:Srt l) {c x:Car}:x∈B5 l c↔x=c∨(x∈l/\x.Name≠c.Name):=by
 rw[(T5 c h).mem_iff,List.mem_cons,a1z]
theorem b8I {l:List Car} (n:Int) (h:Srt l):Srt (a5r l n):=by
 unfold Srt a5r at*
 exact h.sublist ((List.filter_sublist).map _)
theorem R6:∀{l:List Car} (c:Car),Srt l->Srt (B5 l c)
 |[],c,_=>by simp[B5,Srt]
 | x ::l,c,h=>by
  obtain⟨h1,h2⟩:=V6.1 h;have ih:=R6 c h2;have hm:=fun y=>z7 (x:=y) (c:=c) h2;unfold B5 at ih hm ⊢;rw[List.takeWhile_cons,List.dropWhile_cons]
  by_cases hx:x.Name<c.Name
  ·rw[if_pos (by simpa using hx),if_pos (by simpa using Int.le_of_lt hx),List.cons_append];refine V6.2 ⟨fun y hy=>?_,ih⟩
   rcases(hm y).1 hy with rfl|⟨h3,_⟩
   ·exact hx
   ·exact h1 y h3
  ·rw[if_neg (by simpa using hx),List.nil_append]
   by_cases he:x.Name=c.Name
   ·rw[if_pos (by simp;omega)];have e1:l.dropWhile (fun x=>decide (x.Name<=c.Name))=l:=by
     cases l with
     |nil=>rfl
     |cons y l=>rw[List.dropWhile_cons,if_neg];have:=h1 y (by simp);simp;omega
    rw[e1];exact V6.2 ⟨fun y hy=>by have:=h1 y hy;omega,h2⟩
   ·rw[if_neg (by simp;omega)];refine V6.2 ⟨fun y hy=>?_,h⟩
    rcases List.mem_cons.1 hy with rfl|hy
    ·omega
    ·have:=h1 y hy;omega
theorem G3 {l:List Car} {n:Int} {c:Car} (h:V5 l n=some c):c∈l/\c.Name=n:=by
 unfold V5 at h;exact⟨List.mem_of_find?_eq_some h,by simpa using List.find?_some h⟩
theorem b5G {l:List Car} (h:Srt l) {x y:Car} (hx:x∈l) (hy:y∈l) (e:x.Name=y.Name):x=y:=by
 induction l with
 |nil=>cases hx
 |cons z l ih=>
  obtain⟨h1,h2⟩:=V6.1 h
  rcases List.mem_cons.1 hx with e1|hx'<;>rcases List.mem_cons.1 hy with e2|hy'
  ·rw[e1,e2]
  ·have:=h1 y hy';rw[e1]at e;omega
  ·have:=h1 x hx';rw[e2]at e;omega
  ·exact ih h2 hx' hy'
theorem E2 {l:List Car} (h:Srt l) {c:Car} (hc:c∈l):V5 l c.Name=some c:=by
 unfold V5
 cases e:l.find? fun x=>decide (x.Name=c.Name)with
 |none=>have:=List.find?_eq_none.1 e c hc;simp at this
 |some y=>
  have:=G3 (n:=c.Name) (l:=l) (c:=y) e;rw[b5G h this.1 hc this.2]
theorem a1E {l:List Car} {n:Int}:V5 l n=none↔∀x∈l,x.Name≠n:=by
 unfold V5;rw[List.find?_eq_none];simp
theorem b9z {l:List Car} (h:Srt l) (c:Car):(B5 l c).length<=l.length+1:=by
 rw[(T5 c h).length_eq,List.length_cons];have:(a5r l c.Name).length<=l.length:=List.length_filter_le _ _;omega
theorem a0M {l:List Car} (h:Srt l) {ss:List Int} (hp:ss.Perm (l.map (·.Name))):ss.mergeSort (fun x y=>decide (x<=y))=l.map (·.Name):=by
 have h1:(ss.mergeSort (fun x y=>decide (x<=y))).Pairwise (fun x y:Int=>decide (x<=y)=true):=List.pairwise_mergeSort (fun a b c=>by simp;omega) (fun a b=>by simp;omega) ss;have h2:(l.map (·.Name)).Pairwise (fun x y:Int=>decide (x<=y)=true):=by
  unfold Srt at h;exact h.imp fun h=>by simp;omega
 refine List.Perm.eq_of_pairwise (le:=fun x y:Int=>decide (x<=y)=true) (fun a b _ _ h1 h2=>by simp at h1 h2;omega) h1 h2 ((List.mergeSort_perm ss _).trans hp)
end Go.Tram.Lk
end
section
namespace Go.Tram.Lk
open Go.AM
theorem b9P {p:Plan} (hv:d8 p=true) {m k:Move} (hm:C6 p m=true) (hk:C6 p k=true) (hf:G6 p m k=true) (hs:F8 p m=true):
  0<=(F9 p m k).Node/\(F9 p m k).Node<p.Nodes.length/\(p.node (F9 p m k).Node).Kind=4/\((F9 p m k).Leg=1∨(F9 p m k).Leg=2):=by
 rw[a6Q hv hm hk]at hf;obtain⟨i,hi,h1,h2,h3,a,b,ha,hb,hl⟩:=a8Z hv hm hf;have e:F9 p m k=⟨(i:Int),a7M a b⟩:=by unfold F9;rw[h1,a3O hv hi ha,a3O hv hi hb]
 have hkd:(p.node i).Kind=4:=by
  unfold F8 at hs;rw[h3]at hs;simpa using hs
 have hnf:=a0a hv (i:=i) (by omega) (by omega);have he:((p.node i).Ends.length:Int)=3:=by
  simp only[C3,qh,decide_eq_true_eq]at hnf;have:=hnf.2.2.2;rw[hkd]at this;simpa [T7]using this
 have ha2:=(qa.1 ha).1;have hb2:=(qa.1 hb).1;rw[b8w,hkd]at hl;simp only[c4n]at hl;rw[if_neg (by omega),if_neg (by omega),if_neg (by omega),if_pos trivial]at hl;simp only[qh,Bool.or_eq_true,decide_eq_true_eq]at hl;rw[e];refine⟨by simp,by simpa using hi,hkd,?_⟩;simp only[a7M]
 split<;>omega
theorem b8z {p:Plan} {l:List Move} (hw:wayB p l=true) {m:Move} (hm:C6 p m=true) (hf:G6 p (l.getLast?.getD default) m=true) (hn:l.length<=1999):wayB p (l++[m])=true:=by
 have hl:=F3 hw;unfold wayB at hw ⊢;rw[qh]at hw ⊢;refine⟨?_,g6.2 (by simp;omega)⟩;rw[List.length_append,List.length_singleton,a4P,qh];constructor
 ·refine qn.2 fun i hi=>?_;have h1:=List.mem_range.1 hi;have h2:=a1h hw.1 h1;unfold X6 at h2 ⊢;rw[qw h1,qw (by omega)];exact h2
 ·unfold X6;rw[qv (qo _),qw (by omega)];simp only[Nat.sub_self,List.getElem?_cons_zero,Option.getD_some,qh,Bool.or_eq_true];refine⟨hm,Or.inr ?_⟩;rw[<-List.getLast?_eq_getElem?];exact hf
theorem c1q {p:Plan} {m:Move} (hm:C6 p m=true):wayB p [m]=true:=by
 unfold wayB X6;simp[hm,inr]
theorem a5c {l k:List Move} {i:Nat} (h:i<l.length):y4 (l++k) i=y4 l i:=by
 unfold y4;rw[qw h]
theorem b1E {p:Plan} {l:List Move} (hw:wayB p l=true) {n:Nat} (h1:1<=n):wayB p (l.take n)=true:=by
 have hl:=F3 hw;unfold wayB at hw ⊢;rw[qh]at hw ⊢;refine⟨qn.2 fun i hi=>?_,g6.2 (by simp;omega)⟩;have h2:=List.mem_range.1 hi;rw[qm]at h2;have h3:=a1h hw.1 (show i<l.length by omega);unfold X6 at h3 ⊢;rw[qk,qk,if_pos (by omega),if_pos (by omega)];exact h3
theorem b7w {p:Plan} {l:List Move} (hw:wayB p l=true) {n:Nat} (h1:n<l.length):wayB p (l.drop n)=true:=by
 have hl:=F3 hw;unfold wayB at hw ⊢;rw[qh]at hw ⊢;refine⟨qn.2 fun i hi=>?_,g6.2 (by simp;omega)⟩;have h2:=List.mem_range.1 hi;rw[qx]at h2;have h3:=a1h hw.1 (show n+i<l.length by omega);unfold X6 at h3 ⊢;rw[ql,ql];rw[qh,Bool.or_eq_true]at h3 ⊢;refine⟨h3.1,?_⟩
 by_cases h0:i=0
 ·exact Or.inl (by simp[h0])
 ·rcases h3.2 with h|h
  ·simp at h;omega
  ·rw[show n+i-1=n+(i-1)by omega]at h;exact Or.inr h
theorem b5k (p:Plan) (l k:List Move) {n:Nat} (h:n<l.length∨n=0):O9 p (l++k) n=O9 p l n:=by
 unfold O9;rw[List.flatMap_def,List.flatMap_def]
 congr 1
 refine List.map_congr_left fun i hi=>?_;have:=List.mem_range.1 hi;unfold Y4;rw[a5c (by omega),a5c (by omega)]
theorem c2H (p:Plan) {l:List Move} (hne:l≠[]) (m:Move):O9 p (l++[m]) ((l++[m]).length-1)=O9 p l (l.length-1)++if F8 p (l.getLast?.getD default)then [F9 p (l.getLast?.getD default) m]else []:=by
 have h1:1<=l.length:=by cases l with|nil=>exact absurd rfl hne|cons a l=>simp
 have e:(l++[m]).length-1=l.length-1+1:=by simp;omega
 rw[e,V4,b5k p l [m] (by omega)]
 congr 1
 unfold Y4;rw[a5c (by omega)];have e1:y4 l (l.length-1)=l.getLast?.getD default:=by unfold y4;rw[List.getLast?_eq_getElem?]
 have e2:y4 (l++[m]) (l.length-1+1)=m:=by
  unfold y4;rw[qv (by omega)];simp[show l.length-1+1-l.length=0 by omega]
 rw[e1,e2]
theorem a0V {p:Plan} {l:List Move} {n:Nat} {y:R0}:y∈O9 p l n↔∃i,i<n/\F8 p (y4 l i)=true/\y=F9 p (y4 l i) (y4 l (i+1)):=by
 unfold O9;rw[List.mem_flatMap];constructor
 ·rintro⟨i,hi,hy⟩;unfold Y4 at hy
  split at hy
  ·rename_i h;exact⟨i,List.mem_range.1 hi,h,by simpa using hy⟩
  ·cases hy
 ·rintro⟨i,hi,h,rfl⟩;exact⟨i,List.mem_range.2 hi,by unfold Y4;rw[if_pos h];simp⟩
def ptB (n:Node) (v:Int):Bool:=if n.Kind=4 then inr v 1 2 else decide (v=0)
def a5o (p:Plan) (l:List Int):Bool:=decide (l.length=p.Nodes.length)&&(List.range l.length).all fun i=>ptB (p.node i) (l[i]?.getD 0)
structure R1 (s:j0) (x:Sta):Prop where
 srt:Srt x.Cars
 car:∀c∈x.Cars,a1k s c=true
 pts:a5o s.Plan x.Points=true
 held:∀c∈x.Cars,∀y∈E0 s c,x.Points[y.Node.toNat]?=some y.Leg
 apart:∀a∈x.Cars,∀b∈x.Cars,a.Name≠b.Name->a0W s a b=true
theorem l9 {s:j0} (h:Q2 s=true):d8 s.Plan=true/\N4 s.Profiles=true/\s.Singles.length<=30/\a9p s.Plan s.Singles=true:=by
 simpa [Q2]using h
theorem i9 {s:j0} {c:Car} (h:a1k s c=true):(1<=c.Name/\c.Name<=1000000)/\(0<=c.Profile/\c.Profile<=(s.Profiles.length:Int)-1)/\(1<=c.Way.length/\c.Way.length<=20/\(B4 c.Way).Nodup/\wayB s.Plan c.Way=true)/\0<=c.Front/\c.Front<=(c.Way.length:Int)-1:=by
 simp only[a1k,a5n,qh,decide_eq_true_eq,g6]at h;exact⟨h.1,h.2.1,h.2.2.1,h.2.2.2⟩
theorem G4 {s:j0} {c:Car} (h:wayB s.Plan c.Way=true):E0 s c=O9 s.Plan c.Way (c.Way.length-1):=by
 unfold E0;rw[if_pos h]
theorem b4A {s:j0} (hs:Q2 s=true) {l:List Move} (hw:wayB s.Plan l=true) {y:R0} (hy:y∈O9 s.Plan l (l.length-1)):
  0<=y.Node/\y.Node<s.Plan.Nodes.length/\(s.Plan.node y.Node).Kind=4/\(y.Leg=1∨y.Leg=2):=by
 obtain⟨hv,_⟩:=l9 hs;obtain⟨i,hi,h1,rfl⟩:=a0V.1 hy;exact b9P hv (E3 hw i (by omega)) (E3 hw (i+1) (by omega)) (a6H hw (by omega)) h1
theorem a4D {s:j0} (hs:Q2 s=true) {c:Car} {m:Move} (hw:c.Way≠[]->wayB s.Plan c.Way=true) (hm:C6 s.Plan m=true) (h:N2 s c m=true):
  0<=(E4 s c m).Node/\(E4 s c m).Node<s.Plan.Nodes.length/\(s.Plan.node (E4 s c m).Node).Kind=4/\((E4 s c m).Leg=1∨(E4 s c m).Leg=2):=by
 obtain⟨hv,_⟩:=l9 hs;have h0:=h;simp only[N2,qh,decide_eq_true_eq]at h;have hwy:=hw h.1;have hl:=F3 hwy;unfold E4;rw[if_pos h0];refine b9P hv ?_ hm h.2.1 h.2.2;have:=E3 hwy (c.Way.length-1) (by omega);unfold y4 at this;unfold C7;rw[List.getLast?_eq_getElem?];exact this
end Go.Tram.Lk
end
section
namespace Go.Tram.Lk
open Go.AM
theorem b6Y (s:j0) (a x b y:Int):H6 s a x b y=H6 s b y a x:=by
 unfold H6
 congr 1
 funext f
 exact Bool.or_comm _ _
theorem a5a (s:j0) (m n:Move):D8 s m n=D8 s n m:=by
 unfold D8;rw[qj];simp only[qh,decide_eq_true_eq];constructor<;>rintro⟨h1,h2,h3⟩<;>exact⟨by omega,by omega,fun e=>h3 e.symm⟩
theorem U7 {s:j0} {a b:Car}:a0W s a b=true↔∀m∈a.Way,∀n∈b.Way,H6 s m.Rail a.Profile n.Rail b.Profile=false/\D8 s m n=false:=by
 simp[a0W,qn]
theorem b2X {s:j0} {a b:Car} (h:a0W s a b=true):a0W s b a=true:=by
 rw[U7]at h ⊢;intro m hm n hn;rw[b6Y,a5a];exact h n hn m hm
theorem V0 {l:List Car} {c:Car} {f:Car->Move->Bool}:a4c l c f=none↔∀x∈l,x.Name≠c.Name->∀n∈x.Way,f x n=false:=by
 unfold a4c;rw[Option.map_eq_none_iff,List.find?_eq_none];constructor
 ·intro h x hx hne n hn;have:=h x hx;simp only[qh,decide_eq_true_eq,qy,not_and,not_exists]at this;have:=this hne n hn;simpa using this
 ·intro h x hx;simp only[qh,decide_eq_true_eq,qy,not_and,not_exists];intro hne n hn;rw[h x hx hne n hn];simp
structure c6r (s:j0) (x:Sta) (c:Car) (m:Move):Prop where
 ends:endB s c m=false
 own:b5Y c m=false
 foul:∀o∈x.Cars,o.Name≠c.Name->∀n∈o.Way,H6 s m.Rail c.Profile n.Rail o.Profile=false
 set:N2 s c m=true->∀o∈B5 x.Cars c,u0 s o (E4 s c m)=false
 side:∀o∈x.Cars,o.Name≠c.Name->∀n∈o.Way,D8 s m n=false
 long:c.Way.length<20
theorem a1n {s:j0} {x:Sta} {c:Car} {m:Move} (h:(u7 s x c m).Kind=0):c6r s x c m:=by
 unfold u7 at h
 split at h
 ·simp at h
 rename_i h1
 split at h
 ·simp at h
 rename_i h2
 split at h
 ·simp at h
 rename_i h3
 split at h
 ·simp at h
 rename_i h4
 split at h
 ·simp at h
 rename_i h5
 split at h
 ·simp at h
 rename_i h6;refine⟨by simpa using h1,by simpa using h2,V0.1 h3,fun hs o ho=>?_,V0.1 h5,by omega⟩;rw[if_pos hs,Option.map_eq_none_iff,List.find?_eq_none]at h4;simpa using h4 o ho
structure a3K (s:j0) (x:Sta) (c:Car):Prop where
 way:c.Way≠[]->wayB s.Plan c.Way=true
 nod:(B4 c.Way).Nodup
 len:c.Way.length<=20
 held:∀y∈E0 s c,x.Points[y.Node.toNat]?=some y.Leg
 apart:∀o∈x.Cars,o.Name≠c.Name->a0W s c o=true
theorem R1.carOk {s:j0} {x:Sta} (h:R1 s x) {c:Car} (hc:c∈x.Cars):a3K s x c:=by
 obtain⟨_,_,⟨h1,h2,h3,h4⟩,_⟩:=i9 (h.car c hc);exact⟨fun _=>h4,h3,h2,h.held c hc,fun o ho hne=>h.apart c hc o ho (fun e=>hne e.symm)⟩
theorem a8z (s:j0) (x:Sta) (n p f:Int):a3K s x ⟨n,p,[],f⟩:=by
 refine⟨fun h=>absurd rfl h,by simp[B4],by simp,fun y hy=>?_,fun o ho hne=>by rw[U7];intro m hm;cases hm⟩;unfold E0 at hy;simp[wayB,inr]at hy
theorem c3b {p:Plan} {l:List Int} (h:a5o p l=true) {i:Nat} (hi:i<p.Nodes.length) (hk:(p.node i).Kind=4) {v:Int} (hv:v=1∨v=2):a5o p (l.set i v)=true:=by
 simp only[a5o,qh,decide_eq_true_eq,qn,List.mem_range,List.length_set]at h ⊢;refine⟨h.1,fun j hj=>?_⟩;have:=h.2 j hj;rw[List.getElem?_set]
 split
 ·rename_i e;subst e;rw[if_pos (by omega)];unfold ptB;rw[if_pos hk];exact g6.2 (by simp;omega)
 ·exact this
theorem c1p {s:j0} (hs:Q2 s=true) {x:Sta} {c:Car} {m:Move} (hc:a3K s x c) (hm:C6 s.Plan m=true) (h:a5o s.Plan x.Points=true):a5o s.Plan (a3C s c m x.Points)=true:=by
 unfold a3C
 split
 ·rename_i hg;obtain⟨h1,h2,h3,h4⟩:=a4D hs hc.way hm hg;refine c3b h (by omega) ?_ h4;rw[Int.toNat_of_nonneg h1];exact h3
 ·exact h
theorem b1e {s:j0} (hs:Q2 s=true) {x:Sta} {c o:Car} {m:Move} (hc:a3K s x c) (hm:C6 s.Plan m=true) (hp:a5o s.Plan x.Points=true) (hw:o.Way≠[]->wayB s.Plan o.Way=true) (hh:∀y∈E0 s o,x.Points[y.Node.toNat]?=some y.Leg)
  (hf:N2 s c m=true->u0 s o (E4 s c m)=false):∀y∈E0 s o,(a3C s c m x.Points)[y.Node.toNat]?=some y.Leg:=by
 intro y hy;have h0:=hh y hy;unfold a3C
 split
 ·rename_i hg;have h1:=hf hg;obtain⟨g1,g2,_,_⟩:=a4D hs hc.way hm hg;unfold u0 at h1;rw[List.any_eq_false]at h1;have h2:=h1 y hy;simp only[qh,decide_eq_true_eq,not_and,Decidable.not_not]at h2;rw[List.getElem?_set]
  split
  ·rename_i e;have hne:o.Way≠[]:=by
    intro e;unfold E0 at hy;rw[e]at hy;simp[wayB,inr]at hy
   have hwy:=hw hne;rw[G4 hwy]at hy;obtain⟨k1,k2,_⟩:=b4A hs hwy hy;have e2:y.Node=(E4 s c m).Node:=by omega
   simp only[a5o,qh,decide_eq_true_eq]at hp;rw[if_pos (by omega),h2 e2]
  ·exact h0
 ·exact h0
theorem T9 {l:List Car} (h:Srt l) {c:Car}:c∈B5 l c:=(z7 h).2 (Or.inl rfl)
theorem a7g {s:j0} (hs:Q2 s=true) {x:Sta} {c:Car} {m:Move} (hx:R1 s x) (hc:a3K s x c) (hsame:∀o∈x.Cars,o.Name=c.Name->o=c) (hm:C6 s.Plan m=true) (hf:c6r s x c m):
  R1 s {x with Points:=a3C s c m x.Points}/\a3K s {x with Points:=a3C s c m x.Points} (r5 c m):=by
 obtain⟨hv,_⟩:=l9 hs;have hins:∀o∈x.Cars,o∈B5 x.Cars c:=by
  intro o ho
  by_cases e:o.Name=c.Name
  ·rw[hsame o ho e];exact T9 hx.srt
  ·exact(z7 hx.srt).2 (Or.inr ⟨ho,e⟩)
 have hwl:c.Way≠[]->G6 s.Plan (C7 c) m=true:=by
  intro hne;have:=hf.ends;simp only[endB,Bool.and_eq_false_iff,decide_eq_false_iff_not,Bool.not_eq_false']at this
  rcases this with h|h
  ·exact absurd hne h
  ·exact h
 have hway:wayB s.Plan (c.Way++[m])=true:=by
  by_cases hne:c.Way=[]
  ·rw[hne];exact c1q hm
  ·exact b8z (hc.way hne) hm (hwl hne) (by have:=hc.len;omega)
 refine⟨⟨hx.srt,hx.car,c1p hs hc hm hx.pts,fun o ho=>?_,hx.apart⟩,fun _=>hway,?_,?_,?_,fun o ho hne=>?_⟩
 ·have hcb:=i9 (hx.car o ho);exact b1e hs hc hm hx.pts (fun _=>hcb.2.2.1.2.2.2) (hx.held o ho) fun hg=>hf.set hg o (hins o ho)
 ·have h1:=hf.own;show(B4 (c.Way++[m])).Nodup;unfold B4 at h1 ⊢;rw[List.map_append,List.nodup_append];refine⟨hc.nod,by simp,fun a ha b hb=>?_⟩;simp only[List.map_cons,List.map_nil,List.mem_singleton]at hb;subst hb;rintro rfl;unfold b5Y B4 at h1;rw[List.contains_eq_mem,decide_eq_false_iff_not]at h1;exact h1 ha
 ·show(c.Way++[m]).length<=20;have:=hf.long;simp;omega
 ·intro y hy;have hy2:y∈O9 s.Plan (c.Way++[m]) ((c.Way++[m]).length-1):=by
   have:E0 s (r5 c m)=O9 s.Plan (c.Way++[m]) ((c.Way++[m]).length-1):=G4 hway;rw[<-this];exact hy
  by_cases hne:c.Way=[]
  ·rw[hne]at hy2;simp at hy2
  rw[c2H _ hne,List.mem_append]at hy2
  rcases hy2 with h|h
  ·have hwy:=hc.way hne;refine b1e hs hc hm hx.pts hc.way hc.held (fun hg=>hf.set hg c (T9 hx.srt)) y ?_;rw[G4 hwy];exact h
  ·split at h
   ·rename_i p9;simp only[List.mem_singleton]at h;have hg:N2 s c m=true:=by
     simp only[N2,qh,decide_eq_true_eq];exact⟨hne,hwl hne,p9⟩
    obtain⟨g1,g2,_⟩:=a4D hs hc.way hm hg;have e:y=E4 s c m:=by unfold E4;rw[if_pos hg,h];rfl
    have hp:=hx.pts;simp only[a5o,qh,decide_eq_true_eq]at hp;show(a3C s c m x.Points)[y.Node.toNat]?=some y.Leg;unfold a3C;rw[if_pos hg,e,List.getElem?_set_self (by omega)]
   ·cases h
 ·have ha:=hc.apart o ho hne;rw[U7]at ha ⊢;intro a hal n hn
  rcases List.mem_append.1 hal with h|h
  ·exact ha a h n hn
  ·simp only[List.mem_singleton]at h;subst h;exact⟨hf.foul o ho hne n hn,hf.side o ho hne n hn⟩
theorem b1i {s:j0} {x:Sta} {c:Car} (hx:R1 s x) (hc:a3K s x c) (hb:a1k s c=true):R1 s {x with Cars:=B5 x.Cars c}:=by
 refine⟨R6 c hx.srt,fun o ho=>?_,hx.pts,fun o ho=>?_,fun a ha b hb2 hne=>?_⟩
 ·rcases(z7 hx.srt).1 ho with rfl|⟨h,_⟩
  ·exact hb
  ·exact hx.car o h
 ·rcases(z7 hx.srt).1 ho with rfl|⟨h,_⟩
  ·exact hc.held
  ·exact hx.held o h
 ·rcases(z7 hx.srt).1 ha with rfl|⟨h,k⟩<;>rcases(z7 hx.srt).1 hb2 with rfl|⟨h2,k2⟩
  ·exact absurd rfl hne
  ·exact hc.apart b h2 k2
  ·exact b2X (hc.apart a h k)
  ·exact hx.apart a h b h2 hne
theorem c4w {s:j0} {x:Sta} (n:Int) (hx:R1 s x):R1 s {x with Cars:=a5r x.Cars n}:=
 ⟨b8I n hx.srt,fun o ho=>hx.car o (a1z.1 ho).1,hx.pts,fun o ho=>hx.held o (a1z.1 ho).1,fun a ha b hb hne=>hx.apart a (a1z.1 ha).1 b (a1z.1 hb).1 hne⟩
theorem b2P {s:j0} (hs:Q2 s=true) {x:Sta} {c:Car} (hc:a3K s x c) {way:List Move} {f:Int} (hw:way≠[]->wayB s.Plan way=true) (hsub:way.Sublist c.Way) (hl:∀y∈O9 s.Plan way (way.length-1),y∈O9 s.Plan c.Way (c.Way.length-1)):a3K s x {c with Way:=way,Front:=f}:=by
 refine⟨hw,?_,Nat.le_trans hsub.length_le hc.len,?_,fun o ho hne=>?_⟩
 ·exact hc.nod.sublist (hsub.map _)
 ·intro y hy
  by_cases hne:way=[]
  ·unfold E0 at hy;rw[hne]at hy;simp[wayB,inr]at hy
  have e:E0 s {c with Way:=way,Front:=f}=O9 s.Plan way (way.length-1):=G4 (c:={c with Way:=way,Front:=f}) (hw hne);rw[e]at hy;have hcne:c.Way≠[]:=by rintro e;rw[e]at hsub;exact hne (List.sublist_nil.1 hsub)
  refine hc.held y ?_;rw[G4 (hc.way hcne)];exact hl y hy
 ·have:=hc.apart o ho hne;rw[U7]at this ⊢;exact fun m hm=>this m (hsub.subset hm)
theorem c1L {p:Plan} {l:List Move} {n:Nat} {y:R0} (h:y∈O9 p (l.take n) ((l.take n).length-1)):y∈O9 p l (l.length-1):=by
 obtain⟨i,hi,h1,h2⟩:=a0V.1 h;rw[qm]at hi;have e:∀j,j<n->y4 (l.take n) j=y4 l j:=by
  intro j hj;unfold y4;rw[qk,if_pos hj]
 rw[e i (by omega)]at h1 h2;rw[e (i+1) (by omega)]at h2;exact a0V.2 ⟨i,by omega,h1,h2⟩
theorem c1l {p:Plan} {l:List Move} {n:Nat} {y:R0} (h:y∈O9 p (l.drop n) ((l.drop n).length-1)):y∈O9 p l (l.length-1):=by
 obtain⟨i,hi,h1,h2⟩:=a0V.1 h;rw[qx]at hi;have e:∀j,y4 (l.drop n) j=y4 l (n+j):=by
  intro j;unfold y4;rw[ql]
 rw[e]at h1 h2;rw[e]at h2;exact a0V.2 ⟨n+i,by omega,h1,by rw[h2,Nat.add_assoc]⟩
end Go.Tram.Lk
end
section
namespace Go.Tram.Lk
open Go.AM Go.Proofs
theorem a7S {P : Program} {f : FuncId} {fn : Func} {c : Code} {x : AV} {rest : List AV} {res : AV} (hf : P.funcs[f]? = some fn) (hb : fn.body = some c) (hname : (fn.name == "runtime.NumGoroutine") = false)
  (h:∀(w:World) (S:Nat->Prop) (y:Value),r8 w S x y->∃x',r8 w S x' y/\a9 P f (x'::rest) res):a9 P f (x::rest) res:=by
 have hn' : ¬ fn.name = "runtime.NumGoroutine" := by simpa using hname
 have hcf:∀(w:World) (vs:Array Value),(callFunc f vs).run P w= .ok (.enter f vs) w:=fun w vs=>by simp[callFunc,hf,hn',hb]
 refine Or.inl ⟨hcf,?_⟩;intro S0 w vs hlow hl hrep
 match vs,hl with
 | y::vs,hl=>
  obtain⟨x',hx',hp⟩:=h w S0 y (hrep 0 x y rfl rfl);have hrep':∀(i:Nat) c z,(x'::rest)[i]?=some c->(y::vs)[i]?=some z->r8 w S0 c z:=by
   intro i c z h1 h2
   cases i with
   |zero=>simp only[List.getElem?_cons_zero,qb]at h1 h2;subst h1 h2;exact hx'
   |succ i=>exact hrep (i+1) c z (by simpa using h1) h2
  rcases hp with⟨_,h2⟩|h2
  ·exact h2 S0 w (y::vs) hlow (by simpa using hl) hrep'
  ·obtain⟨v,h3,_⟩:=h2 S0 w (y::vs) (by simpa using hl) hrep';rw[hcf]at h3;cases h3
theorem c5c (op:BinOp) (t:TypeId) (x y:Operand) (a b:Option Addr) (n c m d:Nat) (w:World):(eqGuard op t x y (.slice a n c) (.slice b m d)).run Tryz.prog w= .ok () w:=by
 cases op<;>simp[eqGuard]
theorem c4h (t e:TypeId) (hu:(Tryz.prog).underlying t=some (.slice e)) (a:Option Addr) (n c:Nat) (w:World):(binOp .eql t (.slice a n c) (.slice none 0 0)).run Tryz.prog w= .ok (.bool a.isNone) w:=by
 have hq:(Op.equal t (.slice a n c) (.slice none 0 0)).run Tryz.prog w= .ok a.isNone w:=by
  show(Op.equalIn (Op.maxDepth-1+1) t _ _).run _ w=_
  cases a<;>simp[Op.equalIn,run_underlying hu]
 simp[binOp,hq]
theorem c4I {w:World} {S:Nat->Prop} {sz:Nat} {y:Value} (h:r8 w S (.lst sz []) y):∃a cap,y= .slice a 0 cap:=by
 cases h with
 |lst _ _ b off cap=>exact⟨_,cap,rfl⟩
 |lstNil _ a cap=>exact⟨a,cap,rfl⟩
theorem c4o {w:World} {S:Nat->Prop} {sz:Nat} {y:Value} (h:r8 w S (.v (.slice none 0 0)) y):r8 w S (.lst sz []) y:=by
 cases h;exact .lstNil _ _ _
theorem b6m {w:World} {S:Nat->Prop} {sz:Nat} {y:Value} (h:r8 w S (.full sz []) y):r8 w S (.lst sz []) y:=by
 cases h;exact .lstNil _ _ _
@[simp] theorem slM:Q6 Tryz.prog 49=true:=by kernel_rfl
@[simp] theorem c8Z:Q6 Tryz.prog 26=true:=by kernel_rfl
@[simp] theorem c8T:Q6 Tryz.prog 27=true:=by kernel_rfl
@[simp] theorem c8r:Q6 Tryz.prog 22=true:=by kernel_rfl
@[simp] theorem c8R:Q6 Tryz.prog 23=true:=by kernel_rfl
@[simp] theorem c8V:Q6 Tryz.prog 78=true:=by kernel_rfl
@[simp] theorem c8H:Q6 Tryz.prog 81=true:=by kernel_rfl
@[simp] theorem c8I:Q6 Tryz.prog 41=true:=by kernel_rfl
theorem usM:(Tryz.prog).underlying 49=some (.slice 56):=by kernel_rfl
theorem c7u:(Tryz.prog).underlying 26=some (.slice 108):=by kernel_rfl
theorem c7q:(Tryz.prog).underlying 27=some (.slice 85):=by kernel_rfl
theorem c6y:(Tryz.prog).underlying 78=some (.slice 161):=by kernel_rfl
theorem c6B:(Tryz.prog).underlying 81=some (.slice 76):=by kernel_rfl
theorem c5F (l:List Move) (hn:l.length<=1000):a9 Tryz.prog 40 [.lst 2 (l.map Move.cells)] (.lst 2 (l.map Move.cells)):=by
 by_cases hne:l=[]
 ·subst hne;refine a7S Tryz.func40 rfl (by decide) fun w S y hy=>?_;obtain⟨a,cap,rfl⟩:=c4I hy;refine⟨.v (.slice a 0 cap), .v _,?_⟩
  cases a with
  |none=>
   refine a9.res (res:= .v (.slice none 0 0)) ?_ fun w S y=>c4o;refine oB Tryz.func40 Tryz.ntmps40 Tryz.results40 ?_;refine aW ?_;refine a5 fun K1 hK1=>?_;refine aW ?_;refine a7 rfl (fun hc0=>?_) (fun hc0=>?_)
   ·refine aW ?_;exact a6 (by simp)
   ·simp at hc0
  |some a=>
   refine a9.res (res:= .full 2 []) ?_ fun w S y=>b6m;refine oB Tryz.func40 Tryz.ntmps40 Tryz.results40 ?_;refine aW ?_;refine a5 fun K1 hK1=>?_;refine aW ?_ fun K hK=>by simp -dsimp;refine⟨fun w=>c5c _ _ _ _ _ _ _ _ _ _ w,_,fun w=>c4h _ _ usM _ _ _ w,?_⟩;simp -dsimp;exact hK
   refine a7 rfl (fun hc0=>?_) (fun hc0=>?_)
   ·simp at hc0
   ·refine b9 ?_;refine zQ (hK1 _ _ ?_);refine aP [0] ?_;refine aW ?_;exact a6 (by simp)
 ·have f1:R2 l.length 17:=n7 (by omega) (by omega);refine oB Tryz.func40 Tryz.ntmps40 Tryz.results40 ?_;refine aW ?_;refine a5 fun K1 hK1=>?_;refine aW ?_ fun K hK=>by simp -dsimp [hne];exact hK
  refine a7 rfl (fun hc0=>?_) (fun hc0=>?_)
  ·simp at hc0
  ·refine b9 ?_;refine zQ (hK1 _ _ ?_);refine aP [0] ?_;refine aW ?_ fun K hK=>by simp -dsimp [hne,f1];exact hK
   have htk:List.take l.length (l.map Move.cells)=l.map Move.cells:=qg (by simp);have hfz:∀H n,List.map ((fun e=>List.map (M0 H (n+1)) e)∘Move.cells) l=l.map Move.cells:=fun H n=>List.map_congr_left fun x _=>by simp[M0]
   exact a6 (by simp[htk,hfz])
theorem b9I (l:List Profile) (hn:l.length<=1000):a9 Tryz.prog 69 [.lst 2 (l.map Profile.cells)] (.lst 2 (l.map Profile.cells)):=by
 by_cases hne:l=[]
 ·subst hne;refine a7S Tryz.func69 rfl (by decide) fun w S y hy=>?_;obtain⟨a,cap,rfl⟩:=c4I hy;refine⟨.v (.slice a 0 cap), .v _,?_⟩
  cases a with
  |none=>
   refine a9.res (res:= .v (.slice none 0 0)) ?_ fun w S y=>c4o;refine oB Tryz.func69 Tryz.ntmps69 Tryz.results69 ?_;refine aW ?_;refine a5 fun K1 hK1=>?_;refine aW ?_;refine a7 rfl (fun hc0=>?_) (fun hc0=>?_)
   ·refine aW ?_;exact a6 (by simp)
   ·simp at hc0
  |some a=>
   refine a9.res (res:= .full 2 []) ?_ fun w S y=>b6m;refine oB Tryz.func69 Tryz.ntmps69 Tryz.results69 ?_;refine aW ?_;refine a5 fun K1 hK1=>?_;refine aW ?_ fun K hK=>by simp -dsimp;refine⟨fun w=>c5c _ _ _ _ _ _ _ _ _ _ w,_,fun w=>c4h _ _ c7u _ _ _ w,?_⟩;simp -dsimp;exact hK
   refine a7 rfl (fun hc0=>?_) (fun hc0=>?_)
   ·simp at hc0
   ·refine b9 ?_;refine zQ (hK1 _ _ ?_);refine aP [0] ?_;refine aW ?_;exact a6 (by simp)
 ·have f1:R2 l.length 17:=n7 (by omega) (by omega);refine oB Tryz.func69 Tryz.ntmps69 Tryz.results69 ?_;refine aW ?_;refine a5 fun K1 hK1=>?_;refine aW ?_ fun K hK=>by simp -dsimp [hne];exact hK
  refine a7 rfl (fun hc0=>?_) (fun hc0=>?_)
  ·simp at hc0
  ·refine b9 ?_;refine zQ (hK1 _ _ ?_);refine aP [0] ?_;refine aW ?_ fun K hK=>by simp -dsimp [hne,f1];exact hK
   have htk:List.take l.length (l.map Profile.cells)=l.map Profile.cells:=qg (by simp);have hfz:∀H n,List.map ((fun e=>List.map (M0 H (n+1)) e)∘Profile.cells) l=l.map Profile.cells:=fun H n=>List.map_congr_left fun x _=>by simp[M0]
   exact a6 (by simp[htk,hfz])
theorem c3J (l:List (List Move)) (hn:l.length<=1000):a9 Tryz.prog 70 [.lst 1 (l.map r7)] (.lst 1 (l.map r7)):=by
 by_cases hne:l=[]
 ·subst hne;refine a7S Tryz.func70 rfl (by decide) fun w S y hy=>?_;obtain⟨a,cap,rfl⟩:=c4I hy;refine⟨.v (.slice a 0 cap), .v _,?_⟩
  cases a with
  |none=>
   refine a9.res (res:= .v (.slice none 0 0)) ?_ fun w S y=>c4o;refine oB Tryz.func70 Tryz.ntmps70 Tryz.results70 ?_;refine aW ?_;refine a5 fun K1 hK1=>?_;refine aW ?_;refine a7 rfl (fun hc0=>?_) (fun hc0=>?_)
   ·refine aW ?_;exact a6 (by simp)
   ·simp at hc0
  |some a=>
   refine a9.res (res:= .full 1 []) ?_ fun w S y=>b6m;refine oB Tryz.func70 Tryz.ntmps70 Tryz.results70 ?_;refine aW ?_;refine a5 fun K1 hK1=>?_;refine aW ?_ fun K hK=>by simp -dsimp;refine⟨fun w=>c5c _ _ _ _ _ _ _ _ _ _ w,_,fun w=>c4h _ _ c7q _ _ _ w,?_⟩;simp -dsimp;exact hK
   refine a7 rfl (fun hc0=>?_) (fun hc0=>?_)
   ·simp at hc0
   ·refine b9 ?_;refine zQ (hK1 _ _ ?_);refine aP [0] ?_;refine aW ?_;exact a6 (by simp)
 ·have f1:R2 l.length 25:=n7 (by omega) (by omega);refine oB Tryz.func70 Tryz.ntmps70 Tryz.results70 ?_;refine aW ?_;refine a5 fun K1 hK1=>?_;refine aW ?_ fun K hK=>by simp -dsimp [hne];exact hK
  refine a7 rfl (fun hc0=>?_) (fun hc0=>?_)
  ·simp at hc0
  ·refine b9 ?_;refine zQ (hK1 _ _ ?_);refine aP [0] ?_;refine aW ?_ fun K hK=>by simp -dsimp [hne,f1];exact hK
   have htk:List.take l.length (l.map r7)=l.map r7:=qg (by simp);have hfz:∀H n,List.map ((fun e=>List.map (M0 H (n+1)) e)∘r7) l=l.map r7:=fun H n=>List.map_congr_left fun x _=>by simp[M0]
   exact a6 (by simp[htk,hfz])
theorem b9Z (l:List E1) (hn:l.length<=1000):a9 Tryz.prog 73 [.lst 2 (l.map E1.cells)] (.lst 2 (l.map E1.cells)):=by
 by_cases hne:l=[]
 ·subst hne;refine a7S Tryz.func73 rfl (by decide) fun w S y hy=>?_;obtain⟨a,cap,rfl⟩:=c4I hy;refine⟨.v (.slice a 0 cap), .v _,?_⟩
  cases a with
  |none=>
   refine a9.res (res:= .v (.slice none 0 0)) ?_ fun w S y=>c4o;refine oB Tryz.func73 Tryz.ntmps73 Tryz.results73 ?_;refine aW ?_;refine a5 fun K1 hK1=>?_;refine aW ?_;refine a7 rfl (fun hc0=>?_) (fun hc0=>?_)
   ·refine aW ?_;exact a6 (by simp)
   ·simp at hc0
  |some a=>
   refine a9.res (res:= .full 2 []) ?_ fun w S y=>b6m;refine oB Tryz.func73 Tryz.ntmps73 Tryz.results73 ?_;refine aW ?_;refine a5 fun K1 hK1=>?_;refine aW ?_ fun K hK=>by simp -dsimp;refine⟨fun w=>c5c _ _ _ _ _ _ _ _ _ _ w,_,fun w=>c4h _ _ c6y _ _ _ w,?_⟩;simp -dsimp;exact hK
   refine a7 rfl (fun hc0=>?_) (fun hc0=>?_)
   ·simp at hc0
   ·refine b9 ?_;refine zQ (hK1 _ _ ?_);refine aP [0] ?_;refine aW ?_;exact a6 (by simp)
 ·have f1:R2 l.length 17:=n7 (by omega) (by omega);refine oB Tryz.func73 Tryz.ntmps73 Tryz.results73 ?_;refine aW ?_;refine a5 fun K1 hK1=>?_;refine aW ?_ fun K hK=>by simp -dsimp [hne];exact hK
  refine a7 rfl (fun hc0=>?_) (fun hc0=>?_)
  ·simp at hc0
  ·refine b9 ?_;refine zQ (hK1 _ _ ?_);refine aP [0] ?_;refine aW ?_ fun K hK=>by simp -dsimp [hne,f1];exact hK
   have htk:List.take l.length (l.map E1.cells)=l.map E1.cells:=qg (by simp);have hfz:∀H n,List.map ((fun e=>List.map (M0 H (n+1)) e)∘E1.cells) l=l.map E1.cells:=fun H n=>List.map_congr_left fun x _=>by simp[M0]
   exact a6 (by simp[htk,hfz])
theorem b9F (l:List Spot) (hn:l.length<=1000):a9 Tryz.prog 74 [.lst 2 (l.map Spot.cells)] (.lst 2 (l.map Spot.cells)):=by
 by_cases hne:l=[]
 ·subst hne;refine a7S Tryz.func74 rfl (by decide) fun w S y hy=>?_;obtain⟨a,cap,rfl⟩:=c4I hy;refine⟨.v (.slice a 0 cap), .v _,?_⟩
  cases a with
  |none=>
   refine a9.res (res:= .v (.slice none 0 0)) ?_ fun w S y=>c4o;refine oB Tryz.func74 Tryz.ntmps74 Tryz.results74 ?_;refine aW ?_;refine a5 fun K1 hK1=>?_;refine aW ?_;refine a7 rfl (fun hc0=>?_) (fun hc0=>?_)
   ·refine aW ?_;exact a6 (by simp)
   ·simp at hc0
  |some a=>
   refine a9.res (res:= .full 2 []) ?_ fun w S y=>b6m;refine oB Tryz.func74 Tryz.ntmps74 Tryz.results74 ?_;refine aW ?_;refine a5 fun K1 hK1=>?_;refine aW ?_ fun K hK=>by simp -dsimp;refine⟨fun w=>c5c _ _ _ _ _ _ _ _ _ _ w,_,fun w=>c4h _ _ c6B _ _ _ w,?_⟩;simp -dsimp;exact hK
   refine a7 rfl (fun hc0=>?_) (fun hc0=>?_)
   ·simp at hc0
   ·refine b9 ?_;refine zQ (hK1 _ _ ?_);refine aP [0] ?_;refine aW ?_;exact a6 (by simp)
 ·have f1:R2 l.length 17:=n7 (by omega) (by omega);refine oB Tryz.func74 Tryz.ntmps74 Tryz.results74 ?_;refine aW ?_;refine a5 fun K1 hK1=>?_;refine aW ?_ fun K hK=>by simp -dsimp [hne];exact hK
  refine a7 rfl (fun hc0=>?_) (fun hc0=>?_)
  ·simp at hc0
  ·refine b9 ?_;refine zQ (hK1 _ _ ?_);refine aP [0] ?_;refine aW ?_ fun K hK=>by simp -dsimp [hne,f1];exact hK
   have htk:List.take l.length (l.map Spot.cells)=l.map Spot.cells:=qg (by simp);have hfz:∀H n,List.map ((fun e=>List.map (M0 H (n+1)) e)∘Spot.cells) l=l.map Spot.cells:=fun H n=>List.map_congr_left fun x _=>by simp[M0]
   exact a6 (by simp[htk,hfz])
theorem c5d (l:List (List Move)) (hne:l≠[]) (hn:l.length<=1000):I7 Tryz.prog 70 [.lst 1 (l.map r7)] 0 l.length 1 (l.map r7):=by
 have f1:R2 l.length 25:=n7 (by omega) (by omega);refine I7.of_body Tryz.func70 rfl (by decide) (by simp[Tryz.ntmps70]) (by simp) (by simpa using hne) ?_;simp only[Tryz.ntmps70,Tryz.results70];refine aW ?_;refine a5 fun K1 hK1=>?_;refine aW ?_ fun K hK=>by simp -dsimp [hne];exact hK
 refine a7 rfl (fun hc0=>?_) (fun hc0=>?_)
 ·simp at hc0
 ·refine b9 ?_;refine zQ (hK1 _ _ ?_);refine aP [0] ?_;refine aW ?_ fun K hK=>by simp -dsimp [hne,f1];exact hK
  exact a6 ⟨2,0,rfl,by simp,by simp⟩
theorem c0s (l:List Node) (hne:l≠[]) (hn:l.length<=1000):I7 Tryz.prog 71 [.lst 5 (l.map Node.cells)] 0 l.length 5 (l.map Node.cells):=by
 have f1:R2 l.length 57:=n7 (by omega) (by omega);refine I7.of_body Tryz.func71 rfl (by decide) (by simp[Tryz.ntmps71]) (by simp) (by simpa using hne) ?_;simp only[Tryz.ntmps71,Tryz.results71];refine aW ?_;refine a5 fun K1 hK1=>?_;refine aW ?_ fun K hK=>by simp -dsimp [hne];exact hK
 refine a7 rfl (fun hc0=>?_) (fun hc0=>?_)
 ·simp at hc0
 ·refine b9 ?_;refine zQ (hK1 _ _ ?_);refine aP [0] ?_;refine aW ?_ fun K hK=>by simp -dsimp [hne,f1];exact hK
  exact a6 ⟨2,0,rfl,by simp,by simp⟩
theorem c0u (l:List Rail) (hne:l≠[]) (hn:l.length<=1000):I7 Tryz.prog 72 [.lst 5 (l.map Rail.cells)] 0 l.length 5 (l.map Rail.cells):=by
 have f1:R2 l.length 57:=n7 (by omega) (by omega);refine I7.of_body Tryz.func72 rfl (by decide) (by simp[Tryz.ntmps72]) (by simp) (by simpa using hne) ?_;simp only[Tryz.ntmps72,Tryz.results72];refine aW ?_;refine a5 fun K1 hK1=>?_;refine aW ?_ fun K hK=>by simp -dsimp [hne];exact hK
 refine a7 rfl (fun hc0=>?_) (fun hc0=>?_)
 ·simp at hc0
 ·refine b9 ?_;refine zQ (hK1 _ _ ?_);refine aP [0] ?_;refine aW ?_ fun K hK=>by simp -dsimp [hne,f1];exact hK
  exact a6 ⟨2,0,rfl,by simp,by simp⟩
end Go.Tram.Lk
end
section
namespace Go.Tram.Lk
open Go.AM Go.Proofs
theorem a1V {α β:Type} {f:α->β} {l:List α} {i:Nat} {x:α} (h:l[i]?=some x):(l.map f).set i (f x)=l.map f:=by
 apply List.ext_getElem?;intro j;rw[List.getElem?_set,qe]
 split
 ·rename_i e;subst e;rw[h,List.length_map,if_pos (qa.1 h).1];rfl
 ·rfl
abbrev L7:AV:= .v (.slice none 0 0)
abbrev ndL (p:Plan):AV:= .lst 5 (p.Nodes.map Node.cells)
abbrev rlL (p:Plan):AV:= .lst 5 (p.Rails.map Rail.cells)
abbrev pfL (l:List Profile):AV:= .lst 2 (l.map Profile.cells)
abbrev c1s (l:List (List Move)):AV:= .lst 1 (l.map r7)
theorem b8R (s:j0) (hs:Q2 s=true) (hne:s.Singles≠[]):a9 Tryz.prog 32 [s.av] s.av:=by
 obtain⟨hv,hp,hsn,hsb⟩:=l9 hs;have hvp:=j9 hv;have hNl:s.Plan.Nodes.length<=300:=hvp.1.2;have hRl:s.Plan.Rails.length<=400:=hvp.2.1.2;have hN1:s.Plan.Nodes≠[]:=by intro e;have:=hvp.1.1;rw[e]at this;simp at this
 have hR1:s.Plan.Rails≠[]:=by intro e;have:=hvp.2.1.1;rw[e]at this;simp at this
 have hpl:s.Profiles.length<=6:=by simp only[N4,qh,decide_eq_true_eq]at hp;exact hp.2.1
 have hcp:=b9I s.Profiles (by omega);refine oB Tryz.func32 Tryz.ntmps32 Tryz.results32 ?_;refine aW ?_;refine aW ?_ fun K hK=>by simp -dsimp;refine cI (hcp) ?_;simp -dsimp;exact hK
 refine aW ?_ fun K hK=>by simp -dsimp;refine T6 (c5d s.Singles hne (by omega)) ?_;simp -dsimp;exact hK
 refine a5 fun K1 hK1=>?_;refine aW ?_;refine b8 ?_;refine aP [1,2,18,19,20] ?_;refine c6 [1,2,18,19] (α:=Nat) (fun i=>[(20,I i)]) (fun i=>[some (.els 4 [[ndL s.Plan,rlL s.Plan,pfL s.Profiles, .row 2 0 s.Singles.length]]),some (.els 4 [[L7,L7,L7,L7]]),some (.els 1 (s.Singles.map r7))]) (fun i=>i<=s.Singles.length) (fun i=>s.Singles.length-i) 0 ?_ ?_ ?_
 ·exact qp _
 ·exact aB [some 0,some 1,some 2]
 rintro i i1;refine zN ?_;refine aW ?_;refine a5 fun K2 hK2=>?_;refine a7 rfl (fun hc0=>?_) (fun hc0=>?_)
 ·skip
  try simp at hc0
  obtain⟨x,hx⟩:=gx (l:=s.Singles) (i:=i) (by simpa using hc0);have wi:=zW i (by omega);have hxl:=(a0J.1 hsb).1 x (qd hx);have hcm:=c5F x (by omega);have p9:=a1V (f:=r7) hx;obtain⟨hil,hxe⟩:=qa.1 hx;refine b9 ?_;refine zQ (hK2 _ _ ?_);refine aP [1,2,18,19,20] ?_;refine a5 fun K3 hK3=>?_;refine b8 ?_;refine aW ?_ fun K hK=>by simp -dsimp [hx,hil,hxe];exact hK
  refine aE ?_ fun K hK=>by simp -dsimp [hx,hil,hxe];refine cI (hcm) ?_;simp -dsimp [hx,hil,hxe];exact hK
  refine zQ (hK3 _ _ ?_);refine aP [1,2,18,19,20] ?_;refine aV ?_ fun K hK=>by simp -dsimp [wi];exact hK
  refine zQ ?_;exact⟨i+1,by omega,by omega,g7 [some 0,some 1,some 2] rfl (by simp) (by simp at p9;simp[p9])⟩
 ·skip
  try simp at hc0
  have hie:i=s.Singles.length:=by have:¬i<s.Singles.length:=(by simpa using hc0);omega
  subst hie;refine d4 ?_;refine zQ (hK1 _ _ ?_);refine aP [1,2] ?_;refine aD ?_ fun K hK=>by simp -dsimp;refine T6 (c0s s.Plan.Nodes hN1 (by omega)) ?_;simp -dsimp;refine T6 (c0u s.Plan.Rails hR1 (by omega)) ?_;simp -dsimp;exact hK
  refine a5 fun K4 hK4=>?_;refine aW ?_;refine b8 ?_;refine aP [1,2,48,49,50] ?_;refine c6 [1,2,48,49] (α:=Nat) (fun i=>[(50,I i)]) (fun i=>[some (.els 4 [[.row 3 0 s.Plan.Nodes.length, .row (3+1) 0 s.Plan.Rails.length,pfL s.Profiles, .row 2 0 s.Singles.length]]),some (.els 4 [[L7,L7,L7,L7]]),some (.els 1 (s.Singles.map r7)),some (.els 5 (s.Plan.Nodes.map Node.cells)),some (.els 5 (s.Plan.Rails.map Rail.cells))]) (fun i=>i<=s.Plan.Nodes.length) (fun i=>s.Plan.Nodes.length-i) 0 ?_ ?_ ?_
  ·exact qp _
  ·exact aB [some 0,some 1,some 2,some 3,some 4]
  rintro i i1;refine zN ?_;refine aW ?_;refine a5 fun K5 hK5=>?_;refine a7 rfl (fun hc1=>?_) (fun hc1=>?_)
  ·skip
   try simp at hc1
   obtain⟨n,hn⟩:=gx (l:=s.Plan.Nodes) (i:=i) (by simpa using hc1);have wi:=zW i (by omega);obtain⟨hil,hxe⟩:=qa.1 hn;have hnk:=(U2 (qn.1 hvp.2.2.1 n (qd hn))).2.1;have hce:=b9Z n.Ends (by omega);have p9:=a1V (f:=Node.cells) hn;refine b9 ?_;refine zQ (hK5 _ _ ?_);refine aP [1,2,48,49,50] ?_;refine a5 fun K6 hK6=>?_;refine b8 ?_;refine aW ?_ fun K hK=>by simp -dsimp [hn,hil,hxe];exact hK
   refine aE ?_ fun K hK=>by simp -dsimp [hn,hil,hxe];refine cI (hce) ?_;simp -dsimp [hn,hil,hxe];exact hK
   refine zQ (hK6 _ _ ?_);refine aP [1,2,48,49,50] ?_;refine aV ?_ fun K hK=>by simp -dsimp [wi];exact hK
   refine zQ ?_;exact⟨i+1,by omega,by omega,g7 [some 0,some 1,some 2,some 3,some 4] rfl (by simp) (by simp at p9;simp[p9])⟩
  ·skip
   try simp at hc1
   have hie:i=s.Plan.Nodes.length:=by have:¬i<s.Plan.Nodes.length:=(by simpa using hc1);omega
   subst hie;refine d4 ?_;refine zQ (hK4 _ _ ?_);refine aP [1,2] ?_;refine a5 fun K7 hK7=>?_;refine aW ?_;refine b8 ?_;refine aP [1,2,67,68,69] ?_;refine c6 [1,2,67,68] (α:=Nat) (fun i=>[(69,I i)]) (fun i=>[some (.els 4 [[.row 3 0 s.Plan.Nodes.length, .row (3+1) 0 s.Plan.Rails.length,pfL s.Profiles, .row 2 0 s.Singles.length]]),some (.els 4 [[L7,L7,L7,L7]]),some (.els 1 (s.Singles.map r7)),some (.els 5 (s.Plan.Nodes.map Node.cells)),some (.els 5 (s.Plan.Rails.map Rail.cells))]) (fun i=>i<=s.Plan.Rails.length) (fun i=>s.Plan.Rails.length-i) 0 ?_ ?_ ?_
   ·exact qp _
   ·exact aB [some 0,some 1,some 2,some 3,some 4]
   rintro i i1;refine zN ?_;refine aW ?_;refine a5 fun K8 hK8=>?_;refine a7 rfl (fun hc2=>?_) (fun hc2=>?_)
   ·skip
    try simp at hc2
    obtain⟨r,hr⟩:=gx (l:=s.Plan.Rails) (i:=i) (by simpa using hc2);have wi:=zW i (by omega);obtain⟨hil,hxe⟩:=qa.1 hr;have hrk:r.Shape.length<=30:=by have:=qn.1 hvp.2.2.2.1 r (qd hr);simp only[E5,S8,qh,decide_eq_true_eq]at this;exact this.1.2.2.1
    have hcs:=b9F r.Shape (by omega);have p9:=a1V (f:=Rail.cells) hr;refine b9 ?_;refine zQ (hK8 _ _ ?_);refine aP [1,2,67,68,69] ?_;refine a5 fun K9 hK9=>?_;refine b8 ?_;refine aW ?_ fun K hK=>by simp -dsimp [hr,hil,hxe];exact hK
    refine aE ?_ fun K hK=>by simp -dsimp [hr,hil,hxe];refine cI (hcs) ?_;simp -dsimp [hr,hil,hxe];exact hK
    refine zQ (hK9 _ _ ?_);refine aP [1,2,67,68,69] ?_;refine aV ?_ fun K hK=>by simp -dsimp [wi];exact hK
    refine zQ ?_;exact⟨i+1,by omega,by omega,g7 [some 0,some 1,some 2,some 3,some 4] rfl (by simp) (by simp at p9;simp[p9])⟩
   ·skip
    try simp at hc2
    have hie:i=s.Plan.Rails.length:=by have:¬i<s.Plan.Rails.length:=(by simpa using hc2);omega
    subst hie;refine d4 ?_;refine zQ (hK7 _ _ ?_);refine aP [1,2] ?_;refine aW ?_;have t1:List.take s.Plan.Nodes.length (s.Plan.Nodes.map Node.cells)=s.Plan.Nodes.map Node.cells:=qg (by simp);have t2:List.take s.Plan.Rails.length (s.Plan.Rails.map Rail.cells)=s.Plan.Rails.map Rail.cells:=qg (by simp);have t3:List.take s.Singles.length (s.Singles.map r7)=s.Singles.map r7:=qg (by simp);have z1:∀H n,List.map ((fun e=>List.map (M0 H (n+1)) e)∘Node.cells) s.Plan.Nodes=s.Plan.Nodes.map Node.cells:=fun H n=>List.map_congr_left fun x _=>by simp[M0]
    have z2:∀H n,List.map ((fun e=>List.map (M0 H (n+1)) e)∘Rail.cells) s.Plan.Rails=s.Plan.Rails.map Rail.cells:=fun H n=>List.map_congr_left fun x _=>by simp[M0]
    have z3:∀H n,List.map ((fun e=>List.map (M0 H (n+1)) e)∘r7) s.Singles=s.Singles.map r7:=fun H n=>List.map_congr_left fun x _=>by simp[M0]
    exact a6 (by simp[t1,t2,t3,z1,z2,z3])
theorem b7q (s:j0) (hs:Q2 s=true) (hne:s.Singles=[]):a9 Tryz.prog 32 [s.av] s.av:=by
 obtain⟨hv,hp,hsn,hsb⟩:=l9 hs;have hvp:=j9 hv;have hNl:s.Plan.Nodes.length<=300:=hvp.1.2;have hRl:s.Plan.Rails.length<=400:=hvp.2.1.2;have hN1:s.Plan.Nodes≠[]:=by intro e;have:=hvp.1.1;rw[e]at this;simp at this
 have hR1:s.Plan.Rails≠[]:=by intro e;have:=hvp.2.1.1;rw[e]at this;simp at this
 have hpl:s.Profiles.length<=6:=by simp only[N4,qh,decide_eq_true_eq]at hp;exact hp.2.1
 have hcp:=b9I s.Profiles (by omega);refine oB Tryz.func32 Tryz.ntmps32 Tryz.results32 ?_;refine aW ?_;refine aW ?_ fun K hK=>by simp -dsimp;refine cI (hcp) ?_;simp -dsimp;exact hK
 refine aW ?_ fun K hK=>by simp -dsimp;refine cI (c3J s.Singles (by omega)) ?_;simp -dsimp;exact hK
 refine a5 fun K1 hK1=>?_;refine aW ?_;refine b8 ?_;refine aP [1,2,18,19,20] ?_;refine c6 [1,2,18,19] (α:=Nat) (fun i=>[(20,I i)]) (fun i=>[some (.els 4 [[ndL s.Plan,rlL s.Plan,pfL s.Profiles,c1s s.Singles]]),some (.els 4 [[L7,L7,L7,L7]])]) (fun i=>i<=s.Singles.length) (fun i=>s.Singles.length-i) 0 ?_ ?_ ?_
 ·exact qp _
 ·exact aB [some 0,some 1]
 rintro i i1;refine zN ?_;refine aW ?_;refine a5 fun K2 hK2=>?_;refine a7 rfl (fun hc0=>?_) (fun hc0=>?_)
 ·skip
  try simp at hc0
  exfalso;simp[hne]at hc0
 ·skip
  try simp at hc0
  have hie:i=s.Singles.length:=by have:¬i<s.Singles.length:=(by simpa using hc0);omega
  subst hie;refine d4 ?_;refine zQ (hK1 _ _ ?_);refine aP [1,2] ?_;refine aD ?_ fun K hK=>by simp -dsimp;refine T6 (c0s s.Plan.Nodes hN1 (by omega)) ?_;simp -dsimp;refine T6 (c0u s.Plan.Rails hR1 (by omega)) ?_;simp -dsimp;exact hK
  refine a5 fun K3 hK3=>?_;refine aW ?_;refine b8 ?_;refine aP [1,2,48,49,50] ?_;refine c6 [1,2,48,49] (α:=Nat) (fun i=>[(50,I i)]) (fun i=>[some (.els 4 [[.row 2 0 s.Plan.Nodes.length, .row (2+1) 0 s.Plan.Rails.length,pfL s.Profiles,c1s s.Singles]]),some (.els 4 [[L7,L7,L7,L7]]),some (.els 5 (s.Plan.Nodes.map Node.cells)),some (.els 5 (s.Plan.Rails.map Rail.cells))]) (fun i=>i<=s.Plan.Nodes.length) (fun i=>s.Plan.Nodes.length-i) 0 ?_ ?_ ?_
  ·exact qp _
  ·exact aB [some 0,some 1,some 2,some 3]
  rintro i i1;refine zN ?_;refine aW ?_;refine a5 fun K4 hK4=>?_;refine a7 rfl (fun hc1=>?_) (fun hc1=>?_)
  ·skip
   try simp at hc1
   obtain⟨n,hn⟩:=gx (l:=s.Plan.Nodes) (i:=i) (by simpa using hc1);have wi:=zW i (by omega);obtain⟨hil,hxe⟩:=qa.1 hn;have hnk:=(U2 (qn.1 hvp.2.2.1 n (qd hn))).2.1;have hce:=b9Z n.Ends (by omega);have p9:=a1V (f:=Node.cells) hn;refine b9 ?_;refine zQ (hK4 _ _ ?_);refine aP [1,2,48,49,50] ?_;refine a5 fun K5 hK5=>?_;refine b8 ?_;refine aW ?_ fun K hK=>by simp -dsimp [hn,hil,hxe];exact hK
   refine aE ?_ fun K hK=>by simp -dsimp [hn,hil,hxe];refine cI (hce) ?_;simp -dsimp [hn,hil,hxe];exact hK
   refine zQ (hK5 _ _ ?_);refine aP [1,2,48,49,50] ?_;refine aV ?_ fun K hK=>by simp -dsimp [wi];exact hK
   refine zQ ?_;exact⟨i+1,by omega,by omega,g7 [some 0,some 1,some 2,some 3] rfl (by simp) (by simp at p9;simp[p9])⟩
  ·skip
   try simp at hc1
   have hie:i=s.Plan.Nodes.length:=by have:¬i<s.Plan.Nodes.length:=(by simpa using hc1);omega
   subst hie;refine d4 ?_;refine zQ (hK3 _ _ ?_);refine aP [1,2] ?_;refine a5 fun K6 hK6=>?_;refine aW ?_;refine b8 ?_;refine aP [1,2,67,68,69] ?_;refine c6 [1,2,67,68] (α:=Nat) (fun i=>[(69,I i)]) (fun i=>[some (.els 4 [[.row 2 0 s.Plan.Nodes.length, .row (2+1) 0 s.Plan.Rails.length,pfL s.Profiles,c1s s.Singles]]),some (.els 4 [[L7,L7,L7,L7]]),some (.els 5 (s.Plan.Nodes.map Node.cells)),some (.els 5 (s.Plan.Rails.map Rail.cells))]) (fun i=>i<=s.Plan.Rails.length) (fun i=>s.Plan.Rails.length-i) 0 ?_ ?_ ?_
   ·exact qp _
   ·exact aB [some 0,some 1,some 2,some 3]
   rintro i i1;refine zN ?_;refine aW ?_;refine a5 fun K7 hK7=>?_;refine a7 rfl (fun hc2=>?_) (fun hc2=>?_)
   ·skip
    try simp at hc2
    obtain⟨r,hr⟩:=gx (l:=s.Plan.Rails) (i:=i) (by simpa using hc2);have wi:=zW i (by omega);obtain⟨hil,hxe⟩:=qa.1 hr;have hrk:r.Shape.length<=30:=by have:=qn.1 hvp.2.2.2.1 r (qd hr);simp only[E5,S8,qh,decide_eq_true_eq]at this;exact this.1.2.2.1
    have hcs:=b9F r.Shape (by omega);have p9:=a1V (f:=Rail.cells) hr;refine b9 ?_;refine zQ (hK7 _ _ ?_);refine aP [1,2,67,68,69] ?_;refine a5 fun K8 hK8=>?_;refine b8 ?_;refine aW ?_ fun K hK=>by simp -dsimp [hr,hil,hxe];exact hK
    refine aE ?_ fun K hK=>by simp -dsimp [hr,hil,hxe];refine cI (hcs) ?_;simp -dsimp [hr,hil,hxe];exact hK
    refine zQ (hK8 _ _ ?_);refine aP [1,2,67,68,69] ?_;refine aV ?_ fun K hK=>by simp -dsimp [wi];exact hK
    refine zQ ?_;exact⟨i+1,by omega,by omega,g7 [some 0,some 1,some 2,some 3] rfl (by simp) (by simp at p9;simp[p9])⟩
   ·skip
    try simp at hc2
    have hie:i=s.Plan.Rails.length:=by have:¬i<s.Plan.Rails.length:=(by simpa using hc2);omega
    subst hie;refine d4 ?_;refine zQ (hK6 _ _ ?_);refine aP [1,2] ?_;refine aW ?_;have t1:List.take s.Plan.Nodes.length (s.Plan.Nodes.map Node.cells)=s.Plan.Nodes.map Node.cells:=qg (by simp);have t2:List.take s.Plan.Rails.length (s.Plan.Rails.map Rail.cells)=s.Plan.Rails.map Rail.cells:=qg (by simp);have t3:List.take s.Singles.length (s.Singles.map r7)=s.Singles.map r7:=qg (by simp);have z1:∀H n,List.map ((fun e=>List.map (M0 H (n+1)) e)∘Node.cells) s.Plan.Nodes=s.Plan.Nodes.map Node.cells:=fun H n=>List.map_congr_left fun x _=>by simp[M0]
    have z2:∀H n,List.map ((fun e=>List.map (M0 H (n+1)) e)∘Rail.cells) s.Plan.Rails=s.Plan.Rails.map Rail.cells:=fun H n=>List.map_congr_left fun x _=>by simp[M0]
    have z3:∀H n,List.map ((fun e=>List.map (M0 H (n+1)) e)∘r7) s.Singles=s.Singles.map r7:=fun H n=>List.map_congr_left fun x _=>by simp[M0]
    exact a6 (by simp[t1,t2,z1,z2])
end Go.Tram.Lk
end
section
namespace Go.Tram.Lk
open Go.AM Go.Proofs
def b3X (n:Node):Int:=if n.Kind=4 then 1 else 0
theorem a9g (p:Plan):x9 p=p.Nodes.map b3X:=rfl
def R3 (p:Plan) (k:Nat):List Int:=(p.Nodes.take k).map b3X++List.replicate (p.Nodes.length-k) 0
theorem a5H (p:Plan):R3 p 0=List.replicate p.Nodes.length 0:=by simp[R3]
theorem a8p (p:Plan):R3 p p.Nodes.length=x9 p:=by simp[R3,a9g]
theorem a4O (p:Plan) {k:Nat} (h:k<=p.Nodes.length):(R3 p k).length=p.Nodes.length:=by simp[R3];omega
theorem a5X {p:Plan} {k:Nat} {n:Node} (h:p.Nodes[k]?=some n):R3 p (k+1)=(R3 p k).set k (b3X n):=by
 have hk:=(qa.1 h).1;unfold R3;rw[qz,h,List.map_append];have e:p.Nodes.length-k=(p.Nodes.length-(k+1))+1:=by omega
 rw[e,List.replicate_succ,List.set_append_right _ _ (by simp;omega)];have e2:k-((p.Nodes.take k).map b3X).length=0:=by simp;omega
 rw[e2,List.set_cons_zero];simp
theorem a5Q {p:Plan} {k:Nat} {n:Node} (h:p.Nodes[k]?=some n) (hk:n.Kind≠4):R3 p (k+1)=R3 p k:=by
 have hl:=(qa.1 h).1;unfold R3;rw[qz,h,List.map_append];have e:p.Nodes.length-k=(p.Nodes.length-(k+1))+1:=by omega
 rw[e,List.replicate_succ];simp[b3X,hk]
theorem b9s (s:j0) (hv:d8 s.Plan=true) (fo si up:Kvs) (x y:AV):c7 Tryz.prog 33 [.vptr (d5 s fo si up x y)] [] [] (.row 0 0 s.Plan.Nodes.length) [] [some (.els 1 ((x9 s.Plan).map f9))]:=by
 have hNl:1<=s.Plan.Nodes.length/\s.Plan.Nodes.length<=300:=(j9 hv).1;have hf1:R2 s.Plan.Nodes.length 9:=n7 (by omega) (by omega);have hz:=a5H s.Plan;have hfa:=a8p s.Plan;refine oG [] Tryz.func33 Tryz.ntmps33 Tryz.results33 ?_;intro J hJ;refine gW ?_ fun K hK=>by simp -dsimp [d5];exact hK
 refine gW ?_ fun K hK=>by simp -dsimp [d5,hf1];exact hK
 refine a8 fun K1 hK1=>?_;refine gW ?_ fun K hK=>by simp -dsimp [d5];exact hK
 refine c8 ?_;refine gP [3,19,20,21] ?_;refine e9 [3,19,20] (α:=Nat) (fun k=>[(21,I k)]) (fun k=>[some (.els 1 ((R3 s.Plan k).map f9))]) (fun k=>k<=s.Plan.Nodes.length) (fun k=>s.Plan.Nodes.length-k) 0 ?_ ?_ ?_
 ·exact qp _
 ·exact gB [some 0] (hH:=by simp[hz,f9])
 rintro k k1;have hlen:=a4O s.Plan k1;refine zN ?_;refine gW ?_ fun K hK=>by simp -dsimp [d5];exact hK
 refine a8 fun K2 hK2=>?_;refine c3 rfl (fun hc0=>?_) (fun hc0=>?_)
 ·skip
  try simp at hc0
  obtain⟨n,hn⟩:=gx (l:=s.Plan.Nodes) (i:=k) (by simpa using hc0);have wk:=zW k (by omega);obtain⟨hkl,hne⟩:=qa.1 hn;have hs1:=a5X hn;have hs2:=fun h=>a5Q hn h;generalize R3 s.Plan k=F at hlen hs1 hs2 ⊢;refine c5 ?_;refine zQ (hK2 _ _ ?_);refine gP [3,19,20,21] ?_;refine a8 fun K3 hK3=>?_;refine c8 ?_;refine gW ?_ fun K hK=>by simp -dsimp [d5,hn,hkl,hne];exact hK
  refine gW ?_ fun K hK=>by simp -dsimp [d5];exact hK
  refine c3 rfl (fun hc1=>?_) (fun hc1=>?_)
  ·have hkd:n.Kind=4:=by simpa using hc1
   have hG:R3 s.Plan (k+1)=F.set k 1:=by rw[hs1];simp[b3X,hkd]
   refine gV ?_ fun K hK=>by simp -dsimp [d5,hlen,hkl];exact hK
   refine zQ (hK3 _ _ ?_);refine gP [3,19,20,21] ?_;refine gV ?_ fun K hK=>by simp -dsimp [d5,wk];exact hK
   refine zQ ?_;exact⟨k+1,by omega,by omega,gB [some 0] (hH:=by simp[hG,f9])⟩
  ·have hkd:n.Kind≠4:=by simpa using hc1
   have hG:R3 s.Plan (k+1)=F:=hs2 hkd;refine c5 ?_;refine zQ (hK3 _ _ ?_);refine gP [3,19,20,21] ?_;refine gV ?_ fun K hK=>by simp -dsimp [d5,wk];exact hK
   refine zQ ?_;exact⟨k+1,by omega,by omega,gB [some 0] (hH:=by simp[hG,f9])⟩
 ·skip
  try simp at hc0
  have hke:k=s.Plan.Nodes.length:=by have:¬k<s.Plan.Nodes.length:=(by simpa using hc0);omega
  subst hke;refine o5 ?_;refine zQ (hK1 _ _ ?_);refine gP [3] ?_;refine gW ?_ fun K hK=>by simp -dsimp [d5];exact hK
  exact d9 ⟨[some 0],rfl,by simp,by simp[hfa],by simp,by simp[N6,r9]⟩
theorem b9p (s:j0) (hv:d8 s.Plan=true) (fo si up:Kvs) (x y:AV):a9 Tryz.prog 33 [.iptr (d5 s fo si up x y)] (.lst 1 ((x9 s.Plan).map f9)):=by
 have hNl:1<=s.Plan.Nodes.length/\s.Plan.Nodes.length<=300:=(j9 hv).1;have hf1:R2 s.Plan.Nodes.length 9:=n7 (by omega) (by omega);have hz:=a5H s.Plan;have hfa:=a8p s.Plan;refine oB Tryz.func33 Tryz.ntmps33 Tryz.results33 ?_;refine aW ?_ fun K hK=>by simp -dsimp [d5];exact hK
 refine aW ?_ fun K hK=>by simp -dsimp [d5,hf1];exact hK
 refine a5 fun K1 hK1=>?_;refine aW ?_ fun K hK=>by simp -dsimp [d5];exact hK
 refine b8 ?_;refine aP [3,19,20,21] ?_;refine c6 [3,19,20] (α:=Nat) (fun k=>[(21,I k)]) (fun k=>[some (.els 1 ((R3 s.Plan k).map f9))]) (fun k=>k<=s.Plan.Nodes.length) (fun k=>s.Plan.Nodes.length-k) 0 ?_ ?_ ?_
 ·exact qp _
 ·exact g7 [some 0] rfl (by simp) (by simp[hz,f9])
 rintro k k1;have hlen:=a4O s.Plan k1;refine zN ?_;refine aW ?_ fun K hK=>by simp -dsimp [d5];exact hK
 refine a5 fun K2 hK2=>?_;refine a7 rfl (fun hc0=>?_) (fun hc0=>?_)
 ·skip
  try simp at hc0
  obtain⟨n,hn⟩:=gx (l:=s.Plan.Nodes) (i:=k) (by simpa using hc0);have wk:=zW k (by omega);obtain⟨hkl,hne⟩:=qa.1 hn;have hs1:=a5X hn;have hs2:=fun h=>a5Q hn h;generalize R3 s.Plan k=F at hlen hs1 hs2 ⊢;refine b9 ?_;refine zQ (hK2 _ _ ?_);refine aP [3,19,20,21] ?_;refine a5 fun K3 hK3=>?_;refine b8 ?_;refine aW ?_ fun K hK=>by simp -dsimp [d5,hn,hkl,hne];exact hK
  refine aW ?_ fun K hK=>by simp -dsimp [d5];exact hK
  refine a7 rfl (fun hc1=>?_) (fun hc1=>?_)
  ·have hkd:n.Kind=4:=by simpa using hc1
   have hG:R3 s.Plan (k+1)=F.set k 1:=by rw[hs1];simp[b3X,hkd]
   refine aV ?_ fun K hK=>by simp -dsimp [d5,hlen,hkl];exact hK
   refine zQ (hK3 _ _ ?_);refine aP [3,19,20,21] ?_;refine aV ?_ fun K hK=>by simp -dsimp [d5,wk];exact hK
   refine zQ ?_;exact⟨k+1,by omega,by omega,g7 [some 0] rfl (by simp) (by simp[hG,f9])⟩
  ·have hkd:n.Kind≠4:=by simpa using hc1
   have hG:R3 s.Plan (k+1)=F:=hs2 hkd;refine b9 ?_;refine zQ (hK3 _ _ ?_);refine aP [3,19,20,21] ?_;refine aV ?_ fun K hK=>by simp -dsimp [d5,wk];exact hK
   refine zQ ?_;exact⟨k+1,by omega,by omega,g7 [some 0] rfl (by simp) (by simp[hG,f9])⟩
 ·skip
  try simp at hc0
  have hke:k=s.Plan.Nodes.length:=by have:¬k<s.Plan.Nodes.length:=(by simpa using hc0);omega
  subst hke;refine d4 ?_;refine zQ (hK1 _ _ ?_);refine aP [3] ?_;refine aW ?_ fun K hK=>by simp -dsimp [d5];exact hK
  have hll:=a4O s.Plan (qo s.Plan.Nodes.length);have t1:List.take s.Plan.Nodes.length ((R3 s.Plan s.Plan.Nodes.length).map f9)=(R3 s.Plan s.Plan.Nodes.length).map f9:=qg (by simp;omega);rw[<-hfa];exact a6 (by simp[t1,hll])
abbrev Kas:=List (List KC×AV)
abbrev b3M (s:j0) (nx:Kvs) (nd:Kas) (x:Sta):Hp:=[some (.els 1 [[.ptr 1 0 0]]),some (.els 3 [[.ptr 2 0 0, .mp 3, .row 4 0 x.Points.length]]),some (.els 9 [s.cells++[.mpc true KT4 (Z4 s), .mpc false [.i .i64] (O2 (o7 s)), .mpc true KTM (R4 (o7 s)), .mp 5, .mp 6]]),
 some (a9k x.Cars),some (.els 1 (x.Points.map f9)),some (.map true a1p nx),some (.mpa true a1p nd)]
theorem b4K (s:j0) (h:Q2 s=true) (hN:s.Plan.Rails.length<=20):c7 Tryz.prog 10 [s.av] [] [] (.tup [.ptr 0 0 0,I 0]) [] (b3M s [] [] ⟨[],x9 s.Plan⟩):=by
 have h0:=l9 h;have ho:=b1K s h hN;have hw:a9 Tryz.prog 32 [s.av] s.av:=by
  by_cases e:s.Singles=[]
  ·exact b7q s h e
  ·exact b8R s h e
 have hpt:=b9s s h0.1 (Z4 s) (O2 (o7 s)) (R4 (o7 s)) (.mpc true a1p []) (.mpc true a1p []);have hpl:(x9 s.Plan).length=s.Plan.Nodes.length:=by simp[x9]
 unfold b3M;rw[hpl];unfold c2L at ho;unfold d5 at hpt;generalize Z4 s=fo at ho hpt ⊢;generalize O2 (o7 s)=si at ho hpt ⊢;generalize R4 (o7 s)=up at ho hpt ⊢;generalize x9 s.Plan=fp at hpt ⊢;refine oG [] Tryz.func10 Tryz.ntmps10 Tryz.results10 ?_;intro J hJ;refine gW ?_;refine gW ?_ fun K hK=>by simp -dsimp;refine cM [] [] (ho) ?_;simp -dsimp;exact hK
 refine a8 fun K1 hK1=>?_;refine gW ?_;refine c3 rfl (fun hc0=>?_) (fun hc0=>?_)
 ·simp at hc0
 ·refine c5 ?_;refine zQ (hK1 _ _ ?_);refine gP [1,4] ?_;refine gW ?_ fun K hK=>by simp -dsimp;refine cI (hw) ?_;simp -dsimp;exact hK
  refine gW ?_ fun K hK=>by simp -dsimp;refine a3e [] [] [none,none,none,none,none,none,none,none,some 0] (hpt) (by decide) rfl (by simp) (by simp) rfl (by simp) (by simp) (by simp) ?_;simp -dsimp;exact hK
  refine p8 (G0 (a9R 7 (row':= .mpa false [.i .i64] []) (by simp) (by simp) fun _ _ _ _ _=>b0G) (by simp)) ?_;refine p8 (G0 (a9R 6 (row':= .mpa true a1p []) (by simp) (by simp) fun _ _ _ _ _=>b0G) (by simp)) ?_;refine gU (T':=[(2, .ptr 0 0 0),(3,I 0)]) (H':=[some (.els 1 [[.ptr 1 0 0]]),some (.els 3 [[.ptr 2 0 0, .mp 3, .row 4 0 s.Plan.Nodes.length]]),some (.els 9 [s.cells++[.mpc true KT4 fo, .mpc false [.i .i64] si, .mpc true KTM up, .mp 5, .mp 6]]),some (.mpa false [.i .i64] []),some (.els 1 (fp.map f9)),some (.map true a1p []),some (.mpa true a1p [])]) [some 10,some 9,some 1,some 7,some 8,some 5,some 6] ?_;exact d9 ⟨[some 0,some 1,some 2,some 3,some 4,some 5,some 6],rfl,by simp,by simp[o3],by simp,by simp[N6,r9]⟩
end Go.Tram.Lk
end
section
namespace Go.Tram.Lk
open Go.AM Go.Proofs
open Go.RowKit Go.Maps Go.Sort Go.Shelf
theorem c4T (m:Nat):AnyZI.SortsIn Tryz.prog Tryz.sortedA_ren Fence.wide m:=
  ⟨fun blk off cap ss W hH hblk hsz=>callsIn_wide.2 (AnyM.slices_Sort_int Tryz.sortA blk off cap ss W hH hblk hsz),
   fun p cap W=>callsIn_wide.2 (AnyM.slices_Sort_int_none Tryz.sortA p cap W)⟩
theorem a9z {H:Type} (sb so b nn:Nat) (D0:DataW H) (R:Value->Option (DataW H×List MemPlace)) (w:World) (hc:w.cell? ⟨sb,so+1,none⟩=some (.map (some b))) (hown:w.ownsMap Tryz.prog 3 R b nn D0) (hmax:Maps.size D0<=1000):
  Calls Tryz.prog 39 #[.pointer (some ⟨sb,so,none⟩)] w fun e w'=>∃(v:Value) (ss:List Int),e= .returned v/\ss.Perm (intKeys D0)/\
   w'.ownsRow w.heap.size 3 1 v ss.length ((ss.mergeSort (fun x y=>decide (x<=y))).map encZ)/\(v= .slice none 0 0↔ss=[])/\Go.RowKit.Below w.heap.size w w':=by
 refine(callsIn_wide (n:=6)).1 ?_;have hbl:=hown.lt;have hseq:SeqGives Fence.wide 2 Tryz.prog 125 #[.pointer (some ⟨w.heap.size,0,none⟩)] encZ (fun ss=>ss.Perm (intKeys D0)) (Maps.size D0) (w.alloc (.cells #[.map (some b)] 100)):=
  AnyZI.keys_gives (ρ:=Tryz.keysA_ren) {Tryz.keysA with} Fence.wide _ trivial rfl (by omega) w.heap.size b nn D0 _ (by simp) (by simp) (by
   obtain⟨es,clock,hb,Ft,hs,hD⟩:=hown;exact⟨es,clock,(Go.RowKit.Below.heap_alloc _ _ b hbl).trans hb,Ft,hs,hD⟩)
 have cK:∀mb W,CallsIn Fence.wide 5 Tryz.prog 83 #[.map mb] W fun e w'=>e= .returned (.func (.func 125) #[] #[.pointer (some ⟨W.heap.size,0,none⟩)])/\w'=W.alloc (.cells #[.map mb] 100):=fun mb W=>AnyZI.keys_in Tryz.keysA Fence.wide 5 trivial rfl mb W;have cS:=AnyZI.sorted_in Tryz.sortedA Fence.wide 5 trivial trivial trivial trivial rfl (by omega) (c4T _) (enters_of Tryz.func124 (by kernel_rfl) rfl) 125 #[.pointer (some ⟨w.heap.size,0,none⟩)] trivial (enters_of Tryz.func125 (by kernel_rfl) rfl) _ _ (Nat.le_trans hmax (by decide)) (by omega) _ hseq;change CallsIn _ _ Tryz.prog 82 _ _ _ at cS;have hfK:Fence.wide.fn 83:=trivial;have hfS:Fence.wide.fn 82:=trivial;refine callsIn_of_wp Tryz.func39 rfl trivial ?_ rfl;simp only[Tryz.ntmps39,List.size_toArray,List.length_cons,List.length_nil,Nat.reduceAdd,Nat.reduceSub,Array.replicate_succ,Array.replicate_zero,List.push_toArray,List.append_toArray,List.nil_append,List.cons_append]
 gi_wp2_with (first
  |(gi_at_call 83;refine(cK _ _).mono ?_;rintro e w' ⟨rfl,rfl⟩)
  |(gi_at_call 82;refine cS.mono ?_;rintro e w' ⟨v,ss,rfl,hS,n8,hnil,hb⟩))
 go_ret
 exact⟨v,ss,rfl,hS,ownsRow_base_a n8 (by simp),hnil,((Go.RowKit.Below.refl _ w).alloc (qo _) _).trans (hb.mono (by simp))⟩
theorem a1L:∀ns:List Int,(ns.map f9).flatten=ns.map fun n=>I n
 |[]=>rfl
 |n::ns=>by rw[List.map_cons,List.flatten_cons,a1L ns];rfl
theorem b6s {P:Program} {f:FuncId} {args:List AV} {Hk Hd:Hp} {ns:List Int} (hcf:∀(w:World) (vs:Array Value),(callFunc f vs).run P w= .ok (.enter f vs) w)
  (h:∀(S0:Nat->Prop) (w:World) (ρ:Nat->Option AM.Loc) (vs:List Value),a6W S0 w ρ (Hk++Hd)->args.length=vs.length->
   (∀(i:Nat) c x,args[i]?=some c->vs[i]?=some x->e8 w (Sx S0 ρ) ρ (fun r=>r<(Hk++Hd).length) c x)->
   Calls P f vs.toArray w fun e w'=>∃v,e= .returned v/\Ext (fun _=>False) w w'/\((v= .slice none 0 0/\ns=[])∨∃g cap cur t,v= .slice (some ⟨g,0,none⟩) ns.length cap/\w.heap.size<=g/\w'.heap[g]?=some (.cells cur t (0,0))/\ns.length<=cap/\cur.size=cap/\cur.toList.take ns.length=ns.map encZ)):
  c7 P f args Hk Hd (.row (Hk++Hd).length 0 ns.length) Hk (Hd++[some (.els 1 (ns.map f9))]):=by
 refine⟨hcf,rfl,fun S0 w ρ vs hh hl hreps=>(h S0 w ρ vs hh hl hreps).mono ?_⟩;rintro e w' ⟨v,rfl,he,hv⟩;obtain⟨N,hN⟩:∃N,N=(Hk++Hd).length:=⟨_,rfl⟩;rw[<-hN]at hreps ⊢;have hH:Hk++(Hd++[some (.els 1 (ns.map f9))])=(Hk++Hd)++[some (n9.els 1 (ns.map f9))]:=by simp
 rw[hH];have hlen:((Hk++Hd)++[some (n9.els 1 (ns.map f9))]).length=N+1:=by rw[List.length_append,<-hN];rfl
 obtain⟨l,hlsz,hlo,hlb,hrep,hrw⟩:∃l:AM.Loc,l.sz=1/\l.o=0/\(∀b,l.b=some b->w.heap.size<=b/\b<w'.heap.size)/\(∀(S:Nat->Prop) (ρ':Nat->Option AM.Loc) (L:Nat->Prop),ρ' N=some l->L N->e8 w' S ρ' L (.row N 0 ns.length) v)/\
   ∀(S:Nat->Prop) (ρ':Nat->Option AM.Loc) (L:Nat->Prop),i7 w' S ρ' L l (.els 1 (ns.map f9)):=by
  rcases hv with⟨rfl,rfl⟩|⟨g,cap,cur,t,rfl,hg,hgc,hcap,hcs,htk⟩
  ·refine⟨⟨none,0,1,0⟩,rfl,rfl,(by intro b h;cases h),fun S ρ' L h1 h2=> .row _ _ _ _ h2 rfl fun l' hl'=>?_,fun S ρ' L=>⟨rfl,by simp,by simp,by intro b h;cases h⟩⟩;rw[h1]at hl'
   cases hl'
   exact⟨fun _=>⟨rfl,rfl,rfl⟩,by intro b h;cases h⟩
  ·have hgl:g<w'.heap.size:=(Array.getElem?_eq_some_iff.1 hgc).1;refine⟨⟨some g,0,1,cap⟩,rfl,rfl,(by intro b h;cases h;exact⟨hg,hgl⟩),fun S ρ' L h1 h2=> .row _ _ _ _ h2 rfl fun l' hl'=>?_,fun S ρ' L=>⟨rfl,by simp[f9],(by intro h;cases h),?_⟩⟩
   ·rw[h1]at hl'
    cases hl'
    refine⟨(by intro h;cases h),?_⟩;intro b hb
    cases hb
    exact⟨0,cap,rfl,hcap,Or.inr ⟨by simp,by simp⟩⟩
   ·intro b hb
    cases hb
    refine⟨cur,t,hgc,hcs,by simp;exact hcap,fun i a hi=>?_⟩;rw[a1L,qe,qf]at hi;obtain⟨n,hn,rfl⟩:=hi;have h1:(cur.toList.take ns.length)[i]?=some (encZ n):=by rw[htk,qe,hn];rfl
    rw[qk]at h1
    split at h1
    ·refine⟨encZ n,by simpa using h1,rfl, .pure _ _ (.v _)⟩
    ·cases h1
 have hsz:=he.size;have hwf:=a1D (N:=N) (w':=w') hh.wf (by rw[<-hN];exact Nat.lt_irrefl _) l hsz hlb;have hL:∀r,r<(Hk++Hd).length->r<((Hk++Hd)++[some (n9.els 1 (ns.map f9))]).length:=fun r hr=>by rw[hlen];omega
 have hkb:∀b,b<w.heap.size->¬Sx S0 ρ b->w'.heap[b]?=w.heap[b]?/\¬Sx S0 (Loc.fresh ρ N l) b:=by
  intro b hb hn;refine⟨he.block b hb (fun h=>h),?_⟩;rintro(h|⟨r,l',h1,h2⟩)
  ·exact hn (Or.inl h)
  ·simp only[Loc.fresh]at h1
   split at h1
   ·simp only[qb]at h1;subst h1;have:=(hlb b h2).1;omega
   ·exact hn (Or.inr ⟨r,l',h1,h2⟩)
 have hρ:∀r l',r<(Hk++Hd).length->Loc.fresh ρ N l r=some l'->ρ r=some l':=by
  intro r l' hr h;simp only[Loc.fresh]at h;rw[if_neg (by omega)]at h;exact h
 refine⟨v,Loc.fresh ρ N l,rfl,⟨hwf.more ?_,?_,?_⟩,hrep _ _ _ (by simp[Loc.fresh]) (by rw[hlen];omega),?_,?_,he.mono fun _ _ h=>h.elim⟩
 ·rintro r (h|rfl)
  ·exact hL r h
  ·rw[hlen];omega
 ·intro r row hr;rw[C8]at hr
  by_cases hrN:r<(Hk++Hd).length
  ·rw[qw hrN,<-C8]at hr;obtain⟨l',h1,h2⟩:=hh.rows r row hr;refine⟨l',by simp only[Loc.fresh];rw[if_neg (by omega)];exact h1,h2.ext hsz hkb hL hρ fun b hb=>he.block b (hh.wf.own r l' b h1 hb).1 (fun h=>h)⟩
  ·by_cases hrE:r=N
   ·subst hrE;rw[qv (by omega)]at hr;simp only[<-hN,Nat.sub_self,List.getElem?_cons_zero,Option.getD_some,qb]at hr;subst hr;exact⟨l,by simp[Loc.fresh],hrw _ _ _⟩
   ·rw[List.getElem?_eq_none (by rw[hlen];omega)]at hr
    cases hr
 ·intro r hr;rw[C8]at hr;simp only[Loc.fresh]
  by_cases hrN:r<(Hk++Hd).length
  ·rw[if_neg (by omega)];rw[qw hrN,<-C8]at hr;exact hh.dead r hr
  ·by_cases hrE:r=N
   ·subst hrE;rw[qv (by omega)]at hr;simp[<-hN]at hr
   ·rw[if_neg hrE];exact hh.dead r (a1P _ _ (by omega))
 ·intro r l' hr h;exact hρ r l' (by simp;omega) h
 ·rintro b ⟨r,l',h1,h2⟩;simp only[Loc.fresh]at h1
  split at h1
  ·simp only[qb]at h1;subst h1;exact Or.inr (hlb b h2).1
  ·exact Or.inl ⟨r,l',h1,h2⟩
def gI:Value->Int
 | .int _ n=>n
 |_=>0
theorem b7A {w:World} {S:Nat->Prop} {ρ:Nat->Option AM.Loc} {L:Nat->Prop} {b:Nat} {l:List Car} (hs:Srt l) (hl:l.length<=1000) (hb:∀c∈l,0<=c.Name/\c.Name<=1000000) (h:a1a w S ρ L b false [.i .i64] (o3 l)):
  ∃D0:DataW Unit,w.ownsMap Tryz.prog 3 (fun _=>some (.nil,[])) b 1000 D0/\(intKeys D0).Perm (l.map (·.Name))/\Maps.size D0<=1000:=by
 obtain⟨vs,ks,⟨es,clock,h1,h2,h3,h4,h5⟩,hp,hn,hlen,hpt⟩:=h;have hkl:ks.length=l.length:=by rw[hp.length_eq];simp[o3]
 have hes:es.size=l.length:=by
  have:=congrArg List.length h2;simp only[List.length_map,Array.length_toList]at this;omega
 have hkeys:(es.toList.map (·.key)).Perm (l.map fun c=>encZ c.Name):=by
  have e1:es.toList.map (·.key)=(vs.map (·.1)).map (g9 false):=by
   have:=congrArg (List.map Prod.fst) h2;rw[List.map_map,List.map_map]at this;rw[List.map_map];exact this
  have e2:vs.map (·.1)=ks.map (·.1):=by
   apply List.ext_getElem?;intro i;rw[qe,qe]
   cases hv:vs[i]? with
   |none=>rw[List.getElem?_eq_none (by have:=List.getElem?_eq_none_iff.1 hv;omega)];rfl
   |some q=>
    obtain⟨p,hp'⟩:∃p,ks[i]?=some p:=⟨_,qc (by rw[hlen];exact(qa.1 hv).1)⟩;rw[hp'];simp[(hpt i p q hp' hv).1]
  rw[e1,e2];have e3:(l.map fun c=>encZ c.Name)=((o3 l).map (·.1)).map (g9 false):=by
   rw[a2H,List.map_map]
   rfl
  rw[e3];exact(hp.map _).map _
 have hkey:∀x∈es.toList,∃c∈l,x.key=encZ c.Name:=by
  intro x hx;have:=hkeys.mem_iff.1 (qu (f:=(·.key)) hx)
  obtain⟨c,hc,e⟩:=List.mem_map.1 this;exact⟨c,hc,e.symm⟩
 have hu:(Tryz.prog).underlying 3=some (.int .i64):=by kernel_rfl
 have hrd:∀x∈es.toList,∃n:Int,x.key=encZ n/\Go.WideElems.rd (H:=Unit) Tryz.prog 3 (fun _=>some (.nil,[])) x=some (.int .i64 n, .nil):=by
  intro x hx;obtain⟨c,hc,e⟩:=hkey x hx;have hbc:=hb c hc;have hw:(Lit.int .i64 c.Name).wf=true:=by
   simp[Lit.wf,IntKind.min,IntKind.max,IntKind.signed,IntKind.bits];omega
  refine⟨c.Name,e,?_⟩;unfold Go.WideElems.rd;rw[e,Go.Maps.keyOf_int_mk hu hw]
  rfl
 obtain⟨D0,hD⟩:∃D0:DataW Unit,D0= .map ((es.toList.map (Go.WideElems.rg Tryz.prog 3 (fun _=>some (.nil,[])))).foldr DataW.insert []):=⟨_,rfl⟩;refine⟨D0,⟨es,clock,h1,⟨by rw[hes];exact Nat.le_trans hl (by decide),⟨fun x hx=>h5 x hx,h4,?_⟩,fun x hx=>by obtain⟨n,_,h⟩:=hrd x hx;exact⟨_,h⟩⟩,by omega,hD⟩,?_,?_⟩
 ·rw[hkeys.nodup_iff];have:=srt_nodup hs;unfold List.Nodup at this ⊢;rw[List.pairwise_map]at this ⊢;exact this.imp fun h e=>h (by simpa [encZ]using e)
 ·rw[hD];show((_:List (Lit×DataW Unit)).map fun p=>intOf p.1).Perm _;refine((Go.WideShapes.sorted_perm _).map _).trans ?_;rw[List.map_map];have e1:es.toList.map ((fun p:Lit×DataW Unit=>intOf p.1)∘Go.WideElems.rg Tryz.prog 3 (fun _=>some (.nil,[])))=(es.toList.map (·.key)).map gI:=by
   rw[List.map_map];refine List.map_congr_left fun x hx=>?_;obtain⟨n,h6,h7⟩:=hrd x hx;simp only[Function.comp,Go.WideElems.rg,h7,h6,Option.getD_some,intOf,gI,encZ]
  rw[e1];have e2:l.map (·.Name)=(l.map fun c=>encZ c.Name).map gI:=by rw[List.map_map];rfl
  rw[e2];exact hkeys.map _
 ·rw[hD];show((es.toList.map (Go.WideElems.rg Tryz.prog 3 (fun _=>some (.nil,[])))).foldr DataW.insert []).length<=1000;rw[length_sorted,List.length_map,Array.length_toList];omega
def nmL (l:List Car):List (List AV):=(l.map (·.Name)).map f9
theorem k9 {l:List Car} {k:Nat} {x:Car} (h:l[k]?=some x):(nmL l)[k]?=some [I x.Name]:=by
 unfold nmL;rw[qe,qe,h];rfl
@[simp] theorem c5O (l:List Car):(nmL l).length=l.length:=by simp[nmL]
@[simp high] theorem c5A (l:List Car) (g:List (Option Nat)) (n:Nat):(nmL l).map (fun e=>e.map (p5 g n))=nmL l:=by
 unfold nmL;rw[List.map_map];refine List.map_congr_left fun x _=>?_
 cases n<;>simp[f9,p5]
@[simp high] theorem c5r (l:List Car) (H:Nat->Option n9) (g:List (Option Nat)) (n:Nat):(nmL l).map (fun e=>e.map (Z7 H g n))=nmL l:=by
 unfold nmL;rw[List.map_map];refine List.map_congr_left fun x _=>?_
 cases n<;>simp[f9,Z7]
theorem Q5 (l:List Car) (hs:Srt l) (hl:l.length<=1000) (hb:∀c∈l,0<=c.Name/\c.Name<=1000000) (c0 c2:AV) (ru d1 d2 d3:Option n9):
  c7 Tryz.prog 39 [.ptr 0 0 0] [some (.els 3 [[c0, .mp 2,c2]]),ru] [some (a9k l),d1,d2,d3] (.row 6 0 l.length) [some (.els 3 [[c0, .mp 2,c2]]),ru] [some (a9k l),d1,d2,d3,some (.els 1 (nmL l))]:=by
 have key:=b6s (P:=Tryz.prog) (f:=39) (args:=[.ptr 0 0 0]) (Hk:=[some (.els 3 [[c0, .mp 2,c2]]),ru]) (Hd:=[some (a9k l),d1,d2,d3]) (ns:=l.map (·.Name)) (fun w vs=>by simp[callFunc,Tryz.func39];rfl) ?_
 ·rw[List.length_map]at key;exact key
 intro S0 w ρ vs hh hlen hreps
 match vs,hlen with
 | [p],_=>
  have hp:=hreps 0 _ p rfl rfl;obtain⟨l0,hl0,hsz,_,hnone,n8⟩:=hh.rows 0 _ rfl;obtain⟨l2,hl2,b,hb2,hmp⟩:=hh.rows 2 _ rfl;obtain⟨q,hq⟩:∃q,p= .pointer (some ⟨q,l0.o,none⟩)/\l0.b=some q:=by
   cases hp with
   |pure _ _ h=>cases h
   |ptr _ _ _ _ _ _ h3=>
    obtain⟨q,h1,h2⟩:=h3 l0 hl0;exact⟨q,by simpa using h2,h1⟩
  obtain⟨rfl,hqb⟩:=hq;obtain⟨c,t,hc,hcs,_,hcell⟩:=n8 q hqb;obtain⟨x,hx,_,hxr⟩:=hcell 1 (.mp 2) rfl;have hxe:x= .map (some b):=by
   cases hxr with
   |pure _ _ h=>cases h
   |mp _ _ _ _ h=>
    obtain⟨b',h1,h2⟩:=h l2 hl2;rw[hb2]at h1
    cases h1
    exact h2
  subst hxe;have hcl:w.cell? ⟨q,l0.o+1,none⟩=some (.map (some b)):=by
   unfold World.cell?;simp[hc,hx]
  obtain⟨D0,hown,hperm,hD⟩:=b7A hs hl hb hmp;refine(a9z q l0.o b 1000 D0 _ w hcl hown hD).mono ?_;rintro e w' ⟨v,ss,rfl,hss,hrow',hnil,hbel⟩;have hsp:=hss.trans hperm;have hsort:=a0M hs hsp;have hln:ss.length=l.length:=by rw[hsp.length_eq];simp
  refine⟨v,rfl,⟨hbel.os,hbel.tape,hbel.output,hbel.size,fun k hk _=>hbel.block k hk,fun k cc tt sg hk=>⟨cc,tt,sg,(hbel.block k (Array.getElem?_eq_some_iff.1 hk).1).trans hk,rfl⟩⟩,?_⟩;rw[hsort]at hrow'
  rcases hrow'.2 with⟨h1,h2⟩|⟨g,cap,cur,h1,h2,h3,h4,h5,h6,h7⟩
  ·refine Or.inl ⟨h1,?_⟩;have:l=[]:=List.eq_nil_of_length_eq_zero (by omega);rw[this];rfl
  ·refine Or.inr ⟨g,cap,cur,_,by rw[h1];simp[hln],h2,h3,by simp;omega,by omega,?_⟩;rw[List.length_map,<-hln,<-h7];simp
abbrev c3j (ns:List Int):List Int:=ns.mergeSort fun x y=>decide (x<=y)
theorem c1u (ns:List Int) (hn:1<=ns.length) (hN:ns.length<=100000):c7 Tryz.prog 124 [.row 0 0 ns.length] [some (.els 1 (ns.map f9))] [] (.tup []) [some (.els 1 ((c3j ns).map f9))] []:=by
 refine⟨fun w vs=>by simp[callFunc,Tryz.func124];rfl,rfl,fun S0 w ρ vs hh hlen hreps=>?_⟩
 match vs,hlen with
 | [p],_=>
  have hp:=hreps 0 _ p rfl rfl;obtain⟨l,hl,hsz,_,hnone,n8⟩:=hh.rows 0 _ rfl;obtain⟨g,hg⟩:∃g,l.b=some g:=by
   cases hb:l.b with
   |none=>have:=hnone hb;simp at this;rw[this]at hn;simp at hn
   |some g=>exact⟨g,rfl⟩
  obtain⟨c,t,hc,hcs,hlm,hcell⟩:=n8 g hg;obtain⟨cap,hpe,hcap⟩:∃cap,p= .slice (some ⟨g,l.o,none⟩) ns.length cap/\ns.length<=cap:=by
   cases hp with
   |pure _ _ h=>cases h
   |row _ _ _ _ _ _ h3=>
    obtain⟨off,cap,h1,h2,h4⟩:=(h3 l hl).2 g hg;refine⟨cap,?_,h2⟩
    rcases h4 with h4|h4
    ·omega
    ·rw[h1,h4.1];simp
  subst hpe;have hcl:∀(j:Nat) n,ns[j]?=some n->c[l.o+j]?=some (encZ n):=by
   intro j n hj;obtain⟨x,h1,_,h3⟩:=hcell j (I n) (by rw[a1L,qe,hj];rfl);rw[h1,j5 h3]
  have hH:Holds encZ w g l.o ns.toArray:=by
   intro j hj;have hj':j<ns.length:=by simpa using hj
   have e:=hcl j ns[j] (qc hj');refine⟨?_,?_⟩
   ·unfold World.cell?;simp only[hc];rw[e];simp[hj']
   ·simp[World.frozen?,hc]
  have hgl:g<w.heap.size:=(Array.getElem?_eq_some_iff.1 hc).1;refine Calls.mono (AnyM.slices_Sort_int Tryz.sortA g l.o cap ns w hH hgl (by omega)) ?_;rintro e w' ⟨rfl,k,os,rfl⟩;obtain⟨w',hw'⟩:∃w',w'=grow (putRow (Value.int .i64) (Sort.ahead w k) g l.o (c3j ns).toArray) os:=⟨_,rfl⟩;rw[<-hw'];have hlen2:(c3j ns).length=ns.length:=List.length_mergeSort ns;have hsize:w.heap.size<=w'.heap.size:=by rw[hw'];simp[grow,putRow,mapBlock,Sort.ahead]
  have hold:∀b,b<w.heap.size->w'.heap[b]?=(if g=b then(w.heap[b]?).map (onCells (putCells (Value.int .i64) l.o (c3j ns).toArray))else w.heap[b]?):=by
   intro b hb;rw[hw'];simp only[grow,putRow,mapBlock,Sort.ahead];rw[Array.getElem?_append_left (by simpa using hb),Array.getElem?_modify]
  have hgn:w'.heap[g]?=some (.cells (putCells (Value.int .i64) l.o (c3j ns).toArray c) t (0,0)):=by
   rw[hold g hgl,if_pos rfl,hc];rfl
  refine⟨.tuple #[],ρ,rfl,⟨⟨hh.wf.inj,fun r l' b h1 h2=>⟨qq (hh.wf.own r l' b h1 h2).1 hsize,(hh.wf.own r l' b h1 h2).2⟩,hh.wf.given,fun b h=>qq (hh.wf.low b h) hsize,fun _ _=>trivial⟩,?_,?_⟩, .tup [] [] rfl (by simp),fun r l' _ h=>h,fun b h=>Or.inl h,?_⟩
  ·intro r row hr
   match r,hr with
   |0,hr=>
    simp only[List.append_nil,g8,qb]at hr;subst hr;refine⟨l,hl,hsz,by simp[f9],fun h=>(by rw[hg]at h;cases h),fun b hb=>?_⟩;rw[hg]at hb
    cases hb
    refine⟨_,t,hgn,by simp[putCells,hcs],by simp only[List.length_map]at hlm ⊢;omega,fun i a hi=>?_⟩;rw[a1L,qe,qf]at hi;obtain⟨n,hn',rfl⟩:=hi;have hil:=(qa.1 hn').1;have hin:i<ns.length:=by omega
    refine⟨encZ n,?_,rfl, .pure _ _ (.v _)⟩;have e0:=hcl i ns[i] (qc hin);simp only[putCells,Array.getElem?_mapIdx,e0,Option.map_some];rw[if_pos ⟨by omega,by simp;omega⟩,show l.o+i-l.o=i by omega];simp only[List.getElem!_toArray,List.getElem!_eq_getElem?_getD,hn',Option.getD_some]
   |r+1,hr=>simp[g8]at hr
  ·intro r hr
   match r,hr with
   |0,hr=>simp[g8]at hr
   |r+1,hr=>exact hh.dead _ (by simp[g8])
  ·refine⟨by rw[hw'];rfl,by rw[hw'];rfl,by rw[hw'];rfl,hsize,fun b hb hn=>?_,fun b cc tt sg hb=>?_⟩
   ·rw[hold b hb,if_neg];rintro rfl;exact hn ⟨0,l,hl,hg⟩
   ·have hbl:=(Array.getElem?_eq_some_iff.1 hb).1;rw[hold b hbl]
    split
    ·rename_i e;subst e;rw[hb];exact⟨_,_,_,rfl,by simp[putCells]⟩
    ·exact⟨_,_,_,hb,rfl⟩
end Go.Tram.Lk
end
section
namespace Go.AM
theorem b6w {B S0:Nat->Prop} {nt:Nat} {w:World} {ρ:Nat->Option Loc} {L:Nat->Prop} {T T':Tm} {H H':Hp} {a:Act} (g:List (Option Nat)) (hn:∀(i j q:Nat),g[i]?=some (some q)->g[j]?=some (some q)->i=j) (hT:a4V H g T T') (hH:a2i H g=H') (hc:N8 B S0 nt w ρ L (i8 T) (g8 H) a):
  N8 B S0 nt w (n6 ρ g) (fun r=>r<g.length) (i8 T') (g8 H') a:=by
 subst hH;have hren:=b1L (g:=g) (H:=g8 H) hc.wf (fun r row hr=>hc.rows r row hr);refine⟨⟨?_,?_,?_,hc.wf.low,hc.wf.new⟩,hc.size,hc.defers,?_,?_,?_⟩
 ·intro r r' l l' b h1 h2 k1 k2;obtain⟨q,g1,p1⟩:=i6 h1;obtain⟨q',g2,p2⟩:=i6 h2;have:=hc.wf.inj q q' l l' b p1 p2 k1 k2;subst this;exact hn _ _ _ g1 g2
 ·intro r l b h1 k1;obtain⟨q,g1,p1⟩:=i6 h1;exact hc.wf.own q l b p1 k1
 ·intro r l h1;obtain⟨q,g1,p1⟩:=i6 h1;exact(qa.1 g1).1
 ·intro t;have gen:∀(T':Tm),a4V H g T T'->e8 w (Sx S0 (n6 ρ g)) (n6 ρ g) (fun r=>r<g.length) (i8 T' t) (a.tmps.getD t undef):=by
   intro T'
   induction T' with
   |nil=>intro _;exact .pure _ _ (.any _)
   | cons p T' ih=>
    obtain⟨i,x⟩:=p;rintro⟨h1,h2⟩;simp only[i8]
    split
    ·rename_i e;subst e
     rcases h1 with rfl|rfl
     ·exact .pure _ _ (.any _)
     ·exact hren 3 _ _ (hc.tmps t)
    ·exact ih h2
  exact gen T' hT
 ·intro r row hr;simp only[a2i,J3]at hr
  split at hr
  ·rename_i q hq
   split at hr
   ·rename_i q';simp only[qf]at hr;obtain⟨row0,h0,rfl⟩:=hr;obtain⟨l,hl,n8⟩:=hc.rows q' row0 h0;refine⟨l,by simp only[n6,hq];exact hl,?_⟩
    cases row0 with
    |map kvs=>exact n8
    |mpa ag kts kvs=>obtain⟨b,h1,h2⟩:=n8;exact⟨b,h1,h2.map _ (fun x y h=>hren 3 x y h) rfl⟩
    | itr ag kts left cur=>
     obtain⟨b,h1,h0,h2⟩:=n8;exact⟨b,h1,h0,h2.same rfl (qo _) (fun b _ hn=>⟨rfl,fun k=>hn (by
      rcases k with h|⟨r,l,h1,h2⟩
      ·exact Or.inl h
      ·obtain⟨q,_,h3⟩:=i6 h1;exact Or.inr ⟨q,l,h3,h2⟩)⟩)⟩
    |els sz es=>
     obtain⟨h1,h2,h3,h4⟩:=n8;refine⟨h1,?_,fun hb=>by rw[h3 hb];rfl,fun b hb=>?_⟩
     ·intro e he;simp only[List.mem_map]at he;obtain⟨e',he',rfl⟩:=he;simpa using h2 e' he'
     ·obtain⟨c,t,k1,k2,k3,k4⟩:=h4 b hb;refine⟨c,t,k1,k2,by simpa using k3,fun i av hi=>?_⟩;rw[<-List.map_flatten]at hi;simp only[qe,qf]at hi;obtain⟨av0,hi,rfl⟩:=hi;obtain⟨x,p1,p2,p3⟩:=k4 i av0 hi;exact⟨x,p1,p2,hren 3 _ _ p3⟩
   ·cases hr
  ·cases hr
 ·intro r hr;simp only[a2i,J3]at hr;simp only[n6]
  split
  ·rename_i q hq;rw[hq]at hr;simp only[Option.map_eq_none_iff]at hr;exact hc.dead q hr
  ·rfl
def b5j (gs:List Nat) (n:Nat):List (Option Nat):=(List.range n).map fun r=>if gs.contains r then none else some r
theorem b7K (gs:List Nat) (n r:Nat):(b5j gs n)[r]?=if r<n then some (if gs.contains r then none else some r)else none:=by
 unfold b5j;rw[qe]
 by_cases h:r<n
 ·rw[if_pos h,List.getElem?_range h];rfl
 ·rw[if_neg h,List.getElem?_eq_none (by simpa using h)];rfl
def bkN (gs:List Nat) (i:Nat):Nat:=gs.getD i 0
def c3g (gs:List Nat):AV->AV
 | .v x=> .v x
 | .row i k n=>if i<gs.length then .row (bkN gs i) k n else .any
 | .ptr i k o=>if i<gs.length then .ptr (bkN gs i) k o else .any
 | .mp i=>if i<gs.length then .mp (bkN gs i)else .any
 |_=> .any
def c6h (gs:List Nat):n9->n9
 | .els sz es=> .els sz (es.map fun e=>e.map (c3g gs))
 | .map ag kts kvs=> .map ag kts kvs
 | .itr ag kts left cur=> .itr ag kts left cur
 | .mpa ag kts kvs=> .mpa ag kts (kvs.map fun p=>(p.1,c3g gs p.2))
def c7W (gs:List Nat) (H H':Hp):Hp:=(List.range H.length).map fun r=>match gs.findIdx? (· ==r)with
 |some i=>(g8 H' i).map (c6h gs)
 |none=>(g8 H r).map (C2 (b5j gs H.length))
def c0K (B:Nat->Prop) (S0:Nat->Prop) (w:World) (J:Jt):Jt:={rel:=fun _ S' O w'=>S'=S0/\Ext B w w'/\∀b,O b->B b,mark:=J.mark,base:=J.base}
theorem b8F {B S0:Nat->Prop} {w:World} {m:Jt} (hB:∀b,w.heap.size<=b->B b):JOk (c0K B S0 w m):=by
 rintro y S' O O' A A' ⟨rfl,h1,h2⟩ _ _ he ho;refine⟨rfl,h1.trans (he.mono fun b _ hb=>h2 b hb),fun b hb=>?_⟩
 rcases(ho b hb).2 with h|h
 ·exact h2 b h
 ·exact hB b (Nat.le_trans h1.size h)
def bkρ (gs:List Nat) (ρ ρ1:Nat->Option Loc) (r:Nat):Option Loc:=match gs.findIdx? (· ==r)with|some i=>ρ1 i|none=>ρ r
theorem c4Q {gs:List Nat} (hn:gs.Nodup) {i:Nat} (hi:i<gs.length):gs.findIdx? (· ==bkN gs i)=some i:=by
 rw[List.findIdx?_eq_some_iff_getElem];refine⟨hi,by simp[bkN,hi],fun j hj=>?_⟩;simp only[bkN,List.getD_eq_getElem?_getD,qc hi,Option.getD_some,beq_iff_eq];intro e;have:=(List.getElem?_inj (Nat.lt_trans hj hi) hn).1 (show gs[j]?=gs[i]? by rw[qc hi,qc (Nat.lt_trans hj hi),e]);omega
theorem a9N {gs:List Nat} {r i:Nat} (h:gs.findIdx? (· ==r)=some i):i<gs.length/\gs[i]?=some r:=by
 rw[List.findIdx?_eq_some_iff_getElem]at h;obtain⟨h1,h2,_⟩:=h;exact⟨h1,by rw[qc h1];simpa using h2⟩
theorem b6d {gs:List Nat} {r:Nat} (h:gs.findIdx? (· ==r)=none):r∉gs:=by
 rw[List.findIdx?_eq_none_iff]at h;intro hr;simpa using h r hr
theorem b1t {w:World} {S0:Nat->Prop} {ρ ρ1:Nat->Option Loc} {L1 L:Nat->Prop} {S1 S:Nat->Prop} {gs:List Nat} (hn:gs.Nodup) (hL:∀r∈gs,L r) {x:AV} {y:Value} (h:e8 w S1 ρ1 L1 x y):e8 w S (bkρ gs ρ ρ1) L (c3g gs x) y:=by
 have nm:∀{i:Nat},i<gs.length->L (bkN gs i)/\bkρ gs ρ ρ1 (bkN gs i)=ρ1 i:=by
  intro i hi;refine⟨hL _ (by simp[bkN,hi]),?_⟩;unfold bkρ;rw[c4Q hn hi]
 cases x with
 |v c=>rw[j5 h];exact .pure _ _ (.v _)
 | row i k n=>
  simp only[c3g]
  split
  ·rename_i hi
   cases h with
   |pure _ _ h=>cases h
   |row _ _ _ _ h1 h2 h3=>exact .row _ _ _ _ (nm hi).1 h2 (fun l hl=>h3 l ((nm hi).2▸hl))
  ·exact .pure _ _ (.any _)
 | ptr i k n=>
  simp only[c3g]
  split
  ·rename_i hi
   cases h with
   |pure _ _ h=>cases h
   |ptr _ _ _ _ h1 h2 h3=>exact .ptr _ _ _ _ (nm hi).1 h2 (fun l hl=>h3 l ((nm hi).2▸hl))
  ·exact .pure _ _ (.any _)
 | mp i=>
  simp only[c3g]
  split
  ·rename_i hi
   cases h with
   |pure _ _ h=>cases h
   |mp _ _ h1 h2 h3=>exact .mp _ _ (nm hi).1 h2 (fun l hl=>h3 l ((nm hi).2▸hl))
  ·exact .pure _ _ (.any _)
 |_=>exact .pure _ _ (.any _)
def a9T:Hp->Bool
 |[]=>true
 |some (.itr _ _ _ _)::_=>false
 |_::H=>a9T H
theorem a6v:∀{H:Hp},a9T H=true->∀(r:Nat) ag kts left cur,g8 H r≠some (.itr ag kts left cur)
 |[],_,r,_,_,_,_=>by cases r<;>simp[g8]
 |x::H,h,0,_,_,_,_=>by
  intro e;simp only[g8]at e;subst e;simp[a9T]at h
 | x::H,h,r+1,ag,kts,left,cur=>by
  simp only[g8];refine a6v (H:=H) ?_ r ag kts left cur
  cases x with
  |none=>exact h
  |some row=>cases row with
   |itr=>simp[a9T]at h
   |_=>exact h
theorem c7.keep {P:Program} {f:FuncId} {args:List AV} {Hk Hd Hk' Hn:Hp} {res:AV} {d d':Option n9} (q k k':Nat) {sz sz' s1:Nat} {es es' e1 e1':List (List AV)} {x:Value} {i o:Nat} (h:c7 P f args Hk (d::Hd) res Hk' (d'::Hn))
  (h1:g8 (Hk++d::Hd) q=some (.els sz es)) (h2:es.flatten[k]?=some (.fptr x Hk.length i o)) (h3:g8 (Hk'++d'::Hn) q=some (.els sz' es')) (h4:es'.flatten[k']?=some (.fptr x Hk.length i o))
  (h5:d=some (.els s1 e1)) (h6:d'=some (.els s1 e1')):c7 P f args (Hk++[d]) Hd res (Hk'++[d']) Hn:=by
 have eH:Hk++[d]++Hd=Hk++d::Hd:=by simp
 have eH':Hk'++[d']++Hn=Hk'++d'::Hn:=by simp
 refine⟨h.1,by simp[h.2.1],?_⟩;rw[eH,eH'];intro S0 w ρ vs hh hl hreps;refine(h.2.2 S0 w ρ vs hh hl hreps).mono ?_;rintro e w' ⟨v,ρ',rfl,hh',hrep,hkeep,hfresh,hext⟩;refine⟨v,ρ',rfl,hh',hrep,fun r l' hr hl'=>?_,hfresh,hext⟩
 by_cases hrk:r<Hk.length
 ·exact hkeep r l' hrk hl'
 have hre:r=Hk.length:=by
  rw[List.length_append]at hr;simp at hr;omega
 subst hre;have g1:g8 (Hk++d::Hd) Hk.length=some (.els s1 e1):=by rw[C8,qv (qo _)];simp[h5]
 have g2:g8 (Hk'++d'::Hn) Hk.length=some (.els s1 e1'):=by rw[C8,h.2.1,qv (qo _)];simp[h6]
 obtain⟨l,hlr,n8⟩:=hh.rows _ _ g1;obtain⟨l2,hl2,hrow2⟩:=hh'.rows _ _ g2;rw[hl2]at hl';simp only[qb]at hl';subst hl';have cell:∀{w:World} {ρ:Nat->Option Loc} {L:Nat->Prop} {S:Nat->Prop} {l:Loc} {sz:Nat} {es:List (List AV)} {k:Nat},i7 w S ρ L l (.els sz es)->es.flatten[k]?=some (.fptr x Hk.length i o)->e8 w S ρ L (.ptr Hk.length i o) x:=by
  intro w ρ L S l sz es k hr hk;obtain⟨_,_,e3,e4⟩:=hr
  cases hb:l.b with
  |none=>rw[e3 hb]at hk;simp at hk
  |some b=>
   obtain⟨c,t,_,_,_,p⟩:=e4 b hb;obtain⟨u,_,_,hu⟩:=p k _ hk
   cases hu with
   |pure _ _ h=>cases h
   |fptr _ _ _ _ h=>exact h
 obtain⟨lq,_,hrq⟩:=hh.rows q _ h1;obtain⟨lq',_,hrq'⟩:=hh'.rows q _ h3;have:=a4R (x:= .ptr Hk.length i o) rfl (cell hrq h2) (cell hrq' h4) hlr hl2 n8 hrow2 hext.cells (fun b hb hn=>hext.block b hb (fun ho=>hn (Or.inr ho)));rw[this];exact hlr
theorem a3W {w:World} {S:Nat->Prop} {ρ:Nat->Option Loc} {L:Nat->Prop} {l:Loc} {sz:Nat} {e e':List AV} (h:i7 w S ρ L l (.els sz [e])) (hl:e'.length=e.length)
  (hc:∀(k:Nat) a',e'[k]?=some a'->∃a,e[k]?=some a/\∀x,(∃b c t,l.b=some b/\w.heap[b]?=some (.cells c t (0,0))/\c[l.o+k]?=some x)->e8 w S ρ L a x->e8 w S ρ L a' x):i7 w S ρ L l (.els sz [e']):=by
 obtain⟨h1,h2,h3,h4⟩:=h;refine⟨h1,fun y hy=>?_,fun hb=>(by cases h3 hb),fun b hb=>?_⟩
 ·simp only[List.mem_singleton]at hy;subst hy;rw[hl];exact h2 e (by simp)
 ·obtain⟨c,t,k1,k2,k3,k4⟩:=h4 b hb;refine⟨c,t,k1,k2,by simpa using k3,fun i a hi=>?_⟩;simp only[List.flatten_cons,List.flatten_nil,List.append_nil]at hi k4;obtain⟨a0,g1,g2⟩:=hc i a hi;obtain⟨x,p1,p2,p3⟩:=k4 i a0 g1;exact⟨x,p1,p2,g2 x ⟨b,c,t,hb,k1,p1⟩ p3⟩
theorem a0e {P:Program} {ro:Option Nat} {J:Jt} {nt:Nat} {kp:List Nat} {c:Code} {T:Tm} {H:Hp} {Q:Exit->Tm->Hp->Prop} (q j:Nat) {sz:Nat} {e:List AV} {r i o:Nat} (hr:g8 H q=some (.els sz [e])) (hj:e[j]?=some (.ptr r i o))
  (h:∀x,GWp P ro J nt kp c T (p9 H q (some (.els sz [e.set j (.fptr x r i o)]))) Q):GWp P ro J nt kp c T H Q:=by
 intro hJ kv a w ⟨⟨S0,ρ,L,hc,hL,hjr,hm⟩,hk⟩;have hql:=W4 hr;obtain⟨l,hl,n8⟩:=hc.rows q _ hr;have hrow0:=n8;obtain⟨_,_,e3,e4⟩:=hrow0
 cases hb:l.b with
 |none=>cases e3 hb
 | some b=>
  obtain⟨cc,t,k1,k2,k3,k4⟩:=e4 b hb;simp only[List.flatten_cons,List.flatten_nil,List.append_nil]at k4;obtain⟨x,p1,p2,p3⟩:=k4 j _ hj;refine h x hJ kv a w ⟨⟨S0,ρ,L,⟨hc.wf,hc.size,hc.defers,hc.tmps,fun r' row hr'=>?_,fun r' hr'=>?_⟩,fun r' hr'=>by rw[O4 _ _ _ hql];exact hL r' hr',hjr,hm⟩,hk⟩
  ·rw[y5 _ _ _ _ (by omega)]at hr'
   split at hr'
   ·rename_i e';subst e';simp only[qb]at hr';subst hr';refine⟨l,hl,a3W n8 (by simp) fun k a' ha=>?_⟩
    by_cases hkj:k=j
    ·subst hkj;have hkl:k<e.length:=(qa.1 hj).1;rw[List.getElem?_set_self hkl]at ha;simp only[qb]at ha;subst ha;refine⟨_,hj,?_⟩;rintro y ⟨b',c',t',q1,q2,q3⟩ hy;rw[hb]at q1;simp only[qb]at q1;subst q1;rw[k1]at q2;simp only[qb,Obj.cells.injEq]at q2;rw[<-q2.1,p1]at q3;simp only[qb]at q3;subst q3;exact .fptr _ _ _ _ hy
    ·rw[List.getElem?_set_ne (fun e=>hkj e.symm)]at ha;exact⟨a',ha,fun _ _ h=>h⟩
   ·exact hc.rows r' row hr'
  ·rw[y5 _ _ _ _ (by omega)]at hr'
   split at hr'
   ·cases hr'
   ·exact hc.dead r' hr'
theorem C9 {nt:Nat} {T:Tm} {H:Hp} (q j:Nat) {sz:Nat} {e:List AV} {x:Value} {r i o:Nat} (hr:g8 H q=some (.els sz [e])) (hj:e[j]?=some (.fptr x r i o)):Sub nt T H T (p9 H q (some (.els sz [e.set j (.ptr r i o)]))):=by
 rintro w0 B S0 a w ⟨⟨ρ,L,hc,hL⟩,hext⟩;have hql:=W4 hr;refine⟨⟨ρ,L,⟨hc.wf,hc.size,hc.defers,hc.tmps,fun r' row hr'=>?_,fun r' hr'=>?_⟩,fun r' hr'=>by rw[O4 _ _ _ hql];exact hL r' hr'⟩,hext⟩
 ·rw[y5 _ _ _ _ (by omega)]at hr'
  split at hr'
  ·rename_i e';subst e';simp only[qb]at hr';subst hr';obtain⟨l,hl,n8⟩:=hc.rows r' _ hr;refine⟨l,hl,a3W n8 (by simp) fun k a' ha=>?_⟩
   by_cases hkj:k=j
   ·subst hkj;have hkl:k<e.length:=(qa.1 hj).1;rw[List.getElem?_set_self hkl]at ha;simp only[qb]at ha;subst ha;refine⟨_,hj,fun y _ hy=>?_⟩
    cases hy with
    |pure _ _ h=>cases h
    |fptr _ _ _ _ h=>exact h
   ·rw[List.getElem?_set_ne (fun e=>hkj e.symm)]at ha;exact⟨a',ha,fun _ _ h=>h⟩
  ·exact hc.rows r' row hr'
 ·rw[y5 _ _ _ _ (by omega)]at hr'
  split at hr'
  ·cases hr'
  ·exact hc.dead r' hr'
end Go.AM
end
section
namespace Go.Tram.Lk
open Go.AM Go.Proofs
abbrev j8:=List (Move×Move)
abbrev kMM (m n:Move):List KC:=[.i .i64 m.Rail, .b m.Back, .i .i64 n.Rail, .b n.Back]
theorem a2y {m n m' n':Move}:kMM m n=kMM m' n'↔m=m'/\n=n':=by
 obtain⟨a,b⟩:=m;obtain⟨c,d⟩:=n;obtain⟨a',b'⟩:=m';obtain⟨c',d'⟩:=n';simp[kMM,and_assoc]
def b6U (s:j0) (m n:Move):Bool:=C6 s.Plan m&&(C6 s.Plan n&&G6 s.Plan m n)
def nxK (s:j0) (l:j8):Kvs:=l.map fun p=>(kMM p.1 p.2,(.bool (b6U s p.1 p.2):Value))
theorem b0J (s:j0) (m n:Move):∀l:j8,s8 (nxK s l) (kMM m n)=if (m,n)∈l then some (.bool (b6U s m n))else none
 |[]=>by simp[nxK,s8]
 | p ::l=>by
  have ih:=b0J s m n l;unfold nxK at ih ⊢;rw[List.map_cons,s8]
  by_cases h:m=p.1/\n=p.2
  ·rw[if_pos (a2y.2 h),if_pos (by rw[h.1,h.2];simp),h.1,h.2]
  ·rw[if_neg (fun e=>h (a2y.1 e)),ih];have:((m,n)∈p::l)↔((m,n)∈l):=by
    rw[List.mem_cons];constructor
    ·rintro(e|e)
     ·exact absurd (by rw[<-e];exact⟨rfl,rfl⟩) h
     ·exact e
    ·exact Or.inr
   simp only[this]
theorem b6v (s:j0) (m n:Move):∀l:j8,(m,n)∉l->M9 (nxK s l) (kMM m n) (.bool (b6U s m n))=nxK s (l++[(m,n)])
 |[],_=>rfl
 |p::l,h=>by
  have ih:=b6v s m n l fun e=>h (by simp[e]);unfold nxK at ih ⊢;rw[List.map_cons,M9,if_neg,ih]
  ·rfl
  ·intro e;obtain⟨e1,e2⟩:=a2y.1 e;exact h (by rw[e1,e2];simp)
def b9i (s:j0) (m n:Move):Bool:=C6 s.Plan m&&(C6 s.Plan n&&(G6 s.Plan m n&&F8 s.Plan m))
def b9V (s:j0) (m n:Move):R0:=if b9i s m n then F9 s.Plan m n else⟨0,0⟩
abbrev c5s (s:j0) (m n:Move):List AV:=[I (b9V s m n).Node,I (b9V s m n).Leg,Bo (b9i s m n)]
def ndK (s:j0) (l:j8):List (List KC×AV):=l.map fun p=>(kMM p.1 p.2, .agg (c5s s p.1 p.2))
theorem b5h (s:j0) (m n:Move):∀l:j8,A4 (ndK s l) (kMM m n)=if (m,n)∈l then some (.agg (c5s s m n))else none
 |[]=>by simp[ndK,A4]
 | p ::l=>by
  have ih:=b5h s m n l;unfold ndK at ih ⊢;rw[List.map_cons,A4]
  by_cases h:m=p.1/\n=p.2
  ·rw[if_pos (a2y.2 h),if_pos (by rw[h.1,h.2];simp),h.1,h.2]
  ·rw[if_neg (fun e=>h (a2y.1 e)),ih];have:((m,n)∈p::l)↔((m,n)∈l):=by
    rw[List.mem_cons];constructor
    ·rintro(e|e)
     ·exact absurd (by rw[<-e];exact⟨rfl,rfl⟩) h
     ·exact e
    ·exact Or.inr
   simp only[this]
theorem b4o (s:j0) (m n:Move):∀l:j8,(m,n)∉l->O1 (ndK s l) (kMM m n) (.agg (c5s s m n))=ndK s (l++[(m,n)])
 |[],_=>rfl
 |p::l,h=>by
  have ih:=b4o s m n l fun e=>h (by simp[e]);unfold ndK at ih ⊢;rw[List.map_cons,O1,if_neg,ih]
  ·rfl
  ·intro e;obtain⟨e1,e2⟩:=a2y.1 e;exact h (by rw[e1,e2];simp)
@[simp high] theorem c5U (s:j0) (l:j8) (g:List (Option Nat)) (n:Nat):(ndK s l).map (fun p=>(p.1,p5 g (n+1) p.2))=ndK s l:=by
 unfold ndK;rw[List.map_map];refine List.map_congr_left fun p _=>?_;simp[p5]
@[simp high] theorem c4f (l:List Car) (g:List (Option Nat)) (n:Nat):(o3 l).map (fun p=>(p.1,p5 g (n+1) p.2))=o3 l:=by
 unfold o3;rw[List.map_map];refine List.map_congr_left fun p _=>?_;simp[p5]
@[simp high] theorem c5p (s:j0) (l:j8) (H:Nat->Option n9) (g:List (Option Nat)) (n:Nat):(ndK s l).map (fun p=>(p.1,Z7 H g (n+1) p.2))=ndK s l:=by
 unfold ndK;rw[List.map_map];refine List.map_congr_left fun p _=>?_;simp[Z7]
@[simp high] theorem c3r (l:List Car) (H:Nat->Option n9) (g:List (Option Nat)) (n:Nat):(o3 l).map (fun p=>(p.1,Z7 H g (n+1) p.2))=o3 l:=by
 unfold o3;rw[List.map_map];refine List.map_congr_left fun p _=>?_;simp[Z7]
@[simp] theorem c8F:zOk (.agg #[.int .i64 0, .int .i64 0, .bool false])=true:=rfl
@[simp] theorem c8h:zAV (.agg #[.int .i64 0, .int .i64 0, .bool false])= .agg [I 0,I 0,Bo false]:=rfl
@[simp] theorem c8K:zOk (.agg #[.int .i64 0, .int .i64 0, .slice none 0 0, .int .i64 0])=true:=rfl
@[simp] theorem c8l:zAV (.agg #[.int .i64 0, .int .i64 0, .slice none 0 0, .int .i64 0])= .agg [I 0,I 0, .v (.slice none 0 0),I 0]:=rfl
abbrev ruR (s:j0) (fo si up:Kvs) (x y:Nat):Option n9:=some (.els 9 [s.cells++[.mpc true KT4 fo, .mpc false [.i .i64] si, .mpc true KTM up, .mp x, .mp y]])
abbrev nxR (s:j0) (l:j8):Option n9:=some (.map true a1p (nxK s l))
abbrev ndR (s:j0) (l:j8):Option n9:=some (.mpa true a1p (ndK s l))
def b7y (l:j8) (m n:Move):j8:=if (m,n)∈l then l else l++[(m,n)]
theorem a8v (s:j0) (hv:d8 s.Plan=true) (m n:Move) (hm:C6 s.Plan m=true) (hn:C6 s.Plan n=true) (fo si up:Kvs) (nx nd:j8):
  c7 Tryz.prog 132 [.ptr 0 0 0,m.av,n.av] [ruR s fo si up 1 2] [nxR s nx,ndR s nd] (Bo (G6 s.Plan m n)) [ruR s fo si up 1 2] [nxR s (b7y nx m n),ndR s nd]:=by
 have hf:b6U s m n=G6 s.Plan m n:=by simp[b6U,hm,hn]
 have hg:=b0J s m n nx;rw[hf]at hg
 by_cases hmem:(m,n)∈nx
 ·rw[if_pos hmem]at hg;have ha:b7y nx m n=nx:=if_pos hmem;rw[ha];refine oG [0] Tryz.func132 Tryz.ntmps132 Tryz.results132 ?_;intro J hJ;refine gW ?_;refine gW ?_;refine a8 fun K1 hK1=>?_;refine gD ?_ fun K hK=>by simp -dsimp;refine d7 (.tup [Bo (G6 s.Plan m n),Bo true]) (fun hm=>by rw[hg];rfl) ?_;simp -dsimp;exact hK
  refine gW ?_;refine c3 rfl (fun hc0=>?_) (fun hc0=>?_)
  ·refine gW ?_;exact d9 (gT [some 0,some 1,some 2])
  ·simp at hc0
 ·rw[if_neg hmem]at hg;have ha:b7y nx m n=nx++[(m,n)]:=if_neg hmem;rw[ha];have hs:=b6v s m n nx hmem;rw[hf]at hs;have hfo:=a8x s.Plan m n hv hm hn;have hg2:s8 (nxK s (nx++[(m,n)])) (kMM m n)=some (.bool (G6 s.Plan m n)):=by rw[b0J,if_pos (by simp),hf]
  refine oG [0] Tryz.func132 Tryz.ntmps132 Tryz.results132 ?_;intro J hJ;refine gW ?_;refine gW ?_;refine a8 fun K1 hK1=>?_;refine gD ?_ fun K hK=>by simp -dsimp;refine d7 (.tup [Bo false,Bo false]) (fun hm=>by rw[hg];rfl) ?_;simp -dsimp;exact hK
  refine gW ?_;refine c3 rfl (fun hc0=>?_) (fun hc0=>?_)
  ·simp at hc0
  ·refine c5 ?_;refine zQ (hK1 _ _ ?_);refine gP [0,4,5,7] ?_;refine gD ?_ fun K hK=>by simp -dsimp;refine cI (hfo) ?_;simp -dsimp;exact hK
   refine gD ?_ fun K hK=>by simp -dsimp [hs];exact hK
   refine gD ?_ fun K hK=>by simp -dsimp;refine d7 (Bo (G6 s.Plan m n)) (fun hm=>by rw[hg2];rfl) ?_;simp -dsimp;exact hK
   exact d9 (gT [some 0,some 1,some 2])
abbrev stR (X:Value) (np:Nat):Option n9:=some (.els 3 [[.fptr X 1 0 0, .mp 2, .row 3 0 np]])
abbrev ptR (l:List Int):Option n9:=some (.els 1 (l.map f9))
abbrev caR (l:List Car):Option n9:=some (a9k l)
abbrev stK (X:Value) (s:j0) (fo si up:Kvs) (np:Nat):Hp:=[stR X np,ruR s fo si up 4 5]
abbrev stD (s:j0) (cs:List Car) (ps:List Int) (nx nd:j8):Hp:=[caR cs,ptR ps,nxR s nx,ndR s nd]
def a5l (l:j8) (c:Car) (m:Move):j8:=if c.Way=[]then l else b7y l (C7 c) m
theorem z9 {P:Program} {f:FuncId} {args:List AV} {X:Value} {np np':Nat} {s:j0} {fo si up:Kvs} {D D':Hp} {res:AV}
  (h:c7 P f args [stR X np] (ruR s fo si up 4 5::D) res [stR X np'] (ruR s fo si up 4 5::D')):c7 P f args (stK X s fo si up np) D res (stK X s fo si up np') D':=
 c7.keep 0 0 0 h rfl rfl rfl rfl rfl rfl
theorem a3S {c:Car} (h:c.Way≠[]):c.Way[c.Way.length-1]?=some (C7 c):=by
 unfold C7;rw[<-List.getLast?_eq_getElem?]
 cases hg:c.Way.getLast? with
 |none=>exact absurd (List.getLast?_eq_none_iff.1 hg) h
 |some x=>rfl
theorem a7H {s:j0} {c:Car} (h:c.Way≠[]) (hw:wayB s.Plan c.Way=true):C6 s.Plan (C7 c)=true:=by
 have hl:=F3 hw;have:=E3 hw (c.Way.length-1) (by omega);unfold y4 at this;rw[a3S h]at this;exact this
theorem b3o (X:Value) (s:j0) (fo si up:Kvs) (cs:List Car) (ps:List Int) (nx nd:j8) (c:Car) (m:Move) (hne:c.Way=[]):
  c7 Tryz.prog 100 [.ptr 0 0 0,c.av,m.av] (stK X s fo si up ps.length) (stD s cs ps nx nd) (.tup [.agg (E4 s c m).cells,Bo (N2 s c m)]) (stK X s fo si up ps.length) (stD s cs ps nx (a5l nd c m)):=by
 have e1:N2 s c m=false:=by simp[N2,hne]
 have e2:E4 s c m=⟨0,0⟩:=by unfold E4;rw[if_neg (by simp[e1])]
 have e3:a5l nd c m=nd:=if_pos hne;rw[e1,e2,e3];refine z9 ?_;refine oG [0] Tryz.func100 Tryz.ntmps100 Tryz.results100 ?_;intro J hJ;refine gW ?_;refine a8 fun K1 hK1=>?_;refine gW ?_ fun K hK=>by simp -dsimp [hne];exact hK
 refine c3 rfl (fun hc0=>?_) (fun hc0=>?_)
 ·refine gW ?_;refine gU (T':=[(0, .ptr 0 0 0),(6, .iptr [I 0,I 0]),(7,Bo false)]) (H':=stR X ps.length::ruR s fo si up 4 5::stD s cs ps nx nd) [some 0,some 1,some 2,some 3,some 4,some 5] ?_;exact d9 (gT [some 0,some 1,some 2,some 3,some 4,some 5])
 ·simp at hc0
theorem U3 (X:Value) (s:j0) (fo si up:Kvs) (cs:List Car) (ps:List Int) (nx nd:j8) (c:Car) (m:Move) (hv:d8 s.Plan=true) (hne:c.Way≠[]) (hw:wayB s.Plan c.Way=true) (hm:C6 s.Plan m=true):
  c7 Tryz.prog 100 [.ptr 0 0 0,c.av,m.av] (stK X s fo si up ps.length) (stD s cs ps nx nd) (.tup [.agg (E4 s c m).cells,Bo (N2 s c m)]) (stK X s fo si up ps.length) (stD s cs ps nx (a5l nd c m)):=by
 have hl:=F3 hw;have hlast:=a3S hne;have hml:=a7H hne hw;have eb:N2 s c m=b9i s (C7 c) m:=by simp[N2,b9i,hne,hml,hm]
 have es:E4 s c m=b9V s (C7 c) m:=by unfold E4 b9V;rw[eb]
 have ex:a5l nd c m=b7y nd (C7 c) m:=if_neg hne;rw[eb,es,ex];have hbt:=a8w s.Plan (C7 c) m hv hml hm;have hbe:b9i s (C7 c) m=(G6 s.Plan (C7 c) m&&F8 s.Plan (C7 c)):=by simp[b9i,hml,hm]
 rw[<-hbe]at hbt;have hg:=b5h s (C7 c) m nd;have p9:=b4o s (C7 c) m nd;have hbs:(if b9i s (C7 c) m=true then F9 s.Plan (C7 c) m else⟨0,0⟩)=b9V s (C7 c) m:=rfl;rw[hbs]at hbt;have hbc:c5s s (C7 c) m=[I (b9V s (C7 c) m).Node,I (b9V s (C7 c) m).Leg,Bo (b9i s (C7 c) m)]:=rfl;rw[hbc]at hg p9;generalize C7 c=last at*
 generalize b9V s last m=B at*
 generalize b9i s last m=b at*
 have herr:((if b=true then(0:Int)else 4)==0)=b:=by cases b<;>rfl
 have wl:IntKind.i64.wrap ((c.Way.length:Int)-1)=(c.Way.length:Int)-1:=c4 (by omega) (by omega);have tl:((c.Way.length:Int)-1).toNat=c.Way.length-1:=by omega
 have l0:0<=(c.Way.length:Int)-1:=by omega
 have l1:1<=(c.Way.length:Int):=by omega
 refine z9 ?_
 by_cases hmem:(last,m)∈nd
 ·rw[if_pos hmem]at hg;have ha:b7y nd last m=nd:=if_pos hmem;rw[ha];refine oG [0] Tryz.func100 Tryz.ntmps100 Tryz.results100 ?_;intro J hJ;refine gW ?_;refine a8 fun K1 hK1=>?_;refine gW ?_ fun K hK=>by simp -dsimp [hne];exact hK
  refine c3 rfl (fun hc0=>?_) (fun hc0=>?_)
  ·simp[hne]at hc0
  ·refine c5 ?_;refine zQ (hK1 _ _ ?_);refine gP [0,4,5,6] ?_;refine gD ?_ fun K hK=>by simp -dsimp [hlast,wl,tl,l0,l1];exact hK
   refine a8 fun K2 hK2=>?_;refine gD ?_ fun K hK=>by simp -dsimp;refine d7 (.tup [.agg [I B.Node,I B.Leg,Bo b],Bo true]) (fun hm=>by rw[hg];rfl) ?_;simp -dsimp;exact hK
   refine gW ?_;refine c3 rfl (fun hc1=>?_) (fun hc1=>?_)
   ·refine gD ?_;refine gU (T':=[(0, .ptr 0 0 0),(6, .iptr [I B.Node,I B.Leg]),(7,Bo b)]) (H':=stR X ps.length::ruR s fo si up 4 5::stD s cs ps nx nd) [some 0,some 1,some 2,some 3,some 4,some 5] ?_;exact d9 (gT [some 0,some 1,some 2,some 3,some 4,some 5])
   ·simp at hc1
 ·rw[if_neg hmem]at hg;have hset2:=p9 hmem;have ha:b7y nd last m=nd++[(last,m)]:=if_neg hmem;rw[ha];refine oG [0] Tryz.func100 Tryz.ntmps100 Tryz.results100 ?_;intro J hJ;refine gW ?_;refine a8 fun K1 hK1=>?_;refine gW ?_ fun K hK=>by simp -dsimp [hne];exact hK
  refine c3 rfl (fun hc0=>?_) (fun hc0=>?_)
  ·simp[hne]at hc0
  ·refine c5 ?_;refine zQ (hK1 _ _ ?_);refine gP [0,4,5,6] ?_;refine gD ?_ fun K hK=>by simp -dsimp [hlast,wl,tl,l0,l1];exact hK
   refine a8 fun K2 hK2=>?_;refine gD ?_ fun K hK=>by simp -dsimp;refine d7 (.tup [.agg [I 0,I 0,Bo false],Bo false]) (fun hm=>by rw[hg];rfl) ?_;simp -dsimp;exact hK
   refine gW ?_;refine c3 rfl (fun hc1=>?_) (fun hc1=>?_)
   ·simp at hc1
   ·refine c5 ?_;refine zQ (hK2 _ _ ?_);refine gP [0,6,8] ?_;refine gD ?_ fun K hK=>by simp -dsimp;refine cI (hbt) ?_;simp -dsimp;exact hK
    refine gD ?_ fun K hK=>by simp -dsimp [hset2,herr];exact hK
    refine gW ?_ fun K hK=>by simp -dsimp [herr];exact hK
    refine gU (T':=[(0, .ptr 0 0 0),(6, .iptr [I B.Node,I B.Leg]),(7,Bo b)]) (H':=stR X ps.length::ruR s fo si up 4 5::stD s cs ps nx (nd++[(last,m)])) [some 0,some 1,some 2,some 3,some 4,some 5] ?_;exact d9 (gT [some 0,some 1,some 2,some 3,some 4,some 5])
end Go.Tram.Lk
end
section
namespace Go.Tram.Lk
open Go.AM Go.Proofs
theorem a2k {P:Program} {f:FuncId} {X:Value} {r i o:Nat} {args:List AV} {Hk Hd Hk' Hn:Hp} {res:AV} (h:c7 P f (.ptr r i o::args) Hk Hd res Hk' Hn):c7 P f (.fptr X r i o::args) Hk Hd res Hk' Hn:=by
 obtain⟨h1,h2,h3⟩:=h;refine⟨h1,h2,fun S0 w ρ vs hh hlen hrep=>h3 S0 w ρ vs hh hlen fun j c x hc hx=>?_⟩
 cases j with
 |zero=>
  simp only[List.getElem?_cons_zero,qb]at hc;subst hc;have:=hrep 0 _ x rfl hx
  cases this with
  |pure _ _ h=>cases h
  |fptr _ _ _ _ h=>exact h
 |succ j=>exact hrep (j+1) c x hc hx
theorem S4 {P:Program} {f:FuncId} {args:List AV} {X pv:Value} {np np':Nat} {s:j0} {fo si up:Kvs} {D D':Hp}
  (h:l8 P f args [stR X np] (ruR s fo si up 4 5::D) pv [stR X np'] (ruR s fo si up 4 5::D')):l8 P f args (stK X s fo si up np) D pv (stK X s fo si up np') D':=by
 refine⟨h.1,rfl,fun S0 w ρ vs hh hl hreps=>(h.2.2 S0 w ρ vs hh hl hreps).mono ?_⟩;rintro e w' ⟨rfl,ρ',hh',hkeep,hfresh,hext⟩;refine⟨rfl,ρ',hh',fun r l' hr hl'=>?_,hfresh,hext⟩
 by_cases hrk:r<1
 ·exact hkeep r l' hrk hl'
 have hre:r=1:=by simp at hr;omega
 subst hre;obtain⟨l,hlr,n8⟩:=hh.rows 1 _ rfl;obtain⟨l2,hl2,hrow2⟩:=hh'.rows 1 _ rfl;rw[hl2]at hl'
 cases hl'
 have cell:∀{w:World} {ρ:Nat->Option AM.Loc} {L:Nat->Prop} {S:Nat->Prop} {l:AM.Loc} {n:Nat},i7 w S ρ L l (.els 3 [[.fptr X 1 0 0, .mp 2, .row 3 0 n]])->e8 w S ρ L (.ptr 1 0 0) X:=by
  intro w ρ L S l n hr;obtain⟨_,_,e3,e4⟩:=hr
  cases hb:l.b with
  |none=>have:=e3 hb;simp at this
  |some b=>
   obtain⟨c,t,_,_,_,p⟩:=e4 b hb;obtain⟨u,_,_,hu⟩:=p 0 _ rfl
   cases hu with
   |pure _ _ h=>cases h
   |fptr _ _ _ _ h=>exact h
 obtain⟨lq,_,hrq⟩:=hh.rows 0 _ rfl;obtain⟨lq',_,hrq'⟩:=hh'.rows 0 _ rfl;have:=a4R (x:= .ptr 1 0 0) rfl (cell hrq) (cell hrq') hlr hl2 n8 hrow2 hext.cells (fun b hb hn=>hext.block b hb (fun ho=>hn (Or.inr ho)));rw[this];exact hlr
section
variable (X:Value) (s:j0) (fo si up:Kvs) (cs:List Car) (ps:List Int) (nx nd:j8) (c:Car) (m:Move)
theorem c4O (hne:c.Way=[]):c7 Tryz.prog 94 [.ptr 0 0 0,c.av,m.av] (stK X s fo si up ps.length) (stD s cs ps nx nd) (.tup []) (stK X s fo si up ps.length) (stD s cs ps (a5l nx c m) nd):=by
 have ex:a5l nx c m=nx:=if_pos hne;rw[ex];refine z9 ?_;have hr:=q9 1 0;refine oG [0] Tryz.func94 Tryz.ntmps94 Tryz.results94 ?_;intro J hJ;refine gW ?_;refine gE ?_ fun K hK=>by simp -dsimp [hne];refine j7 [I 0,Bo false] (fun h=>by simp at h) ?_;simp -dsimp [hne];refine a9i (Bo false) (fun hm=>by simp at hm) (by simp) ?_;simp -dsimp;refine cI (hr) ?_;simp -dsimp [hne];exact hK
 try simp only[zT,reduceIte,Nat.reduceEqDiff]
 exact⟨[some 0,some 1,some 2,some 3,some 4,some 5],rfl,by simp,by simp,by simp,by simp[N6,r9]⟩
theorem c4V (hv:d8 s.Plan=true) (hne:c.Way≠[]) (hw:wayB s.Plan c.Way=true) (hm:C6 s.Plan m=true) (hb:endB s c m=false):
  c7 Tryz.prog 94 [.ptr 0 0 0,c.av,m.av] (stK X s fo si up ps.length) (stD s cs ps nx nd) (.tup []) (stK X s fo si up ps.length) (stD s cs ps (a5l nx c m) nd):=by
 have ex:a5l nx c m=b7y nx (C7 c) m:=if_neg hne;rw[ex];have hl:=F3 hw;have hlast:=a3S hne;have hml:=a7H hne hw;have hfo:=a2k (X:=X) (a8v s hv (C7 c) m hml hm fo si up nx nd);have hf:G6 s.Plan (C7 c) m=true:=by simpa [endB,hne]using hb
 rw[hf]at hfo;generalize C7 c=last at*
 have wl:IntKind.i64.wrap ((c.Way.length:Int)-1)=(c.Way.length:Int)-1:=c4 (by omega) (by omega);have tl:((c.Way.length:Int)-1).toNat=c.Way.length-1:=by omega
 have l1:1<=(c.Way.length:Int):=by omega
 have l2:0<(c.Way.length:Int):=by omega
 have l3:0<c.Way.length:=by omega
 have hr:=q9 1 0;refine z9 ?_;refine oG [0] Tryz.func94 Tryz.ntmps94 Tryz.results94 ?_;intro J hJ;refine gW ?_;refine gE ?_ fun K hK=>by simp -dsimp [hlast,wl,tl,l1,l2,l3,hne];refine j7 last.cells (fun _=>by rw[qe,hlast];rfl) ?_;simp -dsimp [hlast,wl,tl,l1,l2,l3,hne];refine cM [1] [4,5] (hfo) ?_;simp -dsimp [hlast,wl,tl,l1,l2,l3,hne];refine cI (hr) ?_;simp -dsimp [hlast,wl,tl,l1,l2,l3,hne];exact hK
 try simp only[zT,reduceIte,Nat.reduceEqDiff]
 exact⟨[some 0,some 1,some 2,some 3,some 8,some 9],rfl,by simp,by simp,by simp,by simp[N6,r9]⟩
theorem c4M (hv:d8 s.Plan=true) (hw:c.Way≠[]->wayB s.Plan c.Way=true) (hm:C6 s.Plan m=true) (hb:endB s c m=true):
  l8 Tryz.prog 94 [.ptr 0 0 0,c.av,m.av] (stK X s fo si up ps.length) (stD s cs ps nx nd) (b1k 1 0) (stK X s fo si up ps.length) (stD s cs ps (a5l nx c m) nd):=by
 have hne:c.Way≠[]:=by intro e;simp[endB,e]at hb
 have ex:a5l nx c m=b7y nx (C7 c) m:=if_neg hne;rw[ex]
 replace hw:=hw hne
 have hl:=F3 hw;have hlast:=a3S hne;have hml:=a7H hne hw;have hfo:=a2k (X:=X) (a8v s hv (C7 c) m hml hm fo si up nx nd);have hf:G6 s.Plan (C7 c) m=false:=by simpa [endB,hne]using hb
 rw[hf]at hfo;generalize C7 c=last at*
 have wl:IntKind.i64.wrap ((c.Way.length:Int)-1)=(c.Way.length:Int)-1:=c4 (by omega) (by omega);have tl:((c.Way.length:Int)-1).toNat=c.Way.length-1:=by omega
 have l1:1<=(c.Way.length:Int):=by omega
 have l2:0<(c.Way.length:Int):=by omega
 have l3:0<c.Way.length:=by omega
 refine S4 ?_;refine l8.of_bodyG [0] Tryz.func94 rfl (by decide) (by simp[Tryz.ntmps94]) rfl rfl ?_;intro J hJ;simp only[Tryz.ntmps94,Tryz.results94];refine gW ?_;refine a5i (List.cons_ne_nil _ _) a1H rfl (by decide) rfl rfl rfl (by decide+kernel) (by decide+kernel) fun K hK=>?_;simp only[List.dropLast];simp -dsimp [hlast,wl,tl,l1,l2,l3,hne];refine j7 last.cells (fun _=>by rw[qe,hlast];rfl) ?_;simp -dsimp [hlast,wl,tl,l1,l2,l3,hne];refine cM [1] [4,5] (hfo) ?_;simp -dsimp [hlast,wl,tl,l1,l2,l3,hne];refine hK _ _ _ (by decide+kernel) (v8 [] [] [none,none,none,none,none,none,none,none,none,none] (I9 1 0) rfl (by simp[a3g]) rfl (by simp) (by simp) rfl (by simp) (by simp) (by simp) ?_);clear hK K;exact⟨rfl,[some 0,some 1,some 2,some 3,some 8,some 9],rfl,by simp,by simp,by simp⟩
end
end Go.Tram.Lk
end
section
namespace Go.Tram.Lk
open Go.AM Go.Proofs
abbrev stC (s:j0) (fo si up:Kvs) (ps:List Int) (nx:j8):List AV:=[.iptr (d5 s fo si up (.mpc true a1p (nxK s nx)) .any), .any, .lst 1 (ps.map f9)]
theorem a5O (F:FuncId) (a b d:List AV) (x:Car) (n:Move) (q:Bool) (h:a9 Tryz.prog F [x.av,n.av, .iptr a, .iptr b, .iptr d] (Bo q)):a9 Tryz.prog 176 (.agg n.cells::H7 [[.clo F [.iptr a, .iptr b, .iptr d]],x.cells]) (Bo q):=by
 show a9 Tryz.prog 176 [.agg n.cells, .iptr [.clo F [.iptr a, .iptr b, .iptr d]], .iptr x.cells] (Bo q);refine oB Tryz.func176 Tryz.ntmps176 Tryz.results176 ?_;refine aW ?_;refine aW ?_ fun K hK=>by simp -dsimp;refine cI (h) ?_;simp -dsimp;exact hK
 exact a6 (by simp)
theorem a0G (F:FuncId) (a b:List AV) (x:Car) (n:Move) (q:Bool) (h:a9 Tryz.prog F [x.av,n.av, .iptr a, .iptr b] (Bo q)):a9 Tryz.prog 176 (.agg n.cells::H7 [[.clo F [.iptr a, .iptr b]],x.cells]) (Bo q):=by
 show a9 Tryz.prog 176 [.agg n.cells, .iptr [.clo F [.iptr a, .iptr b]], .iptr x.cells] (Bo q);refine oB Tryz.func176 Tryz.ntmps176 Tryz.results176 ?_;refine aW ?_;refine aW ?_ fun K hK=>by simp -dsimp;refine cI (h) ?_;simp -dsimp;exact hK
 exact a6 (by simp)
theorem a4g {l:List Car} {c:Car} {f:Car->Move->Bool} {k:Int} (h:a4c l c f=some k):∃(i:Nat) (x:Car),l[i]?=some x/\x.Name=k/\x.Name≠c.Name/\x.Way.any (f x)=true/\∀(j:Nat) (y:Car),j<i->l[j]?=some y->y.Name≠c.Name->y.Way.any (f y)=false:=by
 unfold a4c at h;rw[qf]at h;obtain⟨x,hx,rfl⟩:=h;rw[List.find?_eq_some_iff_getElem]at hx;obtain⟨h1,i,hi,he,hj⟩:=hx;simp only[qh,decide_eq_true_eq]at h1;refine⟨i,x,by rw[qc hi,he],rfl,h1.1,h1.2,fun j y hji hy hne=>?_⟩;have:=hj j hji;obtain⟨hjl,hye⟩:=qa.1 hy;rw[hye]at this;simpa [hne]using this
section
variable (X:Value) (s:j0) (fo si up:Kvs) (cs:List Car) (ps:List Int) (nx nd:j8) (c:Car) (m:Move) (kd:Int) (F:FuncId) (h:Car->Move->Bool)
theorem b8v (hs:Srt cs) (hl:cs.length<=1000) (hb:∀x∈cs,(0<=x.Name/\x.Name<=1000000)/\x.Way.length<=1000) (hF:∀x∈cs,∀n∈x.Way,a9 Tryz.prog F [x.av,n.av, .iptr [.iptr (stC s fo si up ps nx)], .iptr c.cells, .iptr m.cells] (Bo (h x n))) (hn:a4c cs c h=none):
  c7 Tryz.prog 134 [.ptr 0 0 0,c.av,I kd, .clo F [.ptr 6 0 0, .ptr 7 0 0, .ptr 8 0 0]] (stK X s fo si up ps.length) (stD s cs ps nx nd++[some (.els 1 [[.ptr 0 0 0]]),some (.els 4 [c.cells]),some (.els 2 [m.cells])]) (.tup []) (stK X s fo si up ps.length) (stD s cs ps nx nd):=by
 have hnm:=Q5 cs hs hl (fun x hx=>(hb x hx).1) (.fptr X 1 0 0) (.row 3 0 ps.length) (ruR s fo si up 4 5) (ptR ps) (nxR s nx) (ndR s nd);have hcont:∀x∈cs,a9 Tryz.prog 102 [a1t x.Way, .clo 176 (H7 [[.clo F [.iptr [.iptr (stC s fo si up ps nx)], .iptr c.cells, .iptr m.cells]],x.cells])] (Bo (x.Way.any (h x))):=
  fun x hx=>N9 x.Way _ _ (h x) (fun n hn=>a5O F _ _ _ x n (h x n) (hF x hx n hn)) (by have:=(hb x hx).2;omega)
 have htp:List.take ps.length (ps.map f9)=ps.map f9:=qg (by simp);refine z9 ?_;refine oG [0] Tryz.func134 Tryz.ntmps134 Tryz.results134 ?_;intro J hJ;refine gW ?_;refine gW ?_ fun K hK=>by simp -dsimp;refine cM [0,1] [2,3,4,5] (hnm) ?_;simp -dsimp;exact hK
 refine c8 ?_;refine gP [0,2,5,7,12,13,14] ?_;refine e9 [0,2,5,7,12,13] (α:=Nat) (fun k=>[(14,I k)]) (fun k=>[some (.els 3 [[.fptr X 1 0 0, .mp 11, .row 12 0 ps.length]]),ruR s fo si up 13 14,none,none,none,none,some (.els 1 [[.ptr 0 0 0]]),some (.els 4 [c.cells]),some (.els 2 [m.cells]),some (.els 4 [c.cells]),some (.els 1 [[.clo F [.ptr 6 0 0, .ptr 7 0 0, .ptr 8 0 0]]]),caR cs,ptR ps,nxR s nx,ndR s nd,some (.els 1 (nmL cs))]) (fun k=>k<=cs.length) (fun k=>cs.length-k) 0 ?_ ?_ ?_
 ·exact qp _
 ·exact G0 (c9 (by simp)) (by simp)
 rintro k k1;refine zN ?_;refine gW ?_;refine a8 fun K1 hK1=>?_;refine c3 rfl (fun hc0=>?_) (fun hc0=>?_)
 ·skip
  try simp at hc0
  obtain⟨x,hx⟩:=gx (l:=cs) (i:=k) (by simpa using hc0);have hxm:=qd hx;have wk:=zW k (by omega);obtain⟨hkl,hxe⟩:=qa.1 hx;have g8:(A4 (o3 cs) (kOf x.Name)).getD (.agg [I 0,I 0, .v (.slice none 0 0),I 0])=x.av:=by rw[k7,E2 hs hxm];rfl
  have hct:=hcont x hxm;have hany:x.Name≠c.Name->x.Way.any (h x)=false:=fun hne=>List.any_eq_false.2 fun n hnm=>by simp[V0.1 hn x hxm hne n hnm]
  simp only[H7,List.map_cons,List.map_nil]at hct;generalize x.Way.any (h x)=an at hct hany;obtain⟨hnl,hng⟩:=qa.1 (k9 hx);have hsel:(x.Name !=c.Name&&an)=false:=by by_cases he:x.Name=c.Name;simp[he];simp[hany he]
  refine c5 ?_;refine zQ (hK1 _ _ ?_);refine gP [0,2,5,7,12,13,14] ?_;refine a8 fun K2 hK2=>?_;refine c8 ?_;refine gW ?_ fun K hK=>by simp -dsimp [k9 hx,hkl,hng];exact hK
  refine gW ?_ fun K hK=>by simp -dsimp;refine d7 (x.av) (fun hm=>g8) ?_;simp -dsimp;exact hK
  refine gV ?_ fun K hK=>by simp -dsimp [htp,hsel];refine cY (fun hm=>hct) ?_;simp -dsimp [htp,hsel];refine cI (q9 kd x.Name) ?_;simp -dsimp [htp,hsel];exact hK
  refine zQ (hK2 _ _ ?_);refine gP [0,2,5,7,12,13,14] ?_;refine gV ?_ fun K hK=>by simp -dsimp [wk];exact hK
  refine zQ ?_;exact⟨k+1,by omega,by omega,gB [some 0,some 1,none,none,none,none,some 6,some 7,some 8,some 9,some 10,some 11,some 12,some 13,some 14,some 15]⟩
 ·skip
  try simp at hc0
  have hke:k=cs.length:=by have:¬k<cs.length:=(by simpa using hc0);omega
  subst hke;refine o5 ?_
  try simp only[zT,reduceIte,Nat.reduceEqDiff]
  exact⟨[some 0,some 1,some 11,some 12,some 13,some 14],rfl,by simp,by simp,by simp,by simp[N6,r9]⟩
end
section
variable (X:Value) (s:j0) (fo si up:Kvs) (cs:List Car) (ps:List Int) (nx nd:j8) (c:Car) (m:Move) (kd:Int) (F:FuncId) (h:Car->Move->Bool)
theorem b8X (hs:Srt cs) (hl:cs.length<=1000) (hb:∀x∈cs,(0<=x.Name/\x.Name<=1000000)/\x.Way.length<=1000) (hF:∀x∈cs,∀n∈x.Way,a9 Tryz.prog F [x.av,n.av, .iptr [.iptr (stC s fo si up ps nx)], .iptr m.cells] (Bo (h x n))) (hn:a4c cs c h=none):
  c7 Tryz.prog 134 [.ptr 0 0 0,c.av,I kd, .clo F [.ptr 6 0 0, .ptr 7 0 0]] (stK X s fo si up ps.length) (stD s cs ps nx nd++[some (.els 1 [[.ptr 0 0 0]]),some (.els 2 [m.cells])]) (.tup []) (stK X s fo si up ps.length) (stD s cs ps nx nd):=by
 have hnm:=Q5 cs hs hl (fun x hx=>(hb x hx).1) (.fptr X 1 0 0) (.row 3 0 ps.length) (ruR s fo si up 4 5) (ptR ps) (nxR s nx) (ndR s nd);have hcont:∀x∈cs,a9 Tryz.prog 102 [a1t x.Way, .clo 176 (H7 [[.clo F [.iptr [.iptr (stC s fo si up ps nx)], .iptr m.cells]],x.cells])] (Bo (x.Way.any (h x))):=
  fun x hx=>N9 x.Way _ _ (h x) (fun n hn=>a0G F _ _ x n (h x n) (hF x hx n hn)) (by have:=(hb x hx).2;omega)
 have htp:List.take ps.length (ps.map f9)=ps.map f9:=qg (by simp);refine z9 ?_;refine oG [0] Tryz.func134 Tryz.ntmps134 Tryz.results134 ?_;intro J hJ;refine gW ?_;refine gW ?_ fun K hK=>by simp -dsimp;refine cM [0,1] [2,3,4,5] (hnm) ?_;simp -dsimp;exact hK
 refine c8 ?_;refine gP [0,2,5,7,12,13,14] ?_;refine e9 [0,2,5,7,12,13] (α:=Nat) (fun k=>[(14,I k)]) (fun k=>[some (.els 3 [[.fptr X 1 0 0, .mp 10, .row 11 0 ps.length]]),ruR s fo si up 12 13,none,none,none,none,some (.els 1 [[.ptr 0 0 0]]),some (.els 2 [m.cells]),some (.els 4 [c.cells]),some (.els 1 [[.clo F [.ptr 6 0 0, .ptr 7 0 0]]]),caR cs,ptR ps,nxR s nx,ndR s nd,some (.els 1 (nmL cs))]) (fun k=>k<=cs.length) (fun k=>cs.length-k) 0 ?_ ?_ ?_
 ·exact qp _
 ·exact G0 (c9 (by simp)) (by simp)
 rintro k k1;refine zN ?_;refine gW ?_;refine a8 fun K1 hK1=>?_;refine c3 rfl (fun hc0=>?_) (fun hc0=>?_)
 ·skip
  try simp at hc0
  obtain⟨x,hx⟩:=gx (l:=cs) (i:=k) (by simpa using hc0);have hxm:=qd hx;have wk:=zW k (by omega);obtain⟨hkl,hxe⟩:=qa.1 hx;have g8:(A4 (o3 cs) (kOf x.Name)).getD (.agg [I 0,I 0, .v (.slice none 0 0),I 0])=x.av:=by rw[k7,E2 hs hxm];rfl
  have hct:=hcont x hxm;have hany:x.Name≠c.Name->x.Way.any (h x)=false:=fun hne=>List.any_eq_false.2 fun n hnm=>by simp[V0.1 hn x hxm hne n hnm]
  simp only[H7,List.map_cons,List.map_nil]at hct;generalize x.Way.any (h x)=an at hct hany;obtain⟨hnl,hng⟩:=qa.1 (k9 hx);have hsel:(x.Name !=c.Name&&an)=false:=by by_cases he:x.Name=c.Name;simp[he];simp[hany he]
  refine c5 ?_;refine zQ (hK1 _ _ ?_);refine gP [0,2,5,7,12,13,14] ?_;refine a8 fun K2 hK2=>?_;refine c8 ?_;refine gW ?_ fun K hK=>by simp -dsimp [k9 hx,hkl,hng];exact hK
  refine gW ?_ fun K hK=>by simp -dsimp;refine d7 (x.av) (fun hm=>g8) ?_;simp -dsimp;exact hK
  refine gV ?_ fun K hK=>by simp -dsimp [htp,hsel];refine cY (fun hm=>hct) ?_;simp -dsimp [htp,hsel];refine cI (q9 kd x.Name) ?_;simp -dsimp [htp,hsel];exact hK
  refine zQ (hK2 _ _ ?_);refine gP [0,2,5,7,12,13,14] ?_;refine gV ?_ fun K hK=>by simp -dsimp [wk];exact hK
  refine zQ ?_;exact⟨k+1,by omega,by omega,gB [some 0,some 1,none,none,none,none,some 6,some 7,some 8,some 9,some 10,some 11,some 12,some 13,some 14]⟩
 ·skip
  try simp at hc0
  have hke:k=cs.length:=by have:¬k<cs.length:=(by simpa using hc0);omega
  subst hke;refine o5 ?_
  try simp only[zT,reduceIte,Nat.reduceEqDiff]
  exact⟨[some 0,some 1,some 10,some 11,some 12,some 13],rfl,by simp,by simp,by simp,by simp[N6,r9]⟩
end
section
variable (X:Value) (s:j0) (fo si up:Kvs) (cs:List Car) (ps:List Int) (nx nd:j8) (c:Car) (m:Move) (kd:Int) (F:FuncId) (h:Car->Move->Bool)
theorem b9v (hs:Srt cs) (hl:cs.length<=1000) (hb:∀x∈cs,(0<=x.Name/\x.Name<=1000000)/\x.Way.length<=1000) (hF:∀x∈cs,∀n∈x.Way,a9 Tryz.prog F [x.av,n.av, .iptr c.cells, .iptr [.iptr (stC s fo si up ps nx)]] (Bo (h x n))) (hn:a4c cs c h=none):
  c7 Tryz.prog 134 [.ptr 0 0 0,c.av,I kd, .clo F [.ptr 7 0 0, .ptr 6 0 0]] (stK X s fo si up ps.length) (stD s cs ps nx nd++[some (.els 1 [[.ptr 0 0 0]]),some (.els 4 [c.cells])]) (.tup []) (stK X s fo si up ps.length) (stD s cs ps nx nd):=by
 have hnm:=Q5 cs hs hl (fun x hx=>(hb x hx).1) (.fptr X 1 0 0) (.row 3 0 ps.length) (ruR s fo si up 4 5) (ptR ps) (nxR s nx) (ndR s nd);have hcont:∀x∈cs,a9 Tryz.prog 102 [a1t x.Way, .clo 176 (H7 [[.clo F [.iptr c.cells, .iptr [.iptr (stC s fo si up ps nx)]]],x.cells])] (Bo (x.Way.any (h x))):=
  fun x hx=>N9 x.Way _ _ (h x) (fun n hn=>a0G F _ _ x n (h x n) (hF x hx n hn)) (by have:=(hb x hx).2;omega)
 have htp:List.take ps.length (ps.map f9)=ps.map f9:=qg (by simp);refine z9 ?_;refine oG [0] Tryz.func134 Tryz.ntmps134 Tryz.results134 ?_;intro J hJ;refine gW ?_;refine gW ?_ fun K hK=>by simp -dsimp;refine cM [0,1] [2,3,4,5] (hnm) ?_;simp -dsimp;exact hK
 refine c8 ?_;refine gP [0,2,5,7,12,13,14] ?_;refine e9 [0,2,5,7,12,13] (α:=Nat) (fun k=>[(14,I k)]) (fun k=>[some (.els 3 [[.fptr X 1 0 0, .mp 10, .row 11 0 ps.length]]),ruR s fo si up 12 13,none,none,none,none,some (.els 1 [[.ptr 0 0 0]]),some (.els 4 [c.cells]),some (.els 4 [c.cells]),some (.els 1 [[.clo F [.ptr 7 0 0, .ptr 6 0 0]]]),caR cs,ptR ps,nxR s nx,ndR s nd,some (.els 1 (nmL cs))]) (fun k=>k<=cs.length) (fun k=>cs.length-k) 0 ?_ ?_ ?_
 ·exact qp _
 ·exact G0 (c9 (by simp)) (by simp)
 rintro k k1;refine zN ?_;refine gW ?_;refine a8 fun K1 hK1=>?_;refine c3 rfl (fun hc0=>?_) (fun hc0=>?_)
 ·skip
  try simp at hc0
  obtain⟨x,hx⟩:=gx (l:=cs) (i:=k) (by simpa using hc0);have hxm:=qd hx;have wk:=zW k (by omega);obtain⟨hkl,hxe⟩:=qa.1 hx;have g8:(A4 (o3 cs) (kOf x.Name)).getD (.agg [I 0,I 0, .v (.slice none 0 0),I 0])=x.av:=by rw[k7,E2 hs hxm];rfl
  have hct:=hcont x hxm;have hany:x.Name≠c.Name->x.Way.any (h x)=false:=fun hne=>List.any_eq_false.2 fun n hnm=>by simp[V0.1 hn x hxm hne n hnm]
  simp only[H7,List.map_cons,List.map_nil]at hct;generalize x.Way.any (h x)=an at hct hany;obtain⟨hnl,hng⟩:=qa.1 (k9 hx);have hsel:(x.Name !=c.Name&&an)=false:=by by_cases he:x.Name=c.Name;simp[he];simp[hany he]
  refine c5 ?_;refine zQ (hK1 _ _ ?_);refine gP [0,2,5,7,12,13,14] ?_;refine a8 fun K2 hK2=>?_;refine c8 ?_;refine gW ?_ fun K hK=>by simp -dsimp [k9 hx,hkl,hng];exact hK
  refine gW ?_ fun K hK=>by simp -dsimp;refine d7 (x.av) (fun hm=>g8) ?_;simp -dsimp;exact hK
  refine gV ?_ fun K hK=>by simp -dsimp [htp,hsel];refine cY (fun hm=>hct) ?_;simp -dsimp [htp,hsel];refine cI (q9 kd x.Name) ?_;simp -dsimp [htp,hsel];exact hK
  refine zQ (hK2 _ _ ?_);refine gP [0,2,5,7,12,13,14] ?_;refine gV ?_ fun K hK=>by simp -dsimp [wk];exact hK
  refine zQ ?_;exact⟨k+1,by omega,by omega,gB [some 0,some 1,none,none,none,none,some 6,some 7,some 8,some 9,some 10,some 11,some 12,some 13,some 14]⟩
 ·skip
  try simp at hc0
  have hke:k=cs.length:=by have:¬k<cs.length:=(by simpa using hc0);omega
  subst hke;refine o5 ?_
  try simp only[zT,reduceIte,Nat.reduceEqDiff]
  exact⟨[some 0,some 1,some 10,some 11,some 12,some 13],rfl,by simp,by simp,by simp,by simp[N6,r9]⟩
end
section
variable (X:Value) (s:j0) (fo si up:Kvs) (cs:List Car) (ps:List Int) (nx nd:j8) (c:Car) (m:Move) (kd:Int) (F:FuncId) (h:Car->Move->Bool)
theorem b8E {k0:Int} (hs:Srt cs) (hl:cs.length<=1000) (hb:∀x∈cs,(0<=x.Name/\x.Name<=1000000)/\x.Way.length<=1000) (hF:∀x∈cs,∀n∈x.Way,a9 Tryz.prog F [x.av,n.av, .iptr [.iptr (stC s fo si up ps nx)], .iptr c.cells, .iptr m.cells] (Bo (h x n))) (hn:a4c cs c h=some k0):
  l8 Tryz.prog 134 [.ptr 0 0 0,c.av,I kd, .clo F [.ptr 6 0 0, .ptr 7 0 0, .ptr 8 0 0]] (stK X s fo si up ps.length) (stD s cs ps nx nd++[some (.els 1 [[.ptr 0 0 0]]),some (.els 4 [c.cells]),some (.els 2 [m.cells])]) (b1k kd k0) (stK X s fo si up ps.length) (stD s cs ps nx nd):=by
 have hnm:=Q5 cs hs hl (fun x hx=>(hb x hx).1) (.fptr X 1 0 0) (.row 3 0 ps.length) (ruR s fo si up 4 5) (ptR ps) (nxR s nx) (ndR s nd);have hcont:∀x∈cs,a9 Tryz.prog 102 [a1t x.Way, .clo 176 (H7 [[.clo F [.iptr [.iptr (stC s fo si up ps nx)], .iptr c.cells, .iptr m.cells]],x.cells])] (Bo (x.Way.any (h x))):=
  fun x hx=>N9 x.Way _ _ (h x) (fun n hn=>a5O F _ _ _ x n (h x n) (hF x hx n hn)) (by have:=(hb x hx).2;omega)
 obtain⟨i,xi,hxi,rfl,hine,hiany,hibef⟩:=a4g hn;have hil:=(qa.1 hxi).1;have hci:=hcont xi (qd hxi);simp only[H7,List.map_cons,List.map_nil]at hci;have htp:List.take ps.length (ps.map f9)=ps.map f9:=qg (by simp);refine S4 ?_;refine l8.of_bodyG [0] Tryz.func134 rfl (by decide) (by simp[Tryz.ntmps134]) rfl rfl ?_;intro J hJ;simp only[Tryz.ntmps134,Tryz.results134];refine gW ?_;refine gW ?_ fun K hK=>by simp -dsimp;refine cM [0,1] [2,3,4,5] (hnm) ?_;simp -dsimp;exact hK
 refine c8 ?_;refine gP [0,2,5,7,12,13,14] ?_;refine e9 [0,2,5,7,12,13] (α:=Nat) (fun k=>[(14,I k)]) (fun k=>[some (.els 3 [[.fptr X 1 0 0, .mp 11, .row 12 0 ps.length]]),ruR s fo si up 13 14,none,none,none,none,some (.els 1 [[.ptr 0 0 0]]),some (.els 4 [c.cells]),some (.els 2 [m.cells]),some (.els 4 [c.cells]),some (.els 1 [[.clo F [.ptr 6 0 0, .ptr 7 0 0, .ptr 8 0 0]]]),caR cs,ptR ps,nxR s nx,ndR s nd,some (.els 1 (nmL cs))]) (fun k=>k<=i) (fun k=>cs.length-k) 0 ?_ ?_ ?_
 ·exact qp _
 ·exact G0 (c9 (by simp)) (by simp)
 rintro k k1
 rcases Nat.lt_or_eq_of_le k1 with hlt|rfl
 ·refine zN ?_;refine gW ?_;refine a8 fun K1 hK1=>?_;refine c3 rfl (fun hc0=>?_) (fun hc0=>?_)
  ·skip
   try simp at hc0
   obtain⟨x,hx⟩:=gx (l:=cs) (i:=k) (by simpa using hc0);have hxm:=qd hx;have wk:=zW k (by omega);obtain⟨hkl,hxe⟩:=qa.1 hx;have g8:(A4 (o3 cs) (kOf x.Name)).getD (.agg [I 0,I 0, .v (.slice none 0 0),I 0])=x.av:=by rw[k7,E2 hs hxm];rfl
   have hct:=hcont x hxm;simp only[H7,List.map_cons,List.map_nil]at hct;obtain⟨hnl,hng⟩:=qa.1 (k9 hx);refine c5 ?_;refine zQ (hK1 _ _ ?_);refine gP [0,2,5,7,12,13,14] ?_;refine a8 fun K2 hK2=>?_;refine c8 ?_;refine gW ?_ fun K hK=>by simp -dsimp [k9 hx,hkl,hng];exact hK
   refine gW ?_ fun K hK=>by simp -dsimp;refine d7 (x.av) (fun hm=>g8) ?_;simp -dsimp;exact hK
   refine gV ?_ fun K hK=>by simp -dsimp [htp,(show(x.Name !=c.Name&&x.Way.any (h x))=false by by_cases he:x.Name=c.Name;simp[he];rw[hibef k x hlt hx he];simp)];refine cY (fun hm=>hct) ?_;simp -dsimp [htp,(show(x.Name !=c.Name&&x.Way.any (h x))=false by by_cases he:x.Name=c.Name;simp[he];rw[hibef k x hlt hx he];simp)];refine cI (q9 kd x.Name) ?_;simp -dsimp [htp,(show(x.Name !=c.Name&&x.Way.any (h x))=false by by_cases he:x.Name=c.Name;simp[he];rw[hibef k x hlt hx he];simp)];exact hK
   refine zQ (hK2 _ _ ?_);refine gP [0,2,5,7,12,13,14] ?_;refine gV ?_ fun K hK=>by simp -dsimp [wk];exact hK
   refine zQ ?_;exact⟨k+1,by omega,by omega,gB [some 0,some 1,none,none,none,none,some 6,some 7,some 8,some 9,some 10,some 11,some 12,some 13,some 14,some 15]⟩
  ·skip
   try simp at hc0
   exfalso;have:¬k<cs.length:=(by simpa using hc0);omega
 ·refine zN ?_;refine gW ?_;refine a8 fun K3 hK3=>?_;refine c3 rfl (fun hc0=>?_) (fun hc0=>?_)
  ·skip
   try simp at hc0
   obtain⟨x,hx⟩:=gx (l:=cs) (i:=k) (by simpa using hc0);have hxm:=qd hx;have wk:=zW k (by omega);obtain⟨hkl,hxe⟩:=qa.1 hx;have g8:(A4 (o3 cs) (kOf x.Name)).getD (.agg [I 0,I 0, .v (.slice none 0 0),I 0])=x.av:=by rw[k7,E2 hs hxm];rfl
   have hct:=hcont x hxm;simp only[H7,List.map_cons,List.map_nil]at hct;obtain⟨hnl,hng⟩:=qa.1 (k9 hx);refine c5 ?_;refine zQ (hK3 _ _ ?_);refine gP [0,2,5,7,12,13,14] ?_;refine a8 fun K4 hK4=>?_;refine c8 ?_;refine gW ?_ fun K hK=>by simp -dsimp [k9 hx,hkl,hng];exact hK
   refine gW ?_ fun K hK=>by simp -dsimp;refine d7 (x.av) (fun hm=>g8) ?_;simp -dsimp;exact hK
   refine a1c (List.cons_ne_nil _ _) rfl (by decide) rfl rfl rfl fun K hK=>?_;simp only[List.dropLast];simp -dsimp [htp,(show(xi.Name !=c.Name&&xi.Way.any (h xi))=true by simp[hine,hiany]),(show x=xi by rw[hx]at hxi;exact Option.some.inj hxi)];refine cY (fun hm=>hci) ?_;simp -dsimp [htp,(show(xi.Name !=c.Name&&xi.Way.any (h xi))=true by simp[hine,hiany]),(show x=xi by rw[hx]at hxi;exact Option.some.inj hxi)];refine hK _ _ (v8 [] [] [none,none,none,none,none,none,none,none,none,none,none,none,none,none,none,none,none] (I9 kd xi.Name) rfl (by simp[a3g]) rfl (by simp) (by simp) rfl (by simp) (by simp) (by simp) ?_);clear hK K;exact⟨rfl,[some 0,some 1,some 11,some 12,some 13,some 14],rfl,by simp,by simp,by simp⟩
  ·skip
   try simp at hc0
   exfalso;have:¬k<cs.length:=(by simpa using hc0);omega
end
section
variable (X:Value) (s:j0) (fo si up:Kvs) (cs:List Car) (ps:List Int) (nx nd:j8) (c:Car) (m:Move) (kd:Int) (F:FuncId) (h:Car->Move->Bool)
theorem b8e {k0:Int} (hs:Srt cs) (hl:cs.length<=1000) (hb:∀x∈cs,(0<=x.Name/\x.Name<=1000000)/\x.Way.length<=1000) (hF:∀x∈cs,∀n∈x.Way,a9 Tryz.prog F [x.av,n.av, .iptr [.iptr (stC s fo si up ps nx)], .iptr m.cells] (Bo (h x n))) (hn:a4c cs c h=some k0):
  l8 Tryz.prog 134 [.ptr 0 0 0,c.av,I kd, .clo F [.ptr 6 0 0, .ptr 7 0 0]] (stK X s fo si up ps.length) (stD s cs ps nx nd++[some (.els 1 [[.ptr 0 0 0]]),some (.els 2 [m.cells])]) (b1k kd k0) (stK X s fo si up ps.length) (stD s cs ps nx nd):=by
 have hnm:=Q5 cs hs hl (fun x hx=>(hb x hx).1) (.fptr X 1 0 0) (.row 3 0 ps.length) (ruR s fo si up 4 5) (ptR ps) (nxR s nx) (ndR s nd);have hcont:∀x∈cs,a9 Tryz.prog 102 [a1t x.Way, .clo 176 (H7 [[.clo F [.iptr [.iptr (stC s fo si up ps nx)], .iptr m.cells]],x.cells])] (Bo (x.Way.any (h x))):=
  fun x hx=>N9 x.Way _ _ (h x) (fun n hn=>a0G F _ _ x n (h x n) (hF x hx n hn)) (by have:=(hb x hx).2;omega)
 obtain⟨i,xi,hxi,rfl,hine,hiany,hibef⟩:=a4g hn;have hil:=(qa.1 hxi).1;have hci:=hcont xi (qd hxi);simp only[H7,List.map_cons,List.map_nil]at hci;have htp:List.take ps.length (ps.map f9)=ps.map f9:=qg (by simp);refine S4 ?_;refine l8.of_bodyG [0] Tryz.func134 rfl (by decide) (by simp[Tryz.ntmps134]) rfl rfl ?_;intro J hJ;simp only[Tryz.ntmps134,Tryz.results134];refine gW ?_;refine gW ?_ fun K hK=>by simp -dsimp;refine cM [0,1] [2,3,4,5] (hnm) ?_;simp -dsimp;exact hK
 refine c8 ?_;refine gP [0,2,5,7,12,13,14] ?_;refine e9 [0,2,5,7,12,13] (α:=Nat) (fun k=>[(14,I k)]) (fun k=>[some (.els 3 [[.fptr X 1 0 0, .mp 10, .row 11 0 ps.length]]),ruR s fo si up 12 13,none,none,none,none,some (.els 1 [[.ptr 0 0 0]]),some (.els 2 [m.cells]),some (.els 4 [c.cells]),some (.els 1 [[.clo F [.ptr 6 0 0, .ptr 7 0 0]]]),caR cs,ptR ps,nxR s nx,ndR s nd,some (.els 1 (nmL cs))]) (fun k=>k<=i) (fun k=>cs.length-k) 0 ?_ ?_ ?_
 ·exact qp _
 ·exact G0 (c9 (by simp)) (by simp)
 rintro k k1
 rcases Nat.lt_or_eq_of_le k1 with hlt|rfl
 ·refine zN ?_;refine gW ?_;refine a8 fun K1 hK1=>?_;refine c3 rfl (fun hc0=>?_) (fun hc0=>?_)
  ·skip
   try simp at hc0
   obtain⟨x,hx⟩:=gx (l:=cs) (i:=k) (by simpa using hc0);have hxm:=qd hx;have wk:=zW k (by omega);obtain⟨hkl,hxe⟩:=qa.1 hx;have g8:(A4 (o3 cs) (kOf x.Name)).getD (.agg [I 0,I 0, .v (.slice none 0 0),I 0])=x.av:=by rw[k7,E2 hs hxm];rfl
   have hct:=hcont x hxm;simp only[H7,List.map_cons,List.map_nil]at hct;obtain⟨hnl,hng⟩:=qa.1 (k9 hx);refine c5 ?_;refine zQ (hK1 _ _ ?_);refine gP [0,2,5,7,12,13,14] ?_;refine a8 fun K2 hK2=>?_;refine c8 ?_;refine gW ?_ fun K hK=>by simp -dsimp [k9 hx,hkl,hng];exact hK
   refine gW ?_ fun K hK=>by simp -dsimp;refine d7 (x.av) (fun hm=>g8) ?_;simp -dsimp;exact hK
   refine gV ?_ fun K hK=>by simp -dsimp [htp,(show(x.Name !=c.Name&&x.Way.any (h x))=false by by_cases he:x.Name=c.Name;simp[he];rw[hibef k x hlt hx he];simp)];refine cY (fun hm=>hct) ?_;simp -dsimp [htp,(show(x.Name !=c.Name&&x.Way.any (h x))=false by by_cases he:x.Name=c.Name;simp[he];rw[hibef k x hlt hx he];simp)];refine cI (q9 kd x.Name) ?_;simp -dsimp [htp,(show(x.Name !=c.Name&&x.Way.any (h x))=false by by_cases he:x.Name=c.Name;simp[he];rw[hibef k x hlt hx he];simp)];exact hK
   refine zQ (hK2 _ _ ?_);refine gP [0,2,5,7,12,13,14] ?_;refine gV ?_ fun K hK=>by simp -dsimp [wk];exact hK
   refine zQ ?_;exact⟨k+1,by omega,by omega,gB [some 0,some 1,none,none,none,none,some 6,some 7,some 8,some 9,some 10,some 11,some 12,some 13,some 14]⟩
  ·skip
   try simp at hc0
   exfalso;have:¬k<cs.length:=(by simpa using hc0);omega
 ·refine zN ?_;refine gW ?_;refine a8 fun K3 hK3=>?_;refine c3 rfl (fun hc0=>?_) (fun hc0=>?_)
  ·skip
   try simp at hc0
   obtain⟨x,hx⟩:=gx (l:=cs) (i:=k) (by simpa using hc0);have hxm:=qd hx;have wk:=zW k (by omega);obtain⟨hkl,hxe⟩:=qa.1 hx;have g8:(A4 (o3 cs) (kOf x.Name)).getD (.agg [I 0,I 0, .v (.slice none 0 0),I 0])=x.av:=by rw[k7,E2 hs hxm];rfl
   have hct:=hcont x hxm;simp only[H7,List.map_cons,List.map_nil]at hct;obtain⟨hnl,hng⟩:=qa.1 (k9 hx);refine c5 ?_;refine zQ (hK3 _ _ ?_);refine gP [0,2,5,7,12,13,14] ?_;refine a8 fun K4 hK4=>?_;refine c8 ?_;refine gW ?_ fun K hK=>by simp -dsimp [k9 hx,hkl,hng];exact hK
   refine gW ?_ fun K hK=>by simp -dsimp;refine d7 (x.av) (fun hm=>g8) ?_;simp -dsimp;exact hK
   refine a1c (List.cons_ne_nil _ _) rfl (by decide) rfl rfl rfl fun K hK=>?_;simp only[List.dropLast];simp -dsimp [htp,(show(xi.Name !=c.Name&&xi.Way.any (h xi))=true by simp[hine,hiany]),(show x=xi by rw[hx]at hxi;exact Option.some.inj hxi)];refine cY (fun hm=>hci) ?_;simp -dsimp [htp,(show(xi.Name !=c.Name&&xi.Way.any (h xi))=true by simp[hine,hiany]),(show x=xi by rw[hx]at hxi;exact Option.some.inj hxi)];refine hK _ _ (v8 [] [] [none,none,none,none,none,none,none,none,none,none,none,none,none,none,none,none] (I9 kd xi.Name) rfl (by simp[a3g]) rfl (by simp) (by simp) rfl (by simp) (by simp) (by simp) ?_);clear hK K;exact⟨rfl,[some 0,some 1,some 10,some 11,some 12,some 13],rfl,by simp,by simp,by simp⟩
  ·skip
   try simp at hc0
   exfalso;have:¬k<cs.length:=(by simpa using hc0);omega
end
section
variable (X:Value) (s:j0) (fo si up:Kvs) (cs:List Car) (ps:List Int) (nx nd:j8) (c:Car) (m:Move) (kd:Int) (F:FuncId) (h:Car->Move->Bool)
theorem b7L {k0:Int} (hs:Srt cs) (hl:cs.length<=1000) (hb:∀x∈cs,(0<=x.Name/\x.Name<=1000000)/\x.Way.length<=1000) (hF:∀x∈cs,∀n∈x.Way,a9 Tryz.prog F [x.av,n.av, .iptr c.cells, .iptr [.iptr (stC s fo si up ps nx)]] (Bo (h x n))) (hn:a4c cs c h=some k0):
  l8 Tryz.prog 134 [.ptr 0 0 0,c.av,I kd, .clo F [.ptr 7 0 0, .ptr 6 0 0]] (stK X s fo si up ps.length) (stD s cs ps nx nd++[some (.els 1 [[.ptr 0 0 0]]),some (.els 4 [c.cells])]) (b1k kd k0) (stK X s fo si up ps.length) (stD s cs ps nx nd):=by
 have hnm:=Q5 cs hs hl (fun x hx=>(hb x hx).1) (.fptr X 1 0 0) (.row 3 0 ps.length) (ruR s fo si up 4 5) (ptR ps) (nxR s nx) (ndR s nd);have hcont:∀x∈cs,a9 Tryz.prog 102 [a1t x.Way, .clo 176 (H7 [[.clo F [.iptr c.cells, .iptr [.iptr (stC s fo si up ps nx)]]],x.cells])] (Bo (x.Way.any (h x))):=
  fun x hx=>N9 x.Way _ _ (h x) (fun n hn=>a0G F _ _ x n (h x n) (hF x hx n hn)) (by have:=(hb x hx).2;omega)
 obtain⟨i,xi,hxi,rfl,hine,hiany,hibef⟩:=a4g hn;have hil:=(qa.1 hxi).1;have hci:=hcont xi (qd hxi);simp only[H7,List.map_cons,List.map_nil]at hci;have htp:List.take ps.length (ps.map f9)=ps.map f9:=qg (by simp);refine S4 ?_;refine l8.of_bodyG [0] Tryz.func134 rfl (by decide) (by simp[Tryz.ntmps134]) rfl rfl ?_;intro J hJ;simp only[Tryz.ntmps134,Tryz.results134];refine gW ?_;refine gW ?_ fun K hK=>by simp -dsimp;refine cM [0,1] [2,3,4,5] (hnm) ?_;simp -dsimp;exact hK
 refine c8 ?_;refine gP [0,2,5,7,12,13,14] ?_;refine e9 [0,2,5,7,12,13] (α:=Nat) (fun k=>[(14,I k)]) (fun k=>[some (.els 3 [[.fptr X 1 0 0, .mp 10, .row 11 0 ps.length]]),ruR s fo si up 12 13,none,none,none,none,some (.els 1 [[.ptr 0 0 0]]),some (.els 4 [c.cells]),some (.els 4 [c.cells]),some (.els 1 [[.clo F [.ptr 7 0 0, .ptr 6 0 0]]]),caR cs,ptR ps,nxR s nx,ndR s nd,some (.els 1 (nmL cs))]) (fun k=>k<=i) (fun k=>cs.length-k) 0 ?_ ?_ ?_
 ·exact qp _
 ·exact G0 (c9 (by simp)) (by simp)
 rintro k k1
 rcases Nat.lt_or_eq_of_le k1 with hlt|rfl
 ·refine zN ?_;refine gW ?_;refine a8 fun K1 hK1=>?_;refine c3 rfl (fun hc0=>?_) (fun hc0=>?_)
  ·skip
   try simp at hc0
   obtain⟨x,hx⟩:=gx (l:=cs) (i:=k) (by simpa using hc0);have hxm:=qd hx;have wk:=zW k (by omega);obtain⟨hkl,hxe⟩:=qa.1 hx;have g8:(A4 (o3 cs) (kOf x.Name)).getD (.agg [I 0,I 0, .v (.slice none 0 0),I 0])=x.av:=by rw[k7,E2 hs hxm];rfl
   have hct:=hcont x hxm;simp only[H7,List.map_cons,List.map_nil]at hct;obtain⟨hnl,hng⟩:=qa.1 (k9 hx);refine c5 ?_;refine zQ (hK1 _ _ ?_);refine gP [0,2,5,7,12,13,14] ?_;refine a8 fun K2 hK2=>?_;refine c8 ?_;refine gW ?_ fun K hK=>by simp -dsimp [k9 hx,hkl,hng];exact hK
   refine gW ?_ fun K hK=>by simp -dsimp;refine d7 (x.av) (fun hm=>g8) ?_;simp -dsimp;exact hK
   refine gV ?_ fun K hK=>by simp -dsimp [htp,(show(x.Name !=c.Name&&x.Way.any (h x))=false by by_cases he:x.Name=c.Name;simp[he];rw[hibef k x hlt hx he];simp)];refine cY (fun hm=>hct) ?_;simp -dsimp [htp,(show(x.Name !=c.Name&&x.Way.any (h x))=false by by_cases he:x.Name=c.Name;simp[he];rw[hibef k x hlt hx he];simp)];refine cI (q9 kd x.Name) ?_;simp -dsimp [htp,(show(x.Name !=c.Name&&x.Way.any (h x))=false by by_cases he:x.Name=c.Name;simp[he];rw[hibef k x hlt hx he];simp)];exact hK
   refine zQ (hK2 _ _ ?_);refine gP [0,2,5,7,12,13,14] ?_;refine gV ?_ fun K hK=>by simp -dsimp [wk];exact hK
   refine zQ ?_;exact⟨k+1,by omega,by omega,gB [some 0,some 1,none,none,none,none,some 6,some 7,some 8,some 9,some 10,some 11,some 12,some 13,some 14]⟩
  ·skip
   try simp at hc0
   exfalso;have:¬k<cs.length:=(by simpa using hc0);omega
 ·refine zN ?_;refine gW ?_;refine a8 fun K3 hK3=>?_;refine c3 rfl (fun hc0=>?_) (fun hc0=>?_)
  ·skip
   try simp at hc0
   obtain⟨x,hx⟩:=gx (l:=cs) (i:=k) (by simpa using hc0);have hxm:=qd hx;have wk:=zW k (by omega);obtain⟨hkl,hxe⟩:=qa.1 hx;have g8:(A4 (o3 cs) (kOf x.Name)).getD (.agg [I 0,I 0, .v (.slice none 0 0),I 0])=x.av:=by rw[k7,E2 hs hxm];rfl
   have hct:=hcont x hxm;simp only[H7,List.map_cons,List.map_nil]at hct;obtain⟨hnl,hng⟩:=qa.1 (k9 hx);refine c5 ?_;refine zQ (hK3 _ _ ?_);refine gP [0,2,5,7,12,13,14] ?_;refine a8 fun K4 hK4=>?_;refine c8 ?_;refine gW ?_ fun K hK=>by simp -dsimp [k9 hx,hkl,hng];exact hK
   refine gW ?_ fun K hK=>by simp -dsimp;refine d7 (x.av) (fun hm=>g8) ?_;simp -dsimp;exact hK
   refine a1c (List.cons_ne_nil _ _) rfl (by decide) rfl rfl rfl fun K hK=>?_;simp only[List.dropLast];simp -dsimp [htp,(show(xi.Name !=c.Name&&xi.Way.any (h xi))=true by simp[hine,hiany]),(show x=xi by rw[hx]at hxi;exact Option.some.inj hxi)];refine cY (fun hm=>hci) ?_;simp -dsimp [htp,(show(xi.Name !=c.Name&&xi.Way.any (h xi))=true by simp[hine,hiany]),(show x=xi by rw[hx]at hxi;exact Option.some.inj hxi)];refine hK _ _ (v8 [] [] [none,none,none,none,none,none,none,none,none,none,none,none,none,none,none,none] (I9 kd xi.Name) rfl (by simp[a3g]) rfl (by simp) (by simp) rfl (by simp) (by simp) (by simp) ?_);clear hK K;exact⟨rfl,[some 0,some 1,some 10,some 11,some 12,some 13],rfl,by simp,by simp,by simp⟩
  ·skip
   try simp at hc0
   exfalso;have:¬k<cs.length:=(by simpa using hc0);omega
end
end Go.Tram.Lk
end
section
namespace Go.Tram.Lk
open Go.AM Go.Proofs
structure b3U (s:j0) (cs:List Car):Prop where
 srt:Srt cs
 len:cs.length<=1000
 car:∀x∈cs,a1k s x=true
theorem b3U.bd {s:j0} {cs:List Car} (h:b3U s cs):∀x∈cs,(0<=x.Name/\x.Name<=1000000)/\x.Way.length<=1000:=by
 intro x hx;obtain⟨h1,_,⟨_,h3,_⟩,_⟩:=i9 (h.car x hx);exact⟨⟨by omega,by omega⟩,by omega⟩
section
variable {s:j0} {fo si up:Kvs} (hru:b1C s fo si up)
include hru
theorem a9f (ps:List Int) (nx:j8) (c x:Car) (m n:Move):a9 Tryz.prog 135 [x.av,n.av, .iptr [.iptr (stC s fo si up ps nx)], .iptr c.cells, .iptr m.cells] (Bo (H6 s m.Rail c.Profile n.Rail x.Profile)):=by
 have h:=b5p hru (.mpc true a1p (nxK s nx)) .any c x m n;unfold d5 at h;refine oB Tryz.func135 Tryz.ntmps135 Tryz.results135 ?_;refine aW ?_ fun K hK=>by simp -dsimp [d5];exact hK
 refine aD ?_ fun K hK=>by simp -dsimp [d5];refine cI (h) ?_;simp -dsimp [d5];exact hK
 exact a6 (by simp)
theorem a3s (ps:List Int) (nx:j8) (x:Car) (m n:Move):a9 Tryz.prog 138 [x.av,n.av, .iptr [.iptr (stC s fo si up ps nx)], .iptr m.cells] (Bo (D8 s m n)):=by
 have h:=b0x hru (.mpc true a1p (nxK s nx)) .any m n;unfold d5 at h;refine oB Tryz.func138 Tryz.ntmps138 Tryz.results138 ?_;refine aW ?_ fun K hK=>by simp -dsimp [d5];exact hK
 refine aD ?_ fun K hK=>by simp -dsimp [d5];refine cI (h) ?_;simp -dsimp [d5];exact hK
 exact a6 (by simp)
variable (X:Value) {cs:List Car} (hcs:b3U s cs) (ps:List Int) (nx nd:j8) (c:Car) (m:Move)
include hcs
theorem b7m (hn:a4c cs c (fun o n=>H6 s m.Rail c.Profile n.Rail o.Profile)=none):c7 Tryz.prog 96 [.ptr 0 0 0,c.av,m.av] (stK X s fo si up ps.length) (stD s cs ps nx nd) (.tup []) (stK X s fo si up ps.length) (stD s cs ps nx nd):=by
 have ho:=b8v X s fo si up cs ps nx nd c m 3 135 (fun o n=>H6 s m.Rail c.Profile n.Rail o.Profile) hcs.srt hcs.len hcs.bd (fun x _ n _=>a9f hru ps nx c x m n) hn;refine z9 ?_;refine oG [0] Tryz.func96 Tryz.ntmps96 Tryz.results96 ?_;intro J hJ;refine gW ?_;refine gV ?_ fun K hK=>by simp -dsimp;refine cM [0,1] [2,3,4,5,6,7,8] (ho) ?_;simp -dsimp;exact hK
 try simp only[zT,reduceIte,Nat.reduceEqDiff]
 exact⟨[some 0,some 1,some 9,some 10,some 11,some 12],rfl,by simp,by simp,by simp,by simp[N6,r9]⟩
theorem b7P {k:Int} (hn:a4c cs c (fun o n=>H6 s m.Rail c.Profile n.Rail o.Profile)=some k):l8 Tryz.prog 96 [.ptr 0 0 0,c.av,m.av] (stK X s fo si up ps.length) (stD s cs ps nx nd) (b1k 3 k) (stK X s fo si up ps.length) (stD s cs ps nx nd):=by
 have ho:=b8E X s fo si up cs ps nx nd c m 3 135 (fun o n=>H6 s m.Rail c.Profile n.Rail o.Profile) hcs.srt hcs.len hcs.bd (fun x _ n _=>a9f hru ps nx c x m n) hn;refine S4 ?_;refine l8.of_bodyG [0] Tryz.func96 rfl (by decide) (by simp[Tryz.ntmps96]) rfl rfl ?_;intro J hJ;simp only[Tryz.ntmps96,Tryz.results96];refine gW ?_;refine a1c (List.cons_ne_nil _ _) rfl (by decide) rfl rfl rfl fun K hK=>?_;simp only[List.dropLast];simp -dsimp;refine hK _ _ (v8 [0,1] [2,3,4,5,6,7,8] [some 0,some 1,none,none,none,none,none,none,none,some 2,some 3,some 4,some 5] (ho) rfl (by simp[a3g]) rfl (by simp) (by simp) rfl (by simp) (by simp) (by simp) ?_);clear hK K;exact⟨rfl,[some 0,some 1,some 9,some 10,some 11,some 12],rfl,by simp,by simp,by simp⟩
theorem a9A (hn:a4c cs c (fun _ n=>D8 s m n)=none):c7 Tryz.prog 98 [.ptr 0 0 0,c.av,m.av] (stK X s fo si up ps.length) (stD s cs ps nx nd) (.tup []) (stK X s fo si up ps.length) (stD s cs ps nx nd):=by
 have ho:=b8X X s fo si up cs ps nx nd c m 5 138 (fun _ n=>D8 s m n) hcs.srt hcs.len hcs.bd (fun x _ n _=>a3s hru ps nx x m n) hn;refine z9 ?_;refine oG [0] Tryz.func98 Tryz.ntmps98 Tryz.results98 ?_;intro J hJ;refine gW ?_;refine gV ?_ fun K hK=>by simp -dsimp;refine cM [0,1] [2,3,4,5,6,8] (ho) ?_;simp -dsimp;exact hK
 try simp only[zT,reduceIte,Nat.reduceEqDiff]
 exact⟨[some 0,some 1,some 9,some 10,some 11,some 12],rfl,by simp,by simp,by simp,by simp[N6,r9]⟩
theorem b0p {k:Int} (hn:a4c cs c (fun _ n=>D8 s m n)=some k):l8 Tryz.prog 98 [.ptr 0 0 0,c.av,m.av] (stK X s fo si up ps.length) (stD s cs ps nx nd) (b1k 5 k) (stK X s fo si up ps.length) (stD s cs ps nx nd):=by
 have ho:=b8e X s fo si up cs ps nx nd c m 5 138 (fun _ n=>D8 s m n) hcs.srt hcs.len hcs.bd (fun x _ n _=>a3s hru ps nx x m n) hn;refine S4 ?_;refine l8.of_bodyG [0] Tryz.func98 rfl (by decide) (by simp[Tryz.ntmps98]) rfl rfl ?_;intro J hJ;simp only[Tryz.ntmps98,Tryz.results98];refine gW ?_;refine a1c (List.cons_ne_nil _ _) rfl (by decide) rfl rfl rfl fun K hK=>?_;simp only[List.dropLast];simp -dsimp;refine hK _ _ (v8 [0,1] [2,3,4,5,6,8] [some 0,some 1,none,none,none,none,none,none,none,some 2,some 3,some 4,some 5] (ho) rfl (by simp[a3g]) rfl (by simp) (by simp) rfl (by simp) (by simp) (by simp) ?_);clear hK K;exact⟨rfl,[some 0,some 1,some 9,some 10,some 11,some 12],rfl,by simp,by simp,by simp⟩
end
end Go.Tram.Lk
end
section
namespace Go.Tram.Lk
open Go.AM Go.Proofs
theorem b0T:∀{l:List Car} {c:Car},Srt l->c∈l->l.Perm (c::a5r l c.Name)
 |x::l,c,h,hc=>by
  obtain⟨h1,h2⟩:=V6.1 h;rw[a4Z]
  rcases List.mem_cons.1 hc with e|hc'
  ·rw[if_pos (by rw[e]),a0x fun y hy=>by have:=h1 y hy;rw[e];omega,e]
  ·have:=h1 c hc';rw[if_neg (by omega)];exact((b0T h2 hc').cons x).trans (List.Perm.swap _ _ _)
theorem a8f {l:List Car} {c:Car} (h:Srt l):((B5 l c).map (·.Name)).Perm (c.Name::(a5r l c.Name).map (·.Name)):=(T5 c h).map _
theorem b0k {l:List Car} {c c':Car} (h:Srt l) (hc:V5 l c.Name=some c'):(B5 l c).map (·.Name)=l.map (·.Name):=by
 obtain⟨hm,he⟩:=G3 hc;have hp:(l.map (·.Name)).Perm ((B5 l c).map (·.Name)):=by
  refine((b0T h hm).map _).trans ?_;rw[List.map_cons,he];exact(a8f h).symm
 have h1:=a0M (R6 c h) hp;have h2:=a0M h (List.Perm.refl _);rw[<-h1,h2]
theorem c2G {l:List Car} {c:Car} (h:Srt l) (hc:V5 l c.Name=none):c3j (l.map (·.Name)++[c.Name])=(B5 l c).map (·.Name):=by
 refine a0M (R6 c h) ?_;have:=a0x (a1E.1 hc);refine List.Perm.trans ?_ (a8f h).symm;rw[this];exact List.perm_append_comm
theorem c3N {s:j0} (hv:d8 s.Plan=true) (fo si up:Kvs) (x y:AV) (c:Car) (hw:wayB s.Plan c.Way=true):a9 Tryz.prog 45 [.iptr (d5 s fo si up x y),c.av] (.lst 2 ((E0 s c).map R0.cells)):=by
 have h:=a7k s.Plan c.Way hv hw;rw[<-G4 (c:=c) hw]at h;refine oB Tryz.func45 Tryz.ntmps45 Tryz.results45 ?_;refine aW ?_ fun K hK=>by simp -dsimp [d5];exact hK
 refine aD ?_ fun K hK=>by simp -dsimp [d5];refine cI (h) ?_;simp -dsimp [d5];exact hK
 refine aW ?_ fun K hK=>by simp -dsimp [d5];exact hK
 exact a6 (by simp)
theorem c4j (y w:R0):a9 Tryz.prog 137 (.agg y.cells::H7 [w.cells]) (Bo (decide (y.Node=w.Node)&&decide (y.Leg≠w.Leg))):=by
 show a9 Tryz.prog 137 [.agg y.cells, .iptr w.cells] _;refine oB Tryz.func137 Tryz.ntmps137 Tryz.results137 ?_;refine aW ?_;refine aW ?_;exact a6 (by simp[Bool.beq_eq_decide_eq,bne])
theorem b6D (l:List R0) (f:FuncId) (cl:List (List AV)) (q:R0->Bool) (h:∀x∈l,a9 Tryz.prog f (.agg x.cells::H7 cl) (Bo (q x))) (hn:l.length<=100000):
  a9 Tryz.prog 177 [.lst 2 (l.map R0.cells), .clo f (H7 cl)] (I (Y7 l q)):=by
 refine oB Tryz.func177 Tryz.ntmps177 Tryz.results177 ?_;refine aW ?_;refine a5 fun K1 hK1=>?_;refine aW ?_;refine b8 ?_;refine aP [0,1,7,8] ?_;refine c6 [0,1,7] (α:=Nat) (fun k=>[(8,I k)]) (fun _=>[]) (fun k=>k<=l.length/\(l.take k).any q=false) (fun k=>l.length-k) 0 ?_ ?_ ?_
 ·simp
 ·exact c9 (by simp)
 rintro k ⟨k1,k2⟩;refine zN ?_;refine aW ?_;refine a5 fun K2 hK2=>?_;refine a7 rfl (fun hc0=>?_) (fun hc0=>?_)
 ·skip
  try simp at hc0
  obtain⟨x,hx⟩:=gx (l:=l) (i:=k) hc0;have wk:=zW k (by omega);refine b9 ?_;refine zQ (hK2 _ _ ?_);refine aP [0,1,7,8] ?_;refine a5 fun K3 hK3=>?_;refine b8 ?_;refine aW ?_;refine aW ?_ fun K hK=>by simp -dsimp [hx];refine cI (h x (qd hx)) ?_;simp -dsimp [hx];exact hK
  refine a7 rfl (fun hc1=>?_) (fun hc1=>?_)
  ·skip
   try simp at hc1
   refine aW ?_;exact a6 (by simp[P2 hx hc1 k2])
  ·skip
   try simp at hc1
   refine b9 ?_;refine zQ (hK3 _ _ ?_);refine aP [0,1,7,8] ?_;refine aV ?_ fun K hK=>by simp -dsimp [wk];exact hK
   refine zQ ?_;exact⟨k+1,⟨by omega,by rw[any_take hx,k2,hc1];rfl⟩,by omega,c9 (by simp)⟩
 ·skip
  try simp at hc0
  have hall:=v6 (by omega) k2;refine d4 ?_;refine zQ (hK1 _ _ ?_);refine aP [] ?_;refine aW ?_;exact a6 (by simp[F0 hall])
theorem b7z (l:List R0) (f:FuncId) (cl:List (List AV)) (q:R0->Bool) (h:∀x∈l,a9 Tryz.prog f (.agg x.cells::H7 cl) (Bo (q x))) (hn:l.length<=100000):
  a9 Tryz.prog 136 [.lst 2 (l.map R0.cells), .clo f (H7 cl)] (Bo (l.any q)):=by
 refine oB Tryz.func136 Tryz.ntmps136 Tryz.results136 ?_;refine aW ?_;refine aW ?_ fun K hK=>by simp -dsimp;refine cI (b6D l f cl q h hn) ?_;simp -dsimp;exact hK
 exact a6 (by simp[U4])
theorem Y5 {s:j0} (y:Car) (w:R0) (hw:wayB s.Plan y.Way=true):a9 Tryz.prog 136 [.lst 2 ((E0 s y).map R0.cells), .clo 137 [.iptr w.cells]] (Bo (u0 s y w)):=by
 have hl:=F3 hw;have:=b7z (E0 s y) 137 [w.cells] (fun z=>decide (z.Node=w.Node)&&decide (z.Leg≠w.Leg)) (fun z _=>c4j z w) (by rw[G4 hw];have:=a3L s.Plan y.Way (y.Way.length-1);omega);simpa [H7,u0]using this
end Go.Tram.Lk
end
section
namespace Go.Tram.Lk
open Go.AM Go.Proofs
theorem b0h (p:Plan) (l:List Move) (hv:d8 p=true) (hw:wayB p l=true):c7 Tryz.prog 87 [p.av,a1t l] [] [] (.tup [.row 0 0 (O9 p l (l.length-1)).length,I 0]) [] [some (.els 2 ((O9 p l (l.length-1)).map R0.cells))]:=by
 have hl:=F3 hw;have hop:=V8 p hv;have hh:=b9b p l hv (by omega);rw[hw]at hh;have hbe:∀i,i+1<l.length->a9 Tryz.prog 130 [.iptr (net p),(y4 l i).av,(y4 l (i+1)).av] (.tup [.agg (if F8 p (y4 l i)then F9 p (y4 l i) (y4 l (i+1))else⟨0,0⟩).cells,Bo (F8 p (y4 l i))]):=by
  intro i hi;exact a2L p _ _ hv (E3 hw i (by omega))
 generalize net p=sh at hop hh hbe;refine oG [] Tryz.func87 Tryz.ntmps87 Tryz.results87 ?_;intro J hJ;refine gW ?_;refine gW ?_ fun K hK=>by simp -dsimp;refine cI (hop) ?_;simp -dsimp;exact hK
 refine a8 fun K1 hK1=>?_;refine gW ?_ fun K hK=>by simp -dsimp;refine cY (fun hm=>hh) ?_;simp -dsimp;exact hK
 refine c3 rfl (fun hc0=>?_) (fun hc0=>?_)
 ·simp at hc0
 ·refine c5 ?_;refine zQ (hK1 _ _ ?_);refine gP [1,6] ?_;refine gW ?_;refine a8 fun K2 hK2=>?_;refine gW ?_;refine c8 ?_;refine gP [1,6,8,9] ?_;refine e9 [1,6] (α:=Nat) (fun i=>[(9,I ((i:Int)+1)),(8, .row 1 0 (O9 p l i).length)]) (fun i=>[some (.els 2 [p.cells]),some (.els 2 ((O9 p l i).map R0.cells))]) (fun i=>i<=l.length-1) (fun i=>l.length-i) 0 ?_ ?_ ?_
  ·exact qp _
  ·exact G0 ((V7 8 2 (by simp)).trans (g7 [some 0,some 1] rfl (by simp) (by simp))) (by simp)
  rintro i i1;refine zN ?_;refine a8 fun K3 hK3=>?_;refine gW ?_;refine c3 rfl (fun hc1=>?_) (fun hc1=>?_)
  ·have hi:i+1<l.length:=by simp at hc1;omega
   have hsj:=V4 p l i;have hlj:=a3L p l i;have hb:=hbe i hi;have g0:l[i]?=some (y4 l i):=by unfold y4;rw[qc (by omega)];rfl
   have g1:l[i+1]?=some (y4 l (i+1)):=by unfold y4;rw[qc (by omega)];rfl
   unfold Y4 at hsj;generalize y4 l i=m at*
   generalize y4 l (i+1)=k at*
   have wi:IntKind.i64.wrap ((i:Int)+1+1)=(i:Int)+1+1:=c4 (by omega) (by omega);have wj:IntKind.i64.wrap (i:Int)=i:=c4 (by omega) (by omega);have tj:((i:Int)+1).toNat=i+1:=by omega
   have t0:0<=(i:Int)+1:=by omega
   generalize hA:O9 p l i=A at hsj hlj ⊢;have f1:R2 (A.length+1) 17:=n7 (by omega) (by omega);refine c5 ?_;refine zQ (hK3 _ _ ?_);refine gP [1,6,8,9] ?_;refine a8 fun K4 hK4=>?_;refine c8 ?_;refine gD ?_ fun K hK=>by simp -dsimp [g0,g1,wj,tj,t0];refine cI (hb) ?_;simp -dsimp [g0,g1,wj,tj,t0];exact hK
   refine gW ?_;refine c3 rfl (fun hc2=>?_) (fun hc2=>?_)
   ·skip
    try simp only at hc2
    rw[hc2,if_pos rfl]at hsj;refine gV ?_ fun K hK=>by simp -dsimp [f1];exact hK
    refine zQ (hK4 _ _ ?_);refine gP [1,6,8,9] ?_;refine gV ?_ fun K hK=>by simp -dsimp [wi];exact hK
    refine zQ ?_;exact⟨i+1,by omega,by omega,G0 (g7 [some 0,some 3] rfl (by simp[hsj]) (by simp[hsj,hc2])) (by simp)⟩
   ·skip
    try simp only at hc2
    rw[hc2,if_neg (by simp)]at hsj;refine c5 ?_;refine zQ (hK4 _ _ ?_);refine gP [1,6,8,9] ?_;refine gV ?_ fun K hK=>by simp -dsimp [wi];exact hK
    refine zQ ?_;exact⟨i+1,by omega,by omega,G0 (g7 [some 0,some 1] rfl (by simp[hsj]) (by simp[hsj])) (by simp)⟩
  ·have hie:i=l.length-1:=by simp at hc1;omega
   subst hie;refine o5 ?_;refine zQ (hK2 _ _ ?_);refine gP [8] ?_;refine gW ?_;exact d9 (gT [some 1])
theorem Z1 {s:j0} (hv:d8 s.Plan=true) (fo si up:Kvs) (nx nd:j8) (c:Car) (hw:wayB s.Plan c.Way=true):c7 Tryz.prog 45 [.ptr 0 0 0,c.av] [ruR s fo si up 1 2] [nxR s nx,ndR s nd] (.row 3 0 (E0 s c).length) [ruR s fo si up 1 2] [nxR s nx,ndR s nd,some (.els 2 ((E0 s c).map R0.cells))]:=by
 have h:=b0h s.Plan c.Way hv hw;rw[<-G4 (c:=c) hw]at h;refine oG [0] Tryz.func45 Tryz.ntmps45 Tryz.results45 ?_;intro J hJ;refine gW ?_;refine gD ?_ fun K hK=>by simp -dsimp;refine cM [] [] (h) ?_;simp -dsimp;exact hK
 refine gW ?_;exact d9 (gT [some 0,some 1,some 2,some 4])
end Go.Tram.Lk
end
section
namespace Go.Tram.Lk
open Go.AM Go.Proofs
theorem b1P {cs:List Car} (c:Car) (h:Srt cs) (hl:cs.length<=1000) (hc:V5 cs c.Name=none):c7 Tryz.prog 124 [.row 0 0 (cs.length+1)] [some (.els 1 (nmL cs++[[I c.Name]]))] [] (.tup []) [some (.els 1 (nmL (B5 cs c)))] []:=by
 have:=c1u (cs.map (·.Name)++[c.Name]) (by simp) (by simp;omega)
 rw[c2G h hc]at this;have e:(cs.map (·.Name)++[c.Name]).map f9=nmL cs++[[I c.Name]]:=by simp[nmL,f9]
 rw[e]at this;simpa [nmL]using this
theorem a4q {cs:List Car} {c:Car} (h:Srt cs) (hc:V5 cs c.Name=none):(B5 cs c).length=cs.length+1:=by
 rw[(T5 c h).length_eq,a0x (a1E.1 hc)];rfl
theorem a4L {cs:List Car} {c c':Car} (h:Srt cs) (hc:V5 cs c.Name=some c'):(B5 cs c).length=cs.length:=by
 have:=congrArg List.length (b0k (c:=c) h hc);simpa using this
theorem a6c {α:Type} {p:α->Bool} {l:List α} {x:α} (h:l.find? p=some x):∃i:Nat,l[i]?=some x/\p x=true/\∀(j:Nat) y,j<i->l[j]?=some y->p y=false:=by
 rw[List.find?_eq_some_iff_getElem]at h;obtain⟨h1,i,hi,he,hj⟩:=h;refine⟨i,by rw[qc hi,he],h1,fun j y hji hy=>?_⟩;obtain⟨hjl,hye⟩:=qa.1 hy;have:=hj j hji;rw[hye]at this;simpa using this
section
variable {s:j0} {fo si up:Kvs} (X:Value) {cs:List Car} (hcs:b3U s cs) (ps:List Int) (nx nd:j8) {c:Car} {m:Move} (hv:d8 s.Plan=true) (hne:c.Way≠[]) (hw:wayB s.Plan c.Way=true) (hm:C6 s.Plan m=true) (hb:N2 s c m=true)
include hcs hv hne hw hm hb
theorem b5d {c':Car} (hmt:V5 cs c.Name=some c') (hh:∀y∈B5 cs c,u0 s y (E4 s c m)=false):c7 Tryz.prog 97 [.ptr 0 0 0,c.av,m.av] (stK X s fo si up ps.length) (stD s cs ps nx nd) (.tup []) (stK X s fo si up ps.length) (stD s cs ps nx (a5l nd c m)):=by
 have p9:=U3 X s fo si up cs ps nx nd c m hv hne hw hm;rw[hb]at p9;have hsrt:=hcs.srt;have hcl:=hcs.len;have hwy:∀y∈B5 cs c,wayB s.Plan y.Way=true:=fun y hy=>by
  rcases(z7 hsrt).1 hy with rfl|⟨h,_⟩
  ·exact hw
  ·exact(i9 (hcs.car y h)).2.2.1.2.2.2
 have hcc:A4 (o3 cs) (kOf c.Name)=some c'.av:=by rw[k7,hmt];rfl
 have hil:(B5 cs c).length=cs.length:=a4L hsrt hmt;have hnl:nmL cs=nmL (B5 cs c):=by unfold nmL;rw[b0k hsrt hmt]
 have hci:c∈B5 cs c:=T9 hsrt;have hsi:=R6 c hsrt;generalize E4 s c m=B at p9 hh;generalize a5l nd c m=nd2 at p9 ⊢;have hnm:=Q5 cs hsrt hcl (fun x hx=>(hcs.bd x hx).1) (.fptr X 1 0 0) (.row 3 0 ps.length) (ruR s fo si up 4 5) (ptR ps) (nxR s nx) (ndR s nd2);have htp:List.take ps.length (ps.map f9)=ps.map f9:=qg (by simp);refine z9 ?_;refine oG [0] Tryz.func97 Tryz.ntmps97 Tryz.results97 ?_;intro J hJ;refine gW ?_;refine gW ?_ fun K hK=>by simp -dsimp;refine cM [0,1] [2,3,4,5] (p9) ?_;simp -dsimp;exact hK
 refine a8 fun K1 hK1=>?_;refine gW ?_;refine c3 rfl (fun hc0=>?_) (fun hc0=>?_)
 ·simp at hc0
 ·refine c5 ?_;refine zQ (hK1 _ _ ?_);refine gP [0,4,6] ?_;refine gW ?_ fun K hK=>by simp -dsimp;refine cM [0,1] [8,9,10,11] (hnm) ?_;simp -dsimp;exact hK
  refine a8 fun K2 hK2=>?_;refine gD ?_ fun K hK=>by simp -dsimp;refine d7 (.tup [c'.av,Bo true]) (fun hm=>by rw[hcc];rfl) ?_;simp -dsimp;exact hK
  refine gW ?_;refine c3 rfl (fun hc1=>?_) (fun hc1=>?_)
  ·simp at hc1
  ·refine c5 ?_;refine zQ (hK2 _ _ ?_);refine gP [0,4,6,8] ?_;refine gW ?_;refine c8 ?_;refine gP [0,4,6,44,45,46] ?_;refine e9 [0,4,6,44,45] (α:=Nat) (fun k=>[(46,I k)]) (fun k=>[some (.els 3 [[.fptr X 1 0 0, .mp 13, .row 14 0 ps.length]]),ruR s fo si up 15 16,none,none,none,none,some (.els 4 [c.cells]),none,none,none,none,none,some (.els 2 [B.cells]),caR cs,ptR ps,nxR s nx,ndR s nd2,some (.els 1 (nmL (B5 cs c)))]) (fun k=>k<=(B5 cs c).length) (fun k=>cs.length-k) 0 ?_ ?_ ?_
   ·exact qp _
   ·exact gB [some 0,some 1,none,none,none,none,some 6,none,none,none,none,none,some 12,some 13,some 14,some 15,some 16,some 17] (hH:=by simp[hnl])
   rintro k k1
   by_cases hq:(B5 cs c)[k]?=some c
   ·refine zN ?_;refine gW ?_;refine a8 fun K3 hK3=>?_;refine c3 rfl (fun hc2=>?_) (fun hc2=>?_)
    ·skip
     try simp at hc2
     have hkn:k<cs.length:=by first|omega|(simp at hc2;omega)
     obtain⟨y,hy⟩:∃y,(B5 cs c)[k]?=some y:=⟨_,qc (by omega)⟩;have hym:=qd hy;have hwyy:=hwy y hym;have wk:=zW k (by omega);obtain⟨hnl2,hng⟩:=qa.1 (k9 hy);have hkl:=(qa.1 hy).1;have hyc:y=c:=by rw[hy]at hq;exact Option.some.inj hq
     subst hyc;refine c5 ?_;refine zQ (hK3 _ _ ?_);refine gP [0,4,6,44,45,46] ?_;refine a8 fun K4 hK4=>?_;refine c8 ?_;refine gW ?_ fun K hK=>by simp -dsimp [k9 hy,hkl,hkn,hng];exact hK
     refine gW ?_ fun K hK=>by simp -dsimp;refine d7 (c'.av) (fun hm=>by rw[hcc];rfl) ?_;simp -dsimp;exact hK
     refine a8 fun K5 hK5=>?_;refine gW ?_;refine c3 rfl (fun hc3=>?_) (fun hc3=>?_)
     ·refine gV ?_;refine zQ (hK5 _ _ ?_);refine gP [0,4,6,12,13,44,45,46] ?_;refine gE ?_ fun K hK=>by simp -dsimp [htp,(show u0 s y B=false from hh y hym)];refine cM [1] [15,16] (a2k (X:=X) (Z1 hv fo si up nx nd2 y hwyy)) ?_;simp -dsimp [htp,(show u0 s y B=false from hh y hym)];refine cI (Y5 y B hwyy) ?_;simp -dsimp [htp,(show u0 s y B=false from hh y hym)];refine cI (q9 4 y.Name) ?_;simp -dsimp [htp,(show u0 s y B=false from hh y hym)];exact hK
      refine zQ (hK4 _ _ ?_);refine gP [0,4,6,44,45,46] ?_;refine gV ?_ fun K hK=>by simp -dsimp [wk];exact hK
      refine zQ ?_;exact⟨k+1,by omega,by omega,gB [some 0,some 1,none,none,none,none,some 6,none,none,none,none,none,some 12,some 13,some 14,some 19,some 20,some 17]⟩
     ·simp at hc3
    ·skip
     try simp at hc2
     have hke:k=cs.length:=by first|omega|(simp at hc2;omega)
     subst hke;refine o5 ?_
     try simp only[zT,reduceIte,Nat.reduceEqDiff]
     exact⟨[some 0,some 1,some 13,some 14,some 15,some 16],rfl,by simp,by simp,by simp,by simp[N6,r9]⟩
   ·refine zN ?_;refine gW ?_;refine a8 fun K6 hK6=>?_;refine c3 rfl (fun hc2=>?_) (fun hc2=>?_)
    ·skip
     try simp at hc2
     have hkn:k<cs.length:=by first|omega|(simp at hc2;omega)
     obtain⟨y,hy⟩:∃y,(B5 cs c)[k]?=some y:=⟨_,qc (by omega)⟩;have hym:=qd hy;have hwyy:=hwy y hym;have wk:=zW k (by omega);obtain⟨hnl2,hng⟩:=qa.1 (k9 hy);have hkl:=(qa.1 hy).1;have hyc:y∈cs/\y.Name≠c.Name:=((z7 hsrt).1 hym).resolve_left (fun e=>hq (by rw[hy,e]));refine c5 ?_;refine zQ (hK6 _ _ ?_);refine gP [0,4,6,44,45,46] ?_;refine a8 fun K7 hK7=>?_;refine c8 ?_;refine gW ?_ fun K hK=>by simp -dsimp [k9 hy,hkl,hkn,hng];exact hK
     refine gW ?_ fun K hK=>by simp -dsimp;refine d7 (y.av) (fun hm=>by rw[k7,E2 hsrt hyc.1];rfl) ?_;simp -dsimp;exact hK
     refine a8 fun K8 hK8=>?_;refine gW ?_;refine c3 rfl (fun hc3=>?_) (fun hc3=>?_)
     ·exact absurd (by simpa using hc3) hyc.2
     ·refine c5 ?_;refine zQ (hK8 _ _ ?_);refine gP [0,4,6,12,13,44,45,46] ?_;refine gE ?_ fun K hK=>by simp -dsimp [htp,(show u0 s y B=false from hh y hym)];refine cM [1] [15,16] (a2k (X:=X) (Z1 hv fo si up nx nd2 y hwyy)) ?_;simp -dsimp [htp,(show u0 s y B=false from hh y hym)];refine cI (Y5 y B hwyy) ?_;simp -dsimp [htp,(show u0 s y B=false from hh y hym)];refine cI (q9 4 y.Name) ?_;simp -dsimp [htp,(show u0 s y B=false from hh y hym)];exact hK
      refine zQ (hK7 _ _ ?_);refine gP [0,4,6,44,45,46] ?_;refine gV ?_ fun K hK=>by simp -dsimp [wk];exact hK
      refine zQ ?_;exact⟨k+1,by omega,by omega,gB [some 0,some 1,none,none,none,none,some 6,none,none,none,none,none,some 12,some 13,some 14,some 19,some 20,some 17]⟩
    ·skip
     try simp at hc2
     have hke:k=cs.length:=by first|omega|(simp at hc2;omega)
     subst hke;refine o5 ?_
     try simp only[zT,reduceIte,Nat.reduceEqDiff]
     exact⟨[some 0,some 1,some 13,some 14,some 15,some 16],rfl,by simp,by simp,by simp,by simp[N6,r9]⟩
theorem b4C (hmt:V5 cs c.Name=none) (hh:∀y∈B5 cs c,u0 s y (E4 s c m)=false):c7 Tryz.prog 97 [.ptr 0 0 0,c.av,m.av] (stK X s fo si up ps.length) (stD s cs ps nx nd) (.tup []) (stK X s fo si up ps.length) (stD s cs ps nx (a5l nd c m)):=by
 have p9:=U3 X s fo si up cs ps nx nd c m hv hne hw hm;rw[hb]at p9;have hsrt:=hcs.srt;have hcl:=hcs.len;have hwy:∀y∈B5 cs c,wayB s.Plan y.Way=true:=fun y hy=>by
  rcases(z7 hsrt).1 hy with rfl|⟨h,_⟩
  ·exact hw
  ·exact(i9 (hcs.car y h)).2.2.1.2.2.2
 have hcc:A4 (o3 cs) (kOf c.Name)=none:=by rw[k7,hmt];rfl
 have hil:(B5 cs c).length=(cs.length+1):=a4q hsrt hmt;have hci:c∈B5 cs c:=T9 hsrt;have hsi:=R6 c hsrt;generalize E4 s c m=B at p9 hh;generalize a5l nd c m=nd2 at p9 ⊢;have hnm:=Q5 cs hsrt hcl (fun x hx=>(hcs.bd x hx).1) (.fptr X 1 0 0) (.row 3 0 ps.length) (ruR s fo si up 4 5) (ptR ps) (nxR s nx) (ndR s nd2);have hso:=b1P c hsrt hcl hmt;have f1:R2 (cs.length+1) 9:=n7 (by omega) (by omega);have htp:List.take ps.length (ps.map f9)=ps.map f9:=qg (by simp);refine z9 ?_;refine oG [0] Tryz.func97 Tryz.ntmps97 Tryz.results97 ?_;intro J hJ;refine gW ?_;refine gW ?_ fun K hK=>by simp -dsimp;refine cM [0,1] [2,3,4,5] (p9) ?_;simp -dsimp;exact hK
 refine a8 fun K1 hK1=>?_;refine gW ?_;refine c3 rfl (fun hc0=>?_) (fun hc0=>?_)
 ·simp at hc0
 ·refine c5 ?_;refine zQ (hK1 _ _ ?_);refine gP [0,4,6] ?_;refine gW ?_ fun K hK=>by simp -dsimp;refine cM [0,1] [8,9,10,11] (hnm) ?_;simp -dsimp;exact hK
  refine a8 fun K2 hK2=>?_;refine gD ?_ fun K hK=>by simp -dsimp;refine d7 (.tup [.agg [I 0,I 0, .v (.slice none 0 0),I 0],Bo false]) (fun hm=>by rw[hcc];rfl) ?_;simp -dsimp;exact hK
  refine gW ?_;refine c3 rfl (fun hc1=>?_) (fun hc1=>?_)
  ·refine gW ?_ fun K hK=>by simp -dsimp [f1,(qg (by simp):List.take cs.length (nmL cs)=nmL cs)];exact hK
   refine gV ?_ fun K hK=>by simp -dsimp;refine cM [19] [] (hso) ?_;simp -dsimp;exact hK
   refine zQ (hK2 _ _ ?_);refine gP [0,4,6,8] ?_;refine gW ?_;refine c8 ?_;refine gP [0,4,6,44,45,46] ?_;refine e9 [0,4,6,44,45] (α:=Nat) (fun k=>[(46,I k)]) (fun k=>[some (.els 3 [[.fptr X 1 0 0, .mp 13, .row 14 0 ps.length]]),ruR s fo si up 15 16,none,none,none,none,some (.els 4 [c.cells]),none,none,none,none,none,some (.els 2 [B.cells]),caR cs,ptR ps,nxR s nx,ndR s nd2,none,none,some (.els 1 (nmL (B5 cs c)))]) (fun k=>k<=(B5 cs c).length) (fun k=>(cs.length+1)-k) 0 ?_ ?_ ?_
   ·exact qp _
   ·exact gB [some 0,some 1,none,none,none,none,some 6,none,none,none,none,none,some 12,some 13,some 14,some 15,some 16,none,none,some 19]
   rintro k k1
   by_cases hq:(B5 cs c)[k]?=some c
   ·refine zN ?_;refine gW ?_;refine a8 fun K3 hK3=>?_;refine c3 rfl (fun hc2=>?_) (fun hc2=>?_)
    ·skip
     try simp at hc2
     have hkn:k<(cs.length+1):=by first|omega|(simp at hc2;omega)
     obtain⟨y,hy⟩:∃y,(B5 cs c)[k]?=some y:=⟨_,qc (by omega)⟩;have hym:=qd hy;have hwyy:=hwy y hym;have wk:=zW k (by omega);obtain⟨hnl2,hng⟩:=qa.1 (k9 hy);have hkl:=(qa.1 hy).1;have hyc:y=c:=by rw[hy]at hq;exact Option.some.inj hq
     subst hyc;refine c5 ?_;refine zQ (hK3 _ _ ?_);refine gP [0,4,6,44,45,46] ?_;refine a8 fun K4 hK4=>?_;refine c8 ?_;refine gW ?_ fun K hK=>by simp -dsimp [k9 hy,hkl,hkn,hng];exact hK
     refine gW ?_ fun K hK=>by simp -dsimp;refine d7 (.agg [I 0,I 0, .v (.slice none 0 0),I 0]) (fun hm=>by rw[hcc];rfl) ?_;simp -dsimp;exact hK
     refine a8 fun K5 hK5=>?_;refine gW ?_;refine c3 rfl (fun hc3=>?_) (fun hc3=>?_)
     ·refine gV ?_;refine zQ (hK5 _ _ ?_);refine gP [0,4,6,12,13,44,45,46] ?_;refine gE ?_ fun K hK=>by simp -dsimp [htp,(show u0 s y B=false from hh y hym)];refine cM [1] [15,16] (a2k (X:=X) (Z1 hv fo si up nx nd2 y hwyy)) ?_;simp -dsimp [htp,(show u0 s y B=false from hh y hym)];refine cI (Y5 y B hwyy) ?_;simp -dsimp [htp,(show u0 s y B=false from hh y hym)];refine cI (q9 4 y.Name) ?_;simp -dsimp [htp,(show u0 s y B=false from hh y hym)];exact hK
      refine zQ (hK4 _ _ ?_);refine gP [0,4,6,44,45,46] ?_;refine gV ?_ fun K hK=>by simp -dsimp [wk];exact hK
      refine zQ ?_;exact⟨k+1,by omega,by omega,gB [some 0,some 1,none,none,none,none,some 6,none,none,none,none,none,some 12,some 13,some 14,some 21,some 22,none,none,some 19]⟩
     ·simp at hc3
    ·skip
     try simp at hc2
     have hke:k=(cs.length+1):=by first|omega|(simp at hc2;omega)
     subst hke;refine o5 ?_
     try simp only[zT,reduceIte,Nat.reduceEqDiff]
     exact⟨[some 0,some 1,some 13,some 14,some 15,some 16],rfl,by simp,by simp,by simp,by simp[N6,r9]⟩
   ·refine zN ?_;refine gW ?_;refine a8 fun K6 hK6=>?_;refine c3 rfl (fun hc2=>?_) (fun hc2=>?_)
    ·skip
     try simp at hc2
     have hkn:k<(cs.length+1):=by first|omega|(simp at hc2;omega)
     obtain⟨y,hy⟩:∃y,(B5 cs c)[k]?=some y:=⟨_,qc (by omega)⟩;have hym:=qd hy;have hwyy:=hwy y hym;have wk:=zW k (by omega);obtain⟨hnl2,hng⟩:=qa.1 (k9 hy);have hkl:=(qa.1 hy).1;have hyc:y∈cs/\y.Name≠c.Name:=((z7 hsrt).1 hym).resolve_left (fun e=>hq (by rw[hy,e]));refine c5 ?_;refine zQ (hK6 _ _ ?_);refine gP [0,4,6,44,45,46] ?_;refine a8 fun K7 hK7=>?_;refine c8 ?_;refine gW ?_ fun K hK=>by simp -dsimp [k9 hy,hkl,hkn,hng];exact hK
     refine gW ?_ fun K hK=>by simp -dsimp;refine d7 (y.av) (fun hm=>by rw[k7,E2 hsrt hyc.1];rfl) ?_;simp -dsimp;exact hK
     refine a8 fun K8 hK8=>?_;refine gW ?_;refine c3 rfl (fun hc3=>?_) (fun hc3=>?_)
     ·exact absurd (by simpa using hc3) hyc.2
     ·refine c5 ?_;refine zQ (hK8 _ _ ?_);refine gP [0,4,6,12,13,44,45,46] ?_;refine gE ?_ fun K hK=>by simp -dsimp [htp,(show u0 s y B=false from hh y hym)];refine cM [1] [15,16] (a2k (X:=X) (Z1 hv fo si up nx nd2 y hwyy)) ?_;simp -dsimp [htp,(show u0 s y B=false from hh y hym)];refine cI (Y5 y B hwyy) ?_;simp -dsimp [htp,(show u0 s y B=false from hh y hym)];refine cI (q9 4 y.Name) ?_;simp -dsimp [htp,(show u0 s y B=false from hh y hym)];exact hK
      refine zQ (hK7 _ _ ?_);refine gP [0,4,6,44,45,46] ?_;refine gV ?_ fun K hK=>by simp -dsimp [wk];exact hK
      refine zQ ?_;exact⟨k+1,by omega,by omega,gB [some 0,some 1,none,none,none,none,some 6,none,none,none,none,none,some 12,some 13,some 14,some 21,some 22,none,none,some 19]⟩
    ·skip
     try simp at hc2
     have hke:k=(cs.length+1):=by first|omega|(simp at hc2;omega)
     subst hke;refine o5 ?_
     try simp only[zT,reduceIte,Nat.reduceEqDiff]
     exact⟨[some 0,some 1,some 13,some 14,some 15,some 16],rfl,by simp,by simp,by simp,by simp[N6,r9]⟩
  ·simp at hc1
theorem b4m {c':Car} (hmt:V5 cs c.Name=some c') {yi:Car} (hh:(B5 cs c).find? (fun y=>u0 s y (E4 s c m))=some yi):l8 Tryz.prog 97 [.ptr 0 0 0,c.av,m.av] (stK X s fo si up ps.length) (stD s cs ps nx nd) (b1k 4 yi.Name) (stK X s fo si up ps.length) (stD s cs ps nx (a5l nd c m)):=by
 have p9:=U3 X s fo si up cs ps nx nd c m hv hne hw hm;rw[hb]at p9;have hsrt:=hcs.srt;have hcl:=hcs.len;have hwy:∀y∈B5 cs c,wayB s.Plan y.Way=true:=fun y hy=>by
  rcases(z7 hsrt).1 hy with rfl|⟨h,_⟩
  ·exact hw
  ·exact(i9 (hcs.car y h)).2.2.1.2.2.2
 have hcc:A4 (o3 cs) (kOf c.Name)=some c'.av:=by rw[k7,hmt];rfl
 have hil:(B5 cs c).length=cs.length:=a4L hsrt hmt;have hnl:nmL cs=nmL (B5 cs c):=by unfold nmL;rw[b0k hsrt hmt]
 have hci:c∈B5 cs c:=T9 hsrt;have hsi:=R6 c hsrt;generalize E4 s c m=B at p9 hh;generalize a5l nd c m=nd2 at p9 ⊢;have hnm:=Q5 cs hsrt hcl (fun x hx=>(hcs.bd x hx).1) (.fptr X 1 0 0) (.row 3 0 ps.length) (ruR s fo si up 4 5) (ptR ps) (nxR s nx) (ndR s nd2);have htp:List.take ps.length (ps.map f9)=ps.map f9:=qg (by simp);obtain⟨i,hyi,hhi,hbef⟩:=a6c hh;have hilt:=(qa.1 hyi).1;refine S4 ?_;refine l8.of_bodyG [0] Tryz.func97 rfl (by decide) (by simp[Tryz.ntmps97]) rfl rfl ?_;intro J hJ;simp only[Tryz.ntmps97,Tryz.results97];refine gW ?_;refine gW ?_ fun K hK=>by simp -dsimp;refine cM [0,1] [2,3,4,5] (p9) ?_;simp -dsimp;exact hK
 refine a8 fun K1 hK1=>?_;refine gW ?_;refine c3 rfl (fun hc0=>?_) (fun hc0=>?_)
 ·simp at hc0
 ·refine c5 ?_;refine zQ (hK1 _ _ ?_);refine gP [0,4,6] ?_;refine gW ?_ fun K hK=>by simp -dsimp;refine cM [0,1] [8,9,10,11] (hnm) ?_;simp -dsimp;exact hK
  refine a8 fun K2 hK2=>?_;refine gD ?_ fun K hK=>by simp -dsimp;refine d7 (.tup [c'.av,Bo true]) (fun hm=>by rw[hcc];rfl) ?_;simp -dsimp;exact hK
  refine gW ?_;refine c3 rfl (fun hc1=>?_) (fun hc1=>?_)
  ·simp at hc1
  ·refine c5 ?_;refine zQ (hK2 _ _ ?_);refine gP [0,4,6,8] ?_;refine gW ?_;refine c8 ?_;refine gP [0,4,6,44,45,46] ?_;refine e9 [0,4,6,44,45] (α:=Nat) (fun k=>[(46,I k)]) (fun k=>[some (.els 3 [[.fptr X 1 0 0, .mp 13, .row 14 0 ps.length]]),ruR s fo si up 15 16,none,none,none,none,some (.els 4 [c.cells]),none,none,none,none,none,some (.els 2 [B.cells]),caR cs,ptR ps,nxR s nx,ndR s nd2,some (.els 1 (nmL (B5 cs c)))]) (fun k=>k<=i) (fun k=>cs.length-k) 0 ?_ ?_ ?_
   ·exact qp _
   ·exact gB [some 0,some 1,none,none,none,none,some 6,none,none,none,none,none,some 12,some 13,some 14,some 15,some 16,some 17] (hH:=by simp[hnl])
   rintro k k1
   rcases Nat.lt_or_eq_of_le k1 with hlt|rfl
   all_goals by_cases hq:(B5 cs c)[k]?=some c
   ·refine zN ?_;refine gW ?_;refine a8 fun K3 hK3=>?_;refine c3 rfl (fun hc2=>?_) (fun hc2=>?_)
    ·skip
     try simp at hc2
     have hkn:k<cs.length:=by first|omega|(simp at hc2;omega)
     obtain⟨y,hy⟩:∃y,(B5 cs c)[k]?=some y:=⟨_,qc (by omega)⟩;have hym:=qd hy;have hwyy:=hwy y hym;have wk:=zW k (by omega);obtain⟨hnl2,hng⟩:=qa.1 (k9 hy);have hkl:=(qa.1 hy).1;have hyc:y=c:=by rw[hy]at hq;exact Option.some.inj hq
     subst hyc;refine c5 ?_;refine zQ (hK3 _ _ ?_);refine gP [0,4,6,44,45,46] ?_;refine a8 fun K4 hK4=>?_;refine c8 ?_;refine gW ?_ fun K hK=>by simp -dsimp [k9 hy,hkl,hkn,hng];exact hK
     refine gW ?_ fun K hK=>by simp -dsimp;refine d7 (c'.av) (fun hm=>by rw[hcc];rfl) ?_;simp -dsimp;exact hK
     refine a8 fun K5 hK5=>?_;refine gW ?_;refine c3 rfl (fun hc3=>?_) (fun hc3=>?_)
     ·refine gV ?_;refine zQ (hK5 _ _ ?_);refine gP [0,4,6,12,13,44,45,46] ?_;refine gE ?_ fun K hK=>by simp -dsimp [htp,(show u0 s y B=false from hbef k y hlt hy)];refine cM [1] [15,16] (a2k (X:=X) (Z1 hv fo si up nx nd2 y hwyy)) ?_;simp -dsimp [htp,(show u0 s y B=false from hbef k y hlt hy)];refine cI (Y5 y B hwyy) ?_;simp -dsimp [htp,(show u0 s y B=false from hbef k y hlt hy)];refine cI (q9 4 y.Name) ?_;simp -dsimp [htp,(show u0 s y B=false from hbef k y hlt hy)];exact hK
      refine zQ (hK4 _ _ ?_);refine gP [0,4,6,44,45,46] ?_;refine gV ?_ fun K hK=>by simp -dsimp [wk];exact hK
      refine zQ ?_;exact⟨k+1,by omega,by omega,gB [some 0,some 1,none,none,none,none,some 6,none,none,none,none,none,some 12,some 13,some 14,some 19,some 20,some 17]⟩
     ·simp at hc3
    ·skip
     try simp at hc2
     exfalso;first|omega|(simp at hc2;omega)
   ·refine zN ?_;refine gW ?_;refine a8 fun K6 hK6=>?_;refine c3 rfl (fun hc2=>?_) (fun hc2=>?_)
    ·skip
     try simp at hc2
     have hkn:k<cs.length:=by first|omega|(simp at hc2;omega)
     obtain⟨y,hy⟩:∃y,(B5 cs c)[k]?=some y:=⟨_,qc (by omega)⟩;have hym:=qd hy;have hwyy:=hwy y hym;have wk:=zW k (by omega);obtain⟨hnl2,hng⟩:=qa.1 (k9 hy);have hkl:=(qa.1 hy).1;have hyc:y∈cs/\y.Name≠c.Name:=((z7 hsrt).1 hym).resolve_left (fun e=>hq (by rw[hy,e]));refine c5 ?_;refine zQ (hK6 _ _ ?_);refine gP [0,4,6,44,45,46] ?_;refine a8 fun K7 hK7=>?_;refine c8 ?_;refine gW ?_ fun K hK=>by simp -dsimp [k9 hy,hkl,hkn,hng];exact hK
     refine gW ?_ fun K hK=>by simp -dsimp;refine d7 (y.av) (fun hm=>by rw[k7,E2 hsrt hyc.1];rfl) ?_;simp -dsimp;exact hK
     refine a8 fun K8 hK8=>?_;refine gW ?_;refine c3 rfl (fun hc3=>?_) (fun hc3=>?_)
     ·exact absurd (by simpa using hc3) hyc.2
     ·refine c5 ?_;refine zQ (hK8 _ _ ?_);refine gP [0,4,6,12,13,44,45,46] ?_;refine gE ?_ fun K hK=>by simp -dsimp [htp,(show u0 s y B=false from hbef k y hlt hy)];refine cM [1] [15,16] (a2k (X:=X) (Z1 hv fo si up nx nd2 y hwyy)) ?_;simp -dsimp [htp,(show u0 s y B=false from hbef k y hlt hy)];refine cI (Y5 y B hwyy) ?_;simp -dsimp [htp,(show u0 s y B=false from hbef k y hlt hy)];refine cI (q9 4 y.Name) ?_;simp -dsimp [htp,(show u0 s y B=false from hbef k y hlt hy)];exact hK
      refine zQ (hK7 _ _ ?_);refine gP [0,4,6,44,45,46] ?_;refine gV ?_ fun K hK=>by simp -dsimp [wk];exact hK
      refine zQ ?_;exact⟨k+1,by omega,by omega,gB [some 0,some 1,none,none,none,none,some 6,none,none,none,none,none,some 12,some 13,some 14,some 19,some 20,some 17]⟩
    ·skip
     try simp at hc2
     exfalso;first|omega|(simp at hc2;omega)
   ·refine zN ?_;refine gW ?_;refine a8 fun K9 hK9=>?_;refine c3 rfl (fun hc2=>?_) (fun hc2=>?_)
    ·skip
     try simp at hc2
     have hkn:k<cs.length:=by first|omega|(simp at hc2;omega)
     obtain⟨y,hy⟩:∃y,(B5 cs c)[k]?=some y:=⟨_,qc (by omega)⟩;have hym:=qd hy;have hwyy:=hwy y hym;have wk:=zW k (by omega);obtain⟨hnl2,hng⟩:=qa.1 (k9 hy);have hkl:=(qa.1 hy).1;have hyc:y=c:=by rw[hy]at hq;exact Option.some.inj hq
     subst hyc;have hyi2:y=yi:=by rw[hy]at hyi;exact Option.some.inj hyi
     refine c5 ?_;refine zQ (hK9 _ _ ?_);refine gP [0,4,6,44,45,46] ?_;refine a8 fun K10 hK10=>?_;refine c8 ?_;refine gW ?_ fun K hK=>by simp -dsimp [k9 hy,hkl,hkn,hng];exact hK
     refine gW ?_ fun K hK=>by simp -dsimp;refine d7 (c'.av) (fun hm=>by rw[hcc];rfl) ?_;simp -dsimp;exact hK
     refine a8 fun K11 hK11=>?_;refine gW ?_;refine c3 rfl (fun hc3=>?_) (fun hc3=>?_)
     ·refine gV ?_;refine zQ (hK11 _ _ ?_);refine gP [0,4,6,12,13,44,45,46] ?_;refine a5i (List.cons_ne_nil _ _) a1H rfl (by decide) rfl rfl rfl (by decide+kernel) (by decide+kernel) fun K hK=>?_;simp only[List.dropLast];simp -dsimp [htp,(show u0 s y B=true by rw[hyi2];exact hhi)];refine cM [1] [15,16] (a2k (X:=X) (Z1 hv fo si up nx nd2 y hwyy)) ?_;simp -dsimp [htp,(show u0 s y B=true by rw[hyi2];exact hhi)];refine cI (Y5 y B hwyy) ?_;simp -dsimp [htp,(show u0 s y B=true by rw[hyi2];exact hhi)];refine hK _ _ _ (by decide+kernel) (v8 [] [] [none,none,none,none,none,none,none,none,none,none,none,none,none,none,none,none,none,none,none,none,none,none] (I9 4 y.Name) rfl (by simp[a3g]) rfl (by simp) (by simp) rfl (by simp) (by simp) (by simp) ?_);clear hK K;rw[<-hyi2];exact⟨rfl,[some 0,some 1,some 13,some 14,some 19,some 20],rfl,by simp,by simp,by simp⟩
     ·simp at hc3
    ·skip
     try simp at hc2
     exfalso;first|omega|(simp at hc2;omega)
   ·refine zN ?_;refine gW ?_;refine a8 fun K12 hK12=>?_;refine c3 rfl (fun hc2=>?_) (fun hc2=>?_)
    ·skip
     try simp at hc2
     have hkn:k<cs.length:=by first|omega|(simp at hc2;omega)
     obtain⟨y,hy⟩:∃y,(B5 cs c)[k]?=some y:=⟨_,qc (by omega)⟩;have hym:=qd hy;have hwyy:=hwy y hym;have wk:=zW k (by omega);obtain⟨hnl2,hng⟩:=qa.1 (k9 hy);have hkl:=(qa.1 hy).1;have hyc:y∈cs/\y.Name≠c.Name:=((z7 hsrt).1 hym).resolve_left (fun e=>hq (by rw[hy,e]));have hyi2:y=yi:=by rw[hy]at hyi;exact Option.some.inj hyi
     refine c5 ?_;refine zQ (hK12 _ _ ?_);refine gP [0,4,6,44,45,46] ?_;refine a8 fun K13 hK13=>?_;refine c8 ?_;refine gW ?_ fun K hK=>by simp -dsimp [k9 hy,hkl,hkn,hng];exact hK
     refine gW ?_ fun K hK=>by simp -dsimp;refine d7 (y.av) (fun hm=>by rw[k7,E2 hsrt hyc.1];rfl) ?_;simp -dsimp;exact hK
     refine a8 fun K14 hK14=>?_;refine gW ?_;refine c3 rfl (fun hc3=>?_) (fun hc3=>?_)
     ·exact absurd (by simpa using hc3) hyc.2
     ·refine c5 ?_;refine zQ (hK14 _ _ ?_);refine gP [0,4,6,12,13,44,45,46] ?_;refine a5i (List.cons_ne_nil _ _) a1H rfl (by decide) rfl rfl rfl (by decide+kernel) (by decide+kernel) fun K hK=>?_;simp only[List.dropLast];simp -dsimp [htp,(show u0 s y B=true by rw[hyi2];exact hhi)];refine cM [1] [15,16] (a2k (X:=X) (Z1 hv fo si up nx nd2 y hwyy)) ?_;simp -dsimp [htp,(show u0 s y B=true by rw[hyi2];exact hhi)];refine cI (Y5 y B hwyy) ?_;simp -dsimp [htp,(show u0 s y B=true by rw[hyi2];exact hhi)];refine hK _ _ _ (by decide+kernel) (v8 [] [] [none,none,none,none,none,none,none,none,none,none,none,none,none,none,none,none,none,none,none,none,none,none] (I9 4 y.Name) rfl (by simp[a3g]) rfl (by simp) (by simp) rfl (by simp) (by simp) (by simp) ?_);clear hK K;rw[<-hyi2];exact⟨rfl,[some 0,some 1,some 13,some 14,some 19,some 20],rfl,by simp,by simp,by simp⟩
    ·skip
     try simp at hc2
     exfalso;first|omega|(simp at hc2;omega)
theorem b6n (hmt:V5 cs c.Name=none) {yi:Car} (hh:(B5 cs c).find? (fun y=>u0 s y (E4 s c m))=some yi):l8 Tryz.prog 97 [.ptr 0 0 0,c.av,m.av] (stK X s fo si up ps.length) (stD s cs ps nx nd) (b1k 4 yi.Name) (stK X s fo si up ps.length) (stD s cs ps nx (a5l nd c m)):=by
 have p9:=U3 X s fo si up cs ps nx nd c m hv hne hw hm;rw[hb]at p9;have hsrt:=hcs.srt;have hcl:=hcs.len;have hwy:∀y∈B5 cs c,wayB s.Plan y.Way=true:=fun y hy=>by
  rcases(z7 hsrt).1 hy with rfl|⟨h,_⟩
  ·exact hw
  ·exact(i9 (hcs.car y h)).2.2.1.2.2.2
 have hcc:A4 (o3 cs) (kOf c.Name)=none:=by rw[k7,hmt];rfl
 have hil:(B5 cs c).length=(cs.length+1):=a4q hsrt hmt;have hci:c∈B5 cs c:=T9 hsrt;have hsi:=R6 c hsrt;generalize E4 s c m=B at p9 hh;generalize a5l nd c m=nd2 at p9 ⊢;have hnm:=Q5 cs hsrt hcl (fun x hx=>(hcs.bd x hx).1) (.fptr X 1 0 0) (.row 3 0 ps.length) (ruR s fo si up 4 5) (ptR ps) (nxR s nx) (ndR s nd2);have hso:=b1P c hsrt hcl hmt;have f1:R2 (cs.length+1) 9:=n7 (by omega) (by omega);have htp:List.take ps.length (ps.map f9)=ps.map f9:=qg (by simp);obtain⟨i,hyi,hhi,hbef⟩:=a6c hh;have hilt:=(qa.1 hyi).1;refine S4 ?_;refine l8.of_bodyG [0] Tryz.func97 rfl (by decide) (by simp[Tryz.ntmps97]) rfl rfl ?_;intro J hJ;simp only[Tryz.ntmps97,Tryz.results97];refine gW ?_;refine gW ?_ fun K hK=>by simp -dsimp;refine cM [0,1] [2,3,4,5] (p9) ?_;simp -dsimp;exact hK
 refine a8 fun K1 hK1=>?_;refine gW ?_;refine c3 rfl (fun hc0=>?_) (fun hc0=>?_)
 ·simp at hc0
 ·refine c5 ?_;refine zQ (hK1 _ _ ?_);refine gP [0,4,6] ?_;refine gW ?_ fun K hK=>by simp -dsimp;refine cM [0,1] [8,9,10,11] (hnm) ?_;simp -dsimp;exact hK
  refine a8 fun K2 hK2=>?_;refine gD ?_ fun K hK=>by simp -dsimp;refine d7 (.tup [.agg [I 0,I 0, .v (.slice none 0 0),I 0],Bo false]) (fun hm=>by rw[hcc];rfl) ?_;simp -dsimp;exact hK
  refine gW ?_;refine c3 rfl (fun hc1=>?_) (fun hc1=>?_)
  ·refine gW ?_ fun K hK=>by simp -dsimp [f1,(qg (by simp):List.take cs.length (nmL cs)=nmL cs)];exact hK
   refine gV ?_ fun K hK=>by simp -dsimp;refine cM [19] [] (hso) ?_;simp -dsimp;exact hK
   refine zQ (hK2 _ _ ?_);refine gP [0,4,6,8] ?_;refine gW ?_;refine c8 ?_;refine gP [0,4,6,44,45,46] ?_;refine e9 [0,4,6,44,45] (α:=Nat) (fun k=>[(46,I k)]) (fun k=>[some (.els 3 [[.fptr X 1 0 0, .mp 13, .row 14 0 ps.length]]),ruR s fo si up 15 16,none,none,none,none,some (.els 4 [c.cells]),none,none,none,none,none,some (.els 2 [B.cells]),caR cs,ptR ps,nxR s nx,ndR s nd2,none,none,some (.els 1 (nmL (B5 cs c)))]) (fun k=>k<=i) (fun k=>(cs.length+1)-k) 0 ?_ ?_ ?_
   ·exact qp _
   ·exact gB [some 0,some 1,none,none,none,none,some 6,none,none,none,none,none,some 12,some 13,some 14,some 15,some 16,none,none,some 19]
   rintro k k1
   rcases Nat.lt_or_eq_of_le k1 with hlt|rfl
   all_goals by_cases hq:(B5 cs c)[k]?=some c
   ·refine zN ?_;refine gW ?_;refine a8 fun K3 hK3=>?_;refine c3 rfl (fun hc2=>?_) (fun hc2=>?_)
    ·skip
     try simp at hc2
     have hkn:k<(cs.length+1):=by first|omega|(simp at hc2;omega)
     obtain⟨y,hy⟩:∃y,(B5 cs c)[k]?=some y:=⟨_,qc (by omega)⟩;have hym:=qd hy;have hwyy:=hwy y hym;have wk:=zW k (by omega);obtain⟨hnl2,hng⟩:=qa.1 (k9 hy);have hkl:=(qa.1 hy).1;have hyc:y=c:=by rw[hy]at hq;exact Option.some.inj hq
     subst hyc;refine c5 ?_;refine zQ (hK3 _ _ ?_);refine gP [0,4,6,44,45,46] ?_;refine a8 fun K4 hK4=>?_;refine c8 ?_;refine gW ?_ fun K hK=>by simp -dsimp [k9 hy,hkl,hkn,hng];exact hK
     refine gW ?_ fun K hK=>by simp -dsimp;refine d7 (.agg [I 0,I 0, .v (.slice none 0 0),I 0]) (fun hm=>by rw[hcc];rfl) ?_;simp -dsimp;exact hK
     refine a8 fun K5 hK5=>?_;refine gW ?_;refine c3 rfl (fun hc3=>?_) (fun hc3=>?_)
     ·refine gV ?_;refine zQ (hK5 _ _ ?_);refine gP [0,4,6,12,13,44,45,46] ?_;refine gE ?_ fun K hK=>by simp -dsimp [htp,(show u0 s y B=false from hbef k y hlt hy)];refine cM [1] [15,16] (a2k (X:=X) (Z1 hv fo si up nx nd2 y hwyy)) ?_;simp -dsimp [htp,(show u0 s y B=false from hbef k y hlt hy)];refine cI (Y5 y B hwyy) ?_;simp -dsimp [htp,(show u0 s y B=false from hbef k y hlt hy)];refine cI (q9 4 y.Name) ?_;simp -dsimp [htp,(show u0 s y B=false from hbef k y hlt hy)];exact hK
      refine zQ (hK4 _ _ ?_);refine gP [0,4,6,44,45,46] ?_;refine gV ?_ fun K hK=>by simp -dsimp [wk];exact hK
      refine zQ ?_;exact⟨k+1,by omega,by omega,gB [some 0,some 1,none,none,none,none,some 6,none,none,none,none,none,some 12,some 13,some 14,some 21,some 22,none,none,some 19]⟩
     ·simp at hc3
    ·skip
     try simp at hc2
     exfalso;first|omega|(simp at hc2;omega)
   ·refine zN ?_;refine gW ?_;refine a8 fun K6 hK6=>?_;refine c3 rfl (fun hc2=>?_) (fun hc2=>?_)
    ·skip
     try simp at hc2
     have hkn:k<(cs.length+1):=by first|omega|(simp at hc2;omega)
     obtain⟨y,hy⟩:∃y,(B5 cs c)[k]?=some y:=⟨_,qc (by omega)⟩;have hym:=qd hy;have hwyy:=hwy y hym;have wk:=zW k (by omega);obtain⟨hnl2,hng⟩:=qa.1 (k9 hy);have hkl:=(qa.1 hy).1;have hyc:y∈cs/\y.Name≠c.Name:=((z7 hsrt).1 hym).resolve_left (fun e=>hq (by rw[hy,e]));refine c5 ?_;refine zQ (hK6 _ _ ?_);refine gP [0,4,6,44,45,46] ?_;refine a8 fun K7 hK7=>?_;refine c8 ?_;refine gW ?_ fun K hK=>by simp -dsimp [k9 hy,hkl,hkn,hng];exact hK
     refine gW ?_ fun K hK=>by simp -dsimp;refine d7 (y.av) (fun hm=>by rw[k7,E2 hsrt hyc.1];rfl) ?_;simp -dsimp;exact hK
     refine a8 fun K8 hK8=>?_;refine gW ?_;refine c3 rfl (fun hc3=>?_) (fun hc3=>?_)
     ·exact absurd (by simpa using hc3) hyc.2
     ·refine c5 ?_;refine zQ (hK8 _ _ ?_);refine gP [0,4,6,12,13,44,45,46] ?_;refine gE ?_ fun K hK=>by simp -dsimp [htp,(show u0 s y B=false from hbef k y hlt hy)];refine cM [1] [15,16] (a2k (X:=X) (Z1 hv fo si up nx nd2 y hwyy)) ?_;simp -dsimp [htp,(show u0 s y B=false from hbef k y hlt hy)];refine cI (Y5 y B hwyy) ?_;simp -dsimp [htp,(show u0 s y B=false from hbef k y hlt hy)];refine cI (q9 4 y.Name) ?_;simp -dsimp [htp,(show u0 s y B=false from hbef k y hlt hy)];exact hK
      refine zQ (hK7 _ _ ?_);refine gP [0,4,6,44,45,46] ?_;refine gV ?_ fun K hK=>by simp -dsimp [wk];exact hK
      refine zQ ?_;exact⟨k+1,by omega,by omega,gB [some 0,some 1,none,none,none,none,some 6,none,none,none,none,none,some 12,some 13,some 14,some 21,some 22,none,none,some 19]⟩
    ·skip
     try simp at hc2
     exfalso;first|omega|(simp at hc2;omega)
   ·refine zN ?_;refine gW ?_;refine a8 fun K9 hK9=>?_;refine c3 rfl (fun hc2=>?_) (fun hc2=>?_)
    ·skip
     try simp at hc2
     have hkn:k<(cs.length+1):=by first|omega|(simp at hc2;omega)
     obtain⟨y,hy⟩:∃y,(B5 cs c)[k]?=some y:=⟨_,qc (by omega)⟩;have hym:=qd hy;have hwyy:=hwy y hym;have wk:=zW k (by omega);obtain⟨hnl2,hng⟩:=qa.1 (k9 hy);have hkl:=(qa.1 hy).1;have hyc:y=c:=by rw[hy]at hq;exact Option.some.inj hq
     subst hyc;have hyi2:y=yi:=by rw[hy]at hyi;exact Option.some.inj hyi
     refine c5 ?_;refine zQ (hK9 _ _ ?_);refine gP [0,4,6,44,45,46] ?_;refine a8 fun K10 hK10=>?_;refine c8 ?_;refine gW ?_ fun K hK=>by simp -dsimp [k9 hy,hkl,hkn,hng];exact hK
     refine gW ?_ fun K hK=>by simp -dsimp;refine d7 (.agg [I 0,I 0, .v (.slice none 0 0),I 0]) (fun hm=>by rw[hcc];rfl) ?_;simp -dsimp;exact hK
     refine a8 fun K11 hK11=>?_;refine gW ?_;refine c3 rfl (fun hc3=>?_) (fun hc3=>?_)
     ·refine gV ?_;refine zQ (hK11 _ _ ?_);refine gP [0,4,6,12,13,44,45,46] ?_;refine a5i (List.cons_ne_nil _ _) a1H rfl (by decide) rfl rfl rfl (by decide+kernel) (by decide+kernel) fun K hK=>?_;simp only[List.dropLast];simp -dsimp [htp,(show u0 s y B=true by rw[hyi2];exact hhi)];refine cM [1] [15,16] (a2k (X:=X) (Z1 hv fo si up nx nd2 y hwyy)) ?_;simp -dsimp [htp,(show u0 s y B=true by rw[hyi2];exact hhi)];refine cI (Y5 y B hwyy) ?_;simp -dsimp [htp,(show u0 s y B=true by rw[hyi2];exact hhi)];refine hK _ _ _ (by decide+kernel) (v8 [] [] [none,none,none,none,none,none,none,none,none,none,none,none,none,none,none,none,none,none,none,none,none,none,none,none] (I9 4 y.Name) rfl (by simp[a3g]) rfl (by simp) (by simp) rfl (by simp) (by simp) (by simp) ?_);clear hK K;rw[<-hyi2];exact⟨rfl,[some 0,some 1,some 13,some 14,some 21,some 22],rfl,by simp,by simp,by simp⟩
     ·simp at hc3
    ·skip
     try simp at hc2
     exfalso;first|omega|(simp at hc2;omega)
   ·refine zN ?_;refine gW ?_;refine a8 fun K12 hK12=>?_;refine c3 rfl (fun hc2=>?_) (fun hc2=>?_)
    ·skip
     try simp at hc2
     have hkn:k<(cs.length+1):=by first|omega|(simp at hc2;omega)
     obtain⟨y,hy⟩:∃y,(B5 cs c)[k]?=some y:=⟨_,qc (by omega)⟩;have hym:=qd hy;have hwyy:=hwy y hym;have wk:=zW k (by omega);obtain⟨hnl2,hng⟩:=qa.1 (k9 hy);have hkl:=(qa.1 hy).1;have hyc:y∈cs/\y.Name≠c.Name:=((z7 hsrt).1 hym).resolve_left (fun e=>hq (by rw[hy,e]));have hyi2:y=yi:=by rw[hy]at hyi;exact Option.some.inj hyi
     refine c5 ?_;refine zQ (hK12 _ _ ?_);refine gP [0,4,6,44,45,46] ?_;refine a8 fun K13 hK13=>?_;refine c8 ?_;refine gW ?_ fun K hK=>by simp -dsimp [k9 hy,hkl,hkn,hng];exact hK
     refine gW ?_ fun K hK=>by simp -dsimp;refine d7 (y.av) (fun hm=>by rw[k7,E2 hsrt hyc.1];rfl) ?_;simp -dsimp;exact hK
     refine a8 fun K14 hK14=>?_;refine gW ?_;refine c3 rfl (fun hc3=>?_) (fun hc3=>?_)
     ·exact absurd (by simpa using hc3) hyc.2
     ·refine c5 ?_;refine zQ (hK14 _ _ ?_);refine gP [0,4,6,12,13,44,45,46] ?_;refine a5i (List.cons_ne_nil _ _) a1H rfl (by decide) rfl rfl rfl (by decide+kernel) (by decide+kernel) fun K hK=>?_;simp only[List.dropLast];simp -dsimp [htp,(show u0 s y B=true by rw[hyi2];exact hhi)];refine cM [1] [15,16] (a2k (X:=X) (Z1 hv fo si up nx nd2 y hwyy)) ?_;simp -dsimp [htp,(show u0 s y B=true by rw[hyi2];exact hhi)];refine cI (Y5 y B hwyy) ?_;simp -dsimp [htp,(show u0 s y B=true by rw[hyi2];exact hhi)];refine hK _ _ _ (by decide+kernel) (v8 [] [] [none,none,none,none,none,none,none,none,none,none,none,none,none,none,none,none,none,none,none,none,none,none,none,none] (I9 4 y.Name) rfl (by simp[a3g]) rfl (by simp) (by simp) rfl (by simp) (by simp) (by simp) ?_);clear hK K;rw[<-hyi2];exact⟨rfl,[some 0,some 1,some 13,some 14,some 21,some 22],rfl,by simp,by simp,by simp⟩
    ·skip
     try simp at hc2
     exfalso;first|omega|(simp at hc2;omega)
  ·simp at hc1
end
end Go.Tram.Lk
end
section
namespace Go.Tram.Lk
open Go.AM Go.Proofs
def RF (k:Nat):FuncId:=[94,95,96,97,98,99].getD k 0
def a7R:List (List AV):=[[.bnd 94 [.ptr 0 0 0]],[.bnd 95 [.ptr 0 0 0]],[.bnd 96 [.ptr 0 0 0]],[.bnd 97 [.ptr 0 0 0]],[.bnd 98 [.ptr 0 0 0]],[.bnd 99 [.ptr 0 0 0]]]
theorem a4a {k:Nat} (h:k<6):a7R[k]?=some [.bnd (RF k) [.ptr 0 0 0]]:=by
 match k,h with
 |0,_=>rfl
 |1,_=>rfl
 |2,_=>rfl
 |3,_=>rfl
 |4,_=>rfl
 |5,_=>rfl
theorem a3U:a7R.length=6:=rfl
theorem a3Y (l:List (Option Nat)):a7R.map (fun e=>e.map (p5 (some 0::l) 3))=a7R:=by
 simp[a7R]
@[simp] def c0C (c:Car):List AV:=[I c.Name,I c.Profile,L7,I c.Front]
@[simp] def c0A (c:Car):AV:= .agg [I c.Name,I c.Profile,L7,I c.Front]
def nxF (nx:j8) (c:Car) (m:Move) (k:Nat):j8:=if k=0 then nx else a5l nx c m
def ndF (nd:j8) (c:Car) (m:Move) (k:Nat):j8:=if k<=3 then nd else a5l nd c m
section
variable (X:Value) (s:j0) (fo si up:Kvs) (cs:List Car) (ps:List Int) (nx nd:j8) (c:Car) (m:Move)
theorem b2E {i:Nat} {kd kc:Int} (hi:i<6)
  (hp:∀k<i,c7 Tryz.prog (RF k) [.ptr 0 0 0,c.av,m.av] (stK X s fo si up ps.length) (stD s cs ps (nxF nx c m k) (ndF nd c m k)) (.tup []) (stK X s fo si up ps.length) (stD s cs ps (nxF nx c m (k+1)) (ndF nd c m (k+1))))
  (hq:l8 Tryz.prog (RF i) [.ptr 0 0 0,c.av,m.av] (stK X s fo si up ps.length) (stD s cs ps (nxF nx c m i) (ndF nd c m i)) (b1k kd kc) (stK X s fo si up ps.length) (stD s cs ps (nxF nx c m (i+1)) (ndF nd c m (i+1)))):
  c7 Tryz.prog 51 [.ptr 0 0 0,c.av,m.av] (stK X s fo si up ps.length) (stD s cs ps nx nd) (.tup [.agg [I 0,I 0,L7,I 0], .agg [I kd,I kc]]) (stK X s fo si up ps.length) (stD s cs ps (nxF nx c m (i+1)) (ndF nd c m (i+1))++[some (.els 4 [[I 0,I 0,L7,I 0]]),some (.els 2 [[I kd,I kc]])]):=by
 refine z9 ?_;have e0:nxF nx c m 0=nx:=rfl;have e1:ndF nd c m 0=nd:=rfl;generalize hN:nxF nx c m=N at*
 generalize hD:ndF nd c m=D at*
 refine c7.of_bodyD 7 [0] Tryz.func51 rfl (by decide) (by simp[Tryz.ntmps51]) (by simp[Tryz.ntmps51]) rfl rfl a0E rfl (by decide) rfl rfl rfl rfl fun K hK=>?_;simp only[Tryz.ntmps51,Tryz.results51];simp -dsimp;apply hK;clear hK K;intro J hJ;refine a8 fun K1 hK1=>?_;refine a2c (by decide) ?_;refine gW ?_;refine c8 ?_;refine gP [0,4,5,6,7,24,25,26] ?_;refine e9 [0,4,5,6,7,24,25] (α:=Nat) (fun k=>[(26,I k)]) (fun k=>[some (.els 3 [[.fptr X 1 0 0, .mp 2, .row 3 0 ps.length]]),ruR s fo si up 4 5,caR cs,ptR ps,nxR s (N k),ndR s (D k),some (.els 4 [c.cells]),some (.els 2 [m.cells]),some (.els 4 [[I 0,I 0,L7,I 0]]),some (.els 2 [[I 0,I 0]]),some (.els 1 a7R)]) (fun k=>k<=i) (fun k=>6-k) 0 ?_ ?_ ?_
 ·exact qp _
 ·exact gB [some 0,some 1,some 2,some 3,some 4,some 5,some 6,some 7,some 8,some 9,some 10] (hH:=by simp[a7R,e0,e1])
 rintro k k1;have hb:=a4a (k:=k) (by omega);have hbl:k<a7R.length:=by rw[a3U];omega
 have hb6:k<6:=by omega
 obtain⟨hbl2,hbg⟩:=qa.1 hb;have wk:=zW k (by omega)
 rcases Nat.lt_or_eq_of_le k1 with hlt|rfl
 ·refine zN ?_;refine gW ?_;refine a8 fun K2 hK2=>?_;refine c3 rfl (fun hc0=>?_) (fun hc0=>?_)
  ·refine c5 ?_;refine zQ (hK2 _ _ ?_);refine gP [0,4,5,6,7,24,25,26] ?_;refine a8 fun K3 hK3=>?_;refine c8 ?_;refine gW ?_ fun K hK=>by simp -dsimp [hb,hbl,hb6,hbg];exact hK
   refine gV ?_ fun K hK=>by simp -dsimp;refine cM [0,1] [2,3,4,5] (hp k hlt) ?_;simp -dsimp;exact hK
   refine zQ (hK3 _ _ ?_);refine gP [0,4,5,6,7,24,25,26] ?_;refine gV ?_ fun K hK=>by simp -dsimp [wk];exact hK
   refine zQ ?_;exact⟨k+1,by omega,by omega,gB [some 0,some 1,some 11,some 12,some 13,some 14,some 6,some 7,some 8,some 9,some 10] (hH:=by simp[a3Y])⟩
  ·exfalso;have h9:=hc0;simp at h9;omega
 ·refine zN ?_;refine gW ?_;refine a8 fun K4 hK4=>?_;refine c3 rfl (fun hc0=>?_) (fun hc0=>?_)
  ·refine c5 ?_;refine zQ (hK4 _ _ ?_);refine gP [0,4,5,6,7,24,25,26] ?_;refine a8 fun K5 hK5=>?_;refine c8 ?_;refine gW ?_ fun K hK=>by simp -dsimp [hb,hbl,hb6,hbg];exact hK
   refine a1c (List.cons_ne_nil _ _) rfl (by decide) rfl rfl rfl fun K hK=>?_;simp only[List.dropLast];simp -dsimp;refine hK _ _ (v8 [0,1] [2,3,4,5] [some 0,some 1,none,none,none,none,none,none,none,none,none,some 2,some 3,some 4,some 5] (hq) rfl (by simp[a3g]) rfl (by simp) (by simp) rfl (by simp) (by simp) (by simp) ?_);clear hK K;refine⟨9,[I 0,I 0], .int .i64 kd, .int .i64 kc,rfl,rfl,by simp,rfl,rfl,rfl,?_⟩;exact⟨[some 0,some 1,some 11,some 12,some 13,some 14,some 8,some 9],rfl,by simp,by simp,by simp,by simp[N6,r9]⟩
  ·exfalso;have h9:=hc0;simp at h9;omega
theorem b3k {i:Nat} {kd kc:Int} (hi:i<6)
  (hp:∀k<i,c7 Tryz.prog (RF k) [.ptr 0 0 0,(c0A c),m.av] (stK X s fo si up ps.length) (stD s cs ps (nxF nx c m k) (ndF nd c m k)) (.tup []) (stK X s fo si up ps.length) (stD s cs ps (nxF nx c m (k+1)) (ndF nd c m (k+1))))
  (hq:l8 Tryz.prog (RF i) [.ptr 0 0 0,(c0A c),m.av] (stK X s fo si up ps.length) (stD s cs ps (nxF nx c m i) (ndF nd c m i)) (b1k kd kc) (stK X s fo si up ps.length) (stD s cs ps (nxF nx c m (i+1)) (ndF nd c m (i+1)))):
  c7 Tryz.prog 51 [.ptr 0 0 0,(c0A c),m.av] (stK X s fo si up ps.length) (stD s cs ps nx nd) (.tup [.agg [I 0,I 0,L7,I 0], .agg [I kd,I kc]]) (stK X s fo si up ps.length) (stD s cs ps (nxF nx c m (i+1)) (ndF nd c m (i+1))++[some (.els 4 [[I 0,I 0,L7,I 0]]),some (.els 2 [[I kd,I kc]])]):=by
 refine z9 ?_;have e0:nxF nx c m 0=nx:=rfl;have e1:ndF nd c m 0=nd:=rfl;generalize hN:nxF nx c m=N at*
 generalize hD:ndF nd c m=D at*
 refine c7.of_bodyD 7 [0] Tryz.func51 rfl (by decide) (by simp[Tryz.ntmps51]) (by simp[Tryz.ntmps51]) rfl rfl a0E rfl (by decide) rfl rfl rfl rfl fun K hK=>?_;simp only[Tryz.ntmps51,Tryz.results51];simp -dsimp;apply hK;clear hK K;intro J hJ;refine a8 fun K1 hK1=>?_;refine a2c (by decide) ?_;refine gW ?_;refine c8 ?_;refine gP [0,4,5,6,7,24,25,26] ?_;refine e9 [0,4,5,6,7,24,25] (α:=Nat) (fun k=>[(26,I k)]) (fun k=>[some (.els 3 [[.fptr X 1 0 0, .mp 2, .row 3 0 ps.length]]),ruR s fo si up 4 5,caR cs,ptR ps,nxR s (N k),ndR s (D k),some (.els 4 [(c0C c)]),some (.els 2 [m.cells]),some (.els 4 [[I 0,I 0,L7,I 0]]),some (.els 2 [[I 0,I 0]]),some (.els 1 a7R)]) (fun k=>k<=i) (fun k=>6-k) 0 ?_ ?_ ?_
 ·exact qp _
 ·exact gB [some 0,some 1,some 2,some 3,some 4,some 5,some 6,some 7,some 8,some 9,some 10] (hH:=by simp[a7R,e0,e1])
 rintro k k1;have hb:=a4a (k:=k) (by omega);have hbl:k<a7R.length:=by rw[a3U];omega
 have hb6:k<6:=by omega
 obtain⟨hbl2,hbg⟩:=qa.1 hb;have wk:=zW k (by omega)
 rcases Nat.lt_or_eq_of_le k1 with hlt|rfl
 ·refine zN ?_;refine gW ?_;refine a8 fun K2 hK2=>?_;refine c3 rfl (fun hc0=>?_) (fun hc0=>?_)
  ·refine c5 ?_;refine zQ (hK2 _ _ ?_);refine gP [0,4,5,6,7,24,25,26] ?_;refine a8 fun K3 hK3=>?_;refine c8 ?_;refine gW ?_ fun K hK=>by simp -dsimp [hb,hbl,hb6,hbg];exact hK
   refine gV ?_ fun K hK=>by simp -dsimp;refine cM [0,1] [2,3,4,5] (hp k hlt) ?_;simp -dsimp;exact hK
   refine zQ (hK3 _ _ ?_);refine gP [0,4,5,6,7,24,25,26] ?_;refine gV ?_ fun K hK=>by simp -dsimp [wk];exact hK
   refine zQ ?_;exact⟨k+1,by omega,by omega,gB [some 0,some 1,some 11,some 12,some 13,some 14,some 6,some 7,some 8,some 9,some 10] (hH:=by simp[a3Y])⟩
  ·exfalso;have h9:=hc0;simp at h9;omega
 ·refine zN ?_;refine gW ?_;refine a8 fun K4 hK4=>?_;refine c3 rfl (fun hc0=>?_) (fun hc0=>?_)
  ·refine c5 ?_;refine zQ (hK4 _ _ ?_);refine gP [0,4,5,6,7,24,25,26] ?_;refine a8 fun K5 hK5=>?_;refine c8 ?_;refine gW ?_ fun K hK=>by simp -dsimp [hb,hbl,hb6,hbg];exact hK
   refine a1c (List.cons_ne_nil _ _) rfl (by decide) rfl rfl rfl fun K hK=>?_;simp only[List.dropLast];simp -dsimp;refine hK _ _ (v8 [0,1] [2,3,4,5] [some 0,some 1,none,none,none,none,none,none,none,none,none,some 2,some 3,some 4,some 5] (hq) rfl (by simp[a3g]) rfl (by simp) (by simp) rfl (by simp) (by simp) (by simp) ?_);clear hK K;refine⟨9,[I 0,I 0], .int .i64 kd, .int .i64 kc,rfl,rfl,by simp,rfl,rfl,rfl,?_⟩;exact⟨[some 0,some 1,some 11,some 12,some 13,some 14,some 8,some 9],rfl,by simp,by simp,by simp,by simp[N6,r9]⟩
  ·exfalso;have h9:=hc0;simp at h9;omega
theorem a2m (t:List Move) (hne:t≠[]) (hn:t.length<=1000):c7 Tryz.prog 40 [a1t t] [] [] (.row 0 0 t.length) [] [some (.els 2 (t.map Move.cells))]:=by
 have f1:R2 t.length 17:=n7 (by omega) (by omega);refine oG [] Tryz.func40 Tryz.ntmps40 Tryz.results40 ?_;intro J hJ;refine gW ?_;refine a8 fun K1 hK1=>?_;refine gW ?_ fun K hK=>by simp -dsimp [hne];exact hK
 refine c3 rfl (fun hc0=>?_) (fun hc0=>?_)
 ·simp at hc0
 ·refine c5 ?_;refine zQ (hK1 _ _ ?_);refine gP [0] ?_;refine gW ?_ fun K hK=>by simp -dsimp [hne,f1];exact hK
  exact d9 (gT [some 0])
theorem b2w {B:R0} {b:Bool} {nd2:j8} (hne:c.Way≠[]) (hlen:c.Way.length<=1000)
  (hp:∀k<6,c7 Tryz.prog (RF k) [.ptr 0 0 0,c.av,m.av] (stK X s fo si up ps.length) (stD s cs ps (nxF nx c m k) (ndF nd c m k)) (.tup []) (stK X s fo si up ps.length) (stD s cs ps (nxF nx c m (k+1)) (ndF nd c m (k+1))))
  (p9:c7 Tryz.prog 100 [.ptr 0 0 0,c.av,m.av] (stK X s fo si up ps.length) (stD s cs ps (nxF nx c m 6) (ndF nd c m 6)) (.tup [.agg B.cells,Bo b]) (stK X s fo si up ps.length) (stD s cs ps (nxF nx c m 6) nd2))
  (hB:b=true->0<=B.Node/\B.Node.toNat<ps.length):
  c7 Tryz.prog 51 [.ptr 0 0 0,c.av,m.av] (stK X s fo si up ps.length) (stD s cs ps nx nd) (.tup [(r5 c m).av, .agg [I 0,I 0]]) (stK X s fo si up ps.length) (stD s cs (if b then ps.set B.Node.toNat B.Leg else ps) (nxF nx c m 6) nd2++[some (.els 4 [(r5 c m).cells]),some (.els 2 [[I 0,I 0]])]):=by
 have hcl:=a2m c.Way hne hlen;have htk:List.take (c.Way.length+1) (List.map Move.cells c.Way++[[I m.Rail,Bo m.Back]])=List.map Move.cells c.Way++[[I m.Rail,Bo m.Back]]:=qg (by simp);have f1:R2 (c.Way.length+1) 17:=n7 (by omega) (by omega);refine z9 ?_;have e0:nxF nx c m 0=nx:=rfl;have e1:ndF nd c m 0=nd:=rfl;generalize hN:nxF nx c m=N at*
 generalize hD:ndF nd c m=D at*
 refine c7.of_bodyD 7 [0] Tryz.func51 rfl (by decide) (by simp[Tryz.ntmps51]) (by simp[Tryz.ntmps51]) rfl rfl a0E rfl (by decide) rfl rfl rfl rfl fun K hK=>?_;simp only[Tryz.ntmps51,Tryz.results51];simp -dsimp;apply hK;clear hK K;intro J hJ;refine a8 fun K1 hK1=>?_;refine a2c (by decide) ?_;refine gW ?_;refine c8 ?_;refine gP [0,4,5,6,7,24,25,26] ?_;refine e9 [0,4,5,6,7,24,25] (α:=Nat) (fun k=>[(26,I k)]) (fun k=>[some (.els 3 [[.fptr X 1 0 0, .mp 2, .row 3 0 ps.length]]),ruR s fo si up 4 5,caR cs,ptR ps,nxR s (N k),ndR s (D k),some (.els 4 [c.cells]),some (.els 2 [m.cells]),some (.els 4 [[I 0,I 0,L7,I 0]]),some (.els 2 [[I 0,I 0]]),some (.els 1 a7R)]) (fun k=>k<=6) (fun k=>6-k) 0 ?_ ?_ ?_
 ·exact qp _
 ·exact gB [some 0,some 1,some 2,some 3,some 4,some 5,some 6,some 7,some 8,some 9,some 10] (hH:=by simp[a7R,e0,e1])
 rintro k k1;refine zN ?_;refine gW ?_;refine a8 fun K2 hK2=>?_;refine c3 rfl (fun hc0=>?_) (fun hc0=>?_)
 ·have hb6:k<6:=by first|omega|(simp at hc0;omega)
  have hb:=a4a hb6;have hbl:k<a7R.length:=by rw[a3U];omega
  obtain⟨hbl2,hbg⟩:=qa.1 hb;have wk:=zW k (by omega);refine c5 ?_;refine zQ (hK2 _ _ ?_);refine gP [0,4,5,6,7,24,25,26] ?_;refine a8 fun K3 hK3=>?_;refine c8 ?_;refine gW ?_ fun K hK=>by simp -dsimp [hb,hbl,hb6,hbg];exact hK
  refine gV ?_ fun K hK=>by simp -dsimp;refine cM [0,1] [2,3,4,5] (hp k hb6) ?_;simp -dsimp;exact hK
  refine zQ (hK3 _ _ ?_);refine gP [0,4,5,6,7,24,25,26] ?_;refine gV ?_ fun K hK=>by simp -dsimp [wk];exact hK
  refine zQ ?_;exact⟨k+1,by omega,by omega,gB [some 0,some 1,some 11,some 12,some 13,some 14,some 6,some 7,some 8,some 9,some 10] (hH:=by simp[a3Y])⟩
 ·have hke:k=6:=by first|omega|(simp at hc0;omega)
  subst hke;refine o5 ?_;refine zQ (hK1 _ _ ?_);refine gP [0,4,5,6,7] ?_;refine a8 fun K4 hK4=>?_;refine gW ?_ fun K hK=>by simp -dsimp;refine cM [0,1] [2,3,4,5] (p9) ?_;simp -dsimp;exact hK
  refine gW ?_;refine c3 rfl (fun hc1=>?_) (fun hc1=>?_)
  ·have hbb:b=true:=by simpa using hc1
   subst hbb;obtain⟨hB0,hB1⟩:=hB rfl;refine gE ?_ fun K hK=>by simp -dsimp [hB0,hB1];exact hK
   refine zQ (hK4 _ _ ?_);refine gP [0,4,5,6,7] ?_;refine gD ?_ fun K hK=>by simp -dsimp [f1];refine cM [] [] (hcl) ?_;simp -dsimp [f1];exact hK
   refine gW ?_;refine gU (T':=[(0, .ptr 0 0 0),(6, .ptr 6 0 0),(7, .ptr 7 0 0)]) (H':=stR X ps.length::ruR s fo si up 4 5::(stD s cs (ps.set B.Node.toNat B.Leg) (N 6) nd2++[some (.els 4 [(r5 c m).cells]),some (.els 2 [[I 0,I 0]])])) [some 0,some 1,some 11,some 12,some 13,some 14,some 8,some 9] ?_ (hH:=by simp[r5,htk]);exact d9 ⟨[some 0,some 1,some 2,some 3,some 4,some 5,some 6,some 7],rfl,by simp,by simp,by simp,by simp[N6,r9,r5]⟩
  ·have hbb:b=false:=by simpa using hc1
   subst hbb;refine c5 ?_;refine zQ (hK4 _ _ ?_);refine gP [0,4,5,6,7] ?_;refine gD ?_ fun K hK=>by simp -dsimp [f1];refine cM [] [] (hcl) ?_;simp -dsimp [f1];exact hK
   refine gW ?_;refine gU (T':=[(0, .ptr 0 0 0),(6, .ptr 6 0 0),(7, .ptr 7 0 0)]) (H':=stR X ps.length::ruR s fo si up 4 5::(stD s cs ps (N 6) nd2++[some (.els 4 [(r5 c m).cells]),some (.els 2 [[I 0,I 0]])])) [some 0,some 1,some 11,some 12,some 13,some 14,some 8,some 9] ?_ (hH:=by simp[r5,htk]);exact d9 ⟨[some 0,some 1,some 2,some 3,some 4,some 5,some 6,some 7],rfl,by simp,by simp,by simp,by simp[N6,r9,r5]⟩
theorem a9B:a9 Tryz.prog 40 [L7] L7:=by
 refine oB Tryz.func40 Tryz.ntmps40 Tryz.results40 ?_;refine aW ?_;refine a5 fun K1 hK1=>?_;refine aW ?_;refine a7 rfl (fun hc0=>?_) (fun hc0=>?_)
 ·refine aW ?_;exact a6 (by simp)
 ·simp at hc0
theorem b2y {B:R0} {b:Bool} {nd2:j8} (hne:c.Way=[])
  (hp:∀k<6,c7 Tryz.prog (RF k) [.ptr 0 0 0,(c0A c),m.av] (stK X s fo si up ps.length) (stD s cs ps (nxF nx c m k) (ndF nd c m k)) (.tup []) (stK X s fo si up ps.length) (stD s cs ps (nxF nx c m (k+1)) (ndF nd c m (k+1))))
  (p9:c7 Tryz.prog 100 [.ptr 0 0 0,(c0A c),m.av] (stK X s fo si up ps.length) (stD s cs ps (nxF nx c m 6) (ndF nd c m 6)) (.tup [.agg B.cells,Bo b]) (stK X s fo si up ps.length) (stD s cs ps (nxF nx c m 6) nd2))
  (hB:b=true->0<=B.Node/\B.Node.toNat<ps.length):
  c7 Tryz.prog 51 [.ptr 0 0 0,(c0A c),m.av] (stK X s fo si up ps.length) (stD s cs ps nx nd) (.tup [(r5 c m).av, .agg [I 0,I 0]]) (stK X s fo si up ps.length) (stD s cs (if b then ps.set B.Node.toNat B.Leg else ps) (nxF nx c m 6) nd2++[some (.els 4 [(r5 c m).cells]),some (.els 2 [[I 0,I 0]])]):=by
 have hcl:=a9B;have f1:R2 1 17:=n7 (by omega) (by omega);refine z9 ?_;have e0:nxF nx c m 0=nx:=rfl;have e1:ndF nd c m 0=nd:=rfl;generalize hN:nxF nx c m=N at*
 generalize hD:ndF nd c m=D at*
 refine c7.of_bodyD 7 [0] Tryz.func51 rfl (by decide) (by simp[Tryz.ntmps51]) (by simp[Tryz.ntmps51]) rfl rfl a0E rfl (by decide) rfl rfl rfl rfl fun K hK=>?_;simp only[Tryz.ntmps51,Tryz.results51];simp -dsimp;apply hK;clear hK K;intro J hJ;refine a8 fun K1 hK1=>?_;refine a2c (by decide) ?_;refine gW ?_;refine c8 ?_;refine gP [0,4,5,6,7,24,25,26] ?_;refine e9 [0,4,5,6,7,24,25] (α:=Nat) (fun k=>[(26,I k)]) (fun k=>[some (.els 3 [[.fptr X 1 0 0, .mp 2, .row 3 0 ps.length]]),ruR s fo si up 4 5,caR cs,ptR ps,nxR s (N k),ndR s (D k),some (.els 4 [c0C c]),some (.els 2 [m.cells]),some (.els 4 [[I 0,I 0,L7,I 0]]),some (.els 2 [[I 0,I 0]]),some (.els 1 a7R)]) (fun k=>k<=6) (fun k=>6-k) 0 ?_ ?_ ?_
 ·exact qp _
 ·exact gB [some 0,some 1,some 2,some 3,some 4,some 5,some 6,some 7,some 8,some 9,some 10] (hH:=by simp[a7R,e0,e1])
 rintro k k1;refine zN ?_;refine gW ?_;refine a8 fun K2 hK2=>?_;refine c3 rfl (fun hc0=>?_) (fun hc0=>?_)
 ·have hb6:k<6:=by first|omega|(simp at hc0;omega)
  have hb:=a4a hb6;have hbl:k<a7R.length:=by rw[a3U];omega
  obtain⟨hbl2,hbg⟩:=qa.1 hb;have wk:=zW k (by omega);refine c5 ?_;refine zQ (hK2 _ _ ?_);refine gP [0,4,5,6,7,24,25,26] ?_;refine a8 fun K3 hK3=>?_;refine c8 ?_;refine gW ?_ fun K hK=>by simp -dsimp [hb,hbl,hb6,hbg];exact hK
  refine gV ?_ fun K hK=>by simp -dsimp;refine cM [0,1] [2,3,4,5] (hp k hb6) ?_;simp -dsimp;exact hK
  refine zQ (hK3 _ _ ?_);refine gP [0,4,5,6,7,24,25,26] ?_;refine gV ?_ fun K hK=>by simp -dsimp [wk];exact hK
  refine zQ ?_;exact⟨k+1,by omega,by omega,gB [some 0,some 1,some 11,some 12,some 13,some 14,some 6,some 7,some 8,some 9,some 10] (hH:=by simp[a3Y])⟩
 ·have hke:k=6:=by first|omega|(simp at hc0;omega)
  subst hke;refine o5 ?_;refine zQ (hK1 _ _ ?_);refine gP [0,4,5,6,7] ?_;refine a8 fun K4 hK4=>?_;refine gW ?_ fun K hK=>by simp -dsimp;refine cM [0,1] [2,3,4,5] (p9) ?_;simp -dsimp;exact hK
  refine gW ?_;refine c3 rfl (fun hc1=>?_) (fun hc1=>?_)
  ·have hbb:b=true:=by simpa using hc1
   subst hbb;obtain⟨hB0,hB1⟩:=hB rfl;refine gE ?_ fun K hK=>by simp -dsimp [hB0,hB1];exact hK
   refine zQ (hK4 _ _ ?_);refine gP [0,4,5,6,7] ?_;refine gD ?_ fun K hK=>by simp -dsimp [f1];refine cI (hcl) ?_;simp -dsimp [f1];exact hK
   refine gW ?_;refine gU (T':=[(0, .ptr 0 0 0),(6, .ptr 6 0 0),(7, .ptr 7 0 0)]) (H':=stR X ps.length::ruR s fo si up 4 5::(stD s cs (ps.set B.Node.toNat B.Leg) (N 6) nd2++[some (.els 4 [(r5 c m).cells]),some (.els 2 [[I 0,I 0]])])) [some 0,some 1,some 11,some 12,some 13,some 14,some 8,some 9] ?_ (hH:=by simp[r5,hne]);exact d9 ⟨[some 0,some 1,some 2,some 3,some 4,some 5,some 6,some 7],rfl,by simp,by simp,by simp,by simp[N6,r9,r5,hne]⟩
  ·have hbb:b=false:=by simpa using hc1
   subst hbb;refine c5 ?_;refine zQ (hK4 _ _ ?_);refine gP [0,4,5,6,7] ?_;refine gD ?_ fun K hK=>by simp -dsimp [f1];refine cI (hcl) ?_;simp -dsimp [f1];exact hK
   refine gW ?_;refine gU (T':=[(0, .ptr 0 0 0),(6, .ptr 6 0 0),(7, .ptr 7 0 0)]) (H':=stR X ps.length::ruR s fo si up 4 5::(stD s cs ps (N 6) nd2++[some (.els 4 [(r5 c m).cells]),some (.els 2 [[I 0,I 0]])])) [some 0,some 1,some 11,some 12,some 13,some 14,some 8,some 9] ?_ (hH:=by simp[r5,hne]);exact d9 ⟨[some 0,some 1,some 2,some 3,some 4,some 5,some 6,some 7],rfl,by simp,by simp,by simp,by simp[N6,r9,r5,hne]⟩
end
end Go.Tram.Lk
end
section
namespace Go.Tram.Lk
open Go.AM Go.Proofs
section
variable (X:Value) (s:j0) (fo si up:Kvs) (cs:List Car) (ps:List Int) (nx nd:j8) (c:Car) (m:Move)
theorem c5L (hn:c.Way.length<=1000) (h:b5Y c m=false):c7 Tryz.prog 95 [.ptr 0 0 0,c.av,m.av] (stK X s fo si up ps.length) (stD s cs ps nx nd) (.tup []) (stK X s fo si up ps.length) (stD s cs ps nx nd):=by
 have hc:=N9 c.Way 133 [m.cells] (fun x=>decide (x.Rail=m.Rail)) (fun x _=>c0v m x) (by omega);rw[b5W,h]at hc;have hr:=q9 2 0;refine z9 ?_;refine oG [0] Tryz.func95 Tryz.ntmps95 Tryz.results95 ?_;intro J hJ;refine gW ?_;refine gV ?_ fun K hK=>by simp -dsimp;refine cI (hc) ?_;simp -dsimp;refine cI (hr) ?_;simp -dsimp;exact hK
 try simp only[zT,reduceIte,Nat.reduceEqDiff]
 exact⟨[some 0,some 1,some 2,some 3,some 4,some 5],rfl,by simp,by simp,by simp,by simp[N6,r9]⟩
theorem c3D (hn:c.Way.length<=1000) (h:b5Y c m=true):l8 Tryz.prog 95 [.ptr 0 0 0,c.av,m.av] (stK X s fo si up ps.length) (stD s cs ps nx nd) (b1k 2 0) (stK X s fo si up ps.length) (stD s cs ps nx nd):=by
 have hc:=N9 c.Way 133 [m.cells] (fun x=>decide (x.Rail=m.Rail)) (fun x _=>c0v m x) (by omega);rw[b5W,h]at hc;refine S4 ?_;refine l8.of_bodyG [0] Tryz.func95 rfl (by decide) (by simp[Tryz.ntmps95]) rfl rfl ?_;intro J hJ;simp only[Tryz.ntmps95,Tryz.results95];refine gW ?_;refine a1c (List.cons_ne_nil _ _) rfl (by decide) rfl rfl rfl fun K hK=>?_;simp only[List.dropLast];simp -dsimp;refine cI (hc) ?_;simp -dsimp;refine hK _ _ (v8 [] [] [none,none,none,none,none,none,none,none] (I9 2 0) rfl (by simp[a3g]) rfl (by simp) (by simp) rfl (by simp) (by simp) (by simp) ?_);clear hK K;exact⟨rfl,[some 0,some 1,some 2,some 3,some 4,some 5],rfl,by simp,by simp,by simp⟩
theorem c4J (h:c.Way.length<20):c7 Tryz.prog 99 [.ptr 0 0 0,c.av,m.av] (stK X s fo si up ps.length) (stD s cs ps nx nd) (.tup []) (stK X s fo si up ps.length) (stD s cs ps nx nd):=by
 have hd:decide ((20:Int)<=(c.Way.length:Int))=false:=decide_eq_false (by omega);have hr:=q9 6 0;refine z9 ?_;refine oG [0] Tryz.func99 Tryz.ntmps99 Tryz.results99 ?_;intro J hJ;refine gW ?_;refine gV ?_ fun K hK=>by simp -dsimp [hd];refine cI (hr) ?_;simp -dsimp [hd];exact hK
 try simp only[zT,reduceIte,Nat.reduceEqDiff]
 exact⟨[some 0,some 1,some 2,some 3,some 4,some 5],rfl,by simp,by simp,by simp,by simp[N6,r9]⟩
theorem c2a (h:20<=c.Way.length):l8 Tryz.prog 99 [.ptr 0 0 0,c.av,m.av] (stK X s fo si up ps.length) (stD s cs ps nx nd) (b1k 6 0) (stK X s fo si up ps.length) (stD s cs ps nx nd):=by
 have hd:decide ((20:Int)<=(c.Way.length:Int))=true:=decide_eq_true (by omega);refine S4 ?_;refine l8.of_bodyG [0] Tryz.func99 rfl (by decide) (by simp[Tryz.ntmps99]) rfl rfl ?_;intro J hJ;simp only[Tryz.ntmps99,Tryz.results99];refine gW ?_;refine a1c (List.cons_ne_nil _ _) rfl (by decide) rfl rfl rfl fun K hK=>?_;simp only[List.dropLast];simp -dsimp [hd];refine hK _ _ (v8 [] [] [none,none,none,none,none,none,none,none] (I9 6 0) rfl (by simp[a3g]) rfl (by simp) (by simp) rfl (by simp) (by simp) (by simp) ?_);clear hK K;exact⟨rfl,[some 0,some 1,some 2,some 3,some 4,some 5],rfl,by simp,by simp,by simp⟩
theorem c0O {B:R0} {nd2:j8} (p9:c7 Tryz.prog 100 [.ptr 0 0 0,c.av,m.av] (stK X s fo si up ps.length) (stD s cs ps nx nd) (.tup [.agg B.cells,Bo false]) (stK X s fo si up ps.length) (stD s cs ps nx nd2)):
  c7 Tryz.prog 97 [.ptr 0 0 0,c.av,m.av] (stK X s fo si up ps.length) (stD s cs ps nx nd) (.tup []) (stK X s fo si up ps.length) (stD s cs ps nx nd2):=by
 refine z9 ?_;refine oG [0] Tryz.func97 Tryz.ntmps97 Tryz.results97 ?_;intro J hJ;refine gW ?_;refine gW ?_ fun K hK=>by simp -dsimp;refine cM [0,1] [2,3,4,5] (p9) ?_;simp -dsimp;exact hK
 refine a8 fun K1 hK1=>?_;refine gW ?_;refine c3 rfl (fun hc0=>?_) (fun hc0=>?_)
 ·exact d9 (gT [some 0,some 1,some 8,some 9,some 10,some 11])
 ·simp at hc0
end
def a5A (s:j0) (cs:List Car) (c:Car) (m:Move):Nat->Prop
 |0=>endB s c m=false
 |1=>b5Y c m=false
 |2=>a4c cs c (fun o n=>H6 s m.Rail c.Profile n.Rail o.Profile)=none
 |3=>N2 s c m=true->(B5 cs c).find? (fun y=>u0 s y (E4 s c m))=none
 |4=>a4c cs c (fun _ n=>D8 s m n)=none
 |_=>c.Way.length<20
def a9W (s:j0) (cs:List Car) (c:Car) (m:Move) (kd kc:Int):Nat->Prop
 |0=>endB s c m=true/\kd=1/\kc=0
 |1=>b5Y c m=true/\kd=2/\kc=0
 |2=>a4c cs c (fun o n=>H6 s m.Rail c.Profile n.Rail o.Profile)=some kc/\kd=3
 |3=>N2 s c m=true/\∃y,(B5 cs c).find? (fun y=>u0 s y (E4 s c m))=some y/\kc=y.Name/\kd=4
 |4=>a4c cs c (fun _ n=>D8 s m n)=some kc/\kd=5
 |_=>20<=c.Way.length/\kd=6/\kc=0
theorem R7 (s:j0) (x:Sta) (c:Car) (m:Move):
  ((u7 s x c m).Kind=0/\u7 s x c m=⟨0,0⟩/\∀k<6,a5A s x.Cars c m k)∨∃i<6,(u7 s x c m).Kind≠0/\(∀k<i,a5A s x.Cars c m k)/\a9W s x.Cars c m (u7 s x c m).Kind (u7 s x c m).Car i:=by
 unfold u7
 by_cases h0:endB s c m=true
 ·exact Or.inr ⟨0,by omega,by simp[h0],fun k hk=>by omega,by simp[a9W,h0]⟩
 have p0:a5A s x.Cars c m 0:=by simpa [a5A]using h0
 rw[if_neg h0]
 by_cases h1:b5Y c m=true
 ·refine Or.inr ⟨1,by omega,by simp[h1],fun k hk=>?_,by simp[a9W,h1]⟩;have:k=0:=by omega
  rw[this];exact p0
 have p1:a5A s x.Cars c m 1:=by simpa [a5A]using h1
 rw[if_neg h1]
 cases h2:a4c x.Cars c (fun o n=>H6 s m.Rail c.Profile n.Rail o.Profile)with
 |some k2=>
  refine Or.inr ⟨2,by omega,by simp,fun k hk=>?_,by simp[a9W,h2]⟩
  match k,hk with
  |0,_=>exact p0
  |1,_=>exact p1
 |none=>
 have p2:a5A s x.Cars c m 2:=h2
 cases h3:(if N2 s c m=true then((B5 x.Cars c).find? fun o=>u0 s o (E4 s c m)).map (·.Name)else none)with
 | some k3=>
  refine Or.inr ⟨3,by omega,by simp,fun k hk=>?_,?_⟩
  ·match k,hk with
   |0,_=>exact p0
   |1,_=>exact p1
   |2,_=>exact p2
  ·by_cases hb:N2 s c m=true
   ·rw[if_pos hb,qf]at h3;obtain⟨y,hy,hn⟩:=h3;exact⟨hb,y,hy,by simpa using hn.symm,by simp⟩
   ·rw[if_neg hb]at h3;cases h3
 |none=>
 have p3:a5A s x.Cars c m 3:=by
  intro hb;rw[if_pos hb,Option.map_eq_none_iff]at h3;exact h3
 cases h4:a4c x.Cars c (fun _ n=>D8 s m n)with
 |some k4=>
  refine Or.inr ⟨4,by omega,by simp,fun k hk=>?_,by simp[a9W,h4]⟩
  match k,hk with
  |0,_=>exact p0
  |1,_=>exact p1
  |2,_=>exact p2
  |3,_=>exact p3
 |none=>
 have p4:a5A s x.Cars c m 4:=h4
 by_cases h5:20<=c.Way.length
 ·refine Or.inr ⟨5,by omega,by simp[h5],fun k hk=>?_,by simp[a9W,h5]⟩
  match k,hk with
  |0,_=>exact p0
  |1,_=>exact p1
  |2,_=>exact p2
  |3,_=>exact p3
  |4,_=>exact p4
 refine Or.inl ⟨by simp[h5],by simp[h5],fun k hk=>?_⟩
 match k,hk with
 |0,_=>exact p0
 |1,_=>exact p1
 |2,_=>exact p2
 |3,_=>exact p3
 |4,_=>exact p4
 |5,_=>show c.Way.length<20;omega
section
variable {s:j0} {fo si up:Kvs} (hru:b1C s fo si up) (X:Value) {cs:List Car} (hcs:b3U s cs) (ps:List Int) (nx nd:j8) {c:Car} {m:Move} (hv:d8 s.Plan=true) (hw:c.Way≠[]->wayB s.Plan c.Way=true) (hm:C6 s.Plan m=true) (hl:c.Way.length<=1000)
include hru hcs hv hw hm hl
theorem a2O (nx nd:j8):c7 Tryz.prog 100 [.ptr 0 0 0,c.av,m.av] (stK X s fo si up ps.length) (stD s cs ps nx nd) (.tup [.agg (E4 s c m).cells,Bo (N2 s c m)]) (stK X s fo si up ps.length) (stD s cs ps nx (a5l nd c m)):=by
 have _:=And.intro hru (And.intro hcs hl)
 by_cases hne:c.Way=[]
 ·exact b3o X s fo si up cs ps nx nd c m hne
 ·exact U3 X s fo si up cs ps nx nd c m hv hne (hw hne) hm
theorem b1j (k:Nat) (hk:k<6) (h:a5A s cs c m k):c7 Tryz.prog (RF k) [.ptr 0 0 0,c.av,m.av] (stK X s fo si up ps.length) (stD s cs ps (nxF nx c m k) (ndF nd c m k)) (.tup []) (stK X s fo si up ps.length) (stD s cs ps (nxF nx c m (k+1)) (ndF nd c m (k+1))):=by
 match k,hk,h with
 |0,_,h=>
  by_cases hne:c.Way=[]
  ·exact c4O X s fo si up cs ps nx nd c m hne
  ·exact c4V X s fo si up cs ps nx nd c m hv hne (hw hne) hm h
 |1,_,h=>exact c5L X s fo si up cs ps _ _ c m hl h
 |2,_,h=>exact b7m hru X hcs ps _ _ c m h
 | 3,_,h=>
  have p9:=a2O hru X hcs ps hv hw hm hl (a5l nx c m) nd
  by_cases hb:N2 s c m=true
  ·have hne:c.Way≠[]:=by intro e;simp[N2,e]at hb
   have hh:∀y∈B5 cs c,u0 s y (E4 s c m)=false:=by simpa using h hb
   cases hk:V5 cs c.Name with
   |some c'=>exact b5d X hcs ps _ _ hv hne (hw hne) hm hb hk hh
   |none=>exact b4C X hcs ps _ _ hv hne (hw hne) hm hb hk hh
  ·have hb':N2 s c m=false:=by simpa using hb
   rw[hb']at p9;exact c0O X s fo si up cs ps _ _ c m p9
 |4,_,h=>exact a9A hru X hcs ps _ _ c m h
 |5,_,h=>exact c4J X s fo si up cs ps _ _ c m h
theorem b9N (k:Nat) (hk:k<6) {kd kc:Int} (h:a9W s cs c m kd kc k):l8 Tryz.prog (RF k) [.ptr 0 0 0,c.av,m.av] (stK X s fo si up ps.length) (stD s cs ps (nxF nx c m k) (ndF nd c m k)) (b1k kd kc) (stK X s fo si up ps.length) (stD s cs ps (nxF nx c m (k+1)) (ndF nd c m (k+1))):=by
 match k,hk,h with
 |0,_,⟨g0,g1,g2⟩=>subst g1 g2;exact c4M X s fo si up cs ps nx nd c m hv hw hm g0
 |1,_,⟨g0,g1,g2⟩=>subst g1 g2;exact c3D X s fo si up cs ps _ _ c m hl g0
 |2,_,⟨g0,g1⟩=>subst g1;exact b7P hru X hcs ps _ _ c m g0
 |3,_,⟨hb,y,hy,h1,h2⟩=>
  subst h1 h2;have hne:c.Way≠[]:=by intro e;simp[N2,e]at hb
  cases hk:V5 cs c.Name with
  |some c'=>exact b4m X hcs ps _ _ hv hne (hw hne) hm hb hk hy
  |none=>exact b6n X hcs ps _ _ hv hne (hw hne) hm hb hk hy
 |4,_,⟨g0,g1⟩=>subst g1;exact b0p hru X hcs ps _ _ c m g0
 |5,_,⟨g0,g1,g2⟩=>subst g1 g2;exact c2a X s fo si up cs ps _ _ c m g0
end
end Go.Tram.Lk
end
section
namespace Go.Tram.Lk
open Go.AM Go.Proofs
theorem b6P {P:Program} {f:FuncId} {args args':List AV} {Hk Hd Hk' Hn:Hp} {res:AV} (h:c7 P f args' Hk Hd res Hk' Hn) (hl:args.length=args'.length)
  (hr:∀(i:Nat) c c',args[i]?=some c->args'[i]?=some c'->c=c'∨(c.noRef 2=true/\∀(w:World) (S:Nat->Prop) (y:Value),r8 w S c y->r8 w S c' y)):c7 P f args Hk Hd res Hk' Hn:=by
 obtain⟨h1,h2,h3⟩:=h;refine⟨h1,h2,fun S0 w ρ vs hh hlen hrep=>h3 S0 w ρ vs hh (by rw[<-hl];exact hlen) fun i c x hc hx=>?_⟩;have hil:i<args.length:=by rw[hl];exact(qa.1 hc).1
 have h0:=qc hil
 rcases hr i _ c h0 hc with e|⟨e1,e2⟩
 ·rw[<-e];exact hrep i _ x h0 hx
 ·exact .pure _ _ (e2 _ _ _ (B7 2 _ _ e1 (hrep i _ x h0 hx)))
def E6:j0:=⟨l5,[⟨100,0⟩],[]⟩
theorem b1q:Q2 E6=true:=by
 have hv:=b0S;unfold Q2;rw[show E6.Plan=l5 from rfl,hv]
 decide+kernel
abbrev b5b:AV:= .agg [.lst 5 (l5.Nodes.map Node.cells), .lst 5 (l5.Rails.map Rail.cells), .full 2 [[I 100,I 0]],L7]
theorem b7N:c7 Tryz.prog 10 [b5b] [] [] (.tup [.ptr 0 0 0,I 0]) [] (b3M E6 [] [] ⟨[],x9 l5⟩):=by
 have h:=b4K E6 b1q (by decide+kernel);refine b6P h rfl fun i c c' h1 h2=>?_
 match i,h1,h2 with
 |0,h1,h2=>
  simp only[List.getElem?_cons_zero,qb]at h1 h2;subst h1 h2;refine Or.inr ⟨by rfl,fun w S y hy=>?_⟩;have e:wkN 1 6 b5b=E6.av:=by rfl
  rw[<-e];exact a9J 1 6 _ _ hy
@[simp] theorem c8A:b3Z Tryz.prog 32=true:=by kernel_rfl
@[simp] theorem c8X:b3Z Tryz.prog 99=true:=by kernel_rfl
theorem L8 (x:List AV):a9 Tryz.prog 38 [.iptr [.iptr x]] (Bo true):=by
 refine oB Tryz.func38 Tryz.ntmps38 Tryz.results38 ?_;refine aW ?_;refine aW ?_;exact a6 (by simp)
end Go.Tram.Lk
end
section
namespace Go.Tram.Lk
open Go.AM Go.Proofs
theorem c2Z {c:Car} (h:c.Way=[]):(c0A c).noRef 2=true/\∀(w:World) (S:Nat->Prop) (y:Value),r8 w S (c0A c) y->r8 w S c.av y:=by
 refine⟨by rfl,fun w S y hy=>?_⟩;have e:wkN 2 6 (c0A c)=c.av:=by
  obtain⟨n,p,l,f⟩:=c;simp only at h;subst h
  rfl
 rw[<-e];exact a9J 2 6 _ _ hy
theorem c0k {c:Car} {m:Move} (h:c.Way=[]):∀(i:Nat) (a a':AV),[AV.ptr 0 0 0,c0A c,m.av][i]?=some a->[AV.ptr 0 0 0,c.av,m.av][i]?=some a'->a=a'∨(a.noRef 2=true/\∀(w:World) (S:Nat->Prop) (y:Value),r8 w S a y->r8 w S a' y)
 |0,a,a',h1,h2=>Or.inl (by simp only[List.getElem?_cons_zero,qb]at h1 h2;rw[<-h1,<-h2])
 |1,a,a',h1,h2=>by
  simp only[List.getElem?_cons_succ,List.getElem?_cons_zero,qb]at h1 h2;subst h1 h2;exact Or.inr (c2Z h)
 |2,a,a',h1,h2=>Or.inl (by simp only[List.getElem?_cons_succ,List.getElem?_cons_zero,qb]at h1 h2;rw[<-h1,<-h2])
 |n+3,a,a',h1,h2=>by simp at h1
theorem a7x {P:Program} {f:FuncId} {c:Car} {m:Move} {K D K' D':Hp} {res:AV} (h:c.Way=[]) (h1:c7 P f [.ptr 0 0 0,c.av,m.av] K D res K' D'):c7 P f [.ptr 0 0 0,c0A c,m.av] K D res K' D':=
 b6P h1 rfl (c0k h)
theorem c2T {P:Program} {f:FuncId} {c:Car} {m:Move} {K D K' D':Hp} {pv:Value} (h:c.Way=[]) (h1:l8 P f [.ptr 0 0 0,c.av,m.av] K D pv K' D'):l8 P f [.ptr 0 0 0,c0A c,m.av] K D pv K' D':=by
 obtain⟨g1,g2,g3⟩:=h1;refine⟨g1,g2,fun S0 w ρ vs hh hlen hrep=>g3 S0 w ρ vs hh hlen fun i a' x hc hx=>?_⟩;have hil:i<[AV.ptr 0 0 0,c0A c,m.av].length:=(qa.1 hc).1;have h0:=qc hil
 rcases c0k h i _ a' h0 hc with e|⟨e1,e2⟩
 ·rw[<-e];exact hrep i _ x h0 hx
 ·exact .pure _ _ (e2 _ _ _ (B7 2 _ _ e1 (hrep i _ x h0 hx)))
abbrev G7 (r:b3q):AV:= .agg [I r.Kind,I r.Car]
abbrev grR (cl:List AV) (r:b3q):Hp:=[some (.els 4 [cl]),some (.els 2 [[I r.Kind,I r.Car]])]
abbrev a3M:List AV:=[I 0,I 0,L7,I 0]
section
variable {s:j0} {fo si up:Kvs} (hru:b1C s fo si up) {cs:List Car} (hcs:b3U s cs) {ps:List Int} (nx nd:j8) {c:Car} {m:Move} (hs:Q2 s=true) (hpl:ps.length=s.Plan.Nodes.length) (hw:c.Way≠[]->wayB s.Plan c.Way=true) (hm:C6 s.Plan m=true) (hl:c.Way.length<=1000)
include hru hcs hs hpl hw hm hl
theorem a4E (hne:c.Way≠[]) (hr:(u7 s ⟨cs,ps⟩ c m).Kind=0):∃nx' nd',∀X:Value,c7 Tryz.prog 51 [.ptr 0 0 0,c.av,m.av] (stK X s fo si up ps.length) (stD s cs ps nx nd) (.tup [(r5 c m).av,G7 ⟨0,0⟩]) (stK X s fo si up ps.length) (stD s cs (a3C s c m ps) nx' nd'++grR (r5 c m).cells ⟨0,0⟩):=by
 have hv:=(l9 hs).1
 rcases R7 s ⟨cs,ps⟩ c m with⟨_,_,h⟩|⟨i,_,h,_⟩
 ·refine⟨_,_,fun X=>b2w X s fo si up cs ps nx nd c m hne hl (fun k hk=>id (b1j hru X hcs ps nx nd hv hw hm hl k hk (h k hk))) (id (a2O hru X hcs ps hv hw hm hl _ _)) fun hb=>?_⟩;have:=a4D hs hw hm hb;exact⟨this.1,by have:=this.2.1;omega⟩
 ·exact absurd hr h
theorem a4M (hne:c.Way≠[]) (hr:(u7 s ⟨cs,ps⟩ c m).Kind≠0):∃nx' nd',∀X:Value,c7 Tryz.prog 51 [.ptr 0 0 0,c.av,m.av] (stK X s fo si up ps.length) (stD s cs ps nx nd) (.tup [.agg a3M,G7 (u7 s ⟨cs,ps⟩ c m)]) (stK X s fo si up ps.length) (stD s cs ps nx' nd'++grR a3M (u7 s ⟨cs,ps⟩ c m)):=by
 have _:=hpl;have hv:=(l9 hs).1
 rcases R7 s ⟨cs,ps⟩ c m with⟨h,_⟩|⟨i,hi,_,hp,hf⟩
 ·exact absurd h hr
 ·exact⟨_,_,fun X=>b2E X s fo si up cs ps nx nd c m hi (fun k hk=>id (b1j hru X hcs ps nx nd hv hw hm hl k (by omega) (hp k hk))) (id (b9N hru X hcs ps nx nd hv hw hm hl i hi hf))⟩
theorem b0D (hne:c.Way=[]) (hr:(u7 s ⟨cs,ps⟩ c m).Kind=0):∃nx' nd',∀X:Value,c7 Tryz.prog 51 [.ptr 0 0 0,(c0A c),m.av] (stK X s fo si up ps.length) (stD s cs ps nx nd) (.tup [(r5 c m).av,G7 ⟨0,0⟩]) (stK X s fo si up ps.length) (stD s cs (a3C s c m ps) nx' nd'++grR (r5 c m).cells ⟨0,0⟩):=by
 have hv:=(l9 hs).1
 rcases R7 s ⟨cs,ps⟩ c m with⟨_,_,h⟩|⟨i,_,h,_⟩
 ·refine⟨_,_,fun X=>b2y X s fo si up cs ps nx nd c m hne (fun k hk=>a7x hne (b1j hru X hcs ps nx nd hv hw hm hl k hk (h k hk))) (a7x hne (a2O hru X hcs ps hv hw hm hl _ _)) fun hb=>?_⟩;have:=a4D hs hw hm hb;exact⟨this.1,by have:=this.2.1;omega⟩
 ·exact absurd hr h
theorem a9w (hne:c.Way=[]) (hr:(u7 s ⟨cs,ps⟩ c m).Kind≠0):∃nx' nd',∀X:Value,c7 Tryz.prog 51 [.ptr 0 0 0,(c0A c),m.av] (stK X s fo si up ps.length) (stD s cs ps nx nd) (.tup [.agg a3M,G7 (u7 s ⟨cs,ps⟩ c m)]) (stK X s fo si up ps.length) (stD s cs ps nx' nd'++grR a3M (u7 s ⟨cs,ps⟩ c m)):=by
 have _:=hpl;have hv:=(l9 hs).1
 rcases R7 s ⟨cs,ps⟩ c m with⟨h,_⟩|⟨i,hi,_,hp,hf⟩
 ·exact absurd h hr
 ·exact⟨_,_,fun X=>b3k X s fo si up cs ps nx nd c m hi (fun k hk=>a7x hne (b1j hru X hcs ps nx nd hv hw hm hl k (by omega) (hp k hk))) (c2T hne (b9N hru X hcs ps nx nd hv hw hm hl i hi hf))⟩
end
end Go.Tram.Lk
end
section
namespace Go.Tram.Lk
open Go.AM Go.Proofs
abbrev lkK:Hp:=[some (.els 1 [[.ptr 1 0 0]])]
abbrev lkD (s:j0) (fo si up:Kvs) (nx nd:j8) (cs:List Car) (ps:List Int):Hp:=[some (.els 3 [[.ptr 2 0 0, .mp 3, .row 4 0 ps.length]]),ruR s fo si up 5 6,caR cs,ptR ps,nxR s nx,ndR s nd]
theorem b5N (s:j0) (nx nd:j8) (x:Sta):b3M s (nxK s nx) (ndK s nd) x=lkK++lkD s (Z4 s) (O2 (o7 s)) (R4 (o7 s)) nx nd x.Cars x.Points:=rfl
section
variable (s:j0) (fo si up:Kvs) (nx nd:j8) (cs:List Car) (ps:List Int)
theorem P1 (name:Int) (hn:inr name 1 1000000=false):c7 Tryz.prog 50 [.ptr 0 0 0,I name] lkK (lkD s fo si up nx nd cs ps) (.tup [.agg a3M,I 2]) lkK (lkD s fo si up nx nd cs ps):=by
 have hw:=x4 name 1 1000000;rw[hn]at hw;refine oG [0] Tryz.func50 Tryz.ntmps50 Tryz.results50 ?_;intro J hJ;refine gW ?_;refine a8 fun K1 hK1=>?_;refine gW ?_ fun K hK=>by simp -dsimp;refine cI (L8 _) ?_;simp -dsimp;exact hK
 refine c3 rfl (fun hc0=>?_) (fun hc0=>?_)
 ·simp at hc0
 ·refine c5 ?_;refine zQ (hK1 _ _ ?_);refine gP [0,1,4] ?_;refine a8 fun K2 hK2=>?_;refine gW ?_ fun K hK=>by simp -dsimp;refine cI (hw) ?_;simp -dsimp;exact hK
  refine c3 rfl (fun hc1=>?_) (fun hc1=>?_)
  ·refine gW ?_;refine gU (T':=[(0, .ptr 0 0 0),(4, .iptr a3M),(5,I 2)]) (H':=lkK++lkD s fo si up nx nd cs ps) [some 0,some 1,some 2,some 3,some 4,some 5,some 6] ?_;exact d9 (gT [some 0,some 1,some 2,some 3,some 4,some 5,some 6])
  ·simp at hc1
theorem F2 (name:Int) (hn:inr name 1 1000000=true) (hc:V5 cs name=none):c7 Tryz.prog 50 [.ptr 0 0 0,I name] lkK (lkD s fo si up nx nd cs ps) (.tup [.agg a3M,I 4]) lkK (lkD s fo si up nx nd cs ps):=by
 have hw:=x4 name 1 1000000;rw[hn]at hw;have hcc:A4 (o3 cs) (kOf name)=none:=by rw[k7,hc];rfl
 refine oG [0] Tryz.func50 Tryz.ntmps50 Tryz.results50 ?_;intro J hJ;refine gW ?_;refine a8 fun K1 hK1=>?_;refine gW ?_ fun K hK=>by simp -dsimp;refine cI (L8 _) ?_;simp -dsimp;exact hK
 refine c3 rfl (fun hc0=>?_) (fun hc0=>?_)
 ·simp at hc0
 ·refine c5 ?_;refine zQ (hK1 _ _ ?_);refine gP [0,1,4] ?_;refine a8 fun K2 hK2=>?_;refine gW ?_ fun K hK=>by simp -dsimp;refine cI (hw) ?_;simp -dsimp;exact hK
  refine c3 rfl (fun hc1=>?_) (fun hc1=>?_)
  ·simp at hc1
  ·refine c5 ?_;refine zQ (hK2 _ _ ?_);refine gP [0,1,4] ?_;refine gW ?_ fun K hK=>by simp -dsimp;refine d7 (.tup [.agg a3M,Bo false]) (fun hm=>by rw[hcc];rfl) ?_;simp -dsimp;exact hK
   refine a8 fun K3 hK3=>?_;refine gW ?_;refine c3 rfl (fun hc2=>?_) (fun hc2=>?_)
   ·refine gW ?_;refine gU (T':=[(0, .ptr 0 0 0),(4, .iptr a3M),(5,I 4)]) (H':=lkK++lkD s fo si up nx nd cs ps) [some 0,some 1,some 2,some 3,some 4,some 5,some 6] ?_;exact d9 (gT [some 0,some 1,some 2,some 3,some 4,some 5,some 6])
   ·simp at hc2
theorem Q3 (name:Int) (hn:inr name 1 1000000=true) {c:Car} (hc:V5 cs name=some c):c7 Tryz.prog 50 [.ptr 0 0 0,I name] lkK (lkD s fo si up nx nd cs ps) (.tup [c.av,I 0]) lkK (lkD s fo si up nx nd cs ps):=by
 have hw:=x4 name 1 1000000;rw[hn]at hw;have hcc:A4 (o3 cs) (kOf name)=some c.av:=by rw[k7,hc];rfl
 refine oG [0] Tryz.func50 Tryz.ntmps50 Tryz.results50 ?_;intro J hJ;refine gW ?_;refine a8 fun K1 hK1=>?_;refine gW ?_ fun K hK=>by simp -dsimp;refine cI (L8 _) ?_;simp -dsimp;exact hK
 refine c3 rfl (fun hc0=>?_) (fun hc0=>?_)
 ·simp at hc0
 ·refine c5 ?_;refine zQ (hK1 _ _ ?_);refine gP [0,1,4] ?_;refine a8 fun K2 hK2=>?_;refine gW ?_ fun K hK=>by simp -dsimp;refine cI (hw) ?_;simp -dsimp;exact hK
  refine c3 rfl (fun hc1=>?_) (fun hc1=>?_)
  ·simp at hc1
  ·refine c5 ?_;refine zQ (hK2 _ _ ?_);refine gP [0,1,4] ?_;refine gW ?_ fun K hK=>by simp -dsimp;refine d7 (.tup [c.av,Bo true]) (fun hm=>by rw[hcc];rfl) ?_;simp -dsimp;exact hK
   refine a8 fun K3 hK3=>?_;refine gW ?_;refine c3 rfl (fun hc2=>?_) (fun hc2=>?_)
   ·simp at hc2
   ·refine c5 ?_;refine zQ (hK3 _ _ ?_);refine gP [0,4,6] ?_;refine gW ?_;refine gU (T':=[(0, .ptr 0 0 0),(4, .iptr c.cells),(5,I 0)]) (H':=lkK++lkD s fo si up nx nd cs ps) [some 0,some 1,some 2,some 3,some 4,some 5,some 6] ?_;exact d9 (gT [some 0,some 1,some 2,some 3,some 4,some 5,some 6])
end
end Go.Tram.Lk
end
