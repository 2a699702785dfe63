import Derived.Test.YtlgdbddegopphaaGreatN5
import Derived.Test.YtlgdbddegopphaaGreatLay
set_option maxRecDepth 100000
set_option maxHeartbeats 8000000
set_option linter.unusedVariables false
set_option linter.unusedSimpArgs false
section
namespace Go.Tram
open Go.AM Go.Proofs
theorem b5q (l:List F8):(l.map F8.cells).all (fun e=>e.all V8)=true:=by simp[V8]
@[simp high] theorem b9P (l:List F8) (g:List (Option Nat)) (n:Nat):(l.map F8.cells).map (fun e=>e.map (o9 g n))=l.map F8.cells:=v8 (fun x h=>O3 h g n) (b5q l)
@[simp high] theorem b9y (l:List F8) (H:Hp) (n:Nat):(l.map F8.cells).map (fun e=>e.map (J4 H n))=l.map F8.cells:=v8 (fun x h=>N1 h H n) (b5q l)
theorem a6I (l:List F8):(l.map F8.cells).take l.length=l.map F8.cells:=List.take_of_length_le (by simp)
def D5 (l:List Profile):Bool:=decide (1≤l.length)&&(decide (l.length≤6)&&l.all z5)
theorem b5G (p:Plan) (l:List Profile) (hv:d8 p=true) (h:D5 l=false) (hn:l.length≤100000):a8 Tryz.prog 68 [p.av, .lst 2 (l.map Profile.cells)] (.tup [.v (.slice none 0 0),I 2]):=by
 refine oB Tryz.func68 Tryz.ntmps68 Tryz.results68 ?_;refine aW ?_;refine aW ?_ fun K hK=>by simp -dsimp;refine cI (b5h p hv) ?_;simp -dsimp;exact hK
 refine a5 fun K1 hK1=>?_;refine aW ?_ fun K hK=>by simp -dsimp;refine cY (fun hm=>a5T l hn) ?_;simp -dsimp;exact hK
 refine a6 rfl (fun hc0=>?_) (fun hc0=>?_)
 ·refine aW ?_;exact a7 (by simp)
 ·exfalso;have hb:D5 l=true:=by simp at hc0;simp[D5];exact⟨by omega,by omega,hc0.2⟩
  rw[h]at hb;cases hb
theorem a5n (p:Plan) (l:List Profile) (hv:d8 p=true) (h:D5 l=true) (hN:p.Rails.length≤20):a8 Tryz.prog 68 [p.av, .lst 2 (l.map Profile.cells)] (.tup [.lst 4 ((A2 p l).map F8.cells),I 0]):=by
 have hl:1≤l.length∧l.length≤6∧∀x∈l,z5 x=true:=by simpa [D5]using h
 obtain⟨hl1,hl6,hpr⟩:=hl;have hpa:l.all z5=true:=by simpa using hpr
 have hcp:=a5T l (by omega);rw[hpa]at hcp;have hb:=b5h p hv;have hcf:=fun a x b y=>c1n p a x b y hv;generalize a3f p=sh at hb hcf;refine oB Tryz.func68 Tryz.ntmps68 Tryz.results68 ?_;refine aW ?_;refine aW ?_ fun K hK=>by simp -dsimp;refine cI (hb) ?_;simp -dsimp;exact hK
 refine a5 fun K1 hK1=>?_;refine aW ?_ fun K hK=>by simp -dsimp;refine cY (fun hm=>hcp) ?_;simp -dsimp;exact hK
 refine a6 rfl (fun hc0=>?_) (fun hc0=>?_)
 ·simp at hc0;omega
 ·refine b8 ?_;refine zQ (hK1 _ _ ?_);refine aP [1,2,6] ?_;refine aW ?_;refine a5 fun K2 hK2=>?_;refine aW ?_;refine a9 ?_;refine aP [1,2,6,8,39,40] ?_;refine c5 [1,2,6,39] (α:=Nat) (fun a=>[(40,I a),(8, .row 1 0 (fA p l a).length)]) (fun a=>[some (.els 2 [p.cells]),some (.els 4 ((fA p l a).map F8.cells))]) (fun a=>a≤p.Rails.length) (fun a=>p.Rails.length-a) 0 ?_ ?_ ?_
  ·simp
  ·exact(Y9 8 4 (by simp)).trans (e8 [some 0,some 1] rfl (by simp[fA]) (by simp[fA]))
  rintro a a1;refine zN ?_;refine aW ?_;refine a5 fun K3 hK3=>?_;refine a6 rfl (fun hc1=>?_) (fun hc1=>?_)
  ·skip
   try simp at hc1
   have wa:=zW a (by omega);refine b8 ?_;refine zQ (hK3 _ _ ?_);refine aP [1,2,6,8,39,40] ?_;refine a5 fun K4 hK4=>?_;refine a9 ?_;refine aW ?_;refine aW ?_;refine a9 ?_;refine aP [1,2,6,8,9,39,40,43,44,45] ?_;refine c5 [1,2,6,9,39,40,43,44] (α:=Nat) (fun i=>[(45,I i),(8, .row 1 0 (fA p l a++fI p l a i).length)]) (fun i=>[some (.els 2 [p.cells]),some (.els 4 ((fA p l a++fI p l a i).map F8.cells))]) (fun i=>i≤l.length) (fun i=>l.length-i) 0 ?_ ?_ ?_
   ·simp
   ·exact e8 [some 0,some 1] rfl (by simp[fI]) (by simp[fI])
   rintro i i1;refine zN ?_;refine aW ?_;refine a5 fun K5 hK5=>?_;refine a6 rfl (fun hc2=>?_) (fun hc2=>?_)
   ·skip
    try simp at hc2
    have wi:=zW i (by omega);obtain⟨x,hx⟩:=gx (l:=l) (i:=i) hc2;have px:=hpr x (List.mem_of_getElem? hx);refine b8 ?_;refine zQ (hK5 _ _ ?_);refine aP [1,2,6,8,9,39,40,43,44,45] ?_;refine a5 fun K6 hK6=>?_;refine a9 ?_;refine aW ?_ fun K hK=>by simp -dsimp [hx];exact hK
    refine aW ?_;refine a9 ?_;refine aP [1,2,6,8,9,10,11,12,39,40,43,44,45] ?_;refine c5 [1,2,6,9,10,11,39,40,43,44,45] (α:=Nat) (fun d=>[(12,I ((a:Int)+d)),(8, .row 1 0 (fA p l a++fI p l a i++fB p l a i d).length)]) (fun d=>[some (.els 2 [p.cells]),some (.els 4 ((fA p l a++fI p l a i++fB p l a i d).map F8.cells)),some (.els 2 [x.cells])]) (fun d=>d≤p.Rails.length-a) (fun d=>p.Rails.length-a-d) 0 ?_ ?_ ?_
    ·simp
    ·exact e8 [some 0,some 1,some 2] rfl (by simp[fB]) (by simp[fB])
    rintro d d1;refine zN ?_;refine a5 fun K7 hK7=>?_;refine aW ?_;refine a6 rfl (fun hc3=>?_) (fun hc3=>?_)
    ·skip
     try simp at hc3
     have wd:IntKind.i64.wrap ((a:Int)+d+1)=(a:Int)+d+1:=c4 (by omega) (by omega);refine b8 ?_;refine zQ (hK7 _ _ ?_);refine aP [1,2,6,8,9,10,11,12,39,40,43,44,45] ?_;refine a5 fun K8 hK8=>?_;refine a9 ?_;refine aW ?_;refine a9 ?_;refine aP [1,2,6,8,9,10,11,12,39,40,43,44,45,58,59,60] ?_;refine c5 [1,2,6,9,10,11,12,39,40,43,44,45,58,59] (α:=Nat) (fun k=>[(60,I k),(8, .row 1 0 (fA p l a++fI p l a i++fB p l a i d++fK p l a i (a+d) k).length)]) (fun k=>[some (.els 2 [p.cells]),some (.els 4 ((fA p l a++fI p l a i++fB p l a i d++fK p l a i (a+d) k).map F8.cells)),some (.els 2 [x.cells])]) (fun k=>k≤l.length) (fun k=>l.length-k) 0 ?_ ?_ ?_
     ·simp
     ·exact e8 [some 0,some 1,some 2] rfl (by simp[fK]) (by simp[fK])
     rintro k k1;have hbd:=b0z p l (N:=20) (a:=a) (i:=i) (d:=d) (k:=k) hN (by omega) hc1 i1 (by omega) k1;have hsK:=b3z p l a i (a+d) k;have hsB:=b5F p l a i d;have hsI:=a4v p l a i;generalize hout:fA p l a++fI p l a i++fB p l a i d++fK p l a i (a+d) k=out at hbd ⊢;have f1:Q5 (out.length+1) 33:=l8 (by omega) (by omega);have hot:=a6I out;refine zN ?_;refine aW ?_;refine a5 fun K9 hK9=>?_;refine a6 rfl (fun hc4=>?_) (fun hc4=>?_)
     ·skip
      try simp at hc4
      have wk:=zW k (by omega);obtain⟨y,hy⟩:=gx (l:=l) (i:=k) hc4;have py:=hpr y (List.mem_of_getElem? hy);have hF:b1a p l a i (a+d) k=((decide ((a:Int)<a+d)||decide (i≤k))&&W8 p a x ((a:Int)+d) y):=by unfold b1a;rw[b0S hx,b0S hy,Int.natCast_add,show decide (a<a+d)=decide ((a:Int)<a+d)from decide_eq_decide.2 (by omega)]
      refine b8 ?_;refine zQ (hK9 _ _ ?_);refine aP [1,2,6,8,9,10,11,12,39,40,43,44,45,58,59,60] ?_;refine a5 fun K10 hK10=>?_;refine a9 ?_;refine aW ?_ fun K hK=>by simp -dsimp [hy];exact hK
      refine aW ?_ fun K hK=>by simp -dsimp;refine cY (fun hm=>hcf a x ((a:Int)+d) y (g6.2 (by omega)) (g6.2 (by omega)) px py) ?_;simp -dsimp;exact hK
      refine a6 rfl (fun hc5=>?_) (fun hc5=>?_)
      ·have hh:b1a p l a i (a+d) k=true:=hF.trans hc5;refine aV ?_ fun K hK=>by simp -dsimp [f1];exact hK
       refine zQ (hK10 _ _ ?_);refine aP [1,2,6,8,9,10,11,12,39,40,43,44,45,58,59,60] ?_;refine aV ?_ fun K hK=>by simp -dsimp [wk];exact hK
       refine zQ ?_;exact⟨k+1,by omega,by omega,e8 [some 0,some 4,some 2] rfl (by simp[hsK,hh,←hout];omega) (by simp[hsK,hh,←List.append_assoc,hout,hot])⟩
      ·have hh:b1a p l a i (a+d) k=false:=hF.trans hc5;refine b8 ?_;refine zQ (hK10 _ _ ?_);refine aP [1,2,6,8,9,10,11,12,39,40,43,44,45,58,59,60] ?_;refine aV ?_ fun K hK=>by simp -dsimp [wk];exact hK
       refine zQ ?_;exact⟨k+1,by omega,by omega,e8 [some 0,some 1,some 2] rfl (by simp only[hsK,hh,Bool.false_eq_true,if_false,List.append_nil,hout];simp) (by simp only[hsK,hh,Bool.false_eq_true,if_false,List.append_nil,hout];simp[hot])⟩
     ·skip
      try simp at hc4
      have hke:k=l.length:=by omega
      subst hke;refine c9 ?_;refine zQ (hK8 _ _ ?_);refine aP [1,2,6,8,9,10,11,12,39,40,43,44,45] ?_;refine aV ?_ fun K hK=>by simp -dsimp [wd];exact hK
      refine zQ ?_;exact⟨d+1,by omega,by omega,e8 [some 0,some 1,some 2] rfl (by simp[hsB,←hout,Int.add_assoc]) (by simp[hsB,←hout])⟩
    ·skip
     try simp at hc3
     have hde:d=p.Rails.length-a:=by omega
     subst hde;refine c9 ?_;refine zQ (hK6 _ _ ?_);refine aP [1,2,6,8,9,39,40,43,44,45] ?_;refine aV ?_ fun K hK=>by simp -dsimp [wi];exact hK
     refine zQ ?_;exact⟨i+1,by omega,by omega,e8 [some 0,some 1] rfl (by simp[a4v]) (by simp[a4v])⟩
   ·skip
    try simp at hc2
    have hie:i=l.length:=by omega
    subst hie;refine c9 ?_;refine zQ (hK4 _ _ ?_);refine aP [1,2,6,8,39,40] ?_;refine aV ?_ fun K hK=>by simp -dsimp [wa];exact hK
    refine zQ ?_;exact⟨a+1,by omega,by omega,e8 [some 0,some 1] rfl (by simp[a7r]) (by simp[a7r])⟩
  ·skip
   try simp at hc1
   have hae:a=p.Rails.length:=by omega
   subst hae;refine c9 ?_;refine zQ (hK2 _ _ ?_);refine aP [8] ?_;refine aW ?_;exact a7 (by simp[A2,a6I])
end Go.Tram
end
section
namespace Go.Tram.Lk
open Go.AM
structure Car where
 Name:Int
 Profile:Int
 Way:List Move
 Front:Int
 deriving DecidableEq,Inhabited
structure j5 where
 Plan:Plan
 Profiles:List Profile
 Singles:List (List Move)
 deriving Inhabited
structure b3t where
 Kind:Int
 Car:Int
 deriving DecidableEq,Inhabited
@[simp] def Car.cells (c:Car):List AV:=[I c.Name,I c.Profile,a4W c.Way,I c.Front]
abbrev Car.av (c:Car):AV:= .agg c.cells
@[simp] def r4 (l:List Move):List AV:=[a4W l]
@[simp] def j5.cells (s:j5):List AV:=[.lst 5 (s.Plan.Nodes.map Node.cells), .lst 5 (s.Plan.Rails.map Rail.cells), .lst 2 (s.Profiles.map Profile.cells), .lst 1 (s.Singles.map r4)]
abbrev j5.av (s:j5):AV:= .agg s.cells
@[simp] def b3t.cells (r:b3t):List AV:=[I r.Kind,I r.Car]
abbrev b3t.av (r:b3t):AV:= .agg r.cells
def a7s (p:Plan) (l:List (List Move)):Bool:=l.all (fun x=>inr x.length 1 100)&&(l.flatten.all (D3 p)&&decide (l.flatten.map (·.Rail)).Nodup)
def P7 (s:j5):Bool:=d8 s.Plan&&(D5 s.Profiles&&(decide (s.Singles.length≤30)&&a7s s.Plan s.Singles))
def a0E (s:j5) (r:Int):Option Nat:=s.Singles.findIdx? fun l=>l.any fun m=>decide (m.Rail=r)
def T4 (s:j5) (m:Move):Int:=match a0E s m.Rail with|some i=>i|none=>-1
def X3 (s:j5) (m:Move):Int:=match a0E s m.Rail with|some i=>if s.Singles.flatten.contains m then 1 else 2|none=>0
def G7 (s:j5) (m n:Move):Bool:=decide (0≤T4 s m)&&(decide (T4 s m=T4 s n)&&decide (X3 s m≠X3 s n))
def G0 (s:j5) (a x b y:Int):Bool:=(A2 s.Plan s.Profiles).any fun f=>decide (f=⟨a,x,b,y⟩)||decide (f=⟨b,y,a,x⟩)
def A7 (l:List Move):List Int:=l.map (·.Rail)
def a9Y (s:j5) (l:List Move):Bool:=decide (1≤l.length)&&(decide (l.length≤20)&&(decide (A7 l).Nodup&&wayB s.Plan l))
def a1W (s:j5) (c:Car):Bool:=inr c.Name 1 1000000&&(inr c.Profile 0 (s.Profiles.length-1)&&(a9Y s c.Way&&inr c.Front 0 (c.Way.length-1)))
def F0 (s:j5) (c:Car):List R0:=if wayB s.Plan c.Way then X5 s.Plan c.Way (c.Way.length-1)else []
def z7 (p:Plan):List Int:=p.Nodes.map fun n=>if n.Kind=4 then 1 else 0
def a0Q (s:j5) (a b:Car):Bool:=a.Way.all fun m=>b.Way.all fun n=> !G0 s m.Rail a.Profile n.Rail b.Profile&& !G7 s m n
structure Sta where
 Cars:List Car
 Points:List Int
 deriving DecidableEq,Inhabited
def Srt (l:List Car):Prop:=(l.map (·.Name)).Pairwise (· < ·)
def a0g (l:List Car) (n:Int):Option Car:=l.find? fun c=>decide (c.Name=n)
def C4 (c:Car):Move:=c.Way.getLast?.getD default
def K0 (s:j5) (c:Car) (m:Move):Bool:=decide (c.Way≠[])&&(F9 s.Plan (C4 c) m&&J5 s.Plan (C4 c))
def D8 (s:j5) (c:Car) (m:Move):R0:=if K0 s c m then L2 s.Plan (C4 c) m else⟨0,0⟩
def r9 (s:j5) (c:Car) (x:R0):Bool:=(F0 s c).any fun y=>decide (y.Node=x.Node)&&decide (y.Leg≠x.Leg)
def endB (s:j5) (c:Car) (m:Move):Bool:=decide (c.Way≠[])&& !F9 s.Plan (C4 c) m
def b6h (c:Car) (m:Move):Bool:=(A7 c.Way).contains m.Rail
def a5k (l:List Car) (c:Car) (f:Car→Move→Bool):Option Int:=(l.find? fun x=>decide (x.Name≠c.Name)&&x.Way.any (f x)).map (·.Name)
def C1 (l:List Car) (c:Car):List Car:=l.takeWhile (fun x=>decide (x.Name<c.Name))++c::l.dropWhile (fun x=>decide (x.Name≤c.Name))
def s8 (s:j5) (x:Sta) (c:Car) (m:Move):b3t:=
 if endB s c m then⟨1,0⟩
 else if b6h c m then⟨2,0⟩
 else match a5k x.Cars c (fun o n=>G0 s m.Rail c.Profile n.Rail o.Profile)with
  |some k=>⟨3,k⟩
  | none=>match (if K0 s c m then((C1 x.Cars c).find? fun o=>r9 s o (D8 s c m)).map (·.Name)else none)with
   |some k=>⟨4,k⟩
   |none=>match a5k x.Cars c (fun _ n=>G7 s m n)with
    |some k=>⟨5,k⟩
    |none=>if 20≤c.Way.length then⟨6,0⟩else⟨0,0⟩
def a3d (s:j5) (c:Car) (m:Move) (p:List Int):List Int:=if K0 s c m then p.set (D8 s c m).Node.toNat (D8 s c m).Leg else p
def p7 (c:Car) (m:Move):Car:={c with Way:=c.Way++[m]}
end Go.Tram.Lk
end
section
namespace Go.Tram.Lk
open Go.AM Go.Proofs
theorem s7 (x lo hi:Int):a8 Tryz.prog 42 [I x,I lo,I hi] (Bo (inr x lo hi)):=by
 refine oB Tryz.func42 Tryz.ntmps42 Tryz.results42 ?_;refine aW ?_;refine aW ?_;exact a7 (by simp_all [inr])
theorem r8 (k c:Int):a8 Tryz.prog 131 [Bo false,I k,I c] (.tup []):=by
 refine oB Tryz.func131 Tryz.ntmps131 Tryz.results131 ?_;refine aW ?_;refine a6 rfl (fun hc0=>?_) (fun hc0=>?_)
 ·simp at hc0
 ·refine b8 ?_
  try simp only[zT,reduceIte,Nat.reduceEqDiff]
  simp
def b3k (k c:Int):Value:= .iface 222 (.agg #[.int .i64 k, .int .i64 c])
theorem N0 (k c:Int):l5 Tryz.prog 131 [Bo true,I k,I c] [] [] (b3k k c) [] []:=by
 refine l5.of_bodyG [] Tryz.func131 rfl (by decide) (by simp[Tryz.ntmps131]) rfl rfl ?_;intro J hJ;simp only[Tryz.ntmps131,Tryz.results131];refine gW ?_;refine c3 rfl (fun hc0=>?_) (fun hc0=>?_)
 ·refine c2E (List.cons_ne_nil _ _) rfl (by decide) rfl rfl rfl rfl fun K hK=>?_;simp only[List.dropLast];simp -dsimp;refine hK _ _ _ _ _ rfl ?_;clear hK K;exact⟨rfl,[],rfl,by simp,by simp,by simp⟩
 ·simp at hc0
end Go.Tram.Lk
end
section
namespace Go.Tram.Lk
open Go.AM Go.Proofs
abbrev Kvs:=List (List KC×Value)
structure b2l (s:j5) (fo si up:Kvs):Prop where
 fo:∀a x b y:Int,(p6 fo [.i .i64 a, .i .i64 x, .i .i64 b, .i .i64 y]).getD (.bool false)= .bool (G0 s a x b y)
 si:∀r:Int,p6 si [.i .i64 r]=(a0E s r).map fun(i:Nat)=>(.int .i64 i:Value)
 up:∀m:Move,(a0E s m.Rail).isSome=true→(p6 up [.i .i64 m.Rail, .b m.Back]).getD (.bool false)= .bool (s.Singles.flatten.contains m)
def d6 (s:j5) (fo si up:Kvs) (x y:AV):List AV:=s.cells++[.mpc true [.i .i64, .i .i64, .i .i64, .i .i64] fo, .mpc false [.i .i64] si, .mpc true [.i .i64, .b] up,x,y]
theorem b3L {s:j5} {fo si up:Kvs} (h:b2l s fo si up) (x y:AV) (a b:Car) (m n:Move):a8 Tryz.prog 85 [.iptr (d6 s fo si up x y),a.av,m.av,b.av,n.av] (Bo (G0 s m.Rail a.Profile n.Rail b.Profile)):=by
 have hf:=h.fo m.Rail a.Profile n.Rail b.Profile;refine oB Tryz.func85 Tryz.ntmps85 Tryz.results85 ?_;refine aW ?_ fun K hK=>by simp -dsimp [d6];exact hK
 refine aD ?_ fun K hK=>by simp -dsimp [d6];refine d7 (Bo (G0 s m.Rail a.Profile n.Rail b.Profile)) (fun hm=>congrArg AV.v hf) ?_;simp -dsimp [d6];exact hK
 exact a7 (by simp)
theorem b5n {s:j5} {fo si up:Kvs} (h:b2l s fo si up) (x y:AV) (m:Move) (hn:a0E s m.Rail=none):a8 Tryz.prog 127 [.iptr (d6 s fo si up x y),m.av] (.tup [I (T4 s m),I (X3 s m)]):=by
 have hs:=h.si m.Rail;rw[hn]at hs;refine oB Tryz.func127 Tryz.ntmps127 Tryz.results127 ?_;refine aW ?_ fun K hK=>by simp -dsimp [d6];exact hK
 refine aD ?_ fun K hK=>by simp -dsimp [d6];refine d7 (.tup [I 0,Bo false]) (fun hm=>by simp[hs]) ?_;simp -dsimp [d6];exact hK
 refine a5 fun K1 hK1=>?_;refine a9 ?_;refine aW ?_ fun K hK=>by simp -dsimp [d6];exact hK
 refine a6 rfl (fun hc0=>?_) (fun hc0=>?_)
 ·refine aW ?_ fun K hK=>by simp -dsimp [d6];exact hK
  exact a7 (by simp[T4,X3,hn])
 ·simp at hc0
theorem b4q {s:j5} {fo si up:Kvs} (h:b2l s fo si up) (x y:AV) (m:Move) (i:Nat) (hn:a0E s m.Rail=some i):a8 Tryz.prog 127 [.iptr (d6 s fo si up x y),m.av] (.tup [I (T4 s m),I (X3 s m)]):=by
 have hs:=h.si m.Rail;rw[hn]at hs;have hu:=h.up m (by rw[hn];rfl);refine oB Tryz.func127 Tryz.ntmps127 Tryz.results127 ?_;refine aW ?_ fun K hK=>by simp -dsimp [d6];exact hK
 refine aD ?_ fun K hK=>by simp -dsimp [d6];refine d7 (.tup [I i,Bo true]) (fun hm=>by simp[hs]) ?_;simp -dsimp [d6];exact hK
 refine a5 fun K1 hK1=>?_;refine a9 ?_;refine aW ?_ fun K hK=>by simp -dsimp [d6];exact hK
 refine a6 rfl (fun hc0=>?_) (fun hc0=>?_)
 ·simp at hc0
 ·refine aD ?_ fun K hK=>by simp -dsimp [d6];refine d7 (Bo (s.Singles.flatten.contains m)) (fun hm=>congrArg AV.v hu) ?_;simp -dsimp [d6];exact hK
  refine a6 rfl (fun hc1=>?_) (fun hc1=>?_)
  ·refine aW ?_ fun K hK=>by simp -dsimp [d6];exact hK
   exact a7 (by simp_all [T4,X3])
  ·refine b8 ?_;refine zQ (hK1 _ _ ?_);refine aP [6] ?_;refine aW ?_ fun K hK=>by simp -dsimp [d6];exact hK
   exact a7 (by simp_all [T4,X3])
theorem b4u {s:j5} {fo si up:Kvs} (h:b2l s fo si up) (x y:AV) (m:Move):a8 Tryz.prog 127 [.iptr (d6 s fo si up x y),m.av] (.tup [I (T4 s m),I (X3 s m)]):=by
 cases hn:a0E s m.Rail with
 |none=>exact b5n h x y m hn
 |some i=>exact b4q h x y m i hn
theorem b4K {s:j5} {fo si up:Kvs} (h:b2l s fo si up) (x y:AV) (m n:Move):a8 Tryz.prog 86 [.iptr (d6 s fo si up x y),m.av,n.av] (Bo (G7 s m n)):=by
 have h1:=b4u h x y m;have h2:=b4u h x y n;refine oB Tryz.func86 Tryz.ntmps86 Tryz.results86 ?_;refine aW ?_;refine aW ?_ fun K hK=>by simp -dsimp;refine cI (h1) ?_;simp -dsimp;exact hK
 refine aW ?_ fun K hK=>by simp -dsimp;refine cI (h2) ?_;simp -dsimp;exact hK
 refine aW ?_;exact a7 (by simp[G7,Bool.beq_eq_decide_eq,bne,Bool.and_assoc])
end Go.Tram.Lk
end
section
namespace Go.Tram.Lk
open Go.AM Go.Proofs
theorem b4x (l:List Move) (f:FuncId) (cl:List (List AV)) (q:Move→Bool) (h:∀x∈l,a8 Tryz.prog f (.agg x.cells::L7 cl) (Bo (q x))) (hn:l.length≤100000):
  a8 Tryz.prog 140 [.lst 2 (l.map Move.cells), .clo f (L7 cl)] (I (W6 l q)):=by
 refine oB Tryz.func140 Tryz.ntmps140 Tryz.results140 ?_;refine aW ?_;refine a5 fun K1 hK1=>?_;refine aW ?_;refine a9 ?_;refine aP [0,1,7,8] ?_;refine c5 [0,1,7] (α:=Nat) (fun k=>[(8,I k)]) (fun _=>[]) (fun k=>k≤l.length∧(l.take k).any q=false) (fun k=>l.length-k) 0 ?_ ?_ ?_
 ·simp
 ·exact c7 (by simp)
 rintro k ⟨k1,k2⟩;refine zN ?_;refine aW ?_;refine a5 fun K2 hK2=>?_;refine a6 rfl (fun hc0=>?_) (fun hc0=>?_)
 ·skip
  try simp at hc0
  obtain⟨x,hx⟩:=gx (l:=l) (i:=k) hc0;have wk:=zW k (by omega);refine b8 ?_;refine zQ (hK2 _ _ ?_);refine aP [0,1,7,8] ?_;refine a5 fun K3 hK3=>?_;refine a9 ?_;refine aW ?_;refine aW ?_ fun K hK=>by simp -dsimp [hx];refine cI (h x (List.mem_of_getElem? hx)) ?_;simp -dsimp [hx];exact hK
  refine a6 rfl (fun hc1=>?_) (fun hc1=>?_)
  ·skip
   try simp at hc1
   refine aW ?_;exact a7 (by simp[N6 hx hc1 k2])
  ·skip
   try simp at hc1
   refine b8 ?_;refine zQ (hK3 _ _ ?_);refine aP [0,1,7,8] ?_;refine aV ?_ fun K hK=>by simp -dsimp [wk];exact hK
   refine zQ ?_;exact⟨k+1,⟨by omega,by rw[any_take hx,k2,hc1];rfl⟩,by omega,c7 (by simp)⟩
 ·skip
  try simp at hc0
  have hall:=u0 (by omega) k2;refine c9 ?_;refine zQ (hK1 _ _ ?_);refine aP [] ?_;refine aW ?_;exact a7 (by simp[E6 hall])
theorem a0A (l:List Move) (f:FuncId) (cl:List (List AV)) (q:Move→Bool) (h:∀x∈l,a8 Tryz.prog f (.agg x.cells::L7 cl) (Bo (q x))) (hn:l.length≤100000):
  a8 Tryz.prog 102 [.lst 2 (l.map Move.cells), .clo f (L7 cl)] (Bo (l.any q)):=by
 refine oB Tryz.func102 Tryz.ntmps102 Tryz.results102 ?_;refine aW ?_;refine aW ?_ fun K hK=>by simp -dsimp;refine cI (b4x l f cl q h hn) ?_;simp -dsimp;exact hK
 exact a7 (by simp[R5])
theorem b9j (m x:Move):a8 Tryz.prog 133 [x.av, .iptr m.cells] (Bo (decide (x.Rail=m.Rail))):=by
 refine oB Tryz.func133 Tryz.ntmps133 Tryz.results133 ?_;refine aW ?_;refine aW ?_;exact a7 (by simp[Bool.beq_eq_decide_eq])
theorem b5E (c:Car) (m:Move):c.Way.any (fun x=>decide (x.Rail=m.Rail))=b6h c m:=by
 rw[Bool.eq_iff_iff,List.any_eq_true];simp only[b6h,A7,List.contains_iff_mem,List.mem_map,decide_eq_true_eq]
end Go.Tram.Lk
end
section
namespace Go.Tram.Lk
open Go.AM Go.Proofs
theorem b2f (v:Value) (w:World):CallsDIn Fence.wide 0 Tryz.prog 93 #[v] .returning w (fun e u w1=>(∃x,e= .returned x)∧u= .returning∧w1=w):=by
 refine callsDIn_of_wpSIn Tryz.func93 rfl trivial fun c₀ cs hu=>?_;apply wpSIn_seq;apply wpSIn_region;simp[wpOpsSIn,go_sem,recoverD,hu,Tryz.ntmps93,Exit.thenS];apply wpSIn_seq;apply wpSIn_region;simp[wpOpsSIn,go_sem,Exit.thenS];refine wpSIn_cond (t:=false) (by simp[Act.eval,Array.replicate]) ?_;simp only[Bool.false_eq_true,if_false];refine wpSIn_of_wpIn rfl (wpIn_skip ?_)
 cases c₀
 simp_all [bodyPostS,results,Tryz.results93]
theorem b9S {J:Jt} (hJ:JOk J) {nt:Nat} {kp:List Nat} {kv:Nat→Value} {T:Tm} {H:Hp} {a:Act} {w w':World} (hs:SG J nt kp kv T H a w) (he:Ext (fun _=>False) w w'):SG J nt kp kv T H a w':=by
 obtain⟨⟨S0,ρ,L,hc,hL,hj,Ds,h1,h2,h3⟩,hk⟩:=hs;refine⟨⟨S0,ρ,L,hc.foreign he.size (fun b hb _=>he.block b hb (fun h=>h)) (fun b hb=>⟨Nat.lt_of_lt_of_le (hc.wf.low b hb) he.size,Or.inl hb⟩),hL,
  hJ _ _ _ _ _ _ hj hc.wf.low hc.owned (he.mono (fun _ _ h=>h.elim)) (fun b hb=>⟨Nat.lt_of_lt_of_le (hc.owned b hb).1 he.size,Or.inl hb⟩),Ds,h1,h2,fun D hD=>⟨(h3 D hD).1,(h3 D hD).2.1,?_⟩⟩,hk⟩
 rw[he.block D (hc.wf.low D (h3 D hD).1) (fun h=>h)];exact(h3 D hD).2.2
def b9o (w:World):Jt:={rel:=fun _ S' O w'=>S'=(fun b=>b<w.heap.size)∧Ext (fun b=>w.heap.size≤b) w w'∧∀b,O b→w.heap.size≤b,mark:=fun _=>False,base:=[]}
theorem c1x (w:World):JOk (b9o w):=by
 rintro y S' O O' A A' ⟨rfl,h1,h2⟩ _ _ he ho;refine⟨rfl,h1.trans (he.mono fun b _ hb=>h2 b hb),fun b hb=>?_⟩
 rcases(ho b hb).2 with h|h
 ·exact h2 b h
 ·exact Nat.le_trans h1.size h
theorem b7f {w w':World} (h:Ext (fun b=>w.heap.size≤b) w w'):Ext (fun _=>False) w w':=
 ⟨h.os,h.tape,h.output,h.size,fun b hb _=>h.block b hb (by omega),h.cells⟩
theorem c2L (w:World) {ty:TypeId} {x y p:Value} (hx:x.oneCell'=true) (hy:y.oneCell'=true) {a:Act} (hsz:a.tmps.size=20) (hd:a.defers=[]) (h0:a.tmps.getD 0 undef=p) (h2:a.tmps.getD 2 undef= .iface ty (.agg #[x,y])):
  SG (b9o w) 20 [] (fun _=>undef) [(2, .ifc ty (.agg [.v x, .v y])),(0, .v p)] [] a w:=by
 have ic:∀v:Value,v.oneCell'=true→G2 v=true:=by intro v h;cases v<;>simp_all [Value.oneCell',G2]
 refine⟨⟨fun b=>b<w.heap.size,fun _=>none,fun _=>False,⟨⟨(by intro r r' l l' b h;cases h),(by intro r l b h;cases h),(by intro r l h;cases h),fun b h=>h,fun _ _=>trivial⟩,hsz,rfl,?_,(by intro r row h;cases r<;>cases h),(by intro r h;rfl)⟩,fun r h=>h.elim,⟨rfl,Ext.refl _ _,?_⟩,[],by simp[hd,b9o],List.nodup_nil,by simp⟩,by simp⟩
 ·intro t;show d9 _ _ _ _ _ (a.tmps.getD t undef);simp only[Go.AM.i7]
  split
  ·rename_i e;subst e;rw[h2];refine .ifc _ _ _ (.pure _ _ (.agg _ [x,y] rfl (by intro v hv;simp at hv;rcases hv with rfl|rfl;exact ic _ hx;exact ic _ hy) ?_));intro i c z h1 h3
   match i,h1,h3 with
   |0,h1,h3=>simp at h1 h3;subst h1 h3;exact .v _
   |1,h1,h3=>simp at h1 h3;subst h1 h3;exact .v _
   |i+2,h1,_=>simp at h1
  ·split
   ·rename_i e;subst e;rw[h0];exact .pure _ _ (.v _)
   ·exact .pure _ _ (.any _)
 ·rintro b ⟨r,l,h,_⟩;cases h
theorem b0u {J:Jt} {nt:Nat} {kp:List Nat} {kv:Nat→Value} {T T':Tm} {H:Hp} {a:Act} {w:World} (hs:SG J nt kp kv T H a w) (h:∀p∈T',Go.AM.i7 T p.1=p.2) (hy:Go.AM.i7 T' 999999=Go.AM.i7 T 999999):SG J nt kp kv T' H a w:=by
 obtain⟨⟨S0,ρ,L,hc,hL,hj,hm⟩,hk⟩:=hs;refine⟨⟨S0,ρ,L,⟨hc.wf,hc.size,hc.defers,fun t=>?_,hc.rows,hc.dead⟩,hL,by rw[hy];exact hj,hm⟩,hk⟩;have gen:∀l:Tm,(∀p∈l,Go.AM.i7 T p.1=p.2)→d9 w (Sx S0 ρ) ρ L (Go.AM.i7 l t) ((a1V a).tmps.getD t undef):=by
  intro l
  induction l with
  |nil=>intro _;exact .pure _ _ (.any _)
  |cons q l ih=>
   intro hq;obtain⟨i,x⟩:=q;simp only[Go.AM.i7];have h9:=hq (i,x) (by simp);simp only at h9
   split
   ·rename_i e;subst e;rw[←h9];exact hc.tmps _
   ·exact ih fun p hp=>hq p (by simp[hp])
 exact gen T' h
theorem b4P (k:Nat) {F:Fence} {P:Program} {ops:Array Oper} {Q:Exit→Act→World→Prop} {l:List Oper} {a:Act} {w:World} (h:wpListIn F 0 P ops Q (l.take k++l.drop k) a w):wpListIn F 0 P ops Q l a w:=by rwa [List.take_append_drop]at h
theorem a8k {J:Jt} {nt:Nat} {kp:List Nat} {kv:Nat→Value} {T:Tm} {H:Hp} {a:Act} {w:World} (t r:Nat) (row:List AV) (x y:Value) (hJ:JOk J) (hnt:nt≤999999) (hs:SG J nt kp kv T H a w) (ht:Go.AM.i7 T t=AV.ptr r 0 0) (hr:g7 H r=some (.els 2 [row])) (k9:row.length=2) (hx:x.oneCell'=true) (hy:y.oneCell'=true):
  CallsDIn Fence.wide 0 Tryz.prog 93 #[a.tmps.getD t undef] (.panicking [{v:= .iface 222 (.agg #[x,y]),recovered:=false}]) w (fun e u w1=>(∃x,e= .returned x)∧settle u= .returning∧SG J nt kp kv T (p9 H r (some (.els 2 [[.v x, .v y]]))) a w1):=by
 obtain⟨p,hp⟩:∃p,p=a.tmps.getD t undef:=⟨_,rfl⟩;rw[←hp];refine callsDIn_of_wpSIn Tryz.func93 rfl trivial fun c₀ cs hu=>?_;apply wpSIn_seq;apply wpSIn_region;simp[wpOpsSIn,go_sem,recoverD,hu,Tryz.ntmps93,Exit.thenS];apply wpSIn_seq;apply wpSIn_region;simp[wpOpsSIn,go_sem,Exit.thenS];refine wpSIn_cond (t:=true) (by simp[Act.eval,Array.replicate]) ?_;simp only[if_true];refine wpSIn_of_wpIn rfl ?_;have hJ1:=c1x w;refine wpIn_seq (wpIn_mono (Q:=fun e a' w'=>e=Exit.normal∧SG (b9o w) 20 [] (fun _=>undef) [(4,Bo true),(3, .ptr 0 0 0),(0, .v p)] [some (.els 2 [[.v x, .v y]])] a' w') ?_ ?_)
 ·refine wpIn_mono (c0P (J:=b9o w) (kp:=[]) (T:=[(2, .ifc 222 (.agg [.v x, .v y])),(0, .v p)]) (H:=[]) (Q:=fun e T' H'=>e=Exit.normal∧Go.AM.i7 T' 4=Bo true∧Go.AM.i7 T' 3= .ptr 0 0 0∧Go.AM.i7 T' 0= .v p∧Go.AM.i7 T' 999999= .any∧H'=[some (.els 2 [[.v x, .v y]])]) rfl (by decide) rfl rfl (fun K hK=>?_) hJ1 (fun _=>undef) _ w (c2L w hx hy (by simp) rfl (by simp) (by simp))) ?_
  ·simp -dsimp;refine hK _ _ ?_;exact⟨rfl,by simp,by simp,by simp,by simp,by simp⟩
  rintro e a' w' ⟨T',H',⟨rfl,h4,h3,h0,h9,rfl⟩,hs'⟩;exact⟨rfl,b0u hs' (by simp[h4,h3,h0]) (by rw[h9];rfl)⟩
 rintro e a1 w1 ⟨rfl,hs1⟩;refine wpIn_seq (wpIn_mono (Q:=fun e a' w'=>e=Exit.normal∧SG (b9o w) 20 [] (fun _=>undef) [(3, .ptr 0 0 0),(0, .v p)] [some (.els 2 [[.v x, .v y]])] a' w') ?_ ?_)
 ·refine wpIn_mono (b9 (J:=b9o w) (kp:=[]) (T:=[(4,Bo true),(3, .ptr 0 0 0),(0, .v p)]) (H:=[some (.els 2 [[.v x, .v y]])]) (Q:=fun e T' H'=>e=Exit.normal∧Go.AM.i7 T' 3= .ptr 0 0 0∧Go.AM.i7 T' 0= .v p∧Go.AM.i7 T' 999999= .any∧H'=[some (.els 2 [[.v x, .v y]])]) (fun K1 hK1=>?_) hJ1 (fun _=>undef) a1 w1 hs1) ?_
  ·refine gR fun K hK=>?_;simp -dsimp;apply hK;clear hK K;refine hK1 _ _ (c3 rfl (fun hc0=>?_) (fun hc0=>?_))
   ·simp at hc0
   ·exact c6 ⟨rfl,by simp,by simp,by simp,by simp⟩
  rintro e a' w' ⟨T',H',⟨rfl,h3,h0,h9,rfl⟩,hs'⟩;exact⟨rfl,b0u hs' (by simp[h3,h0]) (by rw[h9];rfl)⟩
 rintro e a2 w2 ⟨rfl,hs2⟩;show Code.wpIn Fence.wide 0 _ _ _ a2 w2;refine wpIn_region_lit (b4P 3 ?_);simp only[List.take,List.drop];refine A5 (ro:=none) (J:=b9o w) (kp:=[]) (kv:=fun _=>undef) hJ1 (nt:=20) (by decide) (dsts:=[some 16,some 17,some 18,some 19,none]) (K:=fun T' H'=>Go.AM.i7 T' 16= .v p∧Go.AM.i7 T' 18= .agg [.v x, .v y]) (by intro j;match j with|0=>rfl|1=>rfl|2=>rfl|3=>rfl|4=>rfl|j+5=>rfl) rfl ?_ _ (by simp[n7]) _ _ a2 w2 ?_ hs2
 ·rintro T3 H3 a3 w3 ⟨k1,k2⟩ hs3;have hlt:=U4 hr;obtain⟨⟨S3,ρ3,L3,hc3,_,⟨_,he3,_⟩,Ds,hd3,_,hD3⟩,_⟩:=hs3;have hdef:a3.defers=[]:=by
   cases Ds with
   |nil=>exact hd3
   |cons D Ds=>exact(hD3 D (by simp)).2.1.elim
  have e16:a3.tmps.getD 16 undef=p:=by have:=hc3.tmps 16;rw[k1]at this;exact j0 this
  have e18:a3.tmps.getD 18 undef= .agg #[x,y]:=by
   have:=hc3.tmps 18;rw[k2]at this;obtain⟨vs,hv,hl,hcs⟩:=z9 this
   match vs,hl with
   |[u,v],_=>
    have h1:=j0 (hcs 0 _ _ rfl rfl).2;have h2:=j0 (hcs 1 _ _ rfl rfl).2;have:(a1V a3).tmps.getD 18 undef=a3.tmps.getD 18 undef:=rfl;rw[←this,hv,h1,h2]
  have hsz:a3.tmps.size=20:=hc3.size;have hout:=b9S hJ hs (b7f he3);obtain⟨q,hq⟩:∃q,p= .pointer (some q):=by
   obtain⟨⟨S0,ρ,L,hc,_⟩,_⟩:=hs;have h1:=hc.tmps t;rw[ht]at h1;obtain⟨l,hl,_⟩:=hc.rows r _ hr;have e:(a1V a).tmps.getD t undef=p:=hp.symm;rw[e]at h1
   cases h1 with
   |pure _ _ h=>cases h
   |ptr _ _ _ _ _ _ h3=>obtain⟨b,_,h⟩:=h3 l hl;exact⟨_,h⟩
  obtain⟨w4,hrun,hs4⟩:=b7B (P:=Tryz.prog) (ty:=62) hJ hnt hout ht hr hlt k9 hx hy (by simp) (by simp);rw[←hp]at hrun;refine wpListIn_plain rfl fun K hK=>B5 (by simp[n7]) ?_;unfold Oper.wp;rw[show(execOp a3.eval _).run Tryz.prog w3= .ok (.value p) w3 by simp[execOp,Act.eval,e16,hq],Oper.upon_value];refine hK _ _ (wpListIn_plain rfl fun K hK=>B5 (by simp[n7]) ?_);unfold Oper.wp;have g19:(a3.put (some 19) p).tmps.getD 19 undef=p:=by rw[a1A a3 (some 19) p 19 (fun k e=>by cases e;rw[hsz];decide)];simp
  have g18:(a3.put (some 19) p).tmps.getD 18 undef= .agg #[x,y]:=by rw[a1A a3 (some 19) p 18 (fun k e=>by cases e;rw[hsz];decide)];simp[e18]
  rw[show(execOp (a3.put (some 19) p).eval _).run Tryz.prog w3= .ok .skip w4 by simp[execOp,Act.eval,g19,g18,hrun],Oper.upon_skip];refine hK _ _ ?_;exact⟨hdef,_,rfl, .tuple #[],by simp[results,Tryz.results93],⟨_,rfl⟩,rfl,hs4⟩
 ·simp -dsimp
theorem a3x:b4a Tryz.prog 93 222:=
 ⟨fun w vs=>by simp[callFunc,Tryz.func93];rfl,b2f,fun t r row x y h1 h2 h3 h4 h5 h6 h7 h8=>a8k t r row x y h1 h2 h3 h4 h5 h6 h7 h8⟩
end Go.Tram.Lk
end
section
namespace Go.Tram.Lk
open Go.AM Go.Proofs
abbrev tB:Value:= .bool true
abbrev kI (a:Int):List KC:=[.i .i64 a]
abbrev kF (a x b y:Int):List KC:=[.i .i64 a, .i .i64 x, .i .i64 b, .i .i64 y]
abbrev kM (m:Move):List KC:=[.i .i64 m.Rail, .b m.Back]
def b3o (kv:Kvs) (f:F8):Kvs:=L5 (L5 kv (kF f.RailA f.ProfileA f.RailB f.ProfileB) tB) (kF f.RailB f.ProfileB f.RailA f.ProfileA) tB
def b0Z (l:List F8) (n:Nat):Kvs:=(l.take n).foldl b3o []
theorem a7V {l:List F8} {n:Nat} {f:F8} (h:l[n]?=some f):b0Z l (n+1)=b3o (b0Z l n) f:=by
 unfold b0Z;rw[List.take_add_one,h];simp
theorem b9x (a x b y:Int):∀(l:List F8) (kv:Kvs),p6 (l.foldl b3o kv) (kF a x b y)=if (l.any fun f=>decide (f=⟨a,x,b,y⟩)||decide (f=⟨b,y,a,x⟩))=true then some tB else p6 kv (kF a x b y)
 |[],kv=>rfl
 | f::l,kv=>by
  rw[List.foldl_cons,b9x a x b y l,List.any_cons]
  cases h:l.any fun f=>decide (f=⟨a,x,b,y⟩)||decide (f=⟨b,y,a,x⟩)with
  |true=>simp
  | false=>
   rw[if_neg (by simp),Bool.or_false];unfold b3o;rw[E4,E4];obtain⟨c,d,e,g⟩:=f;have i1:(kF a x b y=kF e g c d)↔((⟨c,d,e,g⟩:F8)=⟨b,y,a,x⟩):=by
    constructor
    ·intro h;simp[kF]at h;obtain⟨rfl,rfl,rfl,rfl⟩:=h;rfl
    ·intro h;cases h;rfl
   have i2:(kF a x b y=kF c d e g)↔((⟨c,d,e,g⟩:F8)=⟨a,x,b,y⟩):=by
    constructor
    ·intro h;simp[kF]at h;obtain⟨rfl,rfl,rfl,rfl⟩:=h;rfl
    ·intro h;cases h;rfl
   simp only[i1,i2]
   by_cases h1:(⟨c,d,e,g⟩:F8)=⟨a,x,b,y⟩
   ·rw[decide_eq_true h1,if_pos h1,Bool.true_or,if_pos rfl];split<;>rfl
   ·rw[decide_eq_false h1,if_neg h1,Bool.false_or]
    by_cases h2:(⟨c,d,e,g⟩:F8)=⟨b,y,a,x⟩
    ·rw[decide_eq_true h2,if_pos h2,if_pos rfl]
    ·rw[decide_eq_false h2,if_neg h2,if_neg (by simp)]
def sgA (l:List (List Move)) (i:Nat):List (Nat×Move):=(List.range i).flatMap fun j=>(l[j]?.getD []).map fun m=>(j,m)
def sgK (l:List (List Move)) (i k:Nat):List (Nat×Move):=((l[i]?.getD []).take k).map fun m=>(i,m)
theorem a0o (l:List (List Move)) (i:Nat) {x:List Move} (h:l[i]?=some x):sgA l (i+1)=sgA l i++sgK l i x.length:=by
 unfold sgA sgK;rw[List.range_succ,List.flatMap_append];simp[h]
theorem a3v (l:List (List Move)) (i k:Nat) {x:List Move} {m:Move} (h:l[i]?=some x) (hm:x[k]?=some m):sgK l i (k+1)=sgK l i k++[(i,m)]:=by
 unfold sgK;rw[h];simp[List.take_add_one,hm]
def b2a (kv:Kvs) (p:Nat×Move):Kvs:=L5 kv (kI p.2.Rail) (.int .i64 p.1)
def b6B (kv:Kvs) (p:Nat×Move):Kvs:=L5 kv (kM p.2) tB
def W3 (ps:List (Nat×Move)):Kvs:=ps.foldl b2a []
def a0H (ps:List (Nat×Move)):Kvs:=ps.foldl b6B []
theorem a7W (ps:List (Nat×Move)) (p:Nat×Move):W3 (ps++[p])=L5 (W3 ps) (kI p.2.Rail) (.int .i64 p.1):=by simp[W3,b2a]
theorem a8g (ps:List (Nat×Move)) (p:Nat×Move):a0H (ps++[p])=L5 (a0H ps) (kM p.2) tB:=by simp[a0H,b6B]
theorem a6w {r:Int}:∀(ps:List (Nat×Move)) (kv:Kvs),(∀p∈ps,p.2.Rail≠r)→p6 (ps.foldl b2a kv) (kI r)=p6 kv (kI r)
 |[],kv,_=>rfl
 |p::ps,kv,h=>by
  rw[List.foldl_cons,a6w ps _ fun q hq=>h q (by simp[hq])];unfold b2a;rw[E4,if_neg];intro e;have:=h p (by simp);simp at e;exact this e.symm
theorem a6M {p:Nat×Move}:∀(ps:List (Nat×Move)) (kv:Kvs),(ps.map (·.2.Rail)).Nodup→p∈ps→p6 (ps.foldl b2a kv) (kI p.2.Rail)=some (.int .i64 p.1)
 | q::ps,kv,hn,hp=>by
  rw[List.map_cons,List.nodup_cons]at hn;rw[List.foldl_cons]
  rcases List.mem_cons.1 hp with rfl|hp
  ·rw[a6w ps _ fun q hq e=>hn.1 (by rw[←e];exact List.mem_map_of_mem (f:=(·.2.Rail)) hq)]
   unfold b2a;rw[E4,if_pos rfl]
  ·exact a6M ps _ hn.2 hp
theorem b9i (m:Move):∀(ps:List (Nat×Move)) (kv:Kvs),p6 (ps.foldl b6B kv) (kM m)=if (ps.map (·.2)).contains m=true then some tB else p6 kv (kM m)
 |[],kv=>by simp
 | p::ps,kv=>by
  rw[List.foldl_cons,b9i m ps,List.map_cons];unfold b6B;rw[E4];obtain⟨j,⟨r,b⟩⟩:=p;obtain⟨r',b'⟩:=m
  by_cases h1:r'=r∧b'=b
  ·obtain⟨rfl,rfl⟩:=h1;simp
  ·have h2:¬(⟨r',b'⟩:Move)=⟨r,b⟩:=by intro e;simp at e;exact h1 e
   have h3:¬(kM ⟨r',b'⟩=kM ⟨r,b⟩):=by intro e;simp at e;exact h1 e
   rw[if_neg h3,List.contains_cons,beq_eq_false_iff_ne.2 h2,Bool.false_or]
theorem a3t:∀(l:List (List Move)),(sgA l l.length).map (·.2)=l.flatten:=by
 intro l;unfold sgA;rw[List.map_flatMap];have:∀n,n≤l.length→(List.range n).flatMap (fun j=>((l[j]?.getD []).map fun m=>(j,m)).map (·.2))=(l.take n).flatten:=by
  intro n
  induction n with
  |zero=>intro _;rfl
  |succ n ih=>
   intro hn;rw[List.range_succ,List.flatMap_append,ih (by omega),List.take_add_one,List.flatten_append];have hnl:n<l.length:=by omega
   simp[List.getElem?_eq_getElem hnl,Function.comp_def]
 rw[this _ (Nat.le_refl _),List.take_length]
theorem b0b {l:List (List Move)} {n:Nat} {p:Nat×Move}:p∈sgA l n↔p.1<n∧∃x,l[p.1]?=some x∧p.2∈x:=by
 obtain⟨i,m⟩:=p;unfold sgA;simp only[List.mem_flatMap,List.mem_range,List.mem_map,Prod.mk.injEq];constructor
 ·rintro⟨j,hj,m',hm,rfl,rfl⟩;refine⟨hj,?_⟩
  cases h:l[j]? with
  |none=>rw[h]at hm;simp at hm
  |some x=>rw[h]at hm;exact⟨x,rfl,by simpa using hm⟩
 ·rintro⟨h1,x,hx,hm⟩;exact⟨i,h1,m,by rw[hx];exact hm,rfl,rfl⟩
theorem b7x {s:j5} (hn:(s.Singles.flatten.map (·.Rail)).Nodup) (r:Int):p6 (W3 (sgA s.Singles s.Singles.length)) (kI r)=(a0E s r).map fun(i:Nat)=>(.int .i64 i:Value):=by
 have hn2:((sgA s.Singles s.Singles.length).map (·.2.Rail)).Nodup:=by
  have:(sgA s.Singles s.Singles.length).map (·.2.Rail)=(s.Singles.flatten).map (·.Rail):=by rw[←a3t,List.map_map];rfl
  rw[this];exact hn
 cases h:a0E s r with
 |none=>
  unfold W3;rw[a6w]
  ·rfl
  ·intro p hp e;obtain⟨_,x,hx,hm⟩:=b0b.1 hp;unfold a0E at h;rw[List.findIdx?_eq_none_iff]at h;have:=h x (List.mem_of_getElem? hx);rw[List.any_eq_false]at this;have:=this p.2 hm;simp[e]at this
 |some i=>
  unfold a0E at h;rw[List.findIdx?_eq_some_iff_getElem]at h;obtain⟨h1,h2,_⟩:=h;rw[List.any_eq_true]at h2;obtain⟨m,hm,hr⟩:=h2;have hp:(i,m)∈sgA s.Singles s.Singles.length:=b0b.2 ⟨h1,_,List.getElem?_eq_getElem h1,hm⟩;have:=a6M (p:=(i,m)) _ [] hn2 hp;simp only[decide_eq_true_eq]at hr;rw[hr]at this;exact this
theorem c4q {s:j5} (hn:(s.Singles.flatten.map (·.Rail)).Nodup):b2l s (b0Z (A2 s.Plan s.Profiles) (A2 s.Plan s.Profiles).length) (W3 (sgA s.Singles s.Singles.length)) (a0H (sgA s.Singles s.Singles.length)):=by
 refine⟨fun a x b y=>?_,b7x hn,fun m _=>?_⟩
 ·unfold b0Z;rw[List.take_length,b9x];unfold G0
  split
  ·rename_i h;rw[h];rfl
  ·rename_i h;rw[Bool.not_eq_true]at h;rw[h];rfl
 ·unfold a0H;rw[b9i,a3t]
  split
  ·rename_i h;rw[h];rfl
  ·rename_i h;rw[Bool.not_eq_true]at h;rw[h];rfl
def b3i (p:Plan) (ps:List (Nat×Move)):Prop:=(∀q∈ps,D3 p q.2=true)∧(ps.map (·.2.Rail)).Nodup
theorem T9 {p:Plan} {l:List (List Move)}:a7s p l=true↔(∀x∈l,1≤x.length∧x.length≤100)∧b3i p (sgA l l.length):=by
 unfold a7s b3i;have e1:(sgA l l.length).map (·.2.Rail)=l.flatten.map (·.Rail):=by rw[←a3t,List.map_map];rfl
 rw[e1];simp only[Bool.and_eq_true,List.all_eq_true,decide_eq_true_eq,g6];have e2:(∀q∈sgA l l.length,D3 p q.2=true)↔∀x∈l.flatten,D3 p x=true:=by
  rw[←a3t];simp only[List.mem_map];exact⟨fun h x ⟨q,hq,e⟩=>e▸h q hq,fun h q hq=>h _ ⟨q,hq,rfl⟩⟩
 rw[e2];constructor
 ·rintro⟨h1,h2,h3⟩;exact⟨fun x hx=>by have:=h1 x hx;omega,h2,h3⟩
 ·rintro⟨h1,h2,h3⟩;exact⟨fun x hx=>by have:=h1 x hx;omega,h2,h3⟩
theorem b9A {p:Plan} {l:List (List Move)} (h:a7s p l=true) {i k:Nat} {x:List Move} {m:Move} (hx:l[i]?=some x) (hm:x[k]?=some m):(p6 (W3 (sgA l i++sgK l i k)) (kI m.Rail)).isSome=false∧D3 p m=true:=by
 obtain⟨_,h1,h2⟩:=T9.1 h;have hi:=(List.getElem?_eq_some_iff.1 hx).1;have hp:(i,m)∈sgA l l.length:=b0b.2 ⟨hi,x,hx,List.mem_of_getElem? hm⟩;refine⟨?_,h1 _ hp⟩;unfold W3;rw[a6w]
 ·rfl
 have gen:∀n,i<n→∃rest,sgA l n=(sgA l i++sgK l i k)++(i,m)::rest:=by
  intro n
  induction n with
  |zero=>intro h;omega
  | succ n ih=>
   intro hn
   by_cases e:i=n
   ·subst e;refine⟨(x.drop (k+1)).map fun m=>(i,m),?_⟩;rw[a0o l i hx];have:sgK l i x.length=sgK l i k++(i,m)::(x.drop (k+1)).map fun m=>(i,m):=by
     unfold sgK;rw[hx];simp only[Option.getD_some,List.take_length];have hk:=(List.getElem?_eq_some_iff.1 hm);obtain⟨hk1,hk2⟩:=hk
     conv=>lhs;rw[←List.take_append_drop k x,List.drop_eq_getElem_cons hk1,hk2]
     simp
    rw[this,List.append_assoc]
   ·obtain⟨rest,hr⟩:=ih (by omega);refine⟨rest++(l[n]?.getD []).map fun m=>(n,m),?_⟩;unfold sgA at hr ⊢;rw[List.range_succ,List.flatMap_append,hr];simp
 obtain⟨rest,hr⟩:=gen l.length hi;rw[hr,List.map_append,List.map_cons,List.nodup_append]at h2;intro q hq e;exact h2.2.2 _ (List.mem_map_of_mem (f:=(·.2.Rail)) hq) _ (by simp) e
theorem c1w {p:Plan} {ps:List (Nat×Move)} (h:b3i p ps) {i:Nat} {m:Move} (h1:(p6 (W3 ps) (kI m.Rail)).isSome=false) (h2:D3 p m=true):b3i p (ps++[(i,m)]):=by
 refine⟨fun q hq=>?_,?_⟩
 ·rcases List.mem_append.1 hq with hq|hq
  ·exact h.1 q hq
  ·simp only[List.mem_singleton]at hq;rw[hq];exact h2
 ·rw[List.map_append,List.nodup_append];refine⟨h.2,by simp,fun a ha b hb e=>?_⟩;simp only[List.map_cons,List.map_nil,List.mem_singleton]at hb;obtain⟨q,hq,rfl⟩:=List.mem_map.1 ha;rw[hb]at e;have:=a6M (p:=q) ps [] h.2 hq;unfold W3 at h1;rw[←e,this]at h1
  cases h1
abbrev KT4:List KT:=[.i .i64, .i .i64, .i .i64, .i .i64]
abbrev KTM:List KT:=[.i .i64, .b]
abbrev X6:List KT:=[.i .i64, .b, .i .i64, .b]
abbrev b0o (s:j5) (a b c d e:Nat):l7:= .els 9 [s.cells++[.mp a, .mp b, .mp c, .mp d, .mp e]]
abbrev a5x (s:j5):Kvs:=b0Z (A2 s.Plan s.Profiles) (A2 s.Plan s.Profiles).length
abbrev B3 (s:j5):List (Nat×Move):=sgA s.Singles s.Singles.length
abbrev c1U (s:j5):Hp:=[some (b0o s 1 2 3 4 5),some (.map true KT4 (a5x s)),some (.map false [.i .i64] (W3 (B3 s))),some (.map true KTM (a0H (B3 s))),some (.map true X6 []),some (.map true X6 [])]
theorem b6c {p:Plan} {l:List Profile} (hN:p.Rails.length≤20) (h:D5 l=true):(A2 p l).length≤100000:=by
 have hl:l.length≤6:=by simp only[D5,Bool.and_eq_true,decide_eq_true_eq]at h;exact h.2.1
 have h1:=b8S p l p.Rails.length;have h2:p.Rails.length*(l.length*(p.Rails.length*l.length))≤20*(6*(20*6)):=Nat.mul_le_mul hN (Nat.mul_le_mul hl (Nat.mul_le_mul hN hl));unfold A2;omega
theorem b1g (s:j5) (h:P7 s=true) (hN:s.Plan.Rails.length≤20):c8 Tryz.prog 31 [s.av] [] [] (.tup [.ptr 0 0 0,Bo true]) [] (c1U s):=by
 have h0:d8 s.Plan=true∧D5 s.Profiles=true∧s.Singles.length≤30∧a7s s.Plan s.Singles=true:=by simpa [P7]using h
 obtain⟨hv,hp,hsn,hsb⟩:=h0;have hck:=a0S s.Plan;rw[hv,if_pos rfl]at hck;have hfo:=a5n s.Plan s.Profiles hv hp hN;have hfl:=b6c hN hp;have hR:s.Plan.Rails.length≤400:=(j7 hv).2.1.2;unfold c1U a5x;generalize A2 s.Plan s.Profiles=fl at hfo hfl;refine oG [] Tryz.func31 Tryz.ntmps31 Tryz.results31 ?_;intro J hJ;refine gW ?_;refine b9 fun K1 hK1=>?_;refine gW ?_ fun K hK=>by simp -dsimp;refine cI (hck) ?_;simp -dsimp;exact hK
 refine c3 rfl (fun hc0=>?_) (fun hc0=>?_)
 ·exfalso;simp at hc0;omega
 ·refine c6 ?_;refine zQ (hK1 _ _ ?_);refine gP [1] ?_;refine gW ?_ fun K hK=>by simp -dsimp;refine cI (hfo) ?_;simp -dsimp;exact hK
  refine b9 fun K2 hK2=>?_;refine gW ?_;refine c3 rfl (fun hc1=>?_) (fun hc1=>?_)
  ·simp at hc1
  ·refine c6 ?_;refine zQ (hK2 _ _ ?_);refine gP [1,4] ?_;refine gW ?_;refine b9 fun K3 hK3=>?_;refine gW ?_;refine d4 ?_;refine gP [1,6,43,44,45] ?_;refine i9 [1,6,43,44] (α:=Nat) (fun k=>[(45,I k)]) (fun k=>[some (.els 4 [s.cells]),some (.map true KT4 (b0Z fl k)),some (.map false [.i .i64] []),some (.map true KTM []),some (.map true X6 []),some (.map true X6 []),some (b0o s 1 2 3 4 5)]) (fun k=>k≤fl.length) (fun k=>fl.length-k) 0 ?_ ?_ ?_
   ·exact Nat.zero_le _
   ·exact gB [some 0,some 1,some 2,some 3,some 4,some 5,some 6] (hH:=by simp[b0Z])
   rintro k k1;refine zN ?_;refine gW ?_;refine b9 fun K4 hK4=>?_;refine c3 rfl (fun hc2=>?_) (fun hc2=>?_)
   ·skip
    try simp at hc2
    obtain⟨f,hf⟩:=gx (l:=fl) (i:=k) (by simpa using hc2);have wk:=zW k (by omega);have hs1:=a7V hf;refine c6 ?_;refine zQ (hK4 _ _ ?_);refine gP [1,6,43,44,45] ?_;refine b9 fun K5 hK5=>?_;refine d4 ?_;refine gW ?_ fun K hK=>by simp -dsimp [hf];exact hK
    refine gD ?_;refine gE ?_;refine zQ (hK5 _ _ ?_);refine gP [1,6,43,44,45] ?_;refine gV ?_ fun K hK=>by simp -dsimp [wk];exact hK
    refine zQ ?_;exact⟨k+1,by have:=(List.getElem?_eq_some_iff.1 hf).1;omega,by have:=(List.getElem?_eq_some_iff.1 hf).1;omega,gB [some 0,some 1,some 2,some 3,some 4,some 5,some 6] (hH:=by simp[hs1,b3o])⟩
   ·skip
    try simp at hc2
    have hke:k=fl.length:=by have:¬k<fl.length:=(by simpa using hc2);omega
    subst hke;refine r7 ?_;refine zQ (hK3 _ _ ?_);refine gP [1,6] ?_;refine b9 fun K6 hK6=>?_;refine gW ?_;refine d4 ?_;refine gP [1,6,77,78,79] ?_;refine i9 [1,6,77,78] (α:=Nat) (fun i=>[(79,I i)]) (fun i=>[some (.els 4 [s.cells]),some (.map true KT4 (b0Z fl fl.length)),some (.map false [.i .i64] (W3 (sgA s.Singles i))),some (.map true KTM (a0H (sgA s.Singles i))),some (.map true X6 []),some (.map true X6 []),some (b0o s 1 2 3 4 5)]) (fun i=>i≤s.Singles.length) (fun i=>s.Singles.length-i) 0 ?_ ?_ ?_
    ·exact Nat.zero_le _
    ·exact gB [some 0,some 1,some 2,some 3,some 4,some 5,some 6] (hH:=by simp[sgA,W3,a0H])
    rintro i i1;refine zN ?_;refine gW ?_;refine b9 fun K7 hK7=>?_;refine c3 rfl (fun hc3=>?_) (fun hc3=>?_)
    ·skip
     try simp at hc3
     obtain⟨x,hx⟩:=gx (l:=s.Singles) (i:=i) (by simpa using hc3);have wi:=zW i (by omega);have hsx:=a0o s.Singles i hx;have hxl:1≤x.length∧x.length≤100:=(T9.1 hsb).1 x (List.mem_of_getElem? hx);refine c6 ?_;refine zQ (hK7 _ _ ?_);refine gP [1,6,77,78,79] ?_;refine b9 fun K8 hK8=>?_;refine d4 ?_;refine gW ?_ fun K hK=>by simp -dsimp [hx];exact hK
     refine b9 fun K9 hK9=>?_;refine gW ?_ fun K hK=>by simp -dsimp [hx];refine cI (s7 x.length 1 100) ?_;simp -dsimp [hx];exact hK
     refine c3 rfl (fun hc4=>?_) (fun hc4=>?_)
     ·exfalso;simp[inr]at hc4;omega
     ·refine c6 ?_;refine zQ (hK9 _ _ ?_);refine gP [1,6,9,10,77,78,79] ?_;refine gW ?_;refine d4 ?_;refine gP [1,6,9,77,78,79,90,91,92] ?_;refine i9 [1,6,9,77,78,79,90,91] (α:=Nat) (fun k=>[(92,I k)]) (fun k=>[some (.els 4 [s.cells]),some (.map true KT4 (b0Z fl fl.length)),some (.map false [.i .i64] (W3 (sgA s.Singles i++sgK s.Singles i k))),some (.map true KTM (a0H (sgA s.Singles i++sgK s.Singles i k))),some (.map true X6 []),some (.map true X6 []),some (b0o s 1 2 3 4 5)]) (fun k=>k≤x.length) (fun k=>x.length-k) 0 ?_ ?_ ?_
      ·exact Nat.zero_le _
      ·exact gB [some 0,some 1,some 2,some 3,some 4,some 5,some 6] (hH:=by simp[sgK])
      rintro k k1;refine zN ?_;refine gW ?_;refine b9 fun K10 hK10=>?_;refine c3 rfl (fun hc5=>?_) (fun hc5=>?_)
      ·skip
       try simp at hc5
       obtain⟨m,hm⟩:=gx (l:=x) (i:=k) (by simpa using hc5);have wk:=zW k (by omega);have wr:IntKind.i64.wrap ((s.Plan.Rails.length:Int)-1)=(s.Plan.Rails.length:Int)-1:=c4 (by omega) (by omega);have hsk:=a3v s.Singles i k hx hm;obtain⟨hmet,hmv⟩:=b9A hsb hx hm;have hs1:=a7W (sgA s.Singles i++sgK s.Singles i k) (i,m);have hs2:=a8g (sgA s.Singles i++sgK s.Singles i k) (i,m);rw[List.append_assoc,←hsk]at hs1 hs2;simp only at hs1 hs2;generalize W3 (sgA s.Singles i++sgK s.Singles i k)=si at hmet hs1 ⊢;generalize a0H (sgA s.Singles i++sgK s.Singles i k)=up at hs2 ⊢;have hml:inr m.Rail 0 (s.Plan.Rails.length-1)=true:=hmv;refine c6 ?_;refine zQ (hK10 _ _ ?_);refine gP [1,6,9,77,78,79,90,91,92] ?_;refine b9 fun K11 hK11=>?_;refine d4 ?_;refine gW ?_ fun K hK=>by simp -dsimp [hm];exact hK
       refine b9 fun K12 hK12=>?_;refine gD ?_ fun K hK=>by simp -dsimp;refine d7 (.tup [.v ((p6 si (kI m.Rail)).getD (.int .i64 0)),Bo false]) (fun hm=>by rw[hmet]) ?_;simp -dsimp;exact hK
       refine gW ?_ fun K hK=>by simp -dsimp [wr];refine cY (fun hm=>s7 m.Rail 0 (s.Plan.Rails.length-1)) ?_;simp -dsimp [wr];exact hK
       refine c3 rfl (fun hc6=>?_) (fun hc6=>?_)
       ·exfalso;simp[hmet,hml]at hc6
       ·refine c6 ?_;refine zQ (hK12 _ _ ?_);refine gP [1,6,9,12,77,78,79,90,91,92] ?_;refine gD ?_;refine gE ?_;refine zQ (hK11 _ _ ?_);refine gP [1,6,9,77,78,79,90,91,92] ?_;refine gV ?_ fun K hK=>by simp -dsimp [wk];exact hK
        refine zQ ?_;exact⟨k+1,by have:=(List.getElem?_eq_some_iff.1 hm).1;omega,by have:=(List.getElem?_eq_some_iff.1 hm).1;omega,gB [some 0,some 1,some 2,some 3,some 4,some 5,some 6] (hH:=by simp[hs1,hs2])⟩
      ·skip
       try simp at hc5
       have hke:k=x.length:=by have:¬k<x.length:=(by simpa using hc5);omega
       subst hke;refine r7 ?_;refine zQ (hK8 _ _ ?_);refine gP [1,6,77,78,79] ?_;refine gV ?_ fun K hK=>by simp -dsimp [wi];exact hK
       refine zQ ?_;exact⟨i+1,by have:=(List.getElem?_eq_some_iff.1 hx).1;omega,by have:=(List.getElem?_eq_some_iff.1 hx).1;omega,gB [some 0,some 1,some 2,some 3,some 4,some 5,some 6] (hH:=by simp[hsx])⟩
    ·skip
     try simp at hc3
     have hie:i=s.Singles.length:=by have:¬i<s.Singles.length:=(by simpa using hc3);omega
     subst hie;refine r7 ?_;refine zQ (hK6 _ _ ?_);refine gP [6] ?_;refine gW ?_;exact i6 (gT [some 6,some 1,some 2,some 3,some 4,some 5])
abbrev c4c:AV:= .tup [.v (.pointer none),Bo false]
theorem b0A (s:j5) (h:d8 s.Plan=false∨30<s.Singles.length):a8 Tryz.prog 31 [s.av] c4c:=by
 have hck:=a0S s.Plan
 cases hv:d8 s.Plan with
 |false=>
  rw[hv,if_neg (by simp)]at hck;refine oB Tryz.func31 Tryz.ntmps31 Tryz.results31 ?_;refine aW ?_;refine a5 fun K1 hK1=>?_;refine aW ?_ fun K hK=>by simp -dsimp;refine cI (hck) ?_;simp -dsimp;exact hK
  refine a6 rfl (fun hc0=>?_) (fun hc0=>?_)
  ·refine aW ?_;exact a7 (by simp)
  ·simp at hc0
 |true=>
  rw[hv,if_pos rfl]at hck;have hl:30<s.Singles.length:=by simpa [hv]using h
  refine oB Tryz.func31 Tryz.ntmps31 Tryz.results31 ?_;refine aW ?_;refine a5 fun K1 hK1=>?_;refine aW ?_ fun K hK=>by simp -dsimp;refine cI (hck) ?_;simp -dsimp;exact hK
  refine a6 rfl (fun hc0=>?_) (fun hc0=>?_)
  ·refine aW ?_;exact a7 (by simp)
  ·exfalso;simp at hc0;omega
theorem b6S (s:j5) (hv:d8 s.Plan=true) (hsn:s.Singles.length≤30) (hp:D5 s.Profiles=false) (hn:s.Profiles.length≤100000):a8 Tryz.prog 31 [s.av] c4c:=by
 have hck:=a0S s.Plan;rw[hv,if_pos rfl]at hck;have hfo:=b5G s.Plan s.Profiles hv hp hn;refine oB Tryz.func31 Tryz.ntmps31 Tryz.results31 ?_;refine aW ?_;refine a5 fun K1 hK1=>?_;refine aW ?_ fun K hK=>by simp -dsimp;refine cI (hck) ?_;simp -dsimp;exact hK
 refine a6 rfl (fun hc0=>?_) (fun hc0=>?_)
 ·exfalso;simp at hc0;omega
 ·refine b8 ?_;refine zQ (hK1 _ _ ?_);refine aP [1] ?_;refine aW ?_ fun K hK=>by simp -dsimp;refine cI (hfo) ?_;simp -dsimp;exact hK
  refine a5 fun K2 hK2=>?_;refine aW ?_;refine a6 rfl (fun hc1=>?_) (fun hc1=>?_)
  ·refine aW ?_;exact a7 (by simp)
  ·simp at hc1
theorem b8H (s:j5) (hv:d8 s.Plan=true) (hsn:s.Singles.length≤30) (hp:D5 s.Profiles=true) (hsb:a7s s.Plan s.Singles=false) (hN:s.Plan.Rails.length≤20) (hm100:∀x∈s.Singles,x.length≤100000):a8 Tryz.prog 31 [s.av] c4c:=by
 have hck:=a0S s.Plan;rw[hv,if_pos rfl]at hck;have hfo:=a5n s.Plan s.Profiles hv hp hN;have hfl:=b6c hN hp;have hR:s.Plan.Rails.length≤400:=(j7 hv).2.1.2;generalize A2 s.Plan s.Profiles=fl at hfo hfl;refine oB Tryz.func31 Tryz.ntmps31 Tryz.results31 ?_;refine aW ?_;refine a5 fun K1 hK1=>?_;refine aW ?_ fun K hK=>by simp -dsimp;refine cI (hck) ?_;simp -dsimp;exact hK
 refine a6 rfl (fun hc0=>?_) (fun hc0=>?_)
 ·exfalso;simp at hc0;omega
 ·refine b8 ?_;refine zQ (hK1 _ _ ?_);refine aP [1] ?_;refine aW ?_ fun K hK=>by simp -dsimp;refine cI (hfo) ?_;simp -dsimp;exact hK
  refine a5 fun K2 hK2=>?_;refine aW ?_;refine a6 rfl (fun hc1=>?_) (fun hc1=>?_)
  ·simp at hc1
  ·refine b8 ?_;refine zQ (hK2 _ _ ?_);refine aP [1,4] ?_;refine aW ?_;refine a5 fun K3 hK3=>?_;refine aW ?_;refine a9 ?_;refine aP [1,6,43,44,45] ?_;refine c5 [1,6,43,44] (α:=Nat) (fun k=>[(45,I k)]) (fun k=>[some (.els 4 [s.cells]),some (.map true KT4 (b0Z fl k)),some (.map false [.i .i64] []),some (.map true KTM []),some (.map true X6 []),some (.map true X6 []),some (b0o s 1 2 3 4 5)]) (fun k=>k≤fl.length) (fun k=>fl.length-k) 0 ?_ ?_ ?_
   ·exact Nat.zero_le _
   ·exact e8 [some 0,some 1,some 2,some 3,some 4,some 5,some 6] rfl (by simp) (by simp[b0Z])
   rintro k k1;refine zN ?_;refine aW ?_;refine a5 fun K4 hK4=>?_;refine a6 rfl (fun hc2=>?_) (fun hc2=>?_)
   ·skip
    try simp at hc2
    obtain⟨f,hf⟩:=gx (l:=fl) (i:=k) (by simpa using hc2);have wk:=zW k (by omega);have hs1:=a7V hf;refine b8 ?_;refine zQ (hK4 _ _ ?_);refine aP [1,6,43,44,45] ?_;refine a5 fun K5 hK5=>?_;refine a9 ?_;refine aW ?_ fun K hK=>by simp -dsimp [hf];exact hK
    refine aD ?_;refine aE ?_;refine zQ (hK5 _ _ ?_);refine aP [1,6,43,44,45] ?_;refine aV ?_ fun K hK=>by simp -dsimp [wk];exact hK
    refine zQ ?_;exact⟨k+1,by have:=(List.getElem?_eq_some_iff.1 hf).1;omega,by have:=(List.getElem?_eq_some_iff.1 hf).1;omega,e8 [some 0,some 1,some 2,some 3,some 4,some 5,some 6] rfl (by simp) (by simp[hs1,b3o])⟩
   ·skip
    try simp at hc2
    have hke:k=fl.length:=by have:¬k<fl.length:=(by simpa using hc2);omega
    subst hke;refine c9 ?_;refine zQ (hK3 _ _ ?_);refine aP [1,6] ?_;refine a5 fun K6 hK6=>?_;refine aW ?_;refine a9 ?_;refine aP [1,6,77,78,79] ?_;refine c5 [1,6,77,78] (α:=Nat) (fun i=>[(79,I i)]) (fun i=>[some (.els 4 [s.cells]),some (.map true KT4 (b0Z fl fl.length)),some (.map false [.i .i64] (W3 (sgA s.Singles i))),some (.map true KTM (a0H (sgA s.Singles i))),some (.map true X6 []),some (.map true X6 []),some (b0o s 1 2 3 4 5)]) (fun i=>i≤s.Singles.length∧(∀j x,j<i→s.Singles[j]?=some x→1≤x.length∧x.length≤100)∧b3i s.Plan (sgA s.Singles i)) (fun i=>s.Singles.length-i) 0 ?_ ?_ ?_
    ·exact⟨Nat.zero_le _,fun j x h=>absurd h (Nat.not_lt_zero _),by simp[b3i,sgA]⟩
    ·exact e8 [some 0,some 1,some 2,some 3,some 4,some 5,some 6] rfl (by simp) (by simp[sgA,W3,a0H])
    rintro i ⟨i1,i2,i3⟩;refine zN ?_;refine aW ?_;refine a5 fun K7 hK7=>?_;refine a6 rfl (fun hc3=>?_) (fun hc3=>?_)
    ·skip
     try simp at hc3
     obtain⟨x,hx⟩:=gx (l:=s.Singles) (i:=i) (by simpa using hc3);have wi:=zW i (by omega);have hsx:=a0o s.Singles i hx;have hxm:=hm100 x (List.mem_of_getElem? hx);refine b8 ?_;refine zQ (hK7 _ _ ?_);refine aP [1,6,77,78,79] ?_;refine a5 fun K8 hK8=>?_;refine a9 ?_;refine aW ?_ fun K hK=>by simp -dsimp [hx];exact hK
     refine a5 fun K9 hK9=>?_;refine aW ?_ fun K hK=>by simp -dsimp [hx];refine cI (s7 x.length 1 100) ?_;simp -dsimp [hx];exact hK
     refine a6 rfl (fun hc4=>?_) (fun hc4=>?_)
     ·refine aW ?_;exact a7 (by simp)
     ·have hxl:1≤x.length∧x.length≤100:=by simp[inr]at hc4;omega
      refine b8 ?_;refine zQ (hK9 _ _ ?_);refine aP [1,6,9,10,77,78,79] ?_;refine aW ?_;refine a9 ?_;refine aP [1,6,9,77,78,79,90,91,92] ?_;refine c5 [1,6,9,77,78,79,90,91] (α:=Nat) (fun k=>[(92,I k)]) (fun k=>[some (.els 4 [s.cells]),some (.map true KT4 (b0Z fl fl.length)),some (.map false [.i .i64] (W3 (sgA s.Singles i++sgK s.Singles i k))),some (.map true KTM (a0H (sgA s.Singles i++sgK s.Singles i k))),some (.map true X6 []),some (.map true X6 []),some (b0o s 1 2 3 4 5)]) (fun k=>k≤x.length∧b3i s.Plan (sgA s.Singles i++sgK s.Singles i k)) (fun k=>x.length-k) 0 ?_ ?_ ?_
      ·exact⟨Nat.zero_le _,by simpa [sgK]using i3⟩
      ·exact e8 [some 0,some 1,some 2,some 3,some 4,some 5,some 6] rfl (by simp) (by simp[sgK])
      rintro k ⟨k1,k2⟩;refine zN ?_;refine aW ?_;refine a5 fun K10 hK10=>?_;refine a6 rfl (fun hc5=>?_) (fun hc5=>?_)
      ·skip
       try simp at hc5
       obtain⟨m,hm⟩:=gx (l:=x) (i:=k) (by simpa using hc5);have wk:=zW k (by omega);have wr:IntKind.i64.wrap ((s.Plan.Rails.length:Int)-1)=(s.Plan.Rails.length:Int)-1:=c4 (by omega) (by omega);have hsk:=a3v s.Singles i k hx hm;have hs1:=a7W (sgA s.Singles i++sgK s.Singles i k) (i,m);have hs2:=a8g (sgA s.Singles i++sgK s.Singles i k) (i,m);have hgo:=fun h1 h2=>c1w k2 (i:=i) (m:=m) h1 h2;rw[List.append_assoc,←hsk]at hs1 hs2 hgo;simp only at hs1 hs2;generalize W3 (sgA s.Singles i++sgK s.Singles i k)=si at hgo hs1 ⊢;generalize a0H (sgA s.Singles i++sgK s.Singles i k)=up at hs2 ⊢;refine b8 ?_;refine zQ (hK10 _ _ ?_);refine aP [1,6,9,77,78,79,90,91,92] ?_;refine a5 fun K11 hK11=>?_;refine a9 ?_;refine aW ?_ fun K hK=>by simp -dsimp [hm];exact hK
       refine a5 fun K12 hK12=>?_;refine aD ?_ fun K hK=>by simp -dsimp;refine d7 (.tup [.v ((p6 si (kI m.Rail)).getD (.int .i64 0)),Bo (p6 si (kI m.Rail)).isSome]) (fun hm=>rfl) ?_;simp -dsimp;exact hK
       refine aW ?_ fun K hK=>by simp -dsimp [wr];refine cY (fun hm=>s7 m.Rail 0 (s.Plan.Rails.length-1)) ?_;simp -dsimp [wr];exact hK
       refine a6 rfl (fun hc6=>?_) (fun hc6=>?_)
       ·refine aW ?_;exact a7 (by simp)
       ·have hgo2:=hgo (by cases h9:(p6 si (kI m.Rail)).isSome<;>simp[h9]at hc6 ⊢) (by show inr m.Rail 0 (s.Plan.Rails.length-1)=true;cases h9:(p6 si (kI m.Rail)).isSome<;>simp[h9]at hc6 ⊢ <;>exact hc6);refine b8 ?_;refine zQ (hK12 _ _ ?_);refine aP [1,6,9,12,77,78,79,90,91,92] ?_;refine aD ?_;refine aE ?_;refine zQ (hK11 _ _ ?_);refine aP [1,6,9,77,78,79,90,91,92] ?_;refine aV ?_ fun K hK=>by simp -dsimp [wk];exact hK
        refine zQ ?_;exact⟨k+1,⟨by have:=(List.getElem?_eq_some_iff.1 hm).1;omega,hgo2⟩,by have:=(List.getElem?_eq_some_iff.1 hm).1;omega,e8 [some 0,some 1,some 2,some 3,some 4,some 5,some 6] rfl (by simp) (by simp[hs1,hs2])⟩
      ·skip
       try simp at hc5
       have hke:k=x.length:=by have:¬k<x.length:=(by simpa using hc5);omega
       subst hke;refine c9 ?_;refine zQ (hK8 _ _ ?_);refine aP [1,6,77,78,79] ?_;refine aV ?_ fun K hK=>by simp -dsimp [wi];exact hK
       refine zQ ?_;exact⟨i+1,⟨by have:=(List.getElem?_eq_some_iff.1 hx).1;omega,fun j y hj hy=>by rcases Nat.lt_succ_iff_lt_or_eq.1 hj with h|rfl;exact i2 j y h hy;rw[hx]at hy;cases hy;exact hxl,by rw[hsx];exact k2⟩,by have:=(List.getElem?_eq_some_iff.1 hx).1;omega,e8 [some 0,some 1,some 2,some 3,some 4,some 5,some 6] rfl (by simp) (by simp[hsx])⟩
    ·skip
     try simp at hc3
     have hie:i=s.Singles.length:=by have:¬i<s.Singles.length:=(by simpa using hc3);omega
     subst hie;exfalso;have:=T9.2 ⟨fun x hx=>by obtain⟨j,hj⟩:=List.getElem?_of_mem hx;exact i2 j x (List.getElem?_eq_some_iff.1 hj).1 hj,i3⟩;rw[hsb]at this;cases this
theorem c_open_f (s:j5) (h:P7 s=false) (hN:s.Plan.Rails.length≤20) (hp:s.Profiles.length≤100000) (hm:∀x∈s.Singles,x.length≤100000):a8 Tryz.prog 31 [s.av] c4c:=by
 cases hv:d8 s.Plan with
 |false=>exact b0A s (Or.inl hv)
 | true=>
  by_cases hs:s.Singles.length≤30
  ·cases hpf:D5 s.Profiles with
   |false=>exact b6S s hv hs hpf hp
   |true=>
    refine b8H s hv hs hpf ?_ hN hm;simpa [P7,hv,hpf,hs]using h
  ·exact b0A s (Or.inr (by omega))
end Go.Tram.Lk
end
section
namespace Go.Tram.Lk
open Go.AM
abbrev kOf (n:Int):List KC:=[.i .i64 n]
def o4 (l:List Car):List (List KC×AV):=l.map fun c=>(kOf c.Name,c.av)
abbrev a7K (l:List Car):l7:= .mpa false [.i .i64] (o4 l)
def b1T (l:List Car) (n:Int):List Car:=l.filter fun c=>decide (c.Name≠n)
theorem n6:∀(l:List Car) (n:Int),C2 (o4 l) (kOf n)=(a0g l n).map Car.av
 |[],n=>rfl
 |c::l,n=>by
  have ih:=n6 l n;unfold o4 at ih ⊢;unfold a0g at ih ⊢;rw[List.map_cons,C2,List.find?_cons]
  by_cases h:c.Name=n
  ·rw[if_pos (by rw[h]),decide_eq_true h];rfl
  ·rw[if_neg (by intro e;simp at e;exact h e.symm),decide_eq_false h];exact ih
theorem a2B (l:List Car):(o4 l).map (·.1)=l.map fun c=>kOf c.Name:=by
 simp[o4,List.map_map]
theorem srt_nodup {l:List Car} (h:Srt l):(l.map (·.Name)).Nodup:=by
 unfold Srt at h;exact h.imp (fun h=>by omega)
theorem a5Y {l:List Car} (h:Srt l):((o4 l).map (·.1)).Nodup:=by
 rw[a2B];have:=srt_nodup h;unfold List.Nodup at this ⊢;rw[List.pairwise_map]at this ⊢;exact this.imp fun h e=>h (by simpa [kOf]using e)
theorem U8 {c:Car} {l:List Car}:Srt (c::l)↔(∀x∈l,c.Name<x.Name)∧Srt l:=by
 unfold Srt;rw[List.map_cons,List.pairwise_cons];simp
theorem a4y (c:Car) (l:List Car) (n:Int):b1T (c::l) n=if c.Name=n then b1T l n else c::b1T l n:=by
 unfold b1T;rw[List.filter_cons]
 by_cases h:c.Name=n<;>simp[h]
theorem Z7 {l:List Car} {n:Int} (h:∀x∈l,x.Name≠n):b1T l n=l:=by
 unfold b1T;rw[List.filter_eq_self];intro a ha;simpa using h a ha
theorem a5N:∀(l:List Car) (n:Int),P8 (o4 l) (kOf n)=o4 (b1T l n)
 |[],n=>rfl
 |c::l,n=>by
  have ih:=a5N l n;unfold P8 o4 at ih ⊢;rw[List.map_cons,List.filter_cons,a4y]
  by_cases h:c.Name=n
  ·rw[if_pos h,if_neg (by simp[h])];exact ih
  ·rw[if_neg h,if_pos (by simp;exact h),List.map_cons,ih]
theorem Y6:∀{l:List Car} (c:Car),Srt l→(C1 l c).Perm (c::b1T l c.Name)
 |[],c,_=>by simp[C1,b1T]
 | x ::l,c,h=>by
  obtain⟨h1,h2⟩:=U8.1 h;have ih:=Y6 c h2;unfold C1 at ih ⊢;rw[a4y];rw[List.takeWhile_cons,List.dropWhile_cons]
  by_cases hx:x.Name<c.Name
  ·rw[if_pos (by simpa using hx),if_pos (by simpa using Int.le_of_lt hx),if_neg (by omega),List.cons_append];exact(ih.cons x).trans (List.Perm.swap _ _ _)
  ·rw[if_neg (by simpa using hx),List.nil_append]
   by_cases he:x.Name=c.Name
   ·rw[if_pos (by simp;omega),if_pos he];have e1:l.dropWhile (fun x=>decide (x.Name≤c.Name))=l:=by
     cases l with
     |nil=>rfl
     |cons y l=>rw[List.dropWhile_cons,if_neg];have:=h1 y (by simp);simp;omega
    rw[e1,Z7 fun y hy=>by have:=h1 y hy;omega]
   ·rw[if_neg (by simp;omega),if_neg he,Z7 fun y hy=>by have:=h1 y hy;omega]
theorem a0w {l:List Car} (c:Car) (h:Srt l):(P6 (o4 l) (kOf c.Name) c.av).Perm (o4 (C1 l c)):=by
 refine(a0t _ _ _ (a5Y h)).trans ?_;rw[a5N];have:=(Y6 c h).symm.map (fun c:Car=>(kOf c.Name,c.av));simpa [o4]using this
theorem b7a {l:List Car} {n:Int} {x:Car}:x∈b1T l n↔x∈l∧x.Name≠n:=by
 unfold b1T;rw[List.mem_filter];simp
theorem z4 {l:List Car} (h:Srt l) {c x:Car}:x∈C1 l c↔x=c∨(x∈l∧x.Name≠c.Name):=by
 rw[(Y6 c h).mem_iff,List.mem_cons,b7a]
theorem P9:∀{l:List Car} (c:Car),Srt l→Srt (C1 l c)
 |[],c,_=>by simp[C1,Srt]
 | x ::l,c,h=>by
  obtain⟨h1,h2⟩:=U8.1 h;have ih:=P9 c h2;have hm:=fun y=>z4 (x:=y) (c:=c) h2;unfold C1 at ih hm ⊢;rw[List.takeWhile_cons,List.dropWhile_cons]
  by_cases hx:x.Name<c.Name
  ·rw[if_pos (by simpa using hx),if_pos (by simpa using Int.le_of_lt hx),List.cons_append];refine U8.2 ⟨fun y hy=>?_,ih⟩
   rcases(hm y).1 hy with rfl|⟨h3,_⟩
   ·exact hx
   ·exact h1 y h3
  ·rw[if_neg (by simpa using hx),List.nil_append]
   by_cases he:x.Name=c.Name
   ·rw[if_pos (by simp;omega)];have e1:l.dropWhile (fun x=>decide (x.Name≤c.Name))=l:=by
     cases l with
     |nil=>rfl
     |cons y l=>rw[List.dropWhile_cons,if_neg];have:=h1 y (by simp);simp;omega
    rw[e1];exact U8.2 ⟨fun y hy=>by have:=h1 y hy;omega,h2⟩
   ·rw[if_neg (by simp;omega)];refine U8.2 ⟨fun y hy=>?_,h⟩
    rcases List.mem_cons.1 hy with rfl|hy
    ·omega
    ·have:=h1 y hy;omega
theorem U7 {l:List Car} {n:Int} {c:Car} (h:a0g l n=some c):c∈l∧c.Name=n:=by
 unfold a0g at h;exact⟨List.mem_of_find?_eq_some h,by simpa using List.find?_some h⟩
theorem b6f {l:List Car} (h:Srt l) {x y:Car} (hx:x∈l) (hy:y∈l) (e:x.Name=y.Name):x=y:=by
 induction l with
 |nil=>cases hx
 |cons z l ih=>
  obtain⟨h1,h2⟩:=U8.1 h
  rcases List.mem_cons.1 hx with e1|hx'<;>rcases List.mem_cons.1 hy with e2|hy'
  ·rw[e1,e2]
  ·have:=h1 y hy';rw[e1]at e;omega
  ·have:=h1 x hx';rw[e2]at e;omega
  ·exact ih h2 hx' hy'
theorem J8 {l:List Car} (h:Srt l) {c:Car} (hc:c∈l):a0g l c.Name=some c:=by
 unfold a0g
 cases e:l.find? fun x=>decide (x.Name=c.Name)with
 |none=>have:=List.find?_eq_none.1 e c hc;simp at this
 |some y=>
  have:=U7 (n:=c.Name) (l:=l) (c:=y) e;rw[b6f h this.1 hc this.2]
theorem a4n {l:List Car} {n:Int}:a0g l n=none↔∀x∈l,x.Name≠n:=by
 unfold a0g;rw[List.find?_eq_none];simp
theorem a0r {l:List Car} (h:Srt l) {ss:List Int} (hp:ss.Perm (l.map (·.Name))):ss.mergeSort (fun x y=>decide (x≤y))=l.map (·.Name):=by
 have h1:(ss.mergeSort (fun x y=>decide (x≤y))).Pairwise (fun x y:Int=>decide (x≤y)=true):=List.pairwise_mergeSort (fun a b c=>by simp;omega) (fun a b=>by simp;omega) ss;have h2:(l.map (·.Name)).Pairwise (fun x y:Int=>decide (x≤y)=true):=by
  unfold Srt at h;exact h.imp fun h=>by simp;omega
 refine List.Perm.eq_of_pairwise (le:=fun x y:Int=>decide (x≤y)=true) (fun a b _ _ h1 h2=>by simp at h1 h2;omega) h1 h2 ((List.mergeSort_perm ss _).trans hp)
end Go.Tram.Lk
end
section
namespace Go.Tram.Lk
open Go.AM
theorem b8P {p:Plan} (hv:d8 p=true) {m k:Move} (hm:D3 p m=true) (hk:D3 p k=true) (hf:F9 p m k=true) (hs:J5 p m=true):
  0≤(L2 p m k).Node∧(L2 p m k).Node<p.Nodes.length∧(p.node (L2 p m k).Node).Kind=4∧((L2 p m k).Leg=1∨(L2 p m k).Leg=2):=by
 rw[a9w hv hm hk]at hf;obtain⟨i,hi,h1,h2,h3,a,b,ha,hb,hl⟩:=b4Q hv hm hf;have e:L2 p m k=⟨(i:Int),a9x a b⟩:=by unfold L2;rw[h1,a3C hv hi ha,a3C hv hi hb]
 have hkd:(p.node i).Kind=4:=by
  unfold J5 at hs;rw[h3]at hs;simpa using hs
 have hnf:=X7 hv (i:=i) (by omega) (by omega);have he:((p.node i).Ends.length:Int)=3:=by
  simp only[C0,Bool.and_eq_true,decide_eq_true_eq]at hnf;have:=hnf.2.2.2;rw[hkd]at this;simpa [S4]using this
 have ha2:=(List.getElem?_eq_some_iff.1 ha).1;have hb2:=(List.getElem?_eq_some_iff.1 hb).1;rw[b6G,hkd]at hl;simp only[c3F]at hl;rw[if_neg (by omega),if_neg (by omega),if_neg (by omega),if_pos trivial]at hl;simp only[Bool.and_eq_true,Bool.or_eq_true,decide_eq_true_eq]at hl;rw[e];refine⟨by simp,by simpa using hi,hkd,?_⟩;simp only[a9x]
 split<;>omega
theorem b7K {p:Plan} {l:List Move} (hw:wayB p l=true) {m:Move} (hm:D3 p m=true) (hf:F9 p (l.getLast?.getD default) m=true) (hn:l.length≤1999):wayB p (l++[m])=true:=by
 have hl:=F5 hw;unfold wayB at hw ⊢;rw[Bool.and_eq_true]at hw ⊢;refine⟨?_,g6.2 (by simp;omega)⟩;rw[List.length_append,List.length_singleton,a4f,Bool.and_eq_true];constructor
 ·refine List.all_eq_true.2 fun i hi=>?_;have h1:=List.mem_range.1 hi;have h2:=a0U hw.1 h1;unfold U5 at h2 ⊢;rw[List.getElem?_append_left h1,List.getElem?_append_left (by omega)];exact h2
 ·unfold U5;rw[List.getElem?_append_right (Nat.le_refl _),List.getElem?_append_left (by omega)];simp only[Nat.sub_self,List.getElem?_cons_zero,Option.getD_some,Bool.and_eq_true,Bool.or_eq_true];refine⟨hm,Or.inr ?_⟩;rw[←List.getLast?_eq_getElem?];exact hf
theorem c1Z {p:Plan} {m:Move} (hm:D3 p m=true):wayB p [m]=true:=by
 unfold wayB U5;simp[hm,inr]
theorem a3X {l k:List Move} {i:Nat} (h:i<l.length):C3 (l++k) i=C3 l i:=by
 unfold C3;rw[List.getElem?_append_left h]
theorem b7g {p:Plan} {l:List Move} (hw:wayB p l=true) {n:Nat} (h1:1≤n):wayB p (l.take n)=true:=by
 have hl:=F5 hw;unfold wayB at hw ⊢;rw[Bool.and_eq_true]at hw ⊢;refine⟨List.all_eq_true.2 fun i hi=>?_,g6.2 (by simp;omega)⟩;have h2:=List.mem_range.1 hi;rw[List.length_take]at h2;have h3:=a0U hw.1 (show i<l.length by omega);unfold U5 at h3 ⊢;rw[List.getElem?_take,List.getElem?_take,if_pos (by omega),if_pos (by omega)];exact h3
theorem b6w {p:Plan} {l:List Move} (hw:wayB p l=true) {n:Nat} (h1:n<l.length):wayB p (l.drop n)=true:=by
 have hl:=F5 hw;unfold wayB at hw ⊢;rw[Bool.and_eq_true]at hw ⊢;refine⟨List.all_eq_true.2 fun i hi=>?_,g6.2 (by simp;omega)⟩;have h2:=List.mem_range.1 hi;rw[List.length_drop]at h2;have h3:=a0U hw.1 (show n+i<l.length by omega);unfold U5 at h3 ⊢;rw[List.getElem?_drop,List.getElem?_drop];rw[Bool.and_eq_true,Bool.or_eq_true]at h3 ⊢;refine⟨h3.1,?_⟩
 by_cases h0:i=0
 ·exact Or.inl (by simp[h0])
 ·rcases h3.2 with h|h
  ·simp at h;omega
  ·rw[show n+i-1=n+(i-1)by omega]at h;exact Or.inr h
theorem b3F (p:Plan) (l k:List Move) {n:Nat} (h:n<l.length∨n=0):X5 p (l++k) n=X5 p l n:=by
 unfold X5;rw[List.flatMap_def,List.flatMap_def]
 congr 1
 refine List.map_congr_left fun i hi=>?_;have:=List.mem_range.1 hi;unfold Z1;rw[a3X (by omega),a3X (by omega)]
theorem c1E (p:Plan) {l:List Move} (hne:l≠[]) (m:Move):X5 p (l++[m]) ((l++[m]).length-1)=X5 p l (l.length-1)++if J5 p (l.getLast?.getD default)then [L2 p (l.getLast?.getD default) m]else []:=by
 have h1:1≤l.length:=by cases l with|nil=>exact absurd rfl hne|cons a l=>simp
 have e:(l++[m]).length-1=l.length-1+1:=by simp;omega
 rw[e,a0e,b3F p l [m] (by omega)]
 congr 1
 unfold Z1;rw[a3X (by omega)];have e1:C3 l (l.length-1)=l.getLast?.getD default:=by unfold C3;rw[List.getLast?_eq_getElem?]
 have e2:C3 (l++[m]) (l.length-1+1)=m:=by
  unfold C3;rw[List.getElem?_append_right (by omega)];simp[show l.length-1+1-l.length=0 by omega]
 rw[e1,e2]
theorem a8O {p:Plan} {l:List Move} {n:Nat} {y:R0}:y∈X5 p l n↔∃i,i<n∧J5 p (C3 l i)=true∧y=L2 p (C3 l i) (C3 l (i+1)):=by
 unfold X5;rw[List.mem_flatMap];constructor
 ·rintro⟨i,hi,hy⟩;unfold Z1 at hy
  split at hy
  ·rename_i h;exact⟨i,List.mem_range.1 hi,h,by simpa using hy⟩
  ·cases hy
 ·rintro⟨i,hi,h,rfl⟩;exact⟨i,List.mem_range.2 hi,by unfold Z1;rw[if_pos h];simp⟩
def ptB (n:Node) (v:Int):Bool:=if n.Kind=4 then inr v 1 2 else decide (v=0)
def a5u (p:Plan) (l:List Int):Bool:=decide (l.length=p.Nodes.length)&&(List.range l.length).all fun i=>ptB (p.node i) (l[i]?.getD 0)
structure a3w (s:j5) (x:Sta):Prop where
 srt:Srt x.Cars
 car:∀c∈x.Cars,a1W s c=true
 pts:a5u s.Plan x.Points=true
 held:∀c∈x.Cars,∀y∈F0 s c,x.Points[y.Node.toNat]?=some y.Leg
 apart:∀a∈x.Cars,∀b∈x.Cars,a.Name≠b.Name→a0Q s a b=true
theorem o7 {s:j5} (h:P7 s=true):d8 s.Plan=true∧D5 s.Profiles=true∧s.Singles.length≤30∧a7s s.Plan s.Singles=true:=by
 simpa [P7]using h
theorem o5 {s:j5} {c:Car} (h:a1W s c=true):(1≤c.Name∧c.Name≤1000000)∧(0≤c.Profile∧c.Profile≤(s.Profiles.length:Int)-1)∧(1≤c.Way.length∧c.Way.length≤20∧(A7 c.Way).Nodup∧wayB s.Plan c.Way=true)∧0≤c.Front∧c.Front≤(c.Way.length:Int)-1:=by
 simp only[a1W,a9Y,Bool.and_eq_true,decide_eq_true_eq,g6]at h;exact⟨h.1,h.2.1,h.2.2.1,h.2.2.2⟩
theorem O2 {s:j5} {c:Car} (h:wayB s.Plan c.Way=true):F0 s c=X5 s.Plan c.Way (c.Way.length-1):=by
 unfold F0;rw[if_pos h]
theorem b5W {s:j5} (hs:P7 s=true) {l:List Move} (hw:wayB s.Plan l=true) {y:R0} (hy:y∈X5 s.Plan l (l.length-1)):
  0≤y.Node∧y.Node<s.Plan.Nodes.length∧(s.Plan.node y.Node).Kind=4∧(y.Leg=1∨y.Leg=2):=by
 obtain⟨hv,_⟩:=o7 hs;obtain⟨i,hi,h1,rfl⟩:=a8O.1 hy;exact b8P hv (J9 hw i (by omega)) (J9 hw (i+1) (by omega)) (b1x hw (by omega)) h1
theorem a3R {s:j5} (hs:P7 s=true) {c:Car} {m:Move} (hw:c.Way≠[]→wayB s.Plan c.Way=true) (hm:D3 s.Plan m=true) (h:K0 s c m=true):
  0≤(D8 s c m).Node∧(D8 s c m).Node<s.Plan.Nodes.length∧(s.Plan.node (D8 s c m).Node).Kind=4∧((D8 s c m).Leg=1∨(D8 s c m).Leg=2):=by
 obtain⟨hv,_⟩:=o7 hs;have h0:=h;simp only[K0,Bool.and_eq_true,decide_eq_true_eq]at h;have hwy:=hw h.1;have hl:=F5 hwy;unfold D8;rw[if_pos h0];refine b8P hv ?_ hm h.2.1 h.2.2;have:=J9 hwy (c.Way.length-1) (by omega);unfold C3 at this;unfold C4;rw[List.getLast?_eq_getElem?];exact this
end Go.Tram.Lk
end
section
namespace Go.Tram.Lk
open Go.AM
theorem b4U (s:j5) (a x b y:Int):G0 s a x b y=G0 s b y a x:=by
 unfold G0
 congr 1
 funext f
 exact Bool.or_comm _ _
theorem a4c (s:j5) (m n:Move):G7 s m n=G7 s n m:=by
 unfold G7;rw[Bool.eq_iff_iff];simp only[Bool.and_eq_true,decide_eq_true_eq];constructor<;>rintro⟨h1,h2,h3⟩<;>exact⟨by omega,by omega,fun e=>h3 e.symm⟩
theorem Y3 {s:j5} {a b:Car}:a0Q s a b=true↔∀m∈a.Way,∀n∈b.Way,G0 s m.Rail a.Profile n.Rail b.Profile=false∧G7 s m n=false:=by
 simp[a0Q,List.all_eq_true]
theorem b3m {s:j5} {a b:Car} (h:a0Q s a b=true):a0Q s b a=true:=by
 rw[Y3]at h ⊢;intro m hm n hn;rw[b4U,a4c];exact h n hn m hm
theorem a1E {l:List Car} {c:Car} {f:Car→Move→Bool}:a5k l c f=none↔∀x∈l,x.Name≠c.Name→∀n∈x.Way,f x n=false:=by
 unfold a5k;rw[Option.map_eq_none_iff,List.find?_eq_none];constructor
 ·intro h x hx hne n hn;have:=h x hx;simp only[Bool.and_eq_true,decide_eq_true_eq,List.any_eq_true,not_and,not_exists]at this;have:=this hne n hn;simpa using this
 ·intro h x hx;simp only[Bool.and_eq_true,decide_eq_true_eq,List.any_eq_true,not_and,not_exists];intro hne n hn;rw[h x hx hne n hn];simp
structure c5i (s:j5) (x:Sta) (c:Car) (m:Move):Prop where
 ends:endB s c m=false
 own:b6h c m=false
 foul:∀o∈x.Cars,o.Name≠c.Name→∀n∈o.Way,G0 s m.Rail c.Profile n.Rail o.Profile=false
 set:K0 s c m=true→∀o∈C1 x.Cars c,r9 s o (D8 s c m)=false
 side:∀o∈x.Cars,o.Name≠c.Name→∀n∈o.Way,G7 s m n=false
 long:c.Way.length<20
theorem a4D {s:j5} {x:Sta} {c:Car} {m:Move} (h:(s8 s x c m).Kind=0):c5i s x c m:=by
 unfold s8 at h
 split at h
 ·simp at h
 rename_i h1
 split at h
 ·simp at h
 rename_i h2
 split at h
 ·simp at h
 rename_i h3
 split at h
 ·simp at h
 rename_i h4
 split at h
 ·simp at h
 rename_i h5
 split at h
 ·simp at h
 rename_i h6;refine⟨by simpa using h1,by simpa using h2,a1E.1 h3,fun hs o ho=>?_,a1E.1 h5,by omega⟩;rw[if_pos hs,Option.map_eq_none_iff,List.find?_eq_none]at h4;simpa using h4 o ho
structure a4p (s:j5) (x:Sta) (c:Car):Prop where
 way:c.Way≠[]→wayB s.Plan c.Way=true
 nod:(A7 c.Way).Nodup
 len:c.Way.length≤20
 held:∀y∈F0 s c,x.Points[y.Node.toNat]?=some y.Leg
 apart:∀o∈x.Cars,o.Name≠c.Name→a0Q s c o=true
theorem a3w.carOk {s:j5} {x:Sta} (h:a3w s x) {c:Car} (hc:c∈x.Cars):a4p s x c:=by
 obtain⟨_,_,⟨h1,h2,h3,h4⟩,_⟩:=o5 (h.car c hc);exact⟨fun _=>h4,h3,h2,h.held c hc,fun o ho hne=>h.apart c hc o ho (fun e=>hne e.symm)⟩
theorem b6d (s:j5) (x:Sta) (n p f:Int):a4p s x ⟨n,p,[],f⟩:=by
 refine⟨fun h=>absurd rfl h,by simp[A7],by simp,fun y hy=>?_,fun o ho hne=>by rw[Y3];intro m hm;cases hm⟩;unfold F0 at hy;simp[wayB,inr]at hy
theorem c0c {p:Plan} {l:List Int} (h:a5u p l=true) {i:Nat} (hi:i<p.Nodes.length) (hk:(p.node i).Kind=4) {v:Int} (hv:v=1∨v=2):a5u p (l.set i v)=true:=by
 simp only[a5u,Bool.and_eq_true,decide_eq_true_eq,List.all_eq_true,List.mem_range,List.length_set]at h ⊢;refine⟨h.1,fun j hj=>?_⟩;have:=h.2 j hj;rw[List.getElem?_set]
 split
 ·rename_i e;subst e;rw[if_pos (by omega)];unfold ptB;rw[if_pos hk];exact g6.2 (by simp;omega)
 ·exact this
theorem c1S {s:j5} (hs:P7 s=true) {x:Sta} {c:Car} {m:Move} (hc:a4p s x c) (hm:D3 s.Plan m=true) (h:a5u s.Plan x.Points=true):a5u s.Plan (a3d s c m x.Points)=true:=by
 unfold a3d
 split
 ·rename_i hg;obtain⟨h1,h2,h3,h4⟩:=a3R hs hc.way hm hg;refine c0c h (by omega) ?_ h4;rw[Int.toNat_of_nonneg h1];exact h3
 ·exact h
theorem b1k {s:j5} (hs:P7 s=true) {x:Sta} {c o:Car} {m:Move} (hc:a4p s x c) (hm:D3 s.Plan m=true) (hp:a5u s.Plan x.Points=true) (hw:o.Way≠[]→wayB s.Plan o.Way=true) (hh:∀y∈F0 s o,x.Points[y.Node.toNat]?=some y.Leg)
  (hf:K0 s c m=true→r9 s o (D8 s c m)=false):∀y∈F0 s o,(a3d s c m x.Points)[y.Node.toNat]?=some y.Leg:=by
 intro y hy;have h0:=hh y hy;unfold a3d
 split
 ·rename_i hg;have h1:=hf hg;obtain⟨g1,g2,_,_⟩:=a3R hs hc.way hm hg;unfold r9 at h1;rw[List.any_eq_false]at h1;have h2:=h1 y hy;simp only[Bool.and_eq_true,decide_eq_true_eq,not_and,Decidable.not_not]at h2;rw[List.getElem?_set]
  split
  ·rename_i e;have hne:o.Way≠[]:=by
    intro e;unfold F0 at hy;rw[e]at hy;simp[wayB,inr]at hy
   have hwy:=hw hne;rw[O2 hwy]at hy;obtain⟨k1,k2,_⟩:=b5W hs hwy hy;have e2:y.Node=(D8 s c m).Node:=by omega
   simp only[a5u,Bool.and_eq_true,decide_eq_true_eq]at hp;rw[if_pos (by omega),h2 e2]
  ·exact h0
 ·exact h0
theorem S7 {l:List Car} (h:Srt l) {c:Car}:c∈C1 l c:=(z4 h).2 (Or.inl rfl)
theorem b1E {s:j5} (hs:P7 s=true) {x:Sta} {c:Car} {m:Move} (hx:a3w s x) (hc:a4p s x c) (hsame:∀o∈x.Cars,o.Name=c.Name→o=c) (hm:D3 s.Plan m=true) (hf:c5i s x c m):
  a3w s {x with Points:=a3d s c m x.Points}∧a4p s {x with Points:=a3d s c m x.Points} (p7 c m):=by
 obtain⟨hv,_⟩:=o7 hs;have hins:∀o∈x.Cars,o∈C1 x.Cars c:=by
  intro o ho
  by_cases e:o.Name=c.Name
  ·rw[hsame o ho e];exact S7 hx.srt
  ·exact(z4 hx.srt).2 (Or.inr ⟨ho,e⟩)
 have hwl:c.Way≠[]→F9 s.Plan (C4 c) m=true:=by
  intro hne;have:=hf.ends;simp only[endB,Bool.and_eq_false_iff,decide_eq_false_iff_not,Bool.not_eq_false']at this
  rcases this with h|h
  ·exact absurd hne h
  ·exact h
 have hway:wayB s.Plan (c.Way++[m])=true:=by
  by_cases hne:c.Way=[]
  ·rw[hne];exact c1Z hm
  ·exact b7K (hc.way hne) hm (hwl hne) (by have:=hc.len;omega)
 refine⟨⟨hx.srt,hx.car,c1S hs hc hm hx.pts,fun o ho=>?_,hx.apart⟩,fun _=>hway,?_,?_,?_,fun o ho hne=>?_⟩
 ·have hcb:=o5 (hx.car o ho);exact b1k hs hc hm hx.pts (fun _=>hcb.2.2.1.2.2.2) (hx.held o ho) fun hg=>hf.set hg o (hins o ho)
 ·have h1:=hf.own;show(A7 (c.Way++[m])).Nodup;unfold A7 at h1 ⊢;rw[List.map_append,List.nodup_append];refine⟨hc.nod,by simp,fun a ha b hb=>?_⟩;simp only[List.map_cons,List.map_nil,List.mem_singleton]at hb;subst hb;rintro rfl;unfold b6h A7 at h1;rw[List.contains_eq_mem,decide_eq_false_iff_not]at h1;exact h1 ha
 ·show(c.Way++[m]).length≤20;have:=hf.long;simp;omega
 ·intro y hy;have hy2:y∈X5 s.Plan (c.Way++[m]) ((c.Way++[m]).length-1):=by
   have:F0 s (p7 c m)=X5 s.Plan (c.Way++[m]) ((c.Way++[m]).length-1):=O2 hway;rw[←this];exact hy
  by_cases hne:c.Way=[]
  ·rw[hne]at hy2;simp at hy2
  rw[c1E _ hne,List.mem_append]at hy2
  rcases hy2 with h|h
  ·have hwy:=hc.way hne;refine b1k hs hc hm hx.pts hc.way hc.held (fun hg=>hf.set hg c (S7 hx.srt)) y ?_;rw[O2 hwy];exact h
  ·split at h
   ·rename_i p9;simp only[List.mem_singleton]at h;have hg:K0 s c m=true:=by
     simp only[K0,Bool.and_eq_true,decide_eq_true_eq];exact⟨hne,hwl hne,p9⟩
    obtain⟨g1,g2,_⟩:=a3R hs hc.way hm hg;have e:y=D8 s c m:=by unfold D8;rw[if_pos hg,h];rfl
    have hp:=hx.pts;simp only[a5u,Bool.and_eq_true,decide_eq_true_eq]at hp;show(a3d s c m x.Points)[y.Node.toNat]?=some y.Leg;unfold a3d;rw[if_pos hg,e,List.getElem?_set_self (by omega)]
   ·cases h
 ·have ha:=hc.apart o ho hne;rw[Y3]at ha ⊢;intro a hal n hn
  rcases List.mem_append.1 hal with h|h
  ·exact ha a h n hn
  ·simp only[List.mem_singleton]at h;subst h;exact⟨hf.foul o ho hne n hn,hf.side o ho hne n hn⟩
theorem b3y {s:j5} {x:Sta} {c:Car} (hx:a3w s x) (hc:a4p s x c) (hb:a1W s c=true):a3w s {x with Cars:=C1 x.Cars c}:=by
 refine⟨P9 c hx.srt,fun o ho=>?_,hx.pts,fun o ho=>?_,fun a ha b hb2 hne=>?_⟩
 ·rcases(z4 hx.srt).1 ho with rfl|⟨h,_⟩
  ·exact hb
  ·exact hx.car o h
 ·rcases(z4 hx.srt).1 ho with rfl|⟨h,_⟩
  ·exact hc.held
  ·exact hx.held o h
 ·rcases(z4 hx.srt).1 ha with rfl|⟨h,k⟩<;>rcases(z4 hx.srt).1 hb2 with rfl|⟨h2,k2⟩
  ·exact absurd rfl hne
  ·exact hc.apart b h2 k2
  ·exact b3m (hc.apart a h k)
  ·exact hx.apart a h b h2 hne
theorem b1S {s:j5} (hs:P7 s=true) {x:Sta} {c:Car} (hc:a4p s x c) {way:List Move} {f:Int} (hw:way≠[]→wayB s.Plan way=true) (hsub:way.Sublist c.Way) (hl:∀y∈X5 s.Plan way (way.length-1),y∈X5 s.Plan c.Way (c.Way.length-1)):a4p s x {c with Way:=way,Front:=f}:=by
 refine⟨hw,?_,Nat.le_trans hsub.length_le hc.len,?_,fun o ho hne=>?_⟩
 ·exact hc.nod.sublist (hsub.map _)
 ·intro y hy
  by_cases hne:way=[]
  ·unfold F0 at hy;rw[hne]at hy;simp[wayB,inr]at hy
  have e:F0 s {c with Way:=way,Front:=f}=X5 s.Plan way (way.length-1):=O2 (c:={c with Way:=way,Front:=f}) (hw hne);rw[e]at hy;have hcne:c.Way≠[]:=by rintro e;rw[e]at hsub;exact hne (List.sublist_nil.1 hsub)
  refine hc.held y ?_;rw[O2 (hc.way hcne)];exact hl y hy
 ·have:=hc.apart o ho hne;rw[Y3]at this ⊢;exact fun m hm=>this m (hsub.subset hm)
theorem c1y {p:Plan} {l:List Move} {n:Nat} {y:R0} (h:y∈X5 p (l.drop n) ((l.drop n).length-1)):y∈X5 p l (l.length-1):=by
 obtain⟨i,hi,h1,h2⟩:=a8O.1 h;rw[List.length_drop]at hi;have e:∀j,C3 (l.drop n) j=C3 l (n+j):=by
  intro j;unfold C3;rw[List.getElem?_drop]
 rw[e]at h1 h2;rw[e]at h2;exact a8O.2 ⟨n+i,by omega,h1,by rw[h2,Nat.add_assoc]⟩
end Go.Tram.Lk
end
section
namespace Go.Tram.Lk
open Go.AM Go.Proofs
theorem a8j {P : Program} {f : FuncId} {fn : Func} {c : Code} {x : AV} {rest : List AV} {res : AV} (hf : P.funcs[f]? = some fn) (hb : fn.body = some c) (hname : (fn.name == "runtime.NumGoroutine") = false)
  (h:∀(w:World) (S:Nat→Prop) (y:Value),q9 w S x y→∃x',q9 w S x' y∧a8 P f (x'::rest) res):a8 P f (x::rest) res:=by
 have hn' : ¬ fn.name = "runtime.NumGoroutine" := by simpa using hname
 have hcf:∀(w:World) (vs:Array Value),(callFunc f vs).run P w= .ok (.enter f vs) w:=fun w vs=>by simp[callFunc,hf,hn',hb]
 refine Or.inl ⟨hcf,?_⟩;intro S0 w vs hlow hl hrep
 match vs,hl with
 | y::vs,hl=>
  obtain⟨x',hx',hp⟩:=h w S0 y (hrep 0 x y rfl rfl);have hrep':∀(i:Nat) c z,(x'::rest)[i]?=some c→(y::vs)[i]?=some z→q9 w S0 c z:=by
   intro i c z h1 h2
   cases i with
   |zero=>simp only[List.getElem?_cons_zero,Option.some.injEq]at h1 h2;subst h1 h2;exact hx'
   |succ i=>exact hrep (i+1) c z (by simpa using h1) h2
  rcases hp with⟨_,h2⟩|h2
  ·exact h2 S0 w (y::vs) hlow (by simpa using hl) hrep'
  ·obtain⟨v,h3,_⟩:=h2 S0 w (y::vs) (by simpa using hl) hrep';rw[hcf]at h3;cases h3
theorem c3t (op:BinOp) (t:TypeId) (x y:Operand) (a b:Option Addr) (n c m d:Nat) (w:World):(eqGuard op t x y (.slice a n c) (.slice b m d)).run Tryz.prog w= .ok () w:=by
 cases op<;>simp[eqGuard]
theorem c2Z (t e:TypeId) (hu:(Tryz.prog).underlying t=some (.slice e)) (a:Option Addr) (n c:Nat) (w:World):(binOp .eql t (.slice a n c) (.slice none 0 0)).run Tryz.prog w= .ok (.bool a.isNone) w:=by
 have hq:(Op.equal t (.slice a n c) (.slice none 0 0)).run Tryz.prog w= .ok a.isNone w:=by
  show(Op.equalIn (Op.maxDepth-1+1) t _ _).run _ w=_
  cases a<;>simp[Op.equalIn,run_underlying hu]
 simp[binOp,hq]
theorem c3H {w:World} {S:Nat→Prop} {sz:Nat} {y:Value} (h:q9 w S (.lst sz []) y):∃a cap,y= .slice a 0 cap:=by
 cases h with
 |lst _ _ b off cap=>exact⟨_,cap,rfl⟩
 |lstNil _ a cap=>exact⟨a,cap,rfl⟩
theorem c2M {w:World} {S:Nat→Prop} {sz:Nat} {y:Value} (h:q9 w S (.v (.slice none 0 0)) y):q9 w S (.lst sz []) y:=by
 cases h;exact .lstNil _ _ _
theorem b4m {w:World} {S:Nat→Prop} {sz:Nat} {y:Value} (h:q9 w S (.full sz []) y):q9 w S (.lst sz []) y:=by
 cases h;exact .lstNil _ _ _
@[simp] theorem slM:P1 Tryz.prog 49=true:=by kernel_rfl
@[simp] theorem c7K:P1 Tryz.prog 26=true:=by kernel_rfl
@[simp] theorem c7P:P1 Tryz.prog 27=true:=by kernel_rfl
@[simp] theorem c7u:P1 Tryz.prog 22=true:=by kernel_rfl
@[simp] theorem c7v:P1 Tryz.prog 23=true:=by kernel_rfl
@[simp] theorem c7O:P1 Tryz.prog 78=true:=by kernel_rfl
@[simp] theorem c7C:P1 Tryz.prog 81=true:=by kernel_rfl
@[simp] theorem c7D:P1 Tryz.prog 41=true:=by kernel_rfl
theorem usM:(Tryz.prog).underlying 49=some (.slice 56):=by kernel_rfl
theorem c6p:(Tryz.prog).underlying 26=some (.slice 108):=by kernel_rfl
theorem c6g:(Tryz.prog).underlying 27=some (.slice 85):=by kernel_rfl
theorem c5x:(Tryz.prog).underlying 78=some (.slice 161):=by kernel_rfl
theorem c5L:(Tryz.prog).underlying 81=some (.slice 76):=by kernel_rfl
theorem c4o (l:List Move) (hn:l.length≤1000):a8 Tryz.prog 40 [.lst 2 (l.map Move.cells)] (.lst 2 (l.map Move.cells)):=by
 by_cases hne:l=[]
 ·subst hne;refine a8j Tryz.func40 rfl (by decide) fun w S y hy=>?_;obtain⟨a,cap,rfl⟩:=c3H hy;refine⟨.v (.slice a 0 cap), .v _,?_⟩
  cases a with
  |none=>
   refine a8.res (res:= .v (.slice none 0 0)) ?_ fun w S y=>c2M;refine oB Tryz.func40 Tryz.ntmps40 Tryz.results40 ?_;refine aW ?_;refine a5 fun K1 hK1=>?_;refine aW ?_;refine a6 rfl (fun hc0=>?_) (fun hc0=>?_)
   ·refine aW ?_;exact a7 (by simp)
   ·simp at hc0
  |some a=>
   refine a8.res (res:= .full 2 []) ?_ fun w S y=>b4m;refine oB Tryz.func40 Tryz.ntmps40 Tryz.results40 ?_;refine aW ?_;refine a5 fun K1 hK1=>?_;refine aW ?_ fun K hK=>by simp -dsimp;refine⟨fun w=>c3t _ _ _ _ _ _ _ _ _ _ w,_,fun w=>c2Z _ _ usM _ _ _ w,?_⟩;simp -dsimp;exact hK
   refine a6 rfl (fun hc0=>?_) (fun hc0=>?_)
   ·simp at hc0
   ·refine b8 ?_;refine zQ (hK1 _ _ ?_);refine aP [0] ?_;refine aW ?_;exact a7 (by simp)
 ·have f1:Q5 l.length 17:=l8 (by omega) (by omega);refine oB Tryz.func40 Tryz.ntmps40 Tryz.results40 ?_;refine aW ?_;refine a5 fun K1 hK1=>?_;refine aW ?_ fun K hK=>by simp -dsimp [hne];exact hK
  refine a6 rfl (fun hc0=>?_) (fun hc0=>?_)
  ·simp at hc0
  ·refine b8 ?_;refine zQ (hK1 _ _ ?_);refine aP [0] ?_;refine aW ?_ fun K hK=>by simp -dsimp [hne,f1];exact hK
   have htk:List.take l.length (l.map Move.cells)=l.map Move.cells:=List.take_of_length_le (by simp);have hfz:∀H n,List.map ((fun e=>List.map (J4 H (n+1)) e)∘Move.cells) l=l.map Move.cells:=fun H n=>List.map_congr_left fun x _=>by simp[J4]
   exact a7 (by simp[htk,hfz])
theorem b8V (l:List Profile) (hn:l.length≤1000):a8 Tryz.prog 69 [.lst 2 (l.map Profile.cells)] (.lst 2 (l.map Profile.cells)):=by
 by_cases hne:l=[]
 ·subst hne;refine a8j Tryz.func69 rfl (by decide) fun w S y hy=>?_;obtain⟨a,cap,rfl⟩:=c3H hy;refine⟨.v (.slice a 0 cap), .v _,?_⟩
  cases a with
  |none=>
   refine a8.res (res:= .v (.slice none 0 0)) ?_ fun w S y=>c2M;refine oB Tryz.func69 Tryz.ntmps69 Tryz.results69 ?_;refine aW ?_;refine a5 fun K1 hK1=>?_;refine aW ?_;refine a6 rfl (fun hc0=>?_) (fun hc0=>?_)
   ·refine aW ?_;exact a7 (by simp)
   ·simp at hc0
  |some a=>
   refine a8.res (res:= .full 2 []) ?_ fun w S y=>b4m;refine oB Tryz.func69 Tryz.ntmps69 Tryz.results69 ?_;refine aW ?_;refine a5 fun K1 hK1=>?_;refine aW ?_ fun K hK=>by simp -dsimp;refine⟨fun w=>c3t _ _ _ _ _ _ _ _ _ _ w,_,fun w=>c2Z _ _ c6p _ _ _ w,?_⟩;simp -dsimp;exact hK
   refine a6 rfl (fun hc0=>?_) (fun hc0=>?_)
   ·simp at hc0
   ·refine b8 ?_;refine zQ (hK1 _ _ ?_);refine aP [0] ?_;refine aW ?_;exact a7 (by simp)
 ·have f1:Q5 l.length 17:=l8 (by omega) (by omega);refine oB Tryz.func69 Tryz.ntmps69 Tryz.results69 ?_;refine aW ?_;refine a5 fun K1 hK1=>?_;refine aW ?_ fun K hK=>by simp -dsimp [hne];exact hK
  refine a6 rfl (fun hc0=>?_) (fun hc0=>?_)
  ·simp at hc0
  ·refine b8 ?_;refine zQ (hK1 _ _ ?_);refine aP [0] ?_;refine aW ?_ fun K hK=>by simp -dsimp [hne,f1];exact hK
   have htk:List.take l.length (l.map Profile.cells)=l.map Profile.cells:=List.take_of_length_le (by simp);have hfz:∀H n,List.map ((fun e=>List.map (J4 H (n+1)) e)∘Profile.cells) l=l.map Profile.cells:=fun H n=>List.map_congr_left fun x _=>by simp[J4]
   exact a7 (by simp[htk,hfz])
theorem c2x (l:List (List Move)) (hn:l.length≤1000):a8 Tryz.prog 70 [.lst 1 (l.map r4)] (.lst 1 (l.map r4)):=by
 by_cases hne:l=[]
 ·subst hne;refine a8j Tryz.func70 rfl (by decide) fun w S y hy=>?_;obtain⟨a,cap,rfl⟩:=c3H hy;refine⟨.v (.slice a 0 cap), .v _,?_⟩
  cases a with
  |none=>
   refine a8.res (res:= .v (.slice none 0 0)) ?_ fun w S y=>c2M;refine oB Tryz.func70 Tryz.ntmps70 Tryz.results70 ?_;refine aW ?_;refine a5 fun K1 hK1=>?_;refine aW ?_;refine a6 rfl (fun hc0=>?_) (fun hc0=>?_)
   ·refine aW ?_;exact a7 (by simp)
   ·simp at hc0
  |some a=>
   refine a8.res (res:= .full 1 []) ?_ fun w S y=>b4m;refine oB Tryz.func70 Tryz.ntmps70 Tryz.results70 ?_;refine aW ?_;refine a5 fun K1 hK1=>?_;refine aW ?_ fun K hK=>by simp -dsimp;refine⟨fun w=>c3t _ _ _ _ _ _ _ _ _ _ w,_,fun w=>c2Z _ _ c6g _ _ _ w,?_⟩;simp -dsimp;exact hK
   refine a6 rfl (fun hc0=>?_) (fun hc0=>?_)
   ·simp at hc0
   ·refine b8 ?_;refine zQ (hK1 _ _ ?_);refine aP [0] ?_;refine aW ?_;exact a7 (by simp)
 ·have f1:Q5 l.length 25:=l8 (by omega) (by omega);refine oB Tryz.func70 Tryz.ntmps70 Tryz.results70 ?_;refine aW ?_;refine a5 fun K1 hK1=>?_;refine aW ?_ fun K hK=>by simp -dsimp [hne];exact hK
  refine a6 rfl (fun hc0=>?_) (fun hc0=>?_)
  ·simp at hc0
  ·refine b8 ?_;refine zQ (hK1 _ _ ?_);refine aP [0] ?_;refine aW ?_ fun K hK=>by simp -dsimp [hne,f1];exact hK
   have htk:List.take l.length (l.map r4)=l.map r4:=List.take_of_length_le (by simp);have hfz:∀H n,List.map ((fun e=>List.map (J4 H (n+1)) e)∘r4) l=l.map r4:=fun H n=>List.map_congr_left fun x _=>by simp[J4]
   exact a7 (by simp[htk,hfz])
theorem b8Y (l:List E1) (hn:l.length≤1000):a8 Tryz.prog 73 [.lst 2 (l.map E1.cells)] (.lst 2 (l.map E1.cells)):=by
 by_cases hne:l=[]
 ·subst hne;refine a8j Tryz.func73 rfl (by decide) fun w S y hy=>?_;obtain⟨a,cap,rfl⟩:=c3H hy;refine⟨.v (.slice a 0 cap), .v _,?_⟩
  cases a with
  |none=>
   refine a8.res (res:= .v (.slice none 0 0)) ?_ fun w S y=>c2M;refine oB Tryz.func73 Tryz.ntmps73 Tryz.results73 ?_;refine aW ?_;refine a5 fun K1 hK1=>?_;refine aW ?_;refine a6 rfl (fun hc0=>?_) (fun hc0=>?_)
   ·refine aW ?_;exact a7 (by simp)
   ·simp at hc0
  |some a=>
   refine a8.res (res:= .full 2 []) ?_ fun w S y=>b4m;refine oB Tryz.func73 Tryz.ntmps73 Tryz.results73 ?_;refine aW ?_;refine a5 fun K1 hK1=>?_;refine aW ?_ fun K hK=>by simp -dsimp;refine⟨fun w=>c3t _ _ _ _ _ _ _ _ _ _ w,_,fun w=>c2Z _ _ c5x _ _ _ w,?_⟩;simp -dsimp;exact hK
   refine a6 rfl (fun hc0=>?_) (fun hc0=>?_)
   ·simp at hc0
   ·refine b8 ?_;refine zQ (hK1 _ _ ?_);refine aP [0] ?_;refine aW ?_;exact a7 (by simp)
 ·have f1:Q5 l.length 17:=l8 (by omega) (by omega);refine oB Tryz.func73 Tryz.ntmps73 Tryz.results73 ?_;refine aW ?_;refine a5 fun K1 hK1=>?_;refine aW ?_ fun K hK=>by simp -dsimp [hne];exact hK
  refine a6 rfl (fun hc0=>?_) (fun hc0=>?_)
  ·simp at hc0
  ·refine b8 ?_;refine zQ (hK1 _ _ ?_);refine aP [0] ?_;refine aW ?_ fun K hK=>by simp -dsimp [hne,f1];exact hK
   have htk:List.take l.length (l.map E1.cells)=l.map E1.cells:=List.take_of_length_le (by simp);have hfz:∀H n,List.map ((fun e=>List.map (J4 H (n+1)) e)∘E1.cells) l=l.map E1.cells:=fun H n=>List.map_congr_left fun x _=>by simp[J4]
   exact a7 (by simp[htk,hfz])
theorem b8K (l:List Spot) (hn:l.length≤1000):a8 Tryz.prog 74 [.lst 2 (l.map Spot.cells)] (.lst 2 (l.map Spot.cells)):=by
 by_cases hne:l=[]
 ·subst hne;refine a8j Tryz.func74 rfl (by decide) fun w S y hy=>?_;obtain⟨a,cap,rfl⟩:=c3H hy;refine⟨.v (.slice a 0 cap), .v _,?_⟩
  cases a with
  |none=>
   refine a8.res (res:= .v (.slice none 0 0)) ?_ fun w S y=>c2M;refine oB Tryz.func74 Tryz.ntmps74 Tryz.results74 ?_;refine aW ?_;refine a5 fun K1 hK1=>?_;refine aW ?_;refine a6 rfl (fun hc0=>?_) (fun hc0=>?_)
   ·refine aW ?_;exact a7 (by simp)
   ·simp at hc0
  |some a=>
   refine a8.res (res:= .full 2 []) ?_ fun w S y=>b4m;refine oB Tryz.func74 Tryz.ntmps74 Tryz.results74 ?_;refine aW ?_;refine a5 fun K1 hK1=>?_;refine aW ?_ fun K hK=>by simp -dsimp;refine⟨fun w=>c3t _ _ _ _ _ _ _ _ _ _ w,_,fun w=>c2Z _ _ c5L _ _ _ w,?_⟩;simp -dsimp;exact hK
   refine a6 rfl (fun hc0=>?_) (fun hc0=>?_)
   ·simp at hc0
   ·refine b8 ?_;refine zQ (hK1 _ _ ?_);refine aP [0] ?_;refine aW ?_;exact a7 (by simp)
 ·have f1:Q5 l.length 17:=l8 (by omega) (by omega);refine oB Tryz.func74 Tryz.ntmps74 Tryz.results74 ?_;refine aW ?_;refine a5 fun K1 hK1=>?_;refine aW ?_ fun K hK=>by simp -dsimp [hne];exact hK
  refine a6 rfl (fun hc0=>?_) (fun hc0=>?_)
  ·simp at hc0
  ·refine b8 ?_;refine zQ (hK1 _ _ ?_);refine aP [0] ?_;refine aW ?_ fun K hK=>by simp -dsimp [hne,f1];exact hK
   have htk:List.take l.length (l.map Spot.cells)=l.map Spot.cells:=List.take_of_length_le (by simp);have hfz:∀H n,List.map ((fun e=>List.map (J4 H (n+1)) e)∘Spot.cells) l=l.map Spot.cells:=fun H n=>List.map_congr_left fun x _=>by simp[J4]
   exact a7 (by simp[htk,hfz])
theorem c3m (l:List (List Move)) (hne:l≠[]) (hn:l.length≤1000):H4 Tryz.prog 70 [.lst 1 (l.map r4)] 0 l.length 1 (l.map r4):=by
 have f1:Q5 l.length 25:=l8 (by omega) (by omega);refine H4.of_body Tryz.func70 rfl (by decide) (by simp[Tryz.ntmps70]) (by simp) (by simpa using hne) ?_;simp only[Tryz.ntmps70,Tryz.results70];refine aW ?_;refine a5 fun K1 hK1=>?_;refine aW ?_ fun K hK=>by simp -dsimp [hne];exact hK
 refine a6 rfl (fun hc0=>?_) (fun hc0=>?_)
 ·simp at hc0
 ·refine b8 ?_;refine zQ (hK1 _ _ ?_);refine aP [0] ?_;refine aW ?_ fun K hK=>by simp -dsimp [hne,f1];exact hK
  exact a7 ⟨2,0,rfl,by simp,by simp⟩
theorem b9l (l:List Node) (hne:l≠[]) (hn:l.length≤1000):H4 Tryz.prog 71 [.lst 5 (l.map Node.cells)] 0 l.length 5 (l.map Node.cells):=by
 have f1:Q5 l.length 57:=l8 (by omega) (by omega);refine H4.of_body Tryz.func71 rfl (by decide) (by simp[Tryz.ntmps71]) (by simp) (by simpa using hne) ?_;simp only[Tryz.ntmps71,Tryz.results71];refine aW ?_;refine a5 fun K1 hK1=>?_;refine aW ?_ fun K hK=>by simp -dsimp [hne];exact hK
 refine a6 rfl (fun hc0=>?_) (fun hc0=>?_)
 ·simp at hc0
 ·refine b8 ?_;refine zQ (hK1 _ _ ?_);refine aP [0] ?_;refine aW ?_ fun K hK=>by simp -dsimp [hne,f1];exact hK
  exact a7 ⟨2,0,rfl,by simp,by simp⟩
theorem b8O (l:List Rail) (hne:l≠[]) (hn:l.length≤1000):H4 Tryz.prog 72 [.lst 5 (l.map Rail.cells)] 0 l.length 5 (l.map Rail.cells):=by
 have f1:Q5 l.length 57:=l8 (by omega) (by omega);refine H4.of_body Tryz.func72 rfl (by decide) (by simp[Tryz.ntmps72]) (by simp) (by simpa using hne) ?_;simp only[Tryz.ntmps72,Tryz.results72];refine aW ?_;refine a5 fun K1 hK1=>?_;refine aW ?_ fun K hK=>by simp -dsimp [hne];exact hK
 refine a6 rfl (fun hc0=>?_) (fun hc0=>?_)
 ·simp at hc0
 ·refine b8 ?_;refine zQ (hK1 _ _ ?_);refine aP [0] ?_;refine aW ?_ fun K hK=>by simp -dsimp [hne,f1];exact hK
  exact a7 ⟨2,0,rfl,by simp,by simp⟩
end Go.Tram.Lk
end
section
namespace Go.Tram.Lk
open Go.AM Go.Proofs
theorem a1B {α β:Type} {f:α→β} {l:List α} {i:Nat} {x:α} (h:l[i]?=some x):(l.map f).set i (f x)=l.map f:=by
 apply List.ext_getElem?;intro j;rw[List.getElem?_set,List.getElem?_map]
 split
 ·rename_i e;subst e;rw[h,List.length_map,if_pos (List.getElem?_eq_some_iff.1 h).1];rfl
 ·rfl
abbrev I8:AV:= .v (.slice none 0 0)
abbrev ndL (p:Plan):AV:= .lst 5 (p.Nodes.map Node.cells)
abbrev rlL (p:Plan):AV:= .lst 5 (p.Rails.map Rail.cells)
abbrev pfL (l:List Profile):AV:= .lst 2 (l.map Profile.cells)
abbrev c1q (l:List (List Move)):AV:= .lst 1 (l.map r4)
theorem b6y (s:j5) (hs:P7 s=true) (hne:s.Singles≠[]):a8 Tryz.prog 32 [s.av] s.av:=by
 obtain⟨hv,hp,hsn,hsb⟩:=o7 hs;have hvp:=j7 hv;have hNl:s.Plan.Nodes.length≤300:=hvp.1.2;have hRl:s.Plan.Rails.length≤400:=hvp.2.1.2;have hN1:s.Plan.Nodes≠[]:=by intro e;have:=hvp.1.1;rw[e]at this;simp at this
 have hR1:s.Plan.Rails≠[]:=by intro e;have:=hvp.2.1.1;rw[e]at this;simp at this
 have hpl:s.Profiles.length≤6:=by simp only[D5,Bool.and_eq_true,decide_eq_true_eq]at hp;exact hp.2.1
 have hcp:=b8V s.Profiles (by omega);refine oB Tryz.func32 Tryz.ntmps32 Tryz.results32 ?_;refine aW ?_;refine aW ?_ fun K hK=>by simp -dsimp;refine cI (hcp) ?_;simp -dsimp;exact hK
 refine aW ?_ fun K hK=>by simp -dsimp;refine R3 (c3m s.Singles hne (by omega)) ?_;simp -dsimp;exact hK
 refine a5 fun K1 hK1=>?_;refine aW ?_;refine a9 ?_;refine aP [1,2,18,19,20] ?_;refine c5 [1,2,18,19] (α:=Nat) (fun i=>[(20,I i)]) (fun i=>[some (.els 4 [[ndL s.Plan,rlL s.Plan,pfL s.Profiles, .row 2 0 s.Singles.length]]),some (.els 4 [[I8,I8,I8,I8]]),some (.els 1 (s.Singles.map r4))]) (fun i=>i≤s.Singles.length) (fun i=>s.Singles.length-i) 0 ?_ ?_ ?_
 ·exact Nat.zero_le _
 ·exact aB [some 0,some 1,some 2]
 rintro i i1;refine zN ?_;refine aW ?_;refine a5 fun K2 hK2=>?_;refine a6 rfl (fun hc0=>?_) (fun hc0=>?_)
 ·skip
  try simp at hc0
  obtain⟨x,hx⟩:=gx (l:=s.Singles) (i:=i) (by simpa using hc0);have wi:=zW i (by omega);have hxl:=(T9.1 hsb).1 x (List.mem_of_getElem? hx);have hcm:=c4o x (by omega);have p9:=a1B (f:=r4) hx;obtain⟨hil,hxe⟩:=List.getElem?_eq_some_iff.1 hx;refine b8 ?_;refine zQ (hK2 _ _ ?_);refine aP [1,2,18,19,20] ?_;refine a5 fun K3 hK3=>?_;refine a9 ?_;refine aW ?_ fun K hK=>by simp -dsimp [hx,hil,hxe];exact hK
  refine aE ?_ fun K hK=>by simp -dsimp [hx,hil,hxe];refine cI (hcm) ?_;simp -dsimp [hx,hil,hxe];exact hK
  refine zQ (hK3 _ _ ?_);refine aP [1,2,18,19,20] ?_;refine aV ?_ fun K hK=>by simp -dsimp [wi];exact hK
  refine zQ ?_;exact⟨i+1,by omega,by omega,e8 [some 0,some 1,some 2] rfl (by simp) (by simp at p9;simp[p9])⟩
 ·skip
  try simp at hc0
  have hie:i=s.Singles.length:=by have:¬i<s.Singles.length:=(by simpa using hc0);omega
  subst hie;refine c9 ?_;refine zQ (hK1 _ _ ?_);refine aP [1,2] ?_;refine aD ?_ fun K hK=>by simp -dsimp;refine R3 (b9l s.Plan.Nodes hN1 (by omega)) ?_;simp -dsimp;refine R3 (b8O s.Plan.Rails hR1 (by omega)) ?_;simp -dsimp;exact hK
  refine a5 fun K4 hK4=>?_;refine aW ?_;refine a9 ?_;refine aP [1,2,48,49,50] ?_;refine c5 [1,2,48,49] (α:=Nat) (fun i=>[(50,I i)]) (fun i=>[some (.els 4 [[.row 3 0 s.Plan.Nodes.length, .row (3+1) 0 s.Plan.Rails.length,pfL s.Profiles, .row 2 0 s.Singles.length]]),some (.els 4 [[I8,I8,I8,I8]]),some (.els 1 (s.Singles.map r4)),some (.els 5 (s.Plan.Nodes.map Node.cells)),some (.els 5 (s.Plan.Rails.map Rail.cells))]) (fun i=>i≤s.Plan.Nodes.length) (fun i=>s.Plan.Nodes.length-i) 0 ?_ ?_ ?_
  ·exact Nat.zero_le _
  ·exact aB [some 0,some 1,some 2,some 3,some 4]
  rintro i i1;refine zN ?_;refine aW ?_;refine a5 fun K5 hK5=>?_;refine a6 rfl (fun hc1=>?_) (fun hc1=>?_)
  ·skip
   try simp at hc1
   obtain⟨n,hn⟩:=gx (l:=s.Plan.Nodes) (i:=i) (by simpa using hc1);have wi:=zW i (by omega);obtain⟨hil,hxe⟩:=List.getElem?_eq_some_iff.1 hn;have hnk:=(R6 (List.all_eq_true.1 hvp.2.2.1 n (List.mem_of_getElem? hn))).2.1;have hce:=b8Y n.Ends (by omega);have p9:=a1B (f:=Node.cells) hn;refine b8 ?_;refine zQ (hK5 _ _ ?_);refine aP [1,2,48,49,50] ?_;refine a5 fun K6 hK6=>?_;refine a9 ?_;refine aW ?_ fun K hK=>by simp -dsimp [hn,hil,hxe];exact hK
   refine aE ?_ fun K hK=>by simp -dsimp [hn,hil,hxe];refine cI (hce) ?_;simp -dsimp [hn,hil,hxe];exact hK
   refine zQ (hK6 _ _ ?_);refine aP [1,2,48,49,50] ?_;refine aV ?_ fun K hK=>by simp -dsimp [wi];exact hK
   refine zQ ?_;exact⟨i+1,by omega,by omega,e8 [some 0,some 1,some 2,some 3,some 4] rfl (by simp) (by simp at p9;simp[p9])⟩
  ·skip
   try simp at hc1
   have hie:i=s.Plan.Nodes.length:=by have:¬i<s.Plan.Nodes.length:=(by simpa using hc1);omega
   subst hie;refine c9 ?_;refine zQ (hK4 _ _ ?_);refine aP [1,2] ?_;refine a5 fun K7 hK7=>?_;refine aW ?_;refine a9 ?_;refine aP [1,2,67,68,69] ?_;refine c5 [1,2,67,68] (α:=Nat) (fun i=>[(69,I i)]) (fun i=>[some (.els 4 [[.row 3 0 s.Plan.Nodes.length, .row (3+1) 0 s.Plan.Rails.length,pfL s.Profiles, .row 2 0 s.Singles.length]]),some (.els 4 [[I8,I8,I8,I8]]),some (.els 1 (s.Singles.map r4)),some (.els 5 (s.Plan.Nodes.map Node.cells)),some (.els 5 (s.Plan.Rails.map Rail.cells))]) (fun i=>i≤s.Plan.Rails.length) (fun i=>s.Plan.Rails.length-i) 0 ?_ ?_ ?_
   ·exact Nat.zero_le _
   ·exact aB [some 0,some 1,some 2,some 3,some 4]
   rintro i i1;refine zN ?_;refine aW ?_;refine a5 fun K8 hK8=>?_;refine a6 rfl (fun hc2=>?_) (fun hc2=>?_)
   ·skip
    try simp at hc2
    obtain⟨r,hr⟩:=gx (l:=s.Plan.Rails) (i:=i) (by simpa using hc2);have wi:=zW i (by omega);obtain⟨hil,hxe⟩:=List.getElem?_eq_some_iff.1 hr;have hrk:r.Shape.length≤30:=by have:=List.all_eq_true.1 hvp.2.2.2.1 r (List.mem_of_getElem? hr);simp only[D9,R2,Bool.and_eq_true,decide_eq_true_eq]at this;exact this.1.2.2.1
    have hcs:=b8K r.Shape (by omega);have p9:=a1B (f:=Rail.cells) hr;refine b8 ?_;refine zQ (hK8 _ _ ?_);refine aP [1,2,67,68,69] ?_;refine a5 fun K9 hK9=>?_;refine a9 ?_;refine aW ?_ fun K hK=>by simp -dsimp [hr,hil,hxe];exact hK
    refine aE ?_ fun K hK=>by simp -dsimp [hr,hil,hxe];refine cI (hcs) ?_;simp -dsimp [hr,hil,hxe];exact hK
    refine zQ (hK9 _ _ ?_);refine aP [1,2,67,68,69] ?_;refine aV ?_ fun K hK=>by simp -dsimp [wi];exact hK
    refine zQ ?_;exact⟨i+1,by omega,by omega,e8 [some 0,some 1,some 2,some 3,some 4] rfl (by simp) (by simp at p9;simp[p9])⟩
   ·skip
    try simp at hc2
    have hie:i=s.Plan.Rails.length:=by have:¬i<s.Plan.Rails.length:=(by simpa using hc2);omega
    subst hie;refine c9 ?_;refine zQ (hK7 _ _ ?_);refine aP [1,2] ?_;refine aW ?_;have t1:List.take s.Plan.Nodes.length (s.Plan.Nodes.map Node.cells)=s.Plan.Nodes.map Node.cells:=List.take_of_length_le (by simp);have t2:List.take s.Plan.Rails.length (s.Plan.Rails.map Rail.cells)=s.Plan.Rails.map Rail.cells:=List.take_of_length_le (by simp);have t3:List.take s.Singles.length (s.Singles.map r4)=s.Singles.map r4:=List.take_of_length_le (by simp);have z1:∀H n,List.map ((fun e=>List.map (J4 H (n+1)) e)∘Node.cells) s.Plan.Nodes=s.Plan.Nodes.map Node.cells:=fun H n=>List.map_congr_left fun x _=>by simp[J4]
    have z2:∀H n,List.map ((fun e=>List.map (J4 H (n+1)) e)∘Rail.cells) s.Plan.Rails=s.Plan.Rails.map Rail.cells:=fun H n=>List.map_congr_left fun x _=>by simp[J4]
    have z3:∀H n,List.map ((fun e=>List.map (J4 H (n+1)) e)∘r4) s.Singles=s.Singles.map r4:=fun H n=>List.map_congr_left fun x _=>by simp[J4]
    exact a7 (by simp[t1,t2,t3,z1,z2,z3])
theorem b7J (s:j5) (hs:P7 s=true) (hne:s.Singles=[]):a8 Tryz.prog 32 [s.av] s.av:=by
 obtain⟨hv,hp,hsn,hsb⟩:=o7 hs;have hvp:=j7 hv;have hNl:s.Plan.Nodes.length≤300:=hvp.1.2;have hRl:s.Plan.Rails.length≤400:=hvp.2.1.2;have hN1:s.Plan.Nodes≠[]:=by intro e;have:=hvp.1.1;rw[e]at this;simp at this
 have hR1:s.Plan.Rails≠[]:=by intro e;have:=hvp.2.1.1;rw[e]at this;simp at this
 have hpl:s.Profiles.length≤6:=by simp only[D5,Bool.and_eq_true,decide_eq_true_eq]at hp;exact hp.2.1
 have hcp:=b8V s.Profiles (by omega);refine oB Tryz.func32 Tryz.ntmps32 Tryz.results32 ?_;refine aW ?_;refine aW ?_ fun K hK=>by simp -dsimp;refine cI (hcp) ?_;simp -dsimp;exact hK
 refine aW ?_ fun K hK=>by simp -dsimp;refine cI (c2x s.Singles (by omega)) ?_;simp -dsimp;exact hK
 refine a5 fun K1 hK1=>?_;refine aW ?_;refine a9 ?_;refine aP [1,2,18,19,20] ?_;refine c5 [1,2,18,19] (α:=Nat) (fun i=>[(20,I i)]) (fun i=>[some (.els 4 [[ndL s.Plan,rlL s.Plan,pfL s.Profiles,c1q s.Singles]]),some (.els 4 [[I8,I8,I8,I8]])]) (fun i=>i≤s.Singles.length) (fun i=>s.Singles.length-i) 0 ?_ ?_ ?_
 ·exact Nat.zero_le _
 ·exact aB [some 0,some 1]
 rintro i i1;refine zN ?_;refine aW ?_;refine a5 fun K2 hK2=>?_;refine a6 rfl (fun hc0=>?_) (fun hc0=>?_)
 ·skip
  try simp at hc0
  exfalso;simp[hne]at hc0
 ·skip
  try simp at hc0
  have hie:i=s.Singles.length:=by have:¬i<s.Singles.length:=(by simpa using hc0);omega
  subst hie;refine c9 ?_;refine zQ (hK1 _ _ ?_);refine aP [1,2] ?_;refine aD ?_ fun K hK=>by simp -dsimp;refine R3 (b9l s.Plan.Nodes hN1 (by omega)) ?_;simp -dsimp;refine R3 (b8O s.Plan.Rails hR1 (by omega)) ?_;simp -dsimp;exact hK
  refine a5 fun K3 hK3=>?_;refine aW ?_;refine a9 ?_;refine aP [1,2,48,49,50] ?_;refine c5 [1,2,48,49] (α:=Nat) (fun i=>[(50,I i)]) (fun i=>[some (.els 4 [[.row 2 0 s.Plan.Nodes.length, .row (2+1) 0 s.Plan.Rails.length,pfL s.Profiles,c1q s.Singles]]),some (.els 4 [[I8,I8,I8,I8]]),some (.els 5 (s.Plan.Nodes.map Node.cells)),some (.els 5 (s.Plan.Rails.map Rail.cells))]) (fun i=>i≤s.Plan.Nodes.length) (fun i=>s.Plan.Nodes.length-i) 0 ?_ ?_ ?_
  ·exact Nat.zero_le _
  ·exact aB [some 0,some 1,some 2,some 3]
  rintro i i1;refine zN ?_;refine aW ?_;refine a5 fun K4 hK4=>?_;refine a6 rfl (fun hc1=>?_) (fun hc1=>?_)
  ·skip
   try simp at hc1
   obtain⟨n,hn⟩:=gx (l:=s.Plan.Nodes) (i:=i) (by simpa using hc1);have wi:=zW i (by omega);obtain⟨hil,hxe⟩:=List.getElem?_eq_some_iff.1 hn;have hnk:=(R6 (List.all_eq_true.1 hvp.2.2.1 n (List.mem_of_getElem? hn))).2.1;have hce:=b8Y n.Ends (by omega);have p9:=a1B (f:=Node.cells) hn;refine b8 ?_;refine zQ (hK4 _ _ ?_);refine aP [1,2,48,49,50] ?_;refine a5 fun K5 hK5=>?_;refine a9 ?_;refine aW ?_ fun K hK=>by simp -dsimp [hn,hil,hxe];exact hK
   refine aE ?_ fun K hK=>by simp -dsimp [hn,hil,hxe];refine cI (hce) ?_;simp -dsimp [hn,hil,hxe];exact hK
   refine zQ (hK5 _ _ ?_);refine aP [1,2,48,49,50] ?_;refine aV ?_ fun K hK=>by simp -dsimp [wi];exact hK
   refine zQ ?_;exact⟨i+1,by omega,by omega,e8 [some 0,some 1,some 2,some 3] rfl (by simp) (by simp at p9;simp[p9])⟩
  ·skip
   try simp at hc1
   have hie:i=s.Plan.Nodes.length:=by have:¬i<s.Plan.Nodes.length:=(by simpa using hc1);omega
   subst hie;refine c9 ?_;refine zQ (hK3 _ _ ?_);refine aP [1,2] ?_;refine a5 fun K6 hK6=>?_;refine aW ?_;refine a9 ?_;refine aP [1,2,67,68,69] ?_;refine c5 [1,2,67,68] (α:=Nat) (fun i=>[(69,I i)]) (fun i=>[some (.els 4 [[.row 2 0 s.Plan.Nodes.length, .row (2+1) 0 s.Plan.Rails.length,pfL s.Profiles,c1q s.Singles]]),some (.els 4 [[I8,I8,I8,I8]]),some (.els 5 (s.Plan.Nodes.map Node.cells)),some (.els 5 (s.Plan.Rails.map Rail.cells))]) (fun i=>i≤s.Plan.Rails.length) (fun i=>s.Plan.Rails.length-i) 0 ?_ ?_ ?_
   ·exact Nat.zero_le _
   ·exact aB [some 0,some 1,some 2,some 3]
   rintro i i1;refine zN ?_;refine aW ?_;refine a5 fun K7 hK7=>?_;refine a6 rfl (fun hc2=>?_) (fun hc2=>?_)
   ·skip
    try simp at hc2
    obtain⟨r,hr⟩:=gx (l:=s.Plan.Rails) (i:=i) (by simpa using hc2);have wi:=zW i (by omega);obtain⟨hil,hxe⟩:=List.getElem?_eq_some_iff.1 hr;have hrk:r.Shape.length≤30:=by have:=List.all_eq_true.1 hvp.2.2.2.1 r (List.mem_of_getElem? hr);simp only[D9,R2,Bool.and_eq_true,decide_eq_true_eq]at this;exact this.1.2.2.1
    have hcs:=b8K r.Shape (by omega);have p9:=a1B (f:=Rail.cells) hr;refine b8 ?_;refine zQ (hK7 _ _ ?_);refine aP [1,2,67,68,69] ?_;refine a5 fun K8 hK8=>?_;refine a9 ?_;refine aW ?_ fun K hK=>by simp -dsimp [hr,hil,hxe];exact hK
    refine aE ?_ fun K hK=>by simp -dsimp [hr,hil,hxe];refine cI (hcs) ?_;simp -dsimp [hr,hil,hxe];exact hK
    refine zQ (hK8 _ _ ?_);refine aP [1,2,67,68,69] ?_;refine aV ?_ fun K hK=>by simp -dsimp [wi];exact hK
    refine zQ ?_;exact⟨i+1,by omega,by omega,e8 [some 0,some 1,some 2,some 3] rfl (by simp) (by simp at p9;simp[p9])⟩
   ·skip
    try simp at hc2
    have hie:i=s.Plan.Rails.length:=by have:¬i<s.Plan.Rails.length:=(by simpa using hc2);omega
    subst hie;refine c9 ?_;refine zQ (hK6 _ _ ?_);refine aP [1,2] ?_;refine aW ?_;have t1:List.take s.Plan.Nodes.length (s.Plan.Nodes.map Node.cells)=s.Plan.Nodes.map Node.cells:=List.take_of_length_le (by simp);have t2:List.take s.Plan.Rails.length (s.Plan.Rails.map Rail.cells)=s.Plan.Rails.map Rail.cells:=List.take_of_length_le (by simp);have t3:List.take s.Singles.length (s.Singles.map r4)=s.Singles.map r4:=List.take_of_length_le (by simp);have z1:∀H n,List.map ((fun e=>List.map (J4 H (n+1)) e)∘Node.cells) s.Plan.Nodes=s.Plan.Nodes.map Node.cells:=fun H n=>List.map_congr_left fun x _=>by simp[J4]
    have z2:∀H n,List.map ((fun e=>List.map (J4 H (n+1)) e)∘Rail.cells) s.Plan.Rails=s.Plan.Rails.map Rail.cells:=fun H n=>List.map_congr_left fun x _=>by simp[J4]
    have z3:∀H n,List.map ((fun e=>List.map (J4 H (n+1)) e)∘r4) s.Singles=s.Singles.map r4:=fun H n=>List.map_congr_left fun x _=>by simp[J4]
    exact a7 (by simp[t1,t2,z1,z2])
end Go.Tram.Lk
end
section
namespace Go.Tram.Lk
open Go.AM Go.Proofs
def b3w (n:Node):Int:=if n.Kind=4 then 1 else 0
theorem a8K (p:Plan):z7 p=p.Nodes.map b3w:=rfl
def P4 (p:Plan) (k:Nat):List Int:=(p.Nodes.take k).map b3w++List.replicate (p.Nodes.length-k) 0
theorem a6g (p:Plan):P4 p 0=List.replicate p.Nodes.length 0:=by simp[P4]
theorem a8m (p:Plan):P4 p p.Nodes.length=z7 p:=by simp[P4,a8K]
theorem a3Y (p:Plan) {k:Nat} (h:k≤p.Nodes.length):(P4 p k).length=p.Nodes.length:=by simp[P4];omega
theorem a5t {p:Plan} {k:Nat} {n:Node} (h:p.Nodes[k]?=some n):P4 p (k+1)=(P4 p k).set k (b3w n):=by
 have hk:=(List.getElem?_eq_some_iff.1 h).1;unfold P4;rw[List.take_add_one,h,List.map_append];have e:p.Nodes.length-k=(p.Nodes.length-(k+1))+1:=by omega
 rw[e,List.replicate_succ,List.set_append_right _ _ (by simp;omega)];have e2:k-((p.Nodes.take k).map b3w).length=0:=by simp;omega
 rw[e2,List.set_cons_zero];simp
theorem a6o {p:Plan} {k:Nat} {n:Node} (h:p.Nodes[k]?=some n) (hk:n.Kind≠4):P4 p (k+1)=P4 p k:=by
 have hl:=(List.getElem?_eq_some_iff.1 h).1;unfold P4;rw[List.take_add_one,h,List.map_append];have e:p.Nodes.length-k=(p.Nodes.length-(k+1))+1:=by omega
 rw[e,List.replicate_succ];simp[b3w,hk]
theorem b7C (s:j5) (hv:d8 s.Plan=true) (fo si up:Kvs) (x y:AV):c8 Tryz.prog 33 [.vptr (d6 s fo si up x y)] [] [] (.row 0 0 s.Plan.Nodes.length) [] [some (.els 1 ((z7 s.Plan).map g8))]:=by
 have hNl:1≤s.Plan.Nodes.length∧s.Plan.Nodes.length≤300:=(j7 hv).1;have hf1:Q5 s.Plan.Nodes.length 9:=l8 (by omega) (by omega);have hz:=a6g s.Plan;have hfa:=a8m s.Plan;refine oG [] Tryz.func33 Tryz.ntmps33 Tryz.results33 ?_;intro J hJ;refine gW ?_ fun K hK=>by simp -dsimp [d6];exact hK
 refine gW ?_ fun K hK=>by simp -dsimp [d6,hf1];exact hK
 refine b9 fun K1 hK1=>?_;refine gW ?_ fun K hK=>by simp -dsimp [d6];exact hK
 refine d4 ?_;refine gP [3,19,20,21] ?_;refine i9 [3,19,20] (α:=Nat) (fun k=>[(21,I k)]) (fun k=>[some (.els 1 ((P4 s.Plan k).map g8))]) (fun k=>k≤s.Plan.Nodes.length) (fun k=>s.Plan.Nodes.length-k) 0 ?_ ?_ ?_
 ·exact Nat.zero_le _
 ·exact gB [some 0] (hH:=by simp[hz,g8])
 rintro k k1;have hlen:=a3Y s.Plan k1;refine zN ?_;refine gW ?_ fun K hK=>by simp -dsimp [d6];exact hK
 refine b9 fun K2 hK2=>?_;refine c3 rfl (fun hc0=>?_) (fun hc0=>?_)
 ·skip
  try simp at hc0
  obtain⟨n,hn⟩:=gx (l:=s.Plan.Nodes) (i:=k) (by simpa using hc0);have wk:=zW k (by omega);obtain⟨hkl,hne⟩:=List.getElem?_eq_some_iff.1 hn;have hs1:=a5t hn;have hs2:=fun h=>a6o hn h;generalize P4 s.Plan k=F at hlen hs1 hs2 ⊢;refine c6 ?_;refine zQ (hK2 _ _ ?_);refine gP [3,19,20,21] ?_;refine b9 fun K3 hK3=>?_;refine d4 ?_;refine gW ?_ fun K hK=>by simp -dsimp [d6,hn,hkl,hne];exact hK
  refine gW ?_ fun K hK=>by simp -dsimp [d6];exact hK
  refine c3 rfl (fun hc1=>?_) (fun hc1=>?_)
  ·have hkd:n.Kind=4:=by simpa using hc1
   have hG:P4 s.Plan (k+1)=F.set k 1:=by rw[hs1];simp[b3w,hkd]
   refine gV ?_ fun K hK=>by simp -dsimp [d6,hlen,hkl];exact hK
   refine zQ (hK3 _ _ ?_);refine gP [3,19,20,21] ?_;refine gV ?_ fun K hK=>by simp -dsimp [d6,wk];exact hK
   refine zQ ?_;exact⟨k+1,by omega,by omega,gB [some 0] (hH:=by simp[hG,g8])⟩
  ·have hkd:n.Kind≠4:=by simpa using hc1
   have hG:P4 s.Plan (k+1)=F:=hs2 hkd;refine c6 ?_;refine zQ (hK3 _ _ ?_);refine gP [3,19,20,21] ?_;refine gV ?_ fun K hK=>by simp -dsimp [d6,wk];exact hK
   refine zQ ?_;exact⟨k+1,by omega,by omega,gB [some 0] (hH:=by simp[hG,g8])⟩
 ·skip
  try simp at hc0
  have hke:k=s.Plan.Nodes.length:=by have:¬k<s.Plan.Nodes.length:=(by simpa using hc0);omega
  subst hke;refine r7 ?_;refine zQ (hK1 _ _ ?_);refine gP [3] ?_;refine gW ?_ fun K hK=>by simp -dsimp [d6];exact hK
  exact i6 ⟨[some 0],rfl,by simp,by simp[hfa],by simp,by simp[W9,x4]⟩
theorem b8G (s:j5) (hv:d8 s.Plan=true) (fo si up:Kvs) (x y:AV):a8 Tryz.prog 33 [.iptr (d6 s fo si up x y)] (.lst 1 ((z7 s.Plan).map g8)):=by
 have hNl:1≤s.Plan.Nodes.length∧s.Plan.Nodes.length≤300:=(j7 hv).1;have hf1:Q5 s.Plan.Nodes.length 9:=l8 (by omega) (by omega);have hz:=a6g s.Plan;have hfa:=a8m s.Plan;refine oB Tryz.func33 Tryz.ntmps33 Tryz.results33 ?_;refine aW ?_ fun K hK=>by simp -dsimp [d6];exact hK
 refine aW ?_ fun K hK=>by simp -dsimp [d6,hf1];exact hK
 refine a5 fun K1 hK1=>?_;refine aW ?_ fun K hK=>by simp -dsimp [d6];exact hK
 refine a9 ?_;refine aP [3,19,20,21] ?_;refine c5 [3,19,20] (α:=Nat) (fun k=>[(21,I k)]) (fun k=>[some (.els 1 ((P4 s.Plan k).map g8))]) (fun k=>k≤s.Plan.Nodes.length) (fun k=>s.Plan.Nodes.length-k) 0 ?_ ?_ ?_
 ·exact Nat.zero_le _
 ·exact e8 [some 0] rfl (by simp) (by simp[hz,g8])
 rintro k k1;have hlen:=a3Y s.Plan k1;refine zN ?_;refine aW ?_ fun K hK=>by simp -dsimp [d6];exact hK
 refine a5 fun K2 hK2=>?_;refine a6 rfl (fun hc0=>?_) (fun hc0=>?_)
 ·skip
  try simp at hc0
  obtain⟨n,hn⟩:=gx (l:=s.Plan.Nodes) (i:=k) (by simpa using hc0);have wk:=zW k (by omega);obtain⟨hkl,hne⟩:=List.getElem?_eq_some_iff.1 hn;have hs1:=a5t hn;have hs2:=fun h=>a6o hn h;generalize P4 s.Plan k=F at hlen hs1 hs2 ⊢;refine b8 ?_;refine zQ (hK2 _ _ ?_);refine aP [3,19,20,21] ?_;refine a5 fun K3 hK3=>?_;refine a9 ?_;refine aW ?_ fun K hK=>by simp -dsimp [d6,hn,hkl,hne];exact hK
  refine aW ?_ fun K hK=>by simp -dsimp [d6];exact hK
  refine a6 rfl (fun hc1=>?_) (fun hc1=>?_)
  ·have hkd:n.Kind=4:=by simpa using hc1
   have hG:P4 s.Plan (k+1)=F.set k 1:=by rw[hs1];simp[b3w,hkd]
   refine aV ?_ fun K hK=>by simp -dsimp [d6,hlen,hkl];exact hK
   refine zQ (hK3 _ _ ?_);refine aP [3,19,20,21] ?_;refine aV ?_ fun K hK=>by simp -dsimp [d6,wk];exact hK
   refine zQ ?_;exact⟨k+1,by omega,by omega,e8 [some 0] rfl (by simp) (by simp[hG,g8])⟩
  ·have hkd:n.Kind≠4:=by simpa using hc1
   have hG:P4 s.Plan (k+1)=F:=hs2 hkd;refine b8 ?_;refine zQ (hK3 _ _ ?_);refine aP [3,19,20,21] ?_;refine aV ?_ fun K hK=>by simp -dsimp [d6,wk];exact hK
   refine zQ ?_;exact⟨k+1,by omega,by omega,e8 [some 0] rfl (by simp) (by simp[hG,g8])⟩
 ·skip
  try simp at hc0
  have hke:k=s.Plan.Nodes.length:=by have:¬k<s.Plan.Nodes.length:=(by simpa using hc0);omega
  subst hke;refine c9 ?_;refine zQ (hK1 _ _ ?_);refine aP [3] ?_;refine aW ?_ fun K hK=>by simp -dsimp [d6];exact hK
  have hll:=a3Y s.Plan (Nat.le_refl s.Plan.Nodes.length);have t1:List.take s.Plan.Nodes.length ((P4 s.Plan s.Plan.Nodes.length).map g8)=(P4 s.Plan s.Plan.Nodes.length).map g8:=List.take_of_length_le (by simp;omega);rw[←hfa];exact a7 (by simp[t1,hll])
abbrev Kas:=List (List KC×AV)
abbrev b3V (s:j5) (nx:Kvs) (nd:Kas) (x:Sta):Hp:=[some (.els 1 [[.ptr 1 0 0]]),some (.els 3 [[.ptr 2 0 0, .mp 3, .row 4 0 x.Points.length]]),some (.els 9 [s.cells++[.mpc true KT4 (a5x s), .mpc false [.i .i64] (W3 (B3 s)), .mpc true KTM (a0H (B3 s)), .mp 5, .mp 6]]),
 some (a7K x.Cars),some (.els 1 (x.Points.map g8)),some (.map true X6 nx),some (.mpa true X6 nd)]
theorem c0k (s:j5) (h:P7 s=true) (hN:s.Plan.Rails.length≤20):c8 Tryz.prog 10 [s.av] [] [] (.tup [.ptr 0 0 0,I 0]) [] (b3V s [] [] ⟨[],z7 s.Plan⟩):=by
 have h0:=o7 h;have ho:=b1g s h hN;have hw:a8 Tryz.prog 32 [s.av] s.av:=by
  by_cases e:s.Singles=[]
  ·exact b7J s h e
  ·exact b6y s h e
 have hpt:=b7C s h0.1 (a5x s) (W3 (B3 s)) (a0H (B3 s)) (.mpc true X6 []) (.mpc true X6 []);have hpl:(z7 s.Plan).length=s.Plan.Nodes.length:=by simp[z7]
 unfold b3V;rw[hpl];unfold c1U at ho;unfold d6 at hpt;generalize a5x s=fo at ho hpt ⊢;generalize W3 (B3 s)=si at ho hpt ⊢;generalize a0H (B3 s)=up at ho hpt ⊢;generalize z7 s.Plan=fp at hpt ⊢;refine oG [] Tryz.func10 Tryz.ntmps10 Tryz.results10 ?_;intro J hJ;refine gW ?_;refine gW ?_ fun K hK=>by simp -dsimp;refine cM [] [] (ho) ?_;simp -dsimp;exact hK
 refine b9 fun K1 hK1=>?_;refine gW ?_;refine c3 rfl (fun hc0=>?_) (fun hc0=>?_)
 ·simp at hc0
 ·refine c6 ?_;refine zQ (hK1 _ _ ?_);refine gP [1,4] ?_;refine gW ?_ fun K hK=>by simp -dsimp;refine cI (hw) ?_;simp -dsimp;exact hK
  refine gW ?_ fun K hK=>by simp -dsimp;refine a2F [] [] [none,none,none,none,none,none,none,none,some 0] (hpt) (by decide) rfl (by simp) (by simp) rfl (by simp) (by simp) (by simp) ?_;simp -dsimp;exact hK
  refine v6 (Q3 (a9I 7 (row':= .mpa false [.i .i64] []) (by simp) (by simp) fun _ _ _ _ _=>a9g) (by simp)) ?_;refine v6 (Q3 (a9I 6 (row':= .mpa true X6 []) (by simp) (by simp) fun _ _ _ _ _=>a9g) (by simp)) ?_;refine gU (T':=[(2, .ptr 0 0 0),(3,I 0)]) (H':=[some (.els 1 [[.ptr 1 0 0]]),some (.els 3 [[.ptr 2 0 0, .mp 3, .row 4 0 s.Plan.Nodes.length]]),some (.els 9 [s.cells++[.mpc true KT4 fo, .mpc false [.i .i64] si, .mpc true KTM up, .mp 5, .mp 6]]),some (.mpa false [.i .i64] []),some (.els 1 (fp.map g8)),some (.map true X6 []),some (.mpa true X6 [])]) [some 10,some 9,some 1,some 7,some 8,some 5,some 6] ?_;exact i6 ⟨[some 0,some 1,some 2,some 3,some 4,some 5,some 6],rfl,by simp,by simp[o4],by simp,by simp[W9,x4]⟩
end Go.Tram.Lk
end
section
namespace Go.Tram.Lk
open Go.AM Go.Proofs
open Go.RowKit Go.Maps Go.Sort Go.Shelf
theorem c3x (m:Nat):AnyZI.SortsIn Tryz.prog Tryz.sortedA_ren Fence.wide m:=
  ⟨fun blk off cap ss W hH hblk hsz=>callsIn_wide.2 (AnyM.slices_Sort_int Tryz.sortA blk off cap ss W hH hblk hsz),
   fun p cap W=>callsIn_wide.2 (AnyM.slices_Sort_int_none Tryz.sortA p cap W)⟩
theorem a9z {H:Type} (sb so b nn:Nat) (D0:DataW H) (R:Value→Option (DataW H×List MemPlace)) (w:World) (hc:w.cell? ⟨sb,so+1,none⟩=some (.map (some b))) (hown:w.ownsMap Tryz.prog 3 R b nn D0) (hmax:Maps.size D0≤1000):
  Calls Tryz.prog 39 #[.pointer (some ⟨sb,so,none⟩)] w fun e w'=>∃(v:Value) (ss:List Int),e= .returned v∧ss.Perm (intKeys D0)∧
   w'.ownsRow w.heap.size 3 1 v ss.length ((ss.mergeSort (fun x y=>decide (x≤y))).map encZ)∧(v= .slice none 0 0↔ss=[])∧Go.RowKit.Below w.heap.size w w':=by
 refine(callsIn_wide (n:=6)).1 ?_;have hbl:=hown.lt;have hseq:SeqGives Fence.wide 2 Tryz.prog 125 #[.pointer (some ⟨w.heap.size,0,none⟩)] encZ (fun ss=>ss.Perm (intKeys D0)) (Maps.size D0) (w.alloc (.cells #[.map (some b)] 100)):=
  AnyZI.keys_gives (ρ:=Tryz.keysA_ren) {Tryz.keysA with} Fence.wide _ trivial rfl (by omega) w.heap.size b nn D0 _ (by simp) (by simp) (by
   obtain⟨es,clock,hb,Ft,hs,hD⟩:=hown;exact⟨es,clock,(Go.RowKit.Below.heap_alloc _ _ b hbl).trans hb,Ft,hs,hD⟩)
 have cK:∀mb W,CallsIn Fence.wide 5 Tryz.prog 83 #[.map mb] W fun e w'=>e= .returned (.func (.func 125) #[] #[.pointer (some ⟨W.heap.size,0,none⟩)])∧w'=W.alloc (.cells #[.map mb] 100):=fun mb W=>AnyZI.keys_in Tryz.keysA Fence.wide 5 trivial rfl mb W;have cS:=AnyZI.sorted_in Tryz.sortedA Fence.wide 5 trivial trivial trivial trivial rfl (by omega) (c3x _) (enters_of Tryz.func124 (by kernel_rfl) rfl) 125 #[.pointer (some ⟨w.heap.size,0,none⟩)] trivial (enters_of Tryz.func125 (by kernel_rfl) rfl) _ _ (Nat.le_trans hmax (by decide)) (by omega) _ hseq;change CallsIn _ _ Tryz.prog 82 _ _ _ at cS;have hfK:Fence.wide.fn 83:=trivial;have hfS:Fence.wide.fn 82:=trivial;refine callsIn_of_wp Tryz.func39 rfl trivial ?_ rfl;simp only[Tryz.ntmps39,List.size_toArray,List.length_cons,List.length_nil,Nat.reduceAdd,Nat.reduceSub,Array.replicate_succ,Array.replicate_zero,List.push_toArray,List.append_toArray,List.nil_append,List.cons_append]
 gi_wp2_with (first
  |(gi_at_call 83;refine(cK _ _).mono ?_;rintro e w' ⟨rfl,rfl⟩)
  |(gi_at_call 82;refine cS.mono ?_;rintro e w' ⟨v,ss,rfl,hS,k9,hnil,hb⟩))
 go_ret
 exact⟨v,ss,rfl,hS,ownsRow_base_a k9 (by simp),hnil,((Go.RowKit.Below.refl _ w).alloc (Nat.le_refl _) _).trans (hb.mono (by simp))⟩
theorem a1S:∀ns:List Int,(ns.map g8).flatten=ns.map fun n=>I n
 |[]=>rfl
 |n::ns=>by rw[List.map_cons,List.flatten_cons,a1S ns];rfl
theorem b3C {P:Program} {f:FuncId} {args:List AV} {Hk Hd:Hp} {ns:List Int} (hcf:∀(w:World) (vs:Array Value),(callFunc f vs).run P w= .ok (.enter f vs) w)
  (h:∀(S0:Nat→Prop) (w:World) (ρ:Nat→Option AM.Loc) (vs:List Value),a6V S0 w ρ (Hk++Hd)→args.length=vs.length→
   (∀(i:Nat) c x,args[i]?=some c→vs[i]?=some x→d9 w (Sx S0 ρ) ρ (fun r=>r<(Hk++Hd).length) c x)→
   Calls P f vs.toArray w fun e w'=>∃v,e= .returned v∧Ext (fun _=>False) w w'∧((v= .slice none 0 0∧ns=[])∨∃g cap cur t,v= .slice (some ⟨g,0,none⟩) ns.length cap∧w.heap.size≤g∧w'.heap[g]?=some (.cells cur t (0,0))∧ns.length≤cap∧cur.size=cap∧cur.toList.take ns.length=ns.map encZ)):
  c8 P f args Hk Hd (.row (Hk++Hd).length 0 ns.length) Hk (Hd++[some (.els 1 (ns.map g8))]):=by
 refine⟨hcf,rfl,fun S0 w ρ vs hh hl hreps=>(h S0 w ρ vs hh hl hreps).mono ?_⟩;rintro e w' ⟨v,rfl,he,hv⟩;obtain⟨N,hN⟩:∃N,N=(Hk++Hd).length:=⟨_,rfl⟩;rw[←hN]at hreps ⊢;have hH:Hk++(Hd++[some (.els 1 (ns.map g8))])=(Hk++Hd)++[some (l7.els 1 (ns.map g8))]:=by simp
 rw[hH];have hlen:((Hk++Hd)++[some (l7.els 1 (ns.map g8))]).length=N+1:=by rw[List.length_append,←hN];rfl
 obtain⟨l,hlsz,hlo,hlb,hrep,hrw⟩:∃l:AM.Loc,l.sz=1∧l.o=0∧(∀b,l.b=some b→w.heap.size≤b∧b<w'.heap.size)∧(∀(S:Nat→Prop) (ρ':Nat→Option AM.Loc) (L:Nat→Prop),ρ' N=some l→L N→d9 w' S ρ' L (.row N 0 ns.length) v)∧
   ∀(S:Nat→Prop) (ρ':Nat→Option AM.Loc) (L:Nat→Prop),g9 w' S ρ' L l (.els 1 (ns.map g8)):=by
  rcases hv with⟨rfl,rfl⟩|⟨g,cap,cur,t,rfl,hg,hgc,hcap,hcs,htk⟩
  ·refine⟨⟨none,0,1,0⟩,rfl,rfl,(by intro b h;cases h),fun S ρ' L h1 h2=> .row _ _ _ _ h2 rfl fun l' hl'=>?_,fun S ρ' L=>⟨rfl,by simp,by simp,by intro b h;cases h⟩⟩;rw[h1]at hl'
   cases hl'
   exact⟨fun _=>⟨rfl,rfl,rfl⟩,by intro b h;cases h⟩
  ·have hgl:g<w'.heap.size:=(Array.getElem?_eq_some_iff.1 hgc).1;refine⟨⟨some g,0,1,cap⟩,rfl,rfl,(by intro b h;cases h;exact⟨hg,hgl⟩),fun S ρ' L h1 h2=> .row _ _ _ _ h2 rfl fun l' hl'=>?_,fun S ρ' L=>⟨rfl,by simp[g8],(by intro h;cases h),?_⟩⟩
   ·rw[h1]at hl'
    cases hl'
    refine⟨(by intro h;cases h),?_⟩;intro b hb
    cases hb
    exact⟨0,cap,rfl,hcap,Or.inr ⟨by simp,by simp⟩⟩
   ·intro b hb
    cases hb
    refine⟨cur,t,hgc,hcs,by simp;exact hcap,fun i a hi=>?_⟩;rw[a1S,List.getElem?_map,Option.map_eq_some_iff]at hi;obtain⟨n,hn,rfl⟩:=hi;have h1:(cur.toList.take ns.length)[i]?=some (encZ n):=by rw[htk,List.getElem?_map,hn];rfl
    rw[List.getElem?_take]at h1
    split at h1
    ·refine⟨encZ n,by simpa using h1,rfl, .pure _ _ (.v _)⟩
    ·cases h1
 have hsz:=he.size;have hwf:=a1o (N:=N) (w':=w') hh.wf (by rw[←hN];exact Nat.lt_irrefl _) l hsz hlb;have hL:∀r,r<(Hk++Hd).length→r<((Hk++Hd)++[some (l7.els 1 (ns.map g8))]).length:=fun r hr=>by rw[hlen];omega
 have hkb:∀b,b<w.heap.size→¬Sx S0 ρ b→w'.heap[b]?=w.heap[b]?∧¬Sx S0 (Loc.fresh ρ N l) b:=by
  intro b hb hn;refine⟨he.block b hb (fun h=>h),?_⟩;rintro(h|⟨r,l',h1,h2⟩)
  ·exact hn (Or.inl h)
  ·simp only[Loc.fresh]at h1
   split at h1
   ·simp only[Option.some.injEq]at h1;subst h1;have:=(hlb b h2).1;omega
   ·exact hn (Or.inr ⟨r,l',h1,h2⟩)
 have hρ:∀r l',r<(Hk++Hd).length→Loc.fresh ρ N l r=some l'→ρ r=some l':=by
  intro r l' hr h;simp only[Loc.fresh]at h;rw[if_neg (by omega)]at h;exact h
 refine⟨v,Loc.fresh ρ N l,rfl,⟨hwf.more ?_,?_,?_⟩,hrep _ _ _ (by simp[Loc.fresh]) (by rw[hlen];omega),?_,?_,he.mono fun _ _ h=>h.elim⟩
 ·rintro r (h|rfl)
  ·exact hL r h
  ·rw[hlen];omega
 ·intro r row hr;rw[C7]at hr
  by_cases hrN:r<(Hk++Hd).length
  ·rw[List.getElem?_append_left hrN,←C7]at hr;obtain⟨l',h1,h2⟩:=hh.rows r row hr;refine⟨l',by simp only[Loc.fresh];rw[if_neg (by omega)];exact h1,h2.ext hsz hkb hL hρ fun b hb=>he.block b (hh.wf.own r l' b h1 hb).1 (fun h=>h)⟩
  ·by_cases hrE:r=N
   ·subst hrE;rw[List.getElem?_append_right (by omega)]at hr;simp only[←hN,Nat.sub_self,List.getElem?_cons_zero,Option.getD_some,Option.some.injEq]at hr;subst hr;exact⟨l,by simp[Loc.fresh],hrw _ _ _⟩
   ·rw[List.getElem?_eq_none (by rw[hlen];omega)]at hr
    cases hr
 ·intro r hr;rw[C7]at hr;simp only[Loc.fresh]
  by_cases hrN:r<(Hk++Hd).length
  ·rw[if_neg (by omega)];rw[List.getElem?_append_left hrN,←C7]at hr;exact hh.dead r hr
  ·by_cases hrE:r=N
   ·subst hrE;rw[List.getElem?_append_right (by omega)]at hr;simp[←hN]at hr
   ·rw[if_neg hrE];exact hh.dead r (a1N _ _ (by omega))
 ·intro r l' hr h;exact hρ r l' (by simp;omega) h
 ·rintro b ⟨r,l',h1,h2⟩;simp only[Loc.fresh]at h1
  split at h1
  ·simp only[Option.some.injEq]at h1;subst h1;exact Or.inr (hlb b h2).1
  ·exact Or.inl ⟨r,l',h1,h2⟩
def gI:Value→Int
 | .int _ n=>n
 |_=>0
theorem b7d {w:World} {S:Nat→Prop} {ρ:Nat→Option AM.Loc} {L:Nat→Prop} {b:Nat} {l:List Car} (hs:Srt l) (hl:l.length≤1000) (hb:∀c∈l,0≤c.Name∧c.Name≤1000000) (h:a0N w S ρ L b false [.i .i64] (o4 l)):
  ∃D0:DataW Unit,w.ownsMap Tryz.prog 3 (fun _=>some (.nil,[])) b 1000 D0∧(intKeys D0).Perm (l.map (·.Name))∧Maps.size D0≤1000:=by
 obtain⟨vs,ks,⟨es,clock,h1,h2,h3,h4,h5⟩,hp,hn,hlen,hpt⟩:=h;have hkl:ks.length=l.length:=by rw[hp.length_eq];simp[o4]
 have hes:es.size=l.length:=by
  have:=congrArg List.length h2;simp only[List.length_map,Array.length_toList]at this;omega
 have hkeys:(es.toList.map (·.key)).Perm (l.map fun c=>encZ c.Name):=by
  have e1:es.toList.map (·.key)=(vs.map (·.1)).map (e9 false):=by
   have:=congrArg (List.map Prod.fst) h2;rw[List.map_map,List.map_map]at this;rw[List.map_map];exact this
  have e2:vs.map (·.1)=ks.map (·.1):=by
   apply List.ext_getElem?;intro i;rw[List.getElem?_map,List.getElem?_map]
   cases hv:vs[i]? with
   |none=>rw[List.getElem?_eq_none (by have:=List.getElem?_eq_none_iff.1 hv;omega)];rfl
   |some q=>
    obtain⟨p,hp'⟩:∃p,ks[i]?=some p:=⟨_,List.getElem?_eq_getElem (by rw[hlen];exact(List.getElem?_eq_some_iff.1 hv).1)⟩;rw[hp'];simp[(hpt i p q hp' hv).1]
  rw[e1,e2];have e3:(l.map fun c=>encZ c.Name)=((o4 l).map (·.1)).map (e9 false):=by
   rw[a2B,List.map_map]
   rfl
  rw[e3];exact(hp.map _).map _
 have hkey:∀x∈es.toList,∃c∈l,x.key=encZ c.Name:=by
  intro x hx;have:=hkeys.mem_iff.1 (List.mem_map_of_mem (f:=(·.key)) hx)
  obtain⟨c,hc,e⟩:=List.mem_map.1 this;exact⟨c,hc,e.symm⟩
 have hu:(Tryz.prog).underlying 3=some (.int .i64):=by kernel_rfl
 have hrd:∀x∈es.toList,∃n:Int,x.key=encZ n∧Go.WideElems.rd (H:=Unit) Tryz.prog 3 (fun _=>some (.nil,[])) x=some (.int .i64 n, .nil):=by
  intro x hx;obtain⟨c,hc,e⟩:=hkey x hx;have hbc:=hb c hc;have hw:(Lit.int .i64 c.Name).wf=true:=by
   simp[Lit.wf,IntKind.min,IntKind.max,IntKind.signed,IntKind.bits];omega
  refine⟨c.Name,e,?_⟩;unfold Go.WideElems.rd;rw[e,Go.Maps.keyOf_int_mk hu hw]
  rfl
 obtain⟨D0,hD⟩:∃D0:DataW Unit,D0= .map ((es.toList.map (Go.WideElems.rg Tryz.prog 3 (fun _=>some (.nil,[])))).foldr DataW.insert []):=⟨_,rfl⟩;refine⟨D0,⟨es,clock,h1,⟨by rw[hes];exact Nat.le_trans hl (by decide),⟨fun x hx=>h5 x hx,h4,?_⟩,fun x hx=>by obtain⟨n,_,h⟩:=hrd x hx;exact⟨_,h⟩⟩,by omega,hD⟩,?_,?_⟩
 ·rw[hkeys.nodup_iff];have:=srt_nodup hs;unfold List.Nodup at this ⊢;rw[List.pairwise_map]at this ⊢;exact this.imp fun h e=>h (by simpa [encZ]using e)
 ·rw[hD];show((_:List (Lit×DataW Unit)).map fun p=>intOf p.1).Perm _;refine((Go.WideShapes.sorted_perm _).map _).trans ?_;rw[List.map_map];have e1:es.toList.map ((fun p:Lit×DataW Unit=>intOf p.1)∘Go.WideElems.rg Tryz.prog 3 (fun _=>some (.nil,[])))=(es.toList.map (·.key)).map gI:=by
   rw[List.map_map];refine List.map_congr_left fun x hx=>?_;obtain⟨n,h6,h7⟩:=hrd x hx;simp only[Function.comp,Go.WideElems.rg,h7,h6,Option.getD_some,intOf,gI,encZ]
  rw[e1];have e2:l.map (·.Name)=(l.map fun c=>encZ c.Name).map gI:=by rw[List.map_map];rfl
  rw[e2];exact hkeys.map _
 ·rw[hD];show((es.toList.map (Go.WideElems.rg Tryz.prog 3 (fun _=>some (.nil,[])))).foldr DataW.insert []).length≤1000;rw[length_sorted,List.length_map,Array.length_toList];omega
def nmL (l:List Car):List (List AV):=(l.map (·.Name)).map g8
theorem n8 {l:List Car} {k:Nat} {x:Car} (h:l[k]?=some x):(nmL l)[k]?=some [I x.Name]:=by
 unfold nmL;rw[List.getElem?_map,List.getElem?_map,h];rfl
@[simp] theorem c4u (l:List Car):(nmL l).length=l.length:=by simp[nmL]
@[simp high] theorem c4r (l:List Car) (g:List (Option Nat)) (n:Nat):(nmL l).map (fun e=>e.map (o9 g n))=nmL l:=by
 unfold nmL;rw[List.map_map];refine List.map_congr_left fun x _=>?_
 cases n<;>simp[g8,o9]
theorem Z8 (l:List Car) (hs:Srt l) (hl:l.length≤1000) (hb:∀c∈l,0≤c.Name∧c.Name≤1000000) (c0 c2:AV) (ru d1 d2 d3:Option l7):
  c8 Tryz.prog 39 [.ptr 0 0 0] [some (.els 3 [[c0, .mp 2,c2]]),ru] [some (a7K l),d1,d2,d3] (.row 6 0 l.length) [some (.els 3 [[c0, .mp 2,c2]]),ru] [some (a7K l),d1,d2,d3,some (.els 1 (nmL l))]:=by
 have key:=b3C (P:=Tryz.prog) (f:=39) (args:=[.ptr 0 0 0]) (Hk:=[some (.els 3 [[c0, .mp 2,c2]]),ru]) (Hd:=[some (a7K l),d1,d2,d3]) (ns:=l.map (·.Name)) (fun w vs=>by simp[callFunc,Tryz.func39];rfl) ?_
 ·rw[List.length_map]at key;exact key
 intro S0 w ρ vs hh hlen hreps
 match vs,hlen with
 | [p],_=>
  have hp:=hreps 0 _ p rfl rfl;obtain⟨l0,hl0,hsz,_,hnone,k9⟩:=hh.rows 0 _ rfl;obtain⟨l2,hl2,b,hb2,hmp⟩:=hh.rows 2 _ rfl;obtain⟨q,hq⟩:∃q,p= .pointer (some ⟨q,l0.o,none⟩)∧l0.b=some q:=by
   cases hp with
   |pure _ _ h=>cases h
   |ptr _ _ _ _ _ _ h3=>
    obtain⟨q,h1,h2⟩:=h3 l0 hl0;exact⟨q,by simpa using h2,h1⟩
  obtain⟨rfl,hqb⟩:=hq;obtain⟨c,t,hc,hcs,_,hcell⟩:=k9 q hqb;obtain⟨x,hx,_,hxr⟩:=hcell 1 (.mp 2) rfl;have hxe:x= .map (some b):=by
   cases hxr with
   |pure _ _ h=>cases h
   |mp _ _ _ _ h=>
    obtain⟨b',h1,h2⟩:=h l2 hl2;rw[hb2]at h1
    cases h1
    exact h2
  subst hxe;have hcl:w.cell? ⟨q,l0.o+1,none⟩=some (.map (some b)):=by
   unfold World.cell?;simp[hc,hx]
  obtain⟨D0,hown,hperm,hD⟩:=b7d hs hl hb hmp;refine(a9z q l0.o b 1000 D0 _ w hcl hown hD).mono ?_;rintro e w' ⟨v,ss,rfl,hss,hrow',hnil,hbel⟩;have hsp:=hss.trans hperm;have hsort:=a0r hs hsp;have hln:ss.length=l.length:=by rw[hsp.length_eq];simp
  refine⟨v,rfl,⟨hbel.os,hbel.tape,hbel.output,hbel.size,fun k hk _=>hbel.block k hk,fun k cc tt sg hk=>⟨cc,tt,sg,(hbel.block k (Array.getElem?_eq_some_iff.1 hk).1).trans hk,rfl⟩⟩,?_⟩;rw[hsort]at hrow'
  rcases hrow'.2 with⟨h1,h2⟩|⟨g,cap,cur,h1,h2,h3,h4,h5,h6,h7⟩
  ·refine Or.inl ⟨h1,?_⟩;have:l=[]:=List.eq_nil_of_length_eq_zero (by omega);rw[this];rfl
  ·refine Or.inr ⟨g,cap,cur,_,by rw[h1];simp[hln],h2,h3,by simp;omega,by omega,?_⟩;rw[List.length_map,←hln,←h7];simp
abbrev c2k (ns:List Int):List Int:=ns.mergeSort fun x y=>decide (x≤y)
theorem c1z (ns:List Int) (hn:1≤ns.length) (hN:ns.length≤100000):c8 Tryz.prog 124 [.row 0 0 ns.length] [some (.els 1 (ns.map g8))] [] (.tup []) [some (.els 1 ((c2k ns).map g8))] []:=by
 refine⟨fun w vs=>by simp[callFunc,Tryz.func124];rfl,rfl,fun S0 w ρ vs hh hlen hreps=>?_⟩
 match vs,hlen with
 | [p],_=>
  have hp:=hreps 0 _ p rfl rfl;obtain⟨l,hl,hsz,_,hnone,k9⟩:=hh.rows 0 _ rfl;obtain⟨g,hg⟩:∃g,l.b=some g:=by
   cases hb:l.b with
   |none=>have:=hnone hb;simp at this;rw[this]at hn;simp at hn
   |some g=>exact⟨g,rfl⟩
  obtain⟨c,t,hc,hcs,hlm,hcell⟩:=k9 g hg;obtain⟨cap,hpe,hcap⟩:∃cap,p= .slice (some ⟨g,l.o,none⟩) ns.length cap∧ns.length≤cap:=by
   cases hp with
   |pure _ _ h=>cases h
   |row _ _ _ _ _ _ h3=>
    obtain⟨off,cap,h1,h2,h4⟩:=(h3 l hl).2 g hg;refine⟨cap,?_,h2⟩
    rcases h4 with h4|h4
    ·omega
    ·rw[h1,h4.1];simp
  subst hpe;have hcl:∀(j:Nat) n,ns[j]?=some n→c[l.o+j]?=some (encZ n):=by
   intro j n hj;obtain⟨x,h1,_,h3⟩:=hcell j (I n) (by rw[a1S,List.getElem?_map,hj];rfl);rw[h1,j0 h3]
  have hH:Holds encZ w g l.o ns.toArray:=by
   intro j hj;have hj':j<ns.length:=by simpa using hj
   have e:=hcl j ns[j] (List.getElem?_eq_getElem hj');refine⟨?_,?_⟩
   ·unfold World.cell?;simp only[hc];rw[e];simp[hj']
   ·simp[World.frozen?,hc]
  have hgl:g<w.heap.size:=(Array.getElem?_eq_some_iff.1 hc).1;refine Calls.mono (AnyM.slices_Sort_int Tryz.sortA g l.o cap ns w hH hgl (by omega)) ?_;rintro e w' ⟨rfl,k,os,rfl⟩;obtain⟨w',hw'⟩:∃w',w'=grow (putRow (Value.int .i64) (Sort.ahead w k) g l.o (c2k ns).toArray) os:=⟨_,rfl⟩;rw[←hw'];have hlen2:(c2k ns).length=ns.length:=List.length_mergeSort ns;have hsize:w.heap.size≤w'.heap.size:=by rw[hw'];simp[grow,putRow,mapBlock,Sort.ahead]
  have hold:∀b,b<w.heap.size→w'.heap[b]?=(if g=b then(w.heap[b]?).map (onCells (putCells (Value.int .i64) l.o (c2k ns).toArray))else w.heap[b]?):=by
   intro b hb;rw[hw'];simp only[grow,putRow,mapBlock,Sort.ahead];rw[Array.getElem?_append_left (by simpa using hb),Array.getElem?_modify]
  have hgn:w'.heap[g]?=some (.cells (putCells (Value.int .i64) l.o (c2k ns).toArray c) t (0,0)):=by
   rw[hold g hgl,if_pos rfl,hc];rfl
  refine⟨.tuple #[],ρ,rfl,⟨⟨hh.wf.inj,fun r l' b h1 h2=>⟨Nat.lt_of_lt_of_le (hh.wf.own r l' b h1 h2).1 hsize,(hh.wf.own r l' b h1 h2).2⟩,hh.wf.given,fun b h=>Nat.lt_of_lt_of_le (hh.wf.low b h) hsize,fun _ _=>trivial⟩,?_,?_⟩, .tup [] [] rfl (by simp),fun r l' _ h=>h,fun b h=>Or.inl h,?_⟩
  ·intro r row hr
   match r,hr with
   |0,hr=>
    simp only[List.append_nil,g7,Option.some.injEq]at hr;subst hr;refine⟨l,hl,hsz,by simp[g8],fun h=>(by rw[hg]at h;cases h),fun b hb=>?_⟩;rw[hg]at hb
    cases hb
    refine⟨_,t,hgn,by simp[putCells,hcs],by simp only[List.length_map]at hlm ⊢;omega,fun i a hi=>?_⟩;rw[a1S,List.getElem?_map,Option.map_eq_some_iff]at hi;obtain⟨n,hn',rfl⟩:=hi;have hil:=(List.getElem?_eq_some_iff.1 hn').1;have hin:i<ns.length:=by omega
    refine⟨encZ n,?_,rfl, .pure _ _ (.v _)⟩;have e0:=hcl i ns[i] (List.getElem?_eq_getElem hin);simp only[putCells,Array.getElem?_mapIdx,e0,Option.map_some];rw[if_pos ⟨by omega,by simp;omega⟩,show l.o+i-l.o=i by omega];simp only[List.getElem!_toArray,List.getElem!_eq_getElem?_getD,hn',Option.getD_some]
   |r+1,hr=>simp[g7]at hr
  ·intro r hr
   match r,hr with
   |0,hr=>simp[g7]at hr
   |r+1,hr=>exact hh.dead _ (by simp[g7])
  ·refine⟨by rw[hw'];rfl,by rw[hw'];rfl,by rw[hw'];rfl,hsize,fun b hb hn=>?_,fun b cc tt sg hb=>?_⟩
   ·rw[hold b hb,if_neg];rintro rfl;exact hn ⟨0,l,hl,hg⟩
   ·have hbl:=(Array.getElem?_eq_some_iff.1 hb).1;rw[hold b hbl]
    split
    ·rename_i e;subst e;rw[hb];exact⟨_,_,_,rfl,by simp[putCells]⟩
    ·exact⟨_,_,_,hb,rfl⟩
end Go.Tram.Lk
end
section
namespace Go.AM
theorem b6a {B S0:Nat→Prop} {nt:Nat} {w:World} {ρ:Nat→Option Loc} {L:Nat→Prop} {T T':Tm} {H H':Hp} {a:Act} (g:List (Option Nat)) (hn:∀(i j q:Nat),g[i]?=some (some q)→g[j]?=some (some q)→i=j) (hT:a4b H g T T') (hH:a1x H g=H') (hc:M5 B S0 nt w ρ L (i7 T) (g7 H) a):
  M5 B S0 nt w (k8 ρ g) (fun r=>r<g.length) (i7 T') (g7 H') a:=by
 subst hH;have hren:=b0C (g:=g) (H:=g7 H) hc.wf (fun r row hr=>hc.rows r row hr);refine⟨⟨?_,?_,?_,hc.wf.low,hc.wf.new⟩,hc.size,hc.defers,?_,?_,?_⟩
 ·intro r r' l l' b h1 h2 k1 k2;obtain⟨q,g1,p1⟩:=f9 h1;obtain⟨q',g2,p2⟩:=f9 h2;have:=hc.wf.inj q q' l l' b p1 p2 k1 k2;subst this;exact hn _ _ _ g1 g2
 ·intro r l b h1 k1;obtain⟨q,g1,p1⟩:=f9 h1;exact hc.wf.own q l b p1 k1
 ·intro r l h1;obtain⟨q,g1,p1⟩:=f9 h1;exact(List.getElem?_eq_some_iff.1 g1).1
 ·intro t;have gen:∀(T':Tm),a4b H g T T'→d9 w (Sx S0 (k8 ρ g)) (k8 ρ g) (fun r=>r<g.length) (i7 T' t) (a.tmps.getD t undef):=by
   intro T'
   induction T' with
   |nil=>intro _;exact .pure _ _ (.any _)
   | cons p T' ih=>
    obtain⟨i,x⟩:=p;rintro⟨h1,h2⟩;simp only[i7]
    split
    ·rename_i e;subst e
     rcases h1 with rfl|rfl
     ·exact .pure _ _ (.any _)
     ·exact hren 3 _ _ (hc.tmps t)
    ·exact ih h2
  exact gen T' hT
 ·intro r row hr;simp only[a1x,H6]at hr
  split at hr
  ·rename_i q hq
   split at hr
   ·rename_i q';simp only[Option.map_eq_some_iff]at hr;obtain⟨row0,h0,rfl⟩:=hr;obtain⟨l,hl,k9⟩:=hc.rows q' row0 h0;refine⟨l,by simp only[k8,hq];exact hl,?_⟩
    cases row0 with
    |map kvs=>exact k9
    |mpa ag kts kvs=>obtain⟨b,h1,h2⟩:=k9;exact⟨b,h1,h2.map _ (fun x y h=>hren 3 x y h) rfl⟩
    | itr ag kts left cur=>
     obtain⟨b,h1,h0,h2⟩:=k9;exact⟨b,h1,h0,h2.same rfl (Nat.le_refl _) (fun b _ hn=>⟨rfl,fun k=>hn (by
      rcases k with h|⟨r,l,h1,h2⟩
      ·exact Or.inl h
      ·obtain⟨q,_,h3⟩:=f9 h1;exact Or.inr ⟨q,l,h3,h2⟩)⟩)⟩
    |els sz es=>
     obtain⟨h1,h2,h3,h4⟩:=k9;refine⟨h1,?_,fun hb=>by rw[h3 hb];rfl,fun b hb=>?_⟩
     ·intro e he;simp only[List.mem_map]at he;obtain⟨e',he',rfl⟩:=he;simpa using h2 e' he'
     ·obtain⟨c,t,k1,k2,k3,k4⟩:=h4 b hb;refine⟨c,t,k1,k2,by simpa using k3,fun i av hi=>?_⟩;rw[←List.map_flatten]at hi;simp only[List.getElem?_map,Option.map_eq_some_iff]at hi;obtain⟨av0,hi,rfl⟩:=hi;obtain⟨x,p1,p2,p3⟩:=k4 i av0 hi;exact⟨x,p1,p2,hren 3 _ _ p3⟩
   ·cases hr
  ·cases hr
 ·intro r hr;simp only[a1x,H6]at hr;simp only[k8]
  split
  ·rename_i q hq;rw[hq]at hr;simp only[Option.map_eq_none_iff]at hr;exact hc.dead q hr
  ·rfl
def b4i (gs:List Nat) (n:Nat):List (Option Nat):=(List.range n).map fun r=>if gs.contains r then none else some r
theorem b7i (gs:List Nat) (n r:Nat):(b4i gs n)[r]?=if r<n then some (if gs.contains r then none else some r)else none:=by
 unfold b4i;rw[List.getElem?_map]
 by_cases h:r<n
 ·rw[if_pos h,List.getElem?_range h];rfl
 ·rw[if_neg h,List.getElem?_eq_none (by simpa using h)];rfl
def bkN (gs:List Nat) (i:Nat):Nat:=gs.getD i 0
def c2j (gs:List Nat):AV→AV
 | .v x=> .v x
 | .row i k n=>if i<gs.length then .row (bkN gs i) k n else .any
 | .ptr i k o=>if i<gs.length then .ptr (bkN gs i) k o else .any
 | .mp i=>if i<gs.length then .mp (bkN gs i)else .any
 |_=> .any
def c4n (gs:List Nat):l7→l7
 | .els sz es=> .els sz (es.map fun e=>e.map (c2j gs))
 | .map ag kts kvs=> .map ag kts kvs
 | .itr ag kts left cur=> .itr ag kts left cur
 | .mpa ag kts kvs=> .mpa ag kts (kvs.map fun p=>(p.1,c2j gs p.2))
def c5V (gs:List Nat) (H H':Hp):Hp:=(List.range H.length).map fun r=>match gs.findIdx? (· ==r)with
 |some i=>(g7 H' i).map (c4n gs)
 |none=>(g7 H r).map (B9 (b4i gs H.length))
def c1P (B:Nat→Prop) (S0:Nat→Prop) (w:World) (J:Jt):Jt:={rel:=fun _ S' O w'=>S'=S0∧Ext B w w'∧∀b,O b→B b,mark:=J.mark,base:=J.base}
theorem b8q {B S0:Nat→Prop} {w:World} {m:Jt} (hB:∀b,w.heap.size≤b→B b):JOk (c1P B S0 w m):=by
 rintro y S' O O' A A' ⟨rfl,h1,h2⟩ _ _ he ho;refine⟨rfl,h1.trans (he.mono fun b _ hb=>h2 b hb),fun b hb=>?_⟩
 rcases(ho b hb).2 with h|h
 ·exact h2 b h
 ·exact hB b (Nat.le_trans h1.size h)
def bkρ (gs:List Nat) (ρ ρ1:Nat→Option Loc) (r:Nat):Option Loc:=match gs.findIdx? (· ==r)with|some i=>ρ1 i|none=>ρ r
theorem c3b {gs:List Nat} (hn:gs.Nodup) {i:Nat} (hi:i<gs.length):gs.findIdx? (· ==bkN gs i)=some i:=by
 rw[List.findIdx?_eq_some_iff_getElem];refine⟨hi,by simp[bkN,hi],fun j hj=>?_⟩;simp only[bkN,List.getD_eq_getElem?_getD,List.getElem?_eq_getElem hi,Option.getD_some,beq_iff_eq];intro e;have:=(List.getElem?_inj (Nat.lt_trans hj hi) hn).1 (show gs[j]?=gs[i]? by rw[List.getElem?_eq_getElem hi,List.getElem?_eq_getElem (Nat.lt_trans hj hi),e]);omega
theorem a9L {gs:List Nat} {r i:Nat} (h:gs.findIdx? (· ==r)=some i):i<gs.length∧gs[i]?=some r:=by
 rw[List.findIdx?_eq_some_iff_getElem]at h;obtain⟨h1,h2,_⟩:=h;exact⟨h1,by rw[List.getElem?_eq_getElem h1];simpa using h2⟩
theorem b4G {gs:List Nat} {r:Nat} (h:gs.findIdx? (· ==r)=none):r∉gs:=by
 rw[List.findIdx?_eq_none_iff]at h;intro hr;simpa using h r hr
theorem b0B {w:World} {S0:Nat→Prop} {ρ ρ1:Nat→Option Loc} {L1 L:Nat→Prop} {S1 S:Nat→Prop} {gs:List Nat} (hn:gs.Nodup) (hL:∀r∈gs,L r) {x:AV} {y:Value} (h:d9 w S1 ρ1 L1 x y):d9 w S (bkρ gs ρ ρ1) L (c2j gs x) y:=by
 have nm:∀{i:Nat},i<gs.length→L (bkN gs i)∧bkρ gs ρ ρ1 (bkN gs i)=ρ1 i:=by
  intro i hi;refine⟨hL _ (by simp[bkN,hi]),?_⟩;unfold bkρ;rw[c3b hn hi]
 cases x with
 |v c=>rw[j0 h];exact .pure _ _ (.v _)
 | row i k n=>
  simp only[c2j]
  split
  ·rename_i hi
   cases h with
   |pure _ _ h=>cases h
   |row _ _ _ _ h1 h2 h3=>exact .row _ _ _ _ (nm hi).1 h2 (fun l hl=>h3 l ((nm hi).2▸hl))
  ·exact .pure _ _ (.any _)
 | ptr i k n=>
  simp only[c2j]
  split
  ·rename_i hi
   cases h with
   |pure _ _ h=>cases h
   |ptr _ _ _ _ h1 h2 h3=>exact .ptr _ _ _ _ (nm hi).1 h2 (fun l hl=>h3 l ((nm hi).2▸hl))
  ·exact .pure _ _ (.any _)
 | mp i=>
  simp only[c2j]
  split
  ·rename_i hi
   cases h with
   |pure _ _ h=>cases h
   |mp _ _ h1 h2 h3=>exact .mp _ _ (nm hi).1 h2 (fun l hl=>h3 l ((nm hi).2▸hl))
  ·exact .pure _ _ (.any _)
 |_=>exact .pure _ _ (.any _)
def a9G:Hp→Bool
 |[]=>true
 |some (.itr _ _ _ _)::_=>false
 |_::H=>a9G H
theorem a5V:∀{H:Hp},a9G H=true→∀(r:Nat) ag kts left cur,g7 H r≠some (.itr ag kts left cur)
 |[],_,r,_,_,_,_=>by cases r<;>simp[g7]
 |x::H,h,0,_,_,_,_=>by
  intro e;simp only[g7]at e;subst e;simp[a9G]at h
 | x::H,h,r+1,ag,kts,left,cur=>by
  simp only[g7];refine a5V (H:=H) ?_ r ag kts left cur
  cases x with
  |none=>exact h
  |some row=>cases row with
   |itr=>simp[a9G]at h
   |_=>exact h
theorem c8.keep {P:Program} {f:FuncId} {args:List AV} {Hk Hd Hk' Hn:Hp} {res:AV} {d d':Option l7} (q k k':Nat) {sz sz' s1:Nat} {es es' e1 e1':List (List AV)} {x:Value} {i o:Nat} (h:c8 P f args Hk (d::Hd) res Hk' (d'::Hn))
  (h1:g7 (Hk++d::Hd) q=some (.els sz es)) (h2:es.flatten[k]?=some (.fptr x Hk.length i o)) (h3:g7 (Hk'++d'::Hn) q=some (.els sz' es')) (h4:es'.flatten[k']?=some (.fptr x Hk.length i o))
  (h5:d=some (.els s1 e1)) (h6:d'=some (.els s1 e1')):c8 P f args (Hk++[d]) Hd res (Hk'++[d']) Hn:=by
 have eH:Hk++[d]++Hd=Hk++d::Hd:=by simp
 have eH':Hk'++[d']++Hn=Hk'++d'::Hn:=by simp
 refine⟨h.1,by simp[h.2.1],?_⟩;rw[eH,eH'];intro S0 w ρ vs hh hl hreps;refine(h.2.2 S0 w ρ vs hh hl hreps).mono ?_;rintro e w' ⟨v,ρ',rfl,hh',hrep,hkeep,hfresh,hext⟩;refine⟨v,ρ',rfl,hh',hrep,fun r l' hr hl'=>?_,hfresh,hext⟩
 by_cases hrk:r<Hk.length
 ·exact hkeep r l' hrk hl'
 have hre:r=Hk.length:=by
  rw[List.length_append]at hr;simp at hr;omega
 subst hre;have g1:g7 (Hk++d::Hd) Hk.length=some (.els s1 e1):=by rw[C7,List.getElem?_append_right (Nat.le_refl _)];simp[h5]
 have g2:g7 (Hk'++d'::Hn) Hk.length=some (.els s1 e1'):=by rw[C7,h.2.1,List.getElem?_append_right (Nat.le_refl _)];simp[h6]
 obtain⟨l,hlr,k9⟩:=hh.rows _ _ g1;obtain⟨l2,hl2,hrow2⟩:=hh'.rows _ _ g2;rw[hl2]at hl';simp only[Option.some.injEq]at hl';subst hl';have cell:∀{w:World} {ρ:Nat→Option Loc} {L:Nat→Prop} {S:Nat→Prop} {l:Loc} {sz:Nat} {es:List (List AV)} {k:Nat},g9 w S ρ L l (.els sz es)→es.flatten[k]?=some (.fptr x Hk.length i o)→d9 w S ρ L (.ptr Hk.length i o) x:=by
  intro w ρ L S l sz es k hr hk;obtain⟨_,_,e3,e4⟩:=hr
  cases hb:l.b with
  |none=>rw[e3 hb]at hk;simp at hk
  |some b=>
   obtain⟨c,t,_,_,_,p⟩:=e4 b hb;obtain⟨u,_,_,hu⟩:=p k _ hk
   cases hu with
   |pure _ _ h=>cases h
   |fptr _ _ _ _ h=>exact h
 obtain⟨lq,_,hrq⟩:=hh.rows q _ h1;obtain⟨lq',_,hrq'⟩:=hh'.rows q _ h3;have:=a3O (x:= .ptr Hk.length i o) rfl (cell hrq h2) (cell hrq' h4) hlr hl2 k9 hrow2 hext.cells (fun b hb hn=>hext.block b hb (fun ho=>hn (Or.inr ho)));rw[this];exact hlr
theorem a3o {w:World} {S:Nat→Prop} {ρ:Nat→Option Loc} {L:Nat→Prop} {l:Loc} {sz:Nat} {e e':List AV} (h:g9 w S ρ L l (.els sz [e])) (hl:e'.length=e.length)
  (hc:∀(k:Nat) a',e'[k]?=some a'→∃a,e[k]?=some a∧∀x,(∃b c t,l.b=some b∧w.heap[b]?=some (.cells c t (0,0))∧c[l.o+k]?=some x)→d9 w S ρ L a x→d9 w S ρ L a' x):g9 w S ρ L l (.els sz [e']):=by
 obtain⟨h1,h2,h3,h4⟩:=h;refine⟨h1,fun y hy=>?_,fun hb=>(by cases h3 hb),fun b hb=>?_⟩
 ·simp only[List.mem_singleton]at hy;subst hy;rw[hl];exact h2 e (by simp)
 ·obtain⟨c,t,k1,k2,k3,k4⟩:=h4 b hb;refine⟨c,t,k1,k2,by simpa using k3,fun i a hi=>?_⟩;simp only[List.flatten_cons,List.flatten_nil,List.append_nil]at hi k4;obtain⟨a0,g1,g2⟩:=hc i a hi;obtain⟨x,p1,p2,p3⟩:=k4 i a0 g1;exact⟨x,p1,p2,g2 x ⟨b,c,t,hb,k1,p1⟩ p3⟩
theorem a4a {P:Program} {ro:Option Nat} {J:Jt} {nt:Nat} {kp:List Nat} {c:Code} {T:Tm} {H:Hp} {Q:Exit→Tm→Hp→Prop} (q j:Nat) {sz:Nat} {e:List AV} {r i o:Nat} (hr:g7 H q=some (.els sz [e])) (hj:e[j]?=some (.ptr r i o))
  (h:∀x,GWp P ro J nt kp c T (p9 H q (some (.els sz [e.set j (.fptr x r i o)]))) Q):GWp P ro J nt kp c T H Q:=by
 intro hJ kv a w ⟨⟨S0,ρ,L,hc,hL,hjr,hm⟩,hk⟩;have hql:=U4 hr;obtain⟨l,hl,k9⟩:=hc.rows q _ hr;have hrow0:=k9;obtain⟨_,_,e3,e4⟩:=hrow0
 cases hb:l.b with
 |none=>cases e3 hb
 | some b=>
  obtain⟨cc,t,k1,k2,k3,k4⟩:=e4 b hb;simp only[List.flatten_cons,List.flatten_nil,List.append_nil]at k4;obtain⟨x,p1,p2,p3⟩:=k4 j _ hj;refine h x hJ kv a w ⟨⟨S0,ρ,L,⟨hc.wf,hc.size,hc.defers,hc.tmps,fun r' row hr'=>?_,fun r' hr'=>?_⟩,fun r' hr'=>by rw[M0 _ _ _ hql];exact hL r' hr',hjr,hm⟩,hk⟩
  ·rw[x9 _ _ _ _ (by omega)]at hr'
   split at hr'
   ·rename_i e';subst e';simp only[Option.some.injEq]at hr';subst hr';refine⟨l,hl,a3o k9 (by simp) fun k a' ha=>?_⟩
    by_cases hkj:k=j
    ·subst hkj;have hkl:k<e.length:=(List.getElem?_eq_some_iff.1 hj).1;rw[List.getElem?_set_self hkl]at ha;simp only[Option.some.injEq]at ha;subst ha;refine⟨_,hj,?_⟩;rintro y ⟨b',c',t',q1,q2,q3⟩ hy;rw[hb]at q1;simp only[Option.some.injEq]at q1;subst q1;rw[k1]at q2;simp only[Option.some.injEq,Obj.cells.injEq]at q2;rw[←q2.1,p1]at q3;simp only[Option.some.injEq]at q3;subst q3;exact .fptr _ _ _ _ hy
    ·rw[List.getElem?_set_ne (fun e=>hkj e.symm)]at ha;exact⟨a',ha,fun _ _ h=>h⟩
   ·exact hc.rows r' row hr'
  ·rw[x9 _ _ _ _ (by omega)]at hr'
   split at hr'
   ·cases hr'
   ·exact hc.dead r' hr'
theorem I6 {nt:Nat} {T:Tm} {H:Hp} (q j:Nat) {sz:Nat} {e:List AV} {x:Value} {r i o:Nat} (hr:g7 H q=some (.els sz [e])) (hj:e[j]?=some (.fptr x r i o)):Sub nt T H T (p9 H q (some (.els sz [e.set j (.ptr r i o)]))):=by
 rintro w0 B S0 a w ⟨⟨ρ,L,hc,hL⟩,hext⟩;have hql:=U4 hr;refine⟨⟨ρ,L,⟨hc.wf,hc.size,hc.defers,hc.tmps,fun r' row hr'=>?_,fun r' hr'=>?_⟩,fun r' hr'=>by rw[M0 _ _ _ hql];exact hL r' hr'⟩,hext⟩
 ·rw[x9 _ _ _ _ (by omega)]at hr'
  split at hr'
  ·rename_i e';subst e';simp only[Option.some.injEq]at hr';subst hr';obtain⟨l,hl,k9⟩:=hc.rows r' _ hr;refine⟨l,hl,a3o k9 (by simp) fun k a' ha=>?_⟩
   by_cases hkj:k=j
   ·subst hkj;have hkl:k<e.length:=(List.getElem?_eq_some_iff.1 hj).1;rw[List.getElem?_set_self hkl]at ha;simp only[Option.some.injEq]at ha;subst ha;refine⟨_,hj,fun y _ hy=>?_⟩
    cases hy with
    |pure _ _ h=>cases h
    |fptr _ _ _ _ h=>exact h
   ·rw[List.getElem?_set_ne (fun e=>hkj e.symm)]at ha;exact⟨a',ha,fun _ _ h=>h⟩
  ·exact hc.rows r' row hr'
 ·rw[x9 _ _ _ _ (by omega)]at hr'
  split at hr'
  ·cases hr'
  ·exact hc.dead r' hr'
end Go.AM
end
section
namespace Go.Tram.Lk
open Go.AM Go.Proofs
abbrev n5:=List (Move×Move)
abbrev kMM (m n:Move):List KC:=[.i .i64 m.Rail, .b m.Back, .i .i64 n.Rail, .b n.Back]
theorem a2c {m n m' n':Move}:kMM m n=kMM m' n'↔m=m'∧n=n':=by
 obtain⟨a,b⟩:=m;obtain⟨c,d⟩:=n;obtain⟨a',b'⟩:=m';obtain⟨c',d'⟩:=n';simp[kMM,and_assoc]
def b6e (s:j5) (m n:Move):Bool:=D3 s.Plan m&&(D3 s.Plan n&&F9 s.Plan m n)
def nxK (s:j5) (l:n5):Kvs:=l.map fun p=>(kMM p.1 p.2,(.bool (b6e s p.1 p.2):Value))
theorem a9t (s:j5) (m n:Move):∀l:n5,p6 (nxK s l) (kMM m n)=if (m,n)∈l then some (.bool (b6e s m n))else none
 |[]=>by simp[nxK,p6]
 | p ::l=>by
  have ih:=a9t s m n l;unfold nxK at ih ⊢;rw[List.map_cons,p6]
  by_cases h:m=p.1∧n=p.2
  ·rw[if_pos (a2c.2 h),if_pos (by rw[h.1,h.2];simp),h.1,h.2]
  ·rw[if_neg (fun e=>h (a2c.1 e)),ih];have:((m,n)∈p::l)↔((m,n)∈l):=by
    rw[List.mem_cons];constructor
    ·rintro(e|e)
     ·exact absurd (by rw[←e];exact⟨rfl,rfl⟩) h
     ·exact e
    ·exact Or.inr
   simp only[this]
theorem b3M (s:j5) (m n:Move):∀l:n5,(m,n)∉l→L5 (nxK s l) (kMM m n) (.bool (b6e s m n))=nxK s (l++[(m,n)])
 |[],_=>rfl
 |p::l,h=>by
  have ih:=b3M s m n l fun e=>h (by simp[e]);unfold nxK at ih ⊢;rw[List.map_cons,L5,if_neg,ih]
  ·rfl
  ·intro e;obtain⟨e1,e2⟩:=a2c.1 e;exact h (by rw[e1,e2];simp)
def b8w (s:j5) (m n:Move):Bool:=D3 s.Plan m&&(D3 s.Plan n&&(F9 s.Plan m n&&J5 s.Plan m))
def b8Q (s:j5) (m n:Move):R0:=if b8w s m n then L2 s.Plan m n else⟨0,0⟩
abbrev c4e (s:j5) (m n:Move):List AV:=[I (b8Q s m n).Node,I (b8Q s m n).Leg,Bo (b8w s m n)]
def ndK (s:j5) (l:n5):List (List KC×AV):=l.map fun p=>(kMM p.1 p.2, .agg (c4e s p.1 p.2))
theorem b5X (s:j5) (m n:Move):∀l:n5,C2 (ndK s l) (kMM m n)=if (m,n)∈l then some (.agg (c4e s m n))else none
 |[]=>by simp[ndK,C2]
 | p ::l=>by
  have ih:=b5X s m n l;unfold ndK at ih ⊢;rw[List.map_cons,C2]
  by_cases h:m=p.1∧n=p.2
  ·rw[if_pos (a2c.2 h),if_pos (by rw[h.1,h.2];simp),h.1,h.2]
  ·rw[if_neg (fun e=>h (a2c.1 e)),ih];have:((m,n)∈p::l)↔((m,n)∈l):=by
    rw[List.mem_cons];constructor
    ·rintro(e|e)
     ·exact absurd (by rw[←e];exact⟨rfl,rfl⟩) h
     ·exact e
    ·exact Or.inr
   simp only[this]
theorem b4j (s:j5) (m n:Move):∀l:n5,(m,n)∉l→P6 (ndK s l) (kMM m n) (.agg (c4e s m n))=ndK s (l++[(m,n)])
 |[],_=>rfl
 |p::l,h=>by
  have ih:=b4j s m n l fun e=>h (by simp[e]);unfold ndK at ih ⊢;rw[List.map_cons,P6,if_neg,ih]
  ·rfl
  ·intro e;obtain⟨e1,e2⟩:=a2c.1 e;exact h (by rw[e1,e2];simp)
@[simp high] theorem c4P (s:j5) (l:n5) (g:List (Option Nat)) (n:Nat):(ndK s l).map (fun p=>(p.1,o9 g (n+1) p.2))=ndK s l:=by
 unfold ndK;rw[List.map_map];refine List.map_congr_left fun p _=>?_;simp[o9]
@[simp high] theorem c3W (l:List Car) (g:List (Option Nat)) (n:Nat):(o4 l).map (fun p=>(p.1,o9 g (n+1) p.2))=o4 l:=by
 unfold o4;rw[List.map_map];refine List.map_congr_left fun p _=>?_;simp[o9]
@[simp high] theorem c4i (s:j5) (l:n5) (H:Nat→Option l7) (g:List (Option Nat)) (n:Nat):(ndK s l).map (fun p=>(p.1,a0J H g (n+1) p.2))=ndK s l:=by
 unfold ndK;rw[List.map_map];refine List.map_congr_left fun p _=>?_;simp[a0J]
@[simp high] theorem c2i (l:List Car) (H:Nat→Option l7) (g:List (Option Nat)) (n:Nat):(o4 l).map (fun p=>(p.1,a0J H g (n+1) p.2))=o4 l:=by
 unfold o4;rw[List.map_map];refine List.map_congr_left fun p _=>?_;simp[a0J]
@[simp] theorem c7I:zOk (.agg #[.int .i64 0, .int .i64 0, .bool false])=true:=rfl
@[simp] theorem c7L:zAV (.agg #[.int .i64 0, .int .i64 0, .bool false])= .agg [I 0,I 0,Bo false]:=rfl
@[simp] theorem c7j:zOk (.agg #[.int .i64 0, .int .i64 0, .slice none 0 0, .int .i64 0])=true:=rfl
@[simp] theorem c7t:zAV (.agg #[.int .i64 0, .int .i64 0, .slice none 0 0, .int .i64 0])= .agg [I 0,I 0, .v (.slice none 0 0),I 0]:=rfl
abbrev ruR (s:j5) (fo si up:Kvs) (x y:Nat):Option l7:=some (.els 9 [s.cells++[.mpc true KT4 fo, .mpc false [.i .i64] si, .mpc true KTM up, .mp x, .mp y]])
abbrev nxR (s:j5) (l:n5):Option l7:=some (.map true X6 (nxK s l))
abbrev ndR (s:j5) (l:n5):Option l7:=some (.mpa true X6 (ndK s l))
def b8k (l:n5) (m n:Move):n5:=if (m,n)∈l then l else l++[(m,n)]
theorem a7Z (s:j5) (hv:d8 s.Plan=true) (m n:Move) (hm:D3 s.Plan m=true) (hn:D3 s.Plan n=true) (fo si up:Kvs) (nx nd:n5):
  c8 Tryz.prog 132 [.ptr 0 0 0,m.av,n.av] [ruR s fo si up 1 2] [nxR s nx,ndR s nd] (Bo (F9 s.Plan m n)) [ruR s fo si up 1 2] [nxR s (b8k nx m n),ndR s nd]:=by
 have hf:b6e s m n=F9 s.Plan m n:=by simp[b6e,hm,hn]
 have hg:=a9t s m n nx;rw[hf]at hg
 by_cases hmem:(m,n)∈nx
 ·rw[if_pos hmem]at hg;have ha:b8k nx m n=nx:=if_pos hmem;rw[ha];refine oG [0] Tryz.func132 Tryz.ntmps132 Tryz.results132 ?_;intro J hJ;refine gW ?_;refine gW ?_;refine b9 fun K1 hK1=>?_;refine gD ?_ fun K hK=>by simp -dsimp;refine d7 (.tup [Bo (F9 s.Plan m n),Bo true]) (fun hm=>by rw[hg];rfl) ?_;simp -dsimp;exact hK
  refine gW ?_;refine c3 rfl (fun hc0=>?_) (fun hc0=>?_)
  ·refine gW ?_;exact i6 (gT [some 0,some 1,some 2])
  ·simp at hc0
 ·rw[if_neg hmem]at hg;have ha:b8k nx m n=nx++[(m,n)]:=if_neg hmem;rw[ha];have hs:=b3M s m n nx hmem;rw[hf]at hs;have hfo:=a8L s.Plan m n hv hm hn;have hg2:p6 (nxK s (nx++[(m,n)])) (kMM m n)=some (.bool (F9 s.Plan m n)):=by rw[a9t,if_pos (by simp),hf]
  refine oG [0] Tryz.func132 Tryz.ntmps132 Tryz.results132 ?_;intro J hJ;refine gW ?_;refine gW ?_;refine b9 fun K1 hK1=>?_;refine gD ?_ fun K hK=>by simp -dsimp;refine d7 (.tup [Bo false,Bo false]) (fun hm=>by rw[hg];rfl) ?_;simp -dsimp;exact hK
  refine gW ?_;refine c3 rfl (fun hc0=>?_) (fun hc0=>?_)
  ·simp at hc0
  ·refine c6 ?_;refine zQ (hK1 _ _ ?_);refine gP [0,4,5,7] ?_;refine gD ?_ fun K hK=>by simp -dsimp;refine cI (hfo) ?_;simp -dsimp;exact hK
   refine gD ?_ fun K hK=>by simp -dsimp [hs];exact hK
   refine gD ?_ fun K hK=>by simp -dsimp;refine d7 (Bo (F9 s.Plan m n)) (fun hm=>by rw[hg2];rfl) ?_;simp -dsimp;exact hK
   exact i6 (gT [some 0,some 1,some 2])
abbrev stR (X:Value) (np:Nat):Option l7:=some (.els 3 [[.fptr X 1 0 0, .mp 2, .row 3 0 np]])
abbrev ptR (l:List Int):Option l7:=some (.els 1 (l.map g8))
abbrev caR (l:List Car):Option l7:=some (a7K l)
abbrev stK (X:Value) (s:j5) (fo si up:Kvs) (np:Nat):Hp:=[stR X np,ruR s fo si up 4 5]
abbrev stD (s:j5) (cs:List Car) (ps:List Int) (nx nd:n5):Hp:=[caR cs,ptR ps,nxR s nx,ndR s nd]
def a4V (l:n5) (c:Car) (m:Move):n5:=if c.Way=[]then l else b8k l (C4 c) m
theorem B8 {P:Program} {f:FuncId} {args:List AV} {X:Value} {np np':Nat} {s:j5} {fo si up:Kvs} {D D':Hp} {res:AV}
  (h:c8 P f args [stR X np] (ruR s fo si up 4 5::D) res [stR X np'] (ruR s fo si up 4 5::D')):c8 P f args (stK X s fo si up np) D res (stK X s fo si up np') D':=
 c8.keep 0 0 0 h rfl rfl rfl rfl rfl rfl
theorem a3H {c:Car} (h:c.Way≠[]):c.Way[c.Way.length-1]?=some (C4 c):=by
 unfold C4;rw[←List.getLast?_eq_getElem?]
 cases hg:c.Way.getLast? with
 |none=>exact absurd (List.getLast?_eq_none_iff.1 hg) h
 |some x=>rfl
theorem a7c {s:j5} {c:Car} (h:c.Way≠[]) (hw:wayB s.Plan c.Way=true):D3 s.Plan (C4 c)=true:=by
 have hl:=F5 hw;have:=J9 hw (c.Way.length-1) (by omega);unfold C3 at this;rw[a3H h]at this;exact this
theorem b1W (X:Value) (s:j5) (fo si up:Kvs) (cs:List Car) (ps:List Int) (nx nd:n5) (c:Car) (m:Move) (hne:c.Way=[]):
  c8 Tryz.prog 100 [.ptr 0 0 0,c.av,m.av] (stK X s fo si up ps.length) (stD s cs ps nx nd) (.tup [.agg (D8 s c m).cells,Bo (K0 s c m)]) (stK X s fo si up ps.length) (stD s cs ps nx (a4V nd c m)):=by
 have e1:K0 s c m=false:=by simp[K0,hne]
 have e2:D8 s c m=⟨0,0⟩:=by unfold D8;rw[if_neg (by simp[e1])]
 have e3:a4V nd c m=nd:=if_pos hne;rw[e1,e2,e3];refine B8 ?_;refine oG [0] Tryz.func100 Tryz.ntmps100 Tryz.results100 ?_;intro J hJ;refine gW ?_;refine b9 fun K1 hK1=>?_;refine gW ?_ fun K hK=>by simp -dsimp [hne];exact hK
 refine c3 rfl (fun hc0=>?_) (fun hc0=>?_)
 ·refine gW ?_;refine gU (T':=[(0, .ptr 0 0 0),(6, .iptr [I 0,I 0]),(7,Bo false)]) (H':=stR X ps.length::ruR s fo si up 4 5::stD s cs ps nx nd) [some 0,some 1,some 2,some 3,some 4,some 5] ?_;exact i6 (gT [some 0,some 1,some 2,some 3,some 4,some 5])
 ·simp at hc0
theorem S2 (X:Value) (s:j5) (fo si up:Kvs) (cs:List Car) (ps:List Int) (nx nd:n5) (c:Car) (m:Move) (hv:d8 s.Plan=true) (hne:c.Way≠[]) (hw:wayB s.Plan c.Way=true) (hm:D3 s.Plan m=true):
  c8 Tryz.prog 100 [.ptr 0 0 0,c.av,m.av] (stK X s fo si up ps.length) (stD s cs ps nx nd) (.tup [.agg (D8 s c m).cells,Bo (K0 s c m)]) (stK X s fo si up ps.length) (stD s cs ps nx (a4V nd c m)):=by
 have hl:=F5 hw;have hlast:=a3H hne;have hml:=a7c hne hw;have eb:K0 s c m=b8w s (C4 c) m:=by simp[K0,b8w,hne,hml,hm]
 have es:D8 s c m=b8Q s (C4 c) m:=by unfold D8 b8Q;rw[eb]
 have ex:a4V nd c m=b8k nd (C4 c) m:=if_neg hne;rw[eb,es,ex];have hbt:=a8B s.Plan (C4 c) m hv hml hm;have hbe:b8w s (C4 c) m=(F9 s.Plan (C4 c) m&&J5 s.Plan (C4 c)):=by simp[b8w,hml,hm]
 rw[←hbe]at hbt;have hg:=b5X s (C4 c) m nd;have p9:=b4j s (C4 c) m nd;have hbs:(if b8w s (C4 c) m=true then L2 s.Plan (C4 c) m else⟨0,0⟩)=b8Q s (C4 c) m:=rfl;rw[hbs]at hbt;have hbc:c4e s (C4 c) m=[I (b8Q s (C4 c) m).Node,I (b8Q s (C4 c) m).Leg,Bo (b8w s (C4 c) m)]:=rfl;rw[hbc]at hg p9;generalize C4 c=last at*
 generalize b8Q s last m=B at*
 generalize b8w s last m=b at*
 have herr:((if b=true then(0:Int)else 4)==0)=b:=by cases b<;>rfl
 have wl:IntKind.i64.wrap ((c.Way.length:Int)-1)=(c.Way.length:Int)-1:=c4 (by omega) (by omega);have tl:((c.Way.length:Int)-1).toNat=c.Way.length-1:=by omega
 have l0:0≤(c.Way.length:Int)-1:=by omega
 have l1:1≤(c.Way.length:Int):=by omega
 refine B8 ?_
 by_cases hmem:(last,m)∈nd
 ·rw[if_pos hmem]at hg;have ha:b8k nd last m=nd:=if_pos hmem;rw[ha];refine oG [0] Tryz.func100 Tryz.ntmps100 Tryz.results100 ?_;intro J hJ;refine gW ?_;refine b9 fun K1 hK1=>?_;refine gW ?_ fun K hK=>by simp -dsimp [hne];exact hK
  refine c3 rfl (fun hc0=>?_) (fun hc0=>?_)
  ·simp[hne]at hc0
  ·refine c6 ?_;refine zQ (hK1 _ _ ?_);refine gP [0,4,5,6] ?_;refine gD ?_ fun K hK=>by simp -dsimp [hlast,wl,tl,l0,l1];exact hK
   refine b9 fun K2 hK2=>?_;refine gD ?_ fun K hK=>by simp -dsimp;refine d7 (.tup [.agg [I B.Node,I B.Leg,Bo b],Bo true]) (fun hm=>by rw[hg];rfl) ?_;simp -dsimp;exact hK
   refine gW ?_;refine c3 rfl (fun hc1=>?_) (fun hc1=>?_)
   ·refine gD ?_;refine gU (T':=[(0, .ptr 0 0 0),(6, .iptr [I B.Node,I B.Leg]),(7,Bo b)]) (H':=stR X ps.length::ruR s fo si up 4 5::stD s cs ps nx nd) [some 0,some 1,some 2,some 3,some 4,some 5] ?_;exact i6 (gT [some 0,some 1,some 2,some 3,some 4,some 5])
   ·simp at hc1
 ·rw[if_neg hmem]at hg;have hset2:=p9 hmem;have ha:b8k nd last m=nd++[(last,m)]:=if_neg hmem;rw[ha];refine oG [0] Tryz.func100 Tryz.ntmps100 Tryz.results100 ?_;intro J hJ;refine gW ?_;refine b9 fun K1 hK1=>?_;refine gW ?_ fun K hK=>by simp -dsimp [hne];exact hK
  refine c3 rfl (fun hc0=>?_) (fun hc0=>?_)
  ·simp[hne]at hc0
  ·refine c6 ?_;refine zQ (hK1 _ _ ?_);refine gP [0,4,5,6] ?_;refine gD ?_ fun K hK=>by simp -dsimp [hlast,wl,tl,l0,l1];exact hK
   refine b9 fun K2 hK2=>?_;refine gD ?_ fun K hK=>by simp -dsimp;refine d7 (.tup [.agg [I 0,I 0,Bo false],Bo false]) (fun hm=>by rw[hg];rfl) ?_;simp -dsimp;exact hK
   refine gW ?_;refine c3 rfl (fun hc1=>?_) (fun hc1=>?_)
   ·simp at hc1
   ·refine c6 ?_;refine zQ (hK2 _ _ ?_);refine gP [0,6,8] ?_;refine gD ?_ fun K hK=>by simp -dsimp;refine cI (hbt) ?_;simp -dsimp;exact hK
    refine gD ?_ fun K hK=>by simp -dsimp [hset2,herr];exact hK
    refine gW ?_ fun K hK=>by simp -dsimp [herr];exact hK
    refine gU (T':=[(0, .ptr 0 0 0),(6, .iptr [I B.Node,I B.Leg]),(7,Bo b)]) (H':=stR X ps.length::ruR s fo si up 4 5::stD s cs ps nx (nd++[(last,m)])) [some 0,some 1,some 2,some 3,some 4,some 5] ?_;exact i6 (gT [some 0,some 1,some 2,some 3,some 4,some 5])
end Go.Tram.Lk
end
section
namespace Go.Tram.Lk
open Go.AM Go.Proofs
theorem a1u {P:Program} {f:FuncId} {X:Value} {r i o:Nat} {args:List AV} {Hk Hd Hk' Hn:Hp} {res:AV} (h:c8 P f (.ptr r i o::args) Hk Hd res Hk' Hn):c8 P f (.fptr X r i o::args) Hk Hd res Hk' Hn:=by
 obtain⟨h1,h2,h3⟩:=h;refine⟨h1,h2,fun S0 w ρ vs hh hlen hrep=>h3 S0 w ρ vs hh hlen fun j c x hc hx=>?_⟩
 cases j with
 |zero=>
  simp only[List.getElem?_cons_zero,Option.some.injEq]at hc;subst hc;have:=hrep 0 _ x rfl hx
  cases this with
  |pure _ _ h=>cases h
  |fptr _ _ _ _ h=>exact h
 |succ j=>exact hrep (j+1) c x hc hx
theorem U2 {P:Program} {f:FuncId} {args:List AV} {X pv:Value} {np np':Nat} {s:j5} {fo si up:Kvs} {D D':Hp}
  (h:l5 P f args [stR X np] (ruR s fo si up 4 5::D) pv [stR X np'] (ruR s fo si up 4 5::D')):l5 P f args (stK X s fo si up np) D pv (stK X s fo si up np') D':=by
 refine⟨h.1,rfl,fun S0 w ρ vs hh hl hreps=>(h.2.2 S0 w ρ vs hh hl hreps).mono ?_⟩;rintro e w' ⟨rfl,ρ',hh',hkeep,hfresh,hext⟩;refine⟨rfl,ρ',hh',fun r l' hr hl'=>?_,hfresh,hext⟩
 by_cases hrk:r<1
 ·exact hkeep r l' hrk hl'
 have hre:r=1:=by simp at hr;omega
 subst hre;obtain⟨l,hlr,k9⟩:=hh.rows 1 _ rfl;obtain⟨l2,hl2,hrow2⟩:=hh'.rows 1 _ rfl;rw[hl2]at hl'
 cases hl'
 have cell:∀{w:World} {ρ:Nat→Option AM.Loc} {L:Nat→Prop} {S:Nat→Prop} {l:AM.Loc} {n:Nat},g9 w S ρ L l (.els 3 [[.fptr X 1 0 0, .mp 2, .row 3 0 n]])→d9 w S ρ L (.ptr 1 0 0) X:=by
  intro w ρ L S l n hr;obtain⟨_,_,e3,e4⟩:=hr
  cases hb:l.b with
  |none=>have:=e3 hb;simp at this
  |some b=>
   obtain⟨c,t,_,_,_,p⟩:=e4 b hb;obtain⟨u,_,_,hu⟩:=p 0 _ rfl
   cases hu with
   |pure _ _ h=>cases h
   |fptr _ _ _ _ h=>exact h
 obtain⟨lq,_,hrq⟩:=hh.rows 0 _ rfl;obtain⟨lq',_,hrq'⟩:=hh'.rows 0 _ rfl;have:=a3O (x:= .ptr 1 0 0) rfl (cell hrq) (cell hrq') hlr hl2 k9 hrow2 hext.cells (fun b hb hn=>hext.block b hb (fun ho=>hn (Or.inr ho)));rw[this];exact hlr
section
variable (X:Value) (s:j5) (fo si up:Kvs) (cs:List Car) (ps:List Int) (nx nd:n5) (c:Car) (m:Move)
theorem c3C (hne:c.Way=[]):c8 Tryz.prog 94 [.ptr 0 0 0,c.av,m.av] (stK X s fo si up ps.length) (stD s cs ps nx nd) (.tup []) (stK X s fo si up ps.length) (stD s cs ps (a4V nx c m) nd):=by
 have ex:a4V nx c m=nx:=if_pos hne;rw[ex];refine B8 ?_;have hr:=r8 1 0;refine oG [0] Tryz.func94 Tryz.ntmps94 Tryz.results94 ?_;intro J hJ;refine gW ?_;refine gE ?_ fun K hK=>by simp -dsimp [hne];refine k7 [I 0,Bo false] (fun h=>by simp at h) ?_;simp -dsimp [hne];refine a8A (Bo false) (fun hm=>by simp at hm) (by simp) ?_;simp -dsimp;refine cI (hr) ?_;simp -dsimp [hne];exact hK
 try simp only[zT,reduceIte,Nat.reduceEqDiff]
 exact⟨[some 0,some 1,some 2,some 3,some 4,some 5],rfl,by simp,by simp,by simp,by simp[W9,x4]⟩
theorem c2A (hv:d8 s.Plan=true) (hne:c.Way≠[]) (hw:wayB s.Plan c.Way=true) (hm:D3 s.Plan m=true) (hb:endB s c m=false):
  c8 Tryz.prog 94 [.ptr 0 0 0,c.av,m.av] (stK X s fo si up ps.length) (stD s cs ps nx nd) (.tup []) (stK X s fo si up ps.length) (stD s cs ps (a4V nx c m) nd):=by
 have ex:a4V nx c m=b8k nx (C4 c) m:=if_neg hne;rw[ex];have hl:=F5 hw;have hlast:=a3H hne;have hml:=a7c hne hw;have hfo:=a1u (X:=X) (a7Z s hv (C4 c) m hml hm fo si up nx nd);have hf:F9 s.Plan (C4 c) m=true:=by simpa [endB,hne]using hb
 rw[hf]at hfo;generalize C4 c=last at*
 have wl:IntKind.i64.wrap ((c.Way.length:Int)-1)=(c.Way.length:Int)-1:=c4 (by omega) (by omega);have tl:((c.Way.length:Int)-1).toNat=c.Way.length-1:=by omega
 have l1:1≤(c.Way.length:Int):=by omega
 have l2:0<(c.Way.length:Int):=by omega
 have l3:0<c.Way.length:=by omega
 have hr:=r8 1 0;refine B8 ?_;refine oG [0] Tryz.func94 Tryz.ntmps94 Tryz.results94 ?_;intro J hJ;refine gW ?_;refine gE ?_ fun K hK=>by simp -dsimp [hlast,wl,tl,l1,l2,l3,hne];refine k7 last.cells (fun _=>by rw[List.getElem?_map,hlast];rfl) ?_;simp -dsimp [hlast,wl,tl,l1,l2,l3,hne];refine cM [1] [4,5] (hfo) ?_;simp -dsimp [hlast,wl,tl,l1,l2,l3,hne];refine cI (hr) ?_;simp -dsimp [hlast,wl,tl,l1,l2,l3,hne];exact hK
 try simp only[zT,reduceIte,Nat.reduceEqDiff]
 exact⟨[some 0,some 1,some 2,some 3,some 8,some 9],rfl,by simp,by simp,by simp,by simp[W9,x4]⟩
theorem c3n (hv:d8 s.Plan=true) (hw:c.Way≠[]→wayB s.Plan c.Way=true) (hm:D3 s.Plan m=true) (hb:endB s c m=true):
  l5 Tryz.prog 94 [.ptr 0 0 0,c.av,m.av] (stK X s fo si up ps.length) (stD s cs ps nx nd) (b3k 1 0) (stK X s fo si up ps.length) (stD s cs ps (a4V nx c m) nd):=by
 have hne:c.Way≠[]:=by intro e;simp[endB,e]at hb
 have ex:a4V nx c m=b8k nx (C4 c) m:=if_neg hne;rw[ex]
 replace hw:=hw hne
 have hl:=F5 hw;have hlast:=a3H hne;have hml:=a7c hne hw;have hfo:=a1u (X:=X) (a7Z s hv (C4 c) m hml hm fo si up nx nd);have hf:F9 s.Plan (C4 c) m=false:=by simpa [endB,hne]using hb
 rw[hf]at hfo;generalize C4 c=last at*
 have wl:IntKind.i64.wrap ((c.Way.length:Int)-1)=(c.Way.length:Int)-1:=c4 (by omega) (by omega);have tl:((c.Way.length:Int)-1).toNat=c.Way.length-1:=by omega
 have l1:1≤(c.Way.length:Int):=by omega
 have l2:0<(c.Way.length:Int):=by omega
 have l3:0<c.Way.length:=by omega
 refine U2 ?_;refine l5.of_bodyG [0] Tryz.func94 rfl (by decide) (by simp[Tryz.ntmps94]) rfl rfl ?_;intro J hJ;simp only[Tryz.ntmps94,Tryz.results94];refine gW ?_;refine a4C (List.cons_ne_nil _ _) a1m rfl (by decide) rfl rfl rfl (by decide+kernel) (by decide+kernel) fun K hK=>?_;simp only[List.dropLast];simp -dsimp [hlast,wl,tl,l1,l2,l3,hne];refine k7 last.cells (fun _=>by rw[List.getElem?_map,hlast];rfl) ?_;simp -dsimp [hlast,wl,tl,l1,l2,l3,hne];refine cM [1] [4,5] (hfo) ?_;simp -dsimp [hlast,wl,tl,l1,l2,l3,hne];refine hK _ _ _ (by decide+kernel) (x8 [] [] [none,none,none,none,none,none,none,none,none,none] (N0 1 0) rfl (by simp[a3z]) rfl (by simp) (by simp) rfl (by simp) (by simp) (by simp) ?_);clear hK K;exact⟨rfl,[some 0,some 1,some 2,some 3,some 8,some 9],rfl,by simp,by simp,by simp⟩
end
end Go.Tram.Lk
end
section
namespace Go.Tram.Lk
open Go.AM Go.Proofs
abbrev stC (s:j5) (fo si up:Kvs) (ps:List Int) (nx:n5):List AV:=[.iptr (d6 s fo si up (.mpc true X6 (nxK s nx)) .any), .any, .lst 1 (ps.map g8)]
theorem a6l (F:FuncId) (a b d:List AV) (x:Car) (n:Move) (q:Bool) (h:a8 Tryz.prog F [x.av,n.av, .iptr a, .iptr b, .iptr d] (Bo q)):a8 Tryz.prog 176 (.agg n.cells::L7 [[.clo F [.iptr a, .iptr b, .iptr d]],x.cells]) (Bo q):=by
 show a8 Tryz.prog 176 [.agg n.cells, .iptr [.clo F [.iptr a, .iptr b, .iptr d]], .iptr x.cells] (Bo q);refine oB Tryz.func176 Tryz.ntmps176 Tryz.results176 ?_;refine aW ?_;refine aW ?_ fun K hK=>by simp -dsimp;refine cI (h) ?_;simp -dsimp;exact hK
 exact a7 (by simp)
theorem a6n (F:FuncId) (a b:List AV) (x:Car) (n:Move) (q:Bool) (h:a8 Tryz.prog F [x.av,n.av, .iptr a, .iptr b] (Bo q)):a8 Tryz.prog 176 (.agg n.cells::L7 [[.clo F [.iptr a, .iptr b]],x.cells]) (Bo q):=by
 show a8 Tryz.prog 176 [.agg n.cells, .iptr [.clo F [.iptr a, .iptr b]], .iptr x.cells] (Bo q);refine oB Tryz.func176 Tryz.ntmps176 Tryz.results176 ?_;refine aW ?_;refine aW ?_ fun K hK=>by simp -dsimp;refine cI (h) ?_;simp -dsimp;exact hK
 exact a7 (by simp)
theorem a8b {l:List Car} {c:Car} {f:Car→Move→Bool} {k:Int} (h:a5k l c f=some k):∃(i:Nat) (x:Car),l[i]?=some x∧x.Name=k∧x.Name≠c.Name∧x.Way.any (f x)=true∧∀(j:Nat) (y:Car),j<i→l[j]?=some y→y.Name≠c.Name→y.Way.any (f y)=false:=by
 unfold a5k at h;rw[Option.map_eq_some_iff]at h;obtain⟨x,hx,rfl⟩:=h;rw[List.find?_eq_some_iff_getElem]at hx;obtain⟨h1,i,hi,he,hj⟩:=hx;simp only[Bool.and_eq_true,decide_eq_true_eq]at h1;refine⟨i,x,by rw[List.getElem?_eq_getElem hi,he],rfl,h1.1,h1.2,fun j y hji hy hne=>?_⟩;have:=hj j hji;obtain⟨hjl,hye⟩:=List.getElem?_eq_some_iff.1 hy;rw[hye]at this;simpa [hne]using this
section
variable (X:Value) (s:j5) (fo si up:Kvs) (cs:List Car) (ps:List Int) (nx nd:n5) (c:Car) (m:Move) (kd:Int) (F:FuncId) (h:Car→Move→Bool)
theorem b7m (hs:Srt cs) (hl:cs.length≤1000) (hb:∀x∈cs,(0≤x.Name∧x.Name≤1000000)∧x.Way.length≤1000) (hF:∀x∈cs,∀n∈x.Way,a8 Tryz.prog F [x.av,n.av, .iptr [.iptr (stC s fo si up ps nx)], .iptr c.cells, .iptr m.cells] (Bo (h x n))) (hn:a5k cs c h=none):
  c8 Tryz.prog 134 [.ptr 0 0 0,c.av,I kd, .clo F [.ptr 6 0 0, .ptr 7 0 0, .ptr 8 0 0]] (stK X s fo si up ps.length) (stD s cs ps nx nd++[some (.els 1 [[.ptr 0 0 0]]),some (.els 4 [c.cells]),some (.els 2 [m.cells])]) (.tup []) (stK X s fo si up ps.length) (stD s cs ps nx nd):=by
 have hnm:=Z8 cs hs hl (fun x hx=>(hb x hx).1) (.fptr X 1 0 0) (.row 3 0 ps.length) (ruR s fo si up 4 5) (ptR ps) (nxR s nx) (ndR s nd);have hcont:∀x∈cs,a8 Tryz.prog 102 [a4W x.Way, .clo 176 (L7 [[.clo F [.iptr [.iptr (stC s fo si up ps nx)], .iptr c.cells, .iptr m.cells]],x.cells])] (Bo (x.Way.any (h x))):=
  fun x hx=>a0A x.Way _ _ (h x) (fun n hn=>a6l F _ _ _ x n (h x n) (hF x hx n hn)) (by have:=(hb x hx).2;omega)
 have htp:List.take ps.length (ps.map g8)=ps.map g8:=List.take_of_length_le (by simp);refine B8 ?_;refine oG [0] Tryz.func134 Tryz.ntmps134 Tryz.results134 ?_;intro J hJ;refine gW ?_;refine gW ?_ fun K hK=>by simp -dsimp;refine cM [0,1] [2,3,4,5] (hnm) ?_;simp -dsimp;exact hK
 refine d4 ?_;refine gP [0,2,5,7,12,13,14] ?_;refine i9 [0,2,5,7,12,13] (α:=Nat) (fun k=>[(14,I k)]) (fun k=>[some (.els 3 [[.fptr X 1 0 0, .mp 11, .row 12 0 ps.length]]),ruR s fo si up 13 14,none,none,none,none,some (.els 1 [[.ptr 0 0 0]]),some (.els 4 [c.cells]),some (.els 2 [m.cells]),some (.els 4 [c.cells]),some (.els 1 [[.clo F [.ptr 6 0 0, .ptr 7 0 0, .ptr 8 0 0]]]),caR cs,ptR ps,nxR s nx,ndR s nd,some (.els 1 (nmL cs))]) (fun k=>k≤cs.length) (fun k=>cs.length-k) 0 ?_ ?_ ?_
 ·exact Nat.zero_le _
 ·exact Q3 (c7 (by simp)) (by simp)
 rintro k k1;refine zN ?_;refine gW ?_;refine b9 fun K1 hK1=>?_;refine c3 rfl (fun hc0=>?_) (fun hc0=>?_)
 ·skip
  try simp at hc0
  obtain⟨x,hx⟩:=gx (l:=cs) (i:=k) (by simpa using hc0);have hxm:=List.mem_of_getElem? hx;have wk:=zW k (by omega);obtain⟨hkl,hxe⟩:=List.getElem?_eq_some_iff.1 hx;have g7:(C2 (o4 cs) (kOf x.Name)).getD (.agg [I 0,I 0, .v (.slice none 0 0),I 0])=x.av:=by rw[n6,J8 hs hxm];rfl
  have hct:=hcont x hxm;have hany:x.Name≠c.Name→x.Way.any (h x)=false:=fun hne=>List.any_eq_false.2 fun n hnm=>by simp[a1E.1 hn x hxm hne n hnm]
  simp only[L7,List.map_cons,List.map_nil]at hct;generalize x.Way.any (h x)=an at hct hany;obtain⟨hnl,hng⟩:=List.getElem?_eq_some_iff.1 (n8 hx);have hsel:(x.Name !=c.Name&&an)=false:=by by_cases he:x.Name=c.Name;simp[he];simp[hany he]
  refine c6 ?_;refine zQ (hK1 _ _ ?_);refine gP [0,2,5,7,12,13,14] ?_;refine b9 fun K2 hK2=>?_;refine d4 ?_;refine gW ?_ fun K hK=>by simp -dsimp [n8 hx,hkl,hng];exact hK
  refine gW ?_ fun K hK=>by simp -dsimp;refine d7 (x.av) (fun hm=>g7) ?_;simp -dsimp;exact hK
  refine gV ?_ fun K hK=>by simp -dsimp [htp,hsel];refine cY (fun hm=>hct) ?_;simp -dsimp [htp,hsel];refine cI (r8 kd x.Name) ?_;simp -dsimp [htp,hsel];exact hK
  refine zQ (hK2 _ _ ?_);refine gP [0,2,5,7,12,13,14] ?_;refine gV ?_ fun K hK=>by simp -dsimp [wk];exact hK
  refine zQ ?_;exact⟨k+1,by omega,by omega,gB [some 0,some 1,none,none,none,none,some 6,some 7,some 8,some 9,some 10,some 11,some 12,some 13,some 14,some 15]⟩
 ·skip
  try simp at hc0
  have hke:k=cs.length:=by have:¬k<cs.length:=(by simpa using hc0);omega
  subst hke;refine r7 ?_
  try simp only[zT,reduceIte,Nat.reduceEqDiff]
  exact⟨[some 0,some 1,some 11,some 12,some 13,some 14],rfl,by simp,by simp,by simp,by simp[W9,x4]⟩
end
section
variable (X:Value) (s:j5) (fo si up:Kvs) (cs:List Car) (ps:List Int) (nx nd:n5) (c:Car) (m:Move) (kd:Int) (F:FuncId) (h:Car→Move→Bool)
theorem b7j (hs:Srt cs) (hl:cs.length≤1000) (hb:∀x∈cs,(0≤x.Name∧x.Name≤1000000)∧x.Way.length≤1000) (hF:∀x∈cs,∀n∈x.Way,a8 Tryz.prog F [x.av,n.av, .iptr [.iptr (stC s fo si up ps nx)], .iptr m.cells] (Bo (h x n))) (hn:a5k cs c h=none):
  c8 Tryz.prog 134 [.ptr 0 0 0,c.av,I kd, .clo F [.ptr 6 0 0, .ptr 7 0 0]] (stK X s fo si up ps.length) (stD s cs ps nx nd++[some (.els 1 [[.ptr 0 0 0]]),some (.els 2 [m.cells])]) (.tup []) (stK X s fo si up ps.length) (stD s cs ps nx nd):=by
 have hnm:=Z8 cs hs hl (fun x hx=>(hb x hx).1) (.fptr X 1 0 0) (.row 3 0 ps.length) (ruR s fo si up 4 5) (ptR ps) (nxR s nx) (ndR s nd);have hcont:∀x∈cs,a8 Tryz.prog 102 [a4W x.Way, .clo 176 (L7 [[.clo F [.iptr [.iptr (stC s fo si up ps nx)], .iptr m.cells]],x.cells])] (Bo (x.Way.any (h x))):=
  fun x hx=>a0A x.Way _ _ (h x) (fun n hn=>a6n F _ _ x n (h x n) (hF x hx n hn)) (by have:=(hb x hx).2;omega)
 have htp:List.take ps.length (ps.map g8)=ps.map g8:=List.take_of_length_le (by simp);refine B8 ?_;refine oG [0] Tryz.func134 Tryz.ntmps134 Tryz.results134 ?_;intro J hJ;refine gW ?_;refine gW ?_ fun K hK=>by simp -dsimp;refine cM [0,1] [2,3,4,5] (hnm) ?_;simp -dsimp;exact hK
 refine d4 ?_;refine gP [0,2,5,7,12,13,14] ?_;refine i9 [0,2,5,7,12,13] (α:=Nat) (fun k=>[(14,I k)]) (fun k=>[some (.els 3 [[.fptr X 1 0 0, .mp 10, .row 11 0 ps.length]]),ruR s fo si up 12 13,none,none,none,none,some (.els 1 [[.ptr 0 0 0]]),some (.els 2 [m.cells]),some (.els 4 [c.cells]),some (.els 1 [[.clo F [.ptr 6 0 0, .ptr 7 0 0]]]),caR cs,ptR ps,nxR s nx,ndR s nd,some (.els 1 (nmL cs))]) (fun k=>k≤cs.length) (fun k=>cs.length-k) 0 ?_ ?_ ?_
 ·exact Nat.zero_le _
 ·exact Q3 (c7 (by simp)) (by simp)
 rintro k k1;refine zN ?_;refine gW ?_;refine b9 fun K1 hK1=>?_;refine c3 rfl (fun hc0=>?_) (fun hc0=>?_)
 ·skip
  try simp at hc0
  obtain⟨x,hx⟩:=gx (l:=cs) (i:=k) (by simpa using hc0);have hxm:=List.mem_of_getElem? hx;have wk:=zW k (by omega);obtain⟨hkl,hxe⟩:=List.getElem?_eq_some_iff.1 hx;have g7:(C2 (o4 cs) (kOf x.Name)).getD (.agg [I 0,I 0, .v (.slice none 0 0),I 0])=x.av:=by rw[n6,J8 hs hxm];rfl
  have hct:=hcont x hxm;have hany:x.Name≠c.Name→x.Way.any (h x)=false:=fun hne=>List.any_eq_false.2 fun n hnm=>by simp[a1E.1 hn x hxm hne n hnm]
  simp only[L7,List.map_cons,List.map_nil]at hct;generalize x.Way.any (h x)=an at hct hany;obtain⟨hnl,hng⟩:=List.getElem?_eq_some_iff.1 (n8 hx);have hsel:(x.Name !=c.Name&&an)=false:=by by_cases he:x.Name=c.Name;simp[he];simp[hany he]
  refine c6 ?_;refine zQ (hK1 _ _ ?_);refine gP [0,2,5,7,12,13,14] ?_;refine b9 fun K2 hK2=>?_;refine d4 ?_;refine gW ?_ fun K hK=>by simp -dsimp [n8 hx,hkl,hng];exact hK
  refine gW ?_ fun K hK=>by simp -dsimp;refine d7 (x.av) (fun hm=>g7) ?_;simp -dsimp;exact hK
  refine gV ?_ fun K hK=>by simp -dsimp [htp,hsel];refine cY (fun hm=>hct) ?_;simp -dsimp [htp,hsel];refine cI (r8 kd x.Name) ?_;simp -dsimp [htp,hsel];exact hK
  refine zQ (hK2 _ _ ?_);refine gP [0,2,5,7,12,13,14] ?_;refine gV ?_ fun K hK=>by simp -dsimp [wk];exact hK
  refine zQ ?_;exact⟨k+1,by omega,by omega,gB [some 0,some 1,none,none,none,none,some 6,some 7,some 8,some 9,some 10,some 11,some 12,some 13,some 14]⟩
 ·skip
  try simp at hc0
  have hke:k=cs.length:=by have:¬k<cs.length:=(by simpa using hc0);omega
  subst hke;refine r7 ?_
  try simp only[zT,reduceIte,Nat.reduceEqDiff]
  exact⟨[some 0,some 1,some 10,some 11,some 12,some 13],rfl,by simp,by simp,by simp,by simp[W9,x4]⟩
end
section
variable (X:Value) (s:j5) (fo si up:Kvs) (cs:List Car) (ps:List Int) (nx nd:n5) (c:Car) (m:Move) (kd:Int) (F:FuncId) (h:Car→Move→Bool)
theorem b6M {k0:Int} (hs:Srt cs) (hl:cs.length≤1000) (hb:∀x∈cs,(0≤x.Name∧x.Name≤1000000)∧x.Way.length≤1000) (hF:∀x∈cs,∀n∈x.Way,a8 Tryz.prog F [x.av,n.av, .iptr [.iptr (stC s fo si up ps nx)], .iptr c.cells, .iptr m.cells] (Bo (h x n))) (hn:a5k cs c h=some k0):
  l5 Tryz.prog 134 [.ptr 0 0 0,c.av,I kd, .clo F [.ptr 6 0 0, .ptr 7 0 0, .ptr 8 0 0]] (stK X s fo si up ps.length) (stD s cs ps nx nd++[some (.els 1 [[.ptr 0 0 0]]),some (.els 4 [c.cells]),some (.els 2 [m.cells])]) (b3k kd k0) (stK X s fo si up ps.length) (stD s cs ps nx nd):=by
 have hnm:=Z8 cs hs hl (fun x hx=>(hb x hx).1) (.fptr X 1 0 0) (.row 3 0 ps.length) (ruR s fo si up 4 5) (ptR ps) (nxR s nx) (ndR s nd);have hcont:∀x∈cs,a8 Tryz.prog 102 [a4W x.Way, .clo 176 (L7 [[.clo F [.iptr [.iptr (stC s fo si up ps nx)], .iptr c.cells, .iptr m.cells]],x.cells])] (Bo (x.Way.any (h x))):=
  fun x hx=>a0A x.Way _ _ (h x) (fun n hn=>a6l F _ _ _ x n (h x n) (hF x hx n hn)) (by have:=(hb x hx).2;omega)
 obtain⟨i,xi,hxi,rfl,hine,hiany,hibef⟩:=a8b hn;have hil:=(List.getElem?_eq_some_iff.1 hxi).1;have hci:=hcont xi (List.mem_of_getElem? hxi);simp only[L7,List.map_cons,List.map_nil]at hci;have htp:List.take ps.length (ps.map g8)=ps.map g8:=List.take_of_length_le (by simp);refine U2 ?_;refine l5.of_bodyG [0] Tryz.func134 rfl (by decide) (by simp[Tryz.ntmps134]) rfl rfl ?_;intro J hJ;simp only[Tryz.ntmps134,Tryz.results134];refine gW ?_;refine gW ?_ fun K hK=>by simp -dsimp;refine cM [0,1] [2,3,4,5] (hnm) ?_;simp -dsimp;exact hK
 refine d4 ?_;refine gP [0,2,5,7,12,13,14] ?_;refine i9 [0,2,5,7,12,13] (α:=Nat) (fun k=>[(14,I k)]) (fun k=>[some (.els 3 [[.fptr X 1 0 0, .mp 11, .row 12 0 ps.length]]),ruR s fo si up 13 14,none,none,none,none,some (.els 1 [[.ptr 0 0 0]]),some (.els 4 [c.cells]),some (.els 2 [m.cells]),some (.els 4 [c.cells]),some (.els 1 [[.clo F [.ptr 6 0 0, .ptr 7 0 0, .ptr 8 0 0]]]),caR cs,ptR ps,nxR s nx,ndR s nd,some (.els 1 (nmL cs))]) (fun k=>k≤i) (fun k=>cs.length-k) 0 ?_ ?_ ?_
 ·exact Nat.zero_le _
 ·exact Q3 (c7 (by simp)) (by simp)
 rintro k k1
 rcases Nat.lt_or_eq_of_le k1 with hlt|rfl
 ·refine zN ?_;refine gW ?_;refine b9 fun K1 hK1=>?_;refine c3 rfl (fun hc0=>?_) (fun hc0=>?_)
  ·skip
   try simp at hc0
   obtain⟨x,hx⟩:=gx (l:=cs) (i:=k) (by simpa using hc0);have hxm:=List.mem_of_getElem? hx;have wk:=zW k (by omega);obtain⟨hkl,hxe⟩:=List.getElem?_eq_some_iff.1 hx;have g7:(C2 (o4 cs) (kOf x.Name)).getD (.agg [I 0,I 0, .v (.slice none 0 0),I 0])=x.av:=by rw[n6,J8 hs hxm];rfl
   have hct:=hcont x hxm;simp only[L7,List.map_cons,List.map_nil]at hct;obtain⟨hnl,hng⟩:=List.getElem?_eq_some_iff.1 (n8 hx);refine c6 ?_;refine zQ (hK1 _ _ ?_);refine gP [0,2,5,7,12,13,14] ?_;refine b9 fun K2 hK2=>?_;refine d4 ?_;refine gW ?_ fun K hK=>by simp -dsimp [n8 hx,hkl,hng];exact hK
   refine gW ?_ fun K hK=>by simp -dsimp;refine d7 (x.av) (fun hm=>g7) ?_;simp -dsimp;exact hK
   refine gV ?_ fun K hK=>by simp -dsimp [htp,(show(x.Name !=c.Name&&x.Way.any (h x))=false by by_cases he:x.Name=c.Name;simp[he];rw[hibef k x hlt hx he];simp)];refine cY (fun hm=>hct) ?_;simp -dsimp [htp,(show(x.Name !=c.Name&&x.Way.any (h x))=false by by_cases he:x.Name=c.Name;simp[he];rw[hibef k x hlt hx he];simp)];refine cI (r8 kd x.Name) ?_;simp -dsimp [htp,(show(x.Name !=c.Name&&x.Way.any (h x))=false by by_cases he:x.Name=c.Name;simp[he];rw[hibef k x hlt hx he];simp)];exact hK
   refine zQ (hK2 _ _ ?_);refine gP [0,2,5,7,12,13,14] ?_;refine gV ?_ fun K hK=>by simp -dsimp [wk];exact hK
   refine zQ ?_;exact⟨k+1,by omega,by omega,gB [some 0,some 1,none,none,none,none,some 6,some 7,some 8,some 9,some 10,some 11,some 12,some 13,some 14,some 15]⟩
  ·skip
   try simp at hc0
   exfalso;have:¬k<cs.length:=(by simpa using hc0);omega
 ·refine zN ?_;refine gW ?_;refine b9 fun K3 hK3=>?_;refine c3 rfl (fun hc0=>?_) (fun hc0=>?_)
  ·skip
   try simp at hc0
   obtain⟨x,hx⟩:=gx (l:=cs) (i:=k) (by simpa using hc0);have hxm:=List.mem_of_getElem? hx;have wk:=zW k (by omega);obtain⟨hkl,hxe⟩:=List.getElem?_eq_some_iff.1 hx;have g7:(C2 (o4 cs) (kOf x.Name)).getD (.agg [I 0,I 0, .v (.slice none 0 0),I 0])=x.av:=by rw[n6,J8 hs hxm];rfl
   have hct:=hcont x hxm;simp only[L7,List.map_cons,List.map_nil]at hct;obtain⟨hnl,hng⟩:=List.getElem?_eq_some_iff.1 (n8 hx);refine c6 ?_;refine zQ (hK3 _ _ ?_);refine gP [0,2,5,7,12,13,14] ?_;refine b9 fun K4 hK4=>?_;refine d4 ?_;refine gW ?_ fun K hK=>by simp -dsimp [n8 hx,hkl,hng];exact hK
   refine gW ?_ fun K hK=>by simp -dsimp;refine d7 (x.av) (fun hm=>g7) ?_;simp -dsimp;exact hK
   refine a2P (List.cons_ne_nil _ _) rfl (by decide) rfl rfl rfl fun K hK=>?_;simp only[List.dropLast];simp -dsimp [htp,(show(xi.Name !=c.Name&&xi.Way.any (h xi))=true by simp[hine,hiany]),(show x=xi by rw[hx]at hxi;exact Option.some.inj hxi)];refine cY (fun hm=>hci) ?_;simp -dsimp [htp,(show(xi.Name !=c.Name&&xi.Way.any (h xi))=true by simp[hine,hiany]),(show x=xi by rw[hx]at hxi;exact Option.some.inj hxi)];refine hK _ _ (x8 [] [] [none,none,none,none,none,none,none,none,none,none,none,none,none,none,none,none,none] (N0 kd xi.Name) rfl (by simp[a3z]) rfl (by simp) (by simp) rfl (by simp) (by simp) (by simp) ?_);clear hK K;exact⟨rfl,[some 0,some 1,some 11,some 12,some 13,some 14],rfl,by simp,by simp,by simp⟩
  ·skip
   try simp at hc0
   exfalso;have:¬k<cs.length:=(by simpa using hc0);omega
end
section
variable (X:Value) (s:j5) (fo si up:Kvs) (cs:List Car) (ps:List Int) (nx nd:n5) (c:Car) (m:Move) (kd:Int) (F:FuncId) (h:Car→Move→Bool)
theorem b6R {k0:Int} (hs:Srt cs) (hl:cs.length≤1000) (hb:∀x∈cs,(0≤x.Name∧x.Name≤1000000)∧x.Way.length≤1000) (hF:∀x∈cs,∀n∈x.Way,a8 Tryz.prog F [x.av,n.av, .iptr [.iptr (stC s fo si up ps nx)], .iptr m.cells] (Bo (h x n))) (hn:a5k cs c h=some k0):
  l5 Tryz.prog 134 [.ptr 0 0 0,c.av,I kd, .clo F [.ptr 6 0 0, .ptr 7 0 0]] (stK X s fo si up ps.length) (stD s cs ps nx nd++[some (.els 1 [[.ptr 0 0 0]]),some (.els 2 [m.cells])]) (b3k kd k0) (stK X s fo si up ps.length) (stD s cs ps nx nd):=by
 have hnm:=Z8 cs hs hl (fun x hx=>(hb x hx).1) (.fptr X 1 0 0) (.row 3 0 ps.length) (ruR s fo si up 4 5) (ptR ps) (nxR s nx) (ndR s nd);have hcont:∀x∈cs,a8 Tryz.prog 102 [a4W x.Way, .clo 176 (L7 [[.clo F [.iptr [.iptr (stC s fo si up ps nx)], .iptr m.cells]],x.cells])] (Bo (x.Way.any (h x))):=
  fun x hx=>a0A x.Way _ _ (h x) (fun n hn=>a6n F _ _ x n (h x n) (hF x hx n hn)) (by have:=(hb x hx).2;omega)
 obtain⟨i,xi,hxi,rfl,hine,hiany,hibef⟩:=a8b hn;have hil:=(List.getElem?_eq_some_iff.1 hxi).1;have hci:=hcont xi (List.mem_of_getElem? hxi);simp only[L7,List.map_cons,List.map_nil]at hci;have htp:List.take ps.length (ps.map g8)=ps.map g8:=List.take_of_length_le (by simp);refine U2 ?_;refine l5.of_bodyG [0] Tryz.func134 rfl (by decide) (by simp[Tryz.ntmps134]) rfl rfl ?_;intro J hJ;simp only[Tryz.ntmps134,Tryz.results134];refine gW ?_;refine gW ?_ fun K hK=>by simp -dsimp;refine cM [0,1] [2,3,4,5] (hnm) ?_;simp -dsimp;exact hK
 refine d4 ?_;refine gP [0,2,5,7,12,13,14] ?_;refine i9 [0,2,5,7,12,13] (α:=Nat) (fun k=>[(14,I k)]) (fun k=>[some (.els 3 [[.fptr X 1 0 0, .mp 10, .row 11 0 ps.length]]),ruR s fo si up 12 13,none,none,none,none,some (.els 1 [[.ptr 0 0 0]]),some (.els 2 [m.cells]),some (.els 4 [c.cells]),some (.els 1 [[.clo F [.ptr 6 0 0, .ptr 7 0 0]]]),caR cs,ptR ps,nxR s nx,ndR s nd,some (.els 1 (nmL cs))]) (fun k=>k≤i) (fun k=>cs.length-k) 0 ?_ ?_ ?_
 ·exact Nat.zero_le _
 ·exact Q3 (c7 (by simp)) (by simp)
 rintro k k1
 rcases Nat.lt_or_eq_of_le k1 with hlt|rfl
 ·refine zN ?_;refine gW ?_;refine b9 fun K1 hK1=>?_;refine c3 rfl (fun hc0=>?_) (fun hc0=>?_)
  ·skip
   try simp at hc0
   obtain⟨x,hx⟩:=gx (l:=cs) (i:=k) (by simpa using hc0);have hxm:=List.mem_of_getElem? hx;have wk:=zW k (by omega);obtain⟨hkl,hxe⟩:=List.getElem?_eq_some_iff.1 hx;have g7:(C2 (o4 cs) (kOf x.Name)).getD (.agg [I 0,I 0, .v (.slice none 0 0),I 0])=x.av:=by rw[n6,J8 hs hxm];rfl
   have hct:=hcont x hxm;simp only[L7,List.map_cons,List.map_nil]at hct;obtain⟨hnl,hng⟩:=List.getElem?_eq_some_iff.1 (n8 hx);refine c6 ?_;refine zQ (hK1 _ _ ?_);refine gP [0,2,5,7,12,13,14] ?_;refine b9 fun K2 hK2=>?_;refine d4 ?_;refine gW ?_ fun K hK=>by simp -dsimp [n8 hx,hkl,hng];exact hK
   refine gW ?_ fun K hK=>by simp -dsimp;refine d7 (x.av) (fun hm=>g7) ?_;simp -dsimp;exact hK
   refine gV ?_ fun K hK=>by simp -dsimp [htp,(show(x.Name !=c.Name&&x.Way.any (h x))=false by by_cases he:x.Name=c.Name;simp[he];rw[hibef k x hlt hx he];simp)];refine cY (fun hm=>hct) ?_;simp -dsimp [htp,(show(x.Name !=c.Name&&x.Way.any (h x))=false by by_cases he:x.Name=c.Name;simp[he];rw[hibef k x hlt hx he];simp)];refine cI (r8 kd x.Name) ?_;simp -dsimp [htp,(show(x.Name !=c.Name&&x.Way.any (h x))=false by by_cases he:x.Name=c.Name;simp[he];rw[hibef k x hlt hx he];simp)];exact hK
   refine zQ (hK2 _ _ ?_);refine gP [0,2,5,7,12,13,14] ?_;refine gV ?_ fun K hK=>by simp -dsimp [wk];exact hK
   refine zQ ?_;exact⟨k+1,by omega,by omega,gB [some 0,some 1,none,none,none,none,some 6,some 7,some 8,some 9,some 10,some 11,some 12,some 13,some 14]⟩
  ·skip
   try simp at hc0
   exfalso;have:¬k<cs.length:=(by simpa using hc0);omega
 ·refine zN ?_;refine gW ?_;refine b9 fun K3 hK3=>?_;refine c3 rfl (fun hc0=>?_) (fun hc0=>?_)
  ·skip
   try simp at hc0
   obtain⟨x,hx⟩:=gx (l:=cs) (i:=k) (by simpa using hc0);have hxm:=List.mem_of_getElem? hx;have wk:=zW k (by omega);obtain⟨hkl,hxe⟩:=List.getElem?_eq_some_iff.1 hx;have g7:(C2 (o4 cs) (kOf x.Name)).getD (.agg [I 0,I 0, .v (.slice none 0 0),I 0])=x.av:=by rw[n6,J8 hs hxm];rfl
   have hct:=hcont x hxm;simp only[L7,List.map_cons,List.map_nil]at hct;obtain⟨hnl,hng⟩:=List.getElem?_eq_some_iff.1 (n8 hx);refine c6 ?_;refine zQ (hK3 _ _ ?_);refine gP [0,2,5,7,12,13,14] ?_;refine b9 fun K4 hK4=>?_;refine d4 ?_;refine gW ?_ fun K hK=>by simp -dsimp [n8 hx,hkl,hng];exact hK
   refine gW ?_ fun K hK=>by simp -dsimp;refine d7 (x.av) (fun hm=>g7) ?_;simp -dsimp;exact hK
   refine a2P (List.cons_ne_nil _ _) rfl (by decide) rfl rfl rfl fun K hK=>?_;simp only[List.dropLast];simp -dsimp [htp,(show(xi.Name !=c.Name&&xi.Way.any (h xi))=true by simp[hine,hiany]),(show x=xi by rw[hx]at hxi;exact Option.some.inj hxi)];refine cY (fun hm=>hci) ?_;simp -dsimp [htp,(show(xi.Name !=c.Name&&xi.Way.any (h xi))=true by simp[hine,hiany]),(show x=xi by rw[hx]at hxi;exact Option.some.inj hxi)];refine hK _ _ (x8 [] [] [none,none,none,none,none,none,none,none,none,none,none,none,none,none,none,none] (N0 kd xi.Name) rfl (by simp[a3z]) rfl (by simp) (by simp) rfl (by simp) (by simp) (by simp) ?_);clear hK K;exact⟨rfl,[some 0,some 1,some 10,some 11,some 12,some 13],rfl,by simp,by simp,by simp⟩
  ·skip
   try simp at hc0
   exfalso;have:¬k<cs.length:=(by simpa using hc0);omega
end
end Go.Tram.Lk
end
section
namespace Go.Tram.Lk
open Go.AM Go.Proofs
structure b6s (s:j5) (cs:List Car):Prop where
 srt:Srt cs
 len:cs.length≤1000
 car:∀x∈cs,a1W s x=true
theorem b6s.bd {s:j5} {cs:List Car} (h:b6s s cs):∀x∈cs,(0≤x.Name∧x.Name≤1000000)∧x.Way.length≤1000:=by
 intro x hx;obtain⟨h1,_,⟨_,h3,_⟩,_⟩:=o5 (h.car x hx);exact⟨⟨by omega,by omega⟩,by omega⟩
section
variable {s:j5} {fo si up:Kvs} (hru:b2l s fo si up)
include hru
theorem a8f (ps:List Int) (nx:n5) (c x:Car) (m n:Move):a8 Tryz.prog 135 [x.av,n.av, .iptr [.iptr (stC s fo si up ps nx)], .iptr c.cells, .iptr m.cells] (Bo (G0 s m.Rail c.Profile n.Rail x.Profile)):=by
 have h:=b3L hru (.mpc true X6 (nxK s nx)) .any c x m n;unfold d6 at h;refine oB Tryz.func135 Tryz.ntmps135 Tryz.results135 ?_;refine aW ?_ fun K hK=>by simp -dsimp [d6];exact hK
 refine aD ?_ fun K hK=>by simp -dsimp [d6];refine cI (h) ?_;simp -dsimp [d6];exact hK
 exact a7 (by simp)
theorem a2M (ps:List Int) (nx:n5) (x:Car) (m n:Move):a8 Tryz.prog 138 [x.av,n.av, .iptr [.iptr (stC s fo si up ps nx)], .iptr m.cells] (Bo (G7 s m n)):=by
 have h:=b4K hru (.mpc true X6 (nxK s nx)) .any m n;unfold d6 at h;refine oB Tryz.func138 Tryz.ntmps138 Tryz.results138 ?_;refine aW ?_ fun K hK=>by simp -dsimp [d6];exact hK
 refine aD ?_ fun K hK=>by simp -dsimp [d6];refine cI (h) ?_;simp -dsimp [d6];exact hK
 exact a7 (by simp)
variable (X:Value) {cs:List Car} (hcs:b6s s cs) (ps:List Int) (nx nd:n5) (c:Car) (m:Move)
include hcs
theorem b8b (hn:a5k cs c (fun o n=>G0 s m.Rail c.Profile n.Rail o.Profile)=none):c8 Tryz.prog 96 [.ptr 0 0 0,c.av,m.av] (stK X s fo si up ps.length) (stD s cs ps nx nd) (.tup []) (stK X s fo si up ps.length) (stD s cs ps nx nd):=by
 have ho:=b7m X s fo si up cs ps nx nd c m 3 135 (fun o n=>G0 s m.Rail c.Profile n.Rail o.Profile) hcs.srt hcs.len hcs.bd (fun x _ n _=>a8f hru ps nx c x m n) hn;refine B8 ?_;refine oG [0] Tryz.func96 Tryz.ntmps96 Tryz.results96 ?_;intro J hJ;refine gW ?_;refine gV ?_ fun K hK=>by simp -dsimp;refine cM [0,1] [2,3,4,5,6,7,8] (ho) ?_;simp -dsimp;exact hK
 try simp only[zT,reduceIte,Nat.reduceEqDiff]
 exact⟨[some 0,some 1,some 9,some 10,some 11,some 12],rfl,by simp,by simp,by simp,by simp[W9,x4]⟩
theorem b7N {k:Int} (hn:a5k cs c (fun o n=>G0 s m.Rail c.Profile n.Rail o.Profile)=some k):l5 Tryz.prog 96 [.ptr 0 0 0,c.av,m.av] (stK X s fo si up ps.length) (stD s cs ps nx nd) (b3k 3 k) (stK X s fo si up ps.length) (stD s cs ps nx nd):=by
 have ho:=b6M X s fo si up cs ps nx nd c m 3 135 (fun o n=>G0 s m.Rail c.Profile n.Rail o.Profile) hcs.srt hcs.len hcs.bd (fun x _ n _=>a8f hru ps nx c x m n) hn;refine U2 ?_;refine l5.of_bodyG [0] Tryz.func96 rfl (by decide) (by simp[Tryz.ntmps96]) rfl rfl ?_;intro J hJ;simp only[Tryz.ntmps96,Tryz.results96];refine gW ?_;refine a2P (List.cons_ne_nil _ _) rfl (by decide) rfl rfl rfl fun K hK=>?_;simp only[List.dropLast];simp -dsimp;refine hK _ _ (x8 [0,1] [2,3,4,5,6,7,8] [some 0,some 1,none,none,none,none,none,none,none,some 2,some 3,some 4,some 5] (ho) rfl (by simp[a3z]) rfl (by simp) (by simp) rfl (by simp) (by simp) (by simp) ?_);clear hK K;exact⟨rfl,[some 0,some 1,some 9,some 10,some 11,some 12],rfl,by simp,by simp,by simp⟩
theorem a9Z (hn:a5k cs c (fun _ n=>G7 s m n)=none):c8 Tryz.prog 98 [.ptr 0 0 0,c.av,m.av] (stK X s fo si up ps.length) (stD s cs ps nx nd) (.tup []) (stK X s fo si up ps.length) (stD s cs ps nx nd):=by
 have ho:=b7j X s fo si up cs ps nx nd c m 5 138 (fun _ n=>G7 s m n) hcs.srt hcs.len hcs.bd (fun x _ n _=>a2M hru ps nx x m n) hn;refine B8 ?_;refine oG [0] Tryz.func98 Tryz.ntmps98 Tryz.results98 ?_;intro J hJ;refine gW ?_;refine gV ?_ fun K hK=>by simp -dsimp;refine cM [0,1] [2,3,4,5,6,8] (ho) ?_;simp -dsimp;exact hK
 try simp only[zT,reduceIte,Nat.reduceEqDiff]
 exact⟨[some 0,some 1,some 9,some 10,some 11,some 12],rfl,by simp,by simp,by simp,by simp[W9,x4]⟩
theorem a9D {k:Int} (hn:a5k cs c (fun _ n=>G7 s m n)=some k):l5 Tryz.prog 98 [.ptr 0 0 0,c.av,m.av] (stK X s fo si up ps.length) (stD s cs ps nx nd) (b3k 5 k) (stK X s fo si up ps.length) (stD s cs ps nx nd):=by
 have ho:=b6R X s fo si up cs ps nx nd c m 5 138 (fun _ n=>G7 s m n) hcs.srt hcs.len hcs.bd (fun x _ n _=>a2M hru ps nx x m n) hn;refine U2 ?_;refine l5.of_bodyG [0] Tryz.func98 rfl (by decide) (by simp[Tryz.ntmps98]) rfl rfl ?_;intro J hJ;simp only[Tryz.ntmps98,Tryz.results98];refine gW ?_;refine a2P (List.cons_ne_nil _ _) rfl (by decide) rfl rfl rfl fun K hK=>?_;simp only[List.dropLast];simp -dsimp;refine hK _ _ (x8 [0,1] [2,3,4,5,6,8] [some 0,some 1,none,none,none,none,none,none,none,some 2,some 3,some 4,some 5] (ho) rfl (by simp[a3z]) rfl (by simp) (by simp) rfl (by simp) (by simp) (by simp) ?_);clear hK K;exact⟨rfl,[some 0,some 1,some 9,some 10,some 11,some 12],rfl,by simp,by simp,by simp⟩
end
end Go.Tram.Lk
end
section
namespace Go.Tram.Lk
open Go.AM Go.Proofs
theorem b1q:∀{l:List Car} {c:Car},Srt l→c∈l→l.Perm (c::b1T l c.Name)
 |x::l,c,h,hc=>by
  obtain⟨h1,h2⟩:=U8.1 h;rw[a4y]
  rcases List.mem_cons.1 hc with e|hc'
  ·rw[if_pos (by rw[e]),Z7 fun y hy=>by have:=h1 y hy;rw[e];omega,e]
  ·have:=h1 c hc';rw[if_neg (by omega)];exact((b1q h2 hc').cons x).trans (List.Perm.swap _ _ _)
theorem a7z {l:List Car} {c:Car} (h:Srt l):((C1 l c).map (·.Name)).Perm (c.Name::(b1T l c.Name).map (·.Name)):=(Y6 c h).map _
theorem a9V {l:List Car} {c c':Car} (h:Srt l) (hc:a0g l c.Name=some c'):(C1 l c).map (·.Name)=l.map (·.Name):=by
 obtain⟨hm,he⟩:=U7 hc;have hp:(l.map (·.Name)).Perm ((C1 l c).map (·.Name)):=by
  refine((b1q h hm).map _).trans ?_;rw[List.map_cons,he];exact(a7z h).symm
 have h1:=a0r (P9 c h) hp;have h2:=a0r h (List.Perm.refl _);rw[←h1,h2]
theorem b9Y {l:List Car} {c:Car} (h:Srt l) (hc:a0g l c.Name=none):c2k (l.map (·.Name)++[c.Name])=(C1 l c).map (·.Name):=by
 refine a0r (P9 c h) ?_;have:=Z7 (a4n.1 hc);refine List.Perm.trans ?_ (a7z h).symm;rw[this];exact List.perm_append_comm
theorem c3j {s:j5} (hv:d8 s.Plan=true) (fo si up:Kvs) (x y:AV) (c:Car) (hw:wayB s.Plan c.Way=true):a8 Tryz.prog 45 [.iptr (d6 s fo si up x y),c.av] (.lst 2 ((F0 s c).map R0.cells)):=by
 have h:=a7m s.Plan c.Way hv hw;rw[←O2 (c:=c) hw]at h;refine oB Tryz.func45 Tryz.ntmps45 Tryz.results45 ?_;refine aW ?_ fun K hK=>by simp -dsimp [d6];exact hK
 refine aD ?_ fun K hK=>by simp -dsimp [d6];refine cI (h) ?_;simp -dsimp [d6];exact hK
 refine aW ?_ fun K hK=>by simp -dsimp [d6];exact hK
 exact a7 (by simp)
theorem c3f (y w:R0):a8 Tryz.prog 137 (.agg y.cells::L7 [w.cells]) (Bo (decide (y.Node=w.Node)&&decide (y.Leg≠w.Leg))):=by
 show a8 Tryz.prog 137 [.agg y.cells, .iptr w.cells] _;refine oB Tryz.func137 Tryz.ntmps137 Tryz.results137 ?_;refine aW ?_;refine aW ?_;exact a7 (by simp[Bool.beq_eq_decide_eq,bne])
theorem b4C (l:List R0) (f:FuncId) (cl:List (List AV)) (q:R0→Bool) (h:∀x∈l,a8 Tryz.prog f (.agg x.cells::L7 cl) (Bo (q x))) (hn:l.length≤100000):
  a8 Tryz.prog 177 [.lst 2 (l.map R0.cells), .clo f (L7 cl)] (I (W6 l q)):=by
 refine oB Tryz.func177 Tryz.ntmps177 Tryz.results177 ?_;refine aW ?_;refine a5 fun K1 hK1=>?_;refine aW ?_;refine a9 ?_;refine aP [0,1,7,8] ?_;refine c5 [0,1,7] (α:=Nat) (fun k=>[(8,I k)]) (fun _=>[]) (fun k=>k≤l.length∧(l.take k).any q=false) (fun k=>l.length-k) 0 ?_ ?_ ?_
 ·simp
 ·exact c7 (by simp)
 rintro k ⟨k1,k2⟩;refine zN ?_;refine aW ?_;refine a5 fun K2 hK2=>?_;refine a6 rfl (fun hc0=>?_) (fun hc0=>?_)
 ·skip
  try simp at hc0
  obtain⟨x,hx⟩:=gx (l:=l) (i:=k) hc0;have wk:=zW k (by omega);refine b8 ?_;refine zQ (hK2 _ _ ?_);refine aP [0,1,7,8] ?_;refine a5 fun K3 hK3=>?_;refine a9 ?_;refine aW ?_;refine aW ?_ fun K hK=>by simp -dsimp [hx];refine cI (h x (List.mem_of_getElem? hx)) ?_;simp -dsimp [hx];exact hK
  refine a6 rfl (fun hc1=>?_) (fun hc1=>?_)
  ·skip
   try simp at hc1
   refine aW ?_;exact a7 (by simp[N6 hx hc1 k2])
  ·skip
   try simp at hc1
   refine b8 ?_;refine zQ (hK3 _ _ ?_);refine aP [0,1,7,8] ?_;refine aV ?_ fun K hK=>by simp -dsimp [wk];exact hK
   refine zQ ?_;exact⟨k+1,⟨by omega,by rw[any_take hx,k2,hc1];rfl⟩,by omega,c7 (by simp)⟩
 ·skip
  try simp at hc0
  have hall:=u0 (by omega) k2;refine c9 ?_;refine zQ (hK1 _ _ ?_);refine aP [] ?_;refine aW ?_;exact a7 (by simp[E6 hall])
theorem b7P (l:List R0) (f:FuncId) (cl:List (List AV)) (q:R0→Bool) (h:∀x∈l,a8 Tryz.prog f (.agg x.cells::L7 cl) (Bo (q x))) (hn:l.length≤100000):
  a8 Tryz.prog 136 [.lst 2 (l.map R0.cells), .clo f (L7 cl)] (Bo (l.any q)):=by
 refine oB Tryz.func136 Tryz.ntmps136 Tryz.results136 ?_;refine aW ?_;refine aW ?_ fun K hK=>by simp -dsimp;refine cI (b4C l f cl q h hn) ?_;simp -dsimp;exact hK
 exact a7 (by simp[R5])
theorem W4 {s:j5} (y:Car) (w:R0) (hw:wayB s.Plan y.Way=true):a8 Tryz.prog 136 [.lst 2 ((F0 s y).map R0.cells), .clo 137 [.iptr w.cells]] (Bo (r9 s y w)):=by
 have hl:=F5 hw;have:=b7P (F0 s y) 137 [w.cells] (fun z=>decide (z.Node=w.Node)&&decide (z.Leg≠w.Leg)) (fun z _=>c3f z w) (by rw[O2 hw];have:=a3p s.Plan y.Way (y.Way.length-1);omega);simpa [L7,r9]using this
end Go.Tram.Lk
end
section
namespace Go.Tram.Lk
open Go.AM Go.Proofs
theorem b0n (p:Plan) (l:List Move) (hv:d8 p=true) (hw:wayB p l=true):c8 Tryz.prog 87 [p.av,a4W l] [] [] (.tup [.row 0 0 (X5 p l (l.length-1)).length,I 0]) [] [some (.els 2 ((X5 p l (l.length-1)).map R0.cells))]:=by
 have hl:=F5 hw;have hop:=U0 p hv;have hh:=b7X p l hv (by omega);rw[hw]at hh;have hbe:∀i,i+1<l.length→a8 Tryz.prog 130 [.iptr (net p),(C3 l i).av,(C3 l (i+1)).av] (.tup [.agg (if J5 p (C3 l i)then L2 p (C3 l i) (C3 l (i+1))else⟨0,0⟩).cells,Bo (J5 p (C3 l i))]):=by
  intro i hi;exact a2f p _ _ hv (J9 hw i (by omega))
 generalize net p=sh at hop hh hbe;refine oG [] Tryz.func87 Tryz.ntmps87 Tryz.results87 ?_;intro J hJ;refine gW ?_;refine gW ?_ fun K hK=>by simp -dsimp;refine cI (hop) ?_;simp -dsimp;exact hK
 refine b9 fun K1 hK1=>?_;refine gW ?_ fun K hK=>by simp -dsimp;refine cY (fun hm=>hh) ?_;simp -dsimp;exact hK
 refine c3 rfl (fun hc0=>?_) (fun hc0=>?_)
 ·simp at hc0
 ·refine c6 ?_;refine zQ (hK1 _ _ ?_);refine gP [1,6] ?_;refine gW ?_;refine b9 fun K2 hK2=>?_;refine gW ?_;refine d4 ?_;refine gP [1,6,8,9] ?_;refine i9 [1,6] (α:=Nat) (fun i=>[(9,I ((i:Int)+1)),(8, .row 1 0 (X5 p l i).length)]) (fun i=>[some (.els 2 [p.cells]),some (.els 2 ((X5 p l i).map R0.cells))]) (fun i=>i≤l.length-1) (fun i=>l.length-i) 0 ?_ ?_ ?_
  ·exact Nat.zero_le _
  ·exact Q3 ((Y9 8 2 (by simp)).trans (e8 [some 0,some 1] rfl (by simp) (by simp))) (by simp)
  rintro i i1;refine zN ?_;refine b9 fun K3 hK3=>?_;refine gW ?_;refine c3 rfl (fun hc1=>?_) (fun hc1=>?_)
  ·have hi:i+1<l.length:=by simp at hc1;omega
   have hsj:=a0e p l i;have hlj:=a3p p l i;have hb:=hbe i hi;have g0:l[i]?=some (C3 l i):=by unfold C3;rw[List.getElem?_eq_getElem (by omega)];rfl
   have g1:l[i+1]?=some (C3 l (i+1)):=by unfold C3;rw[List.getElem?_eq_getElem (by omega)];rfl
   unfold Z1 at hsj;generalize C3 l i=m at*
   generalize C3 l (i+1)=k at*
   have wi:IntKind.i64.wrap ((i:Int)+1+1)=(i:Int)+1+1:=c4 (by omega) (by omega);have wj:IntKind.i64.wrap (i:Int)=i:=c4 (by omega) (by omega);have tj:((i:Int)+1).toNat=i+1:=by omega
   have t0:0≤(i:Int)+1:=by omega
   generalize hA:X5 p l i=A at hsj hlj ⊢;have f1:Q5 (A.length+1) 17:=l8 (by omega) (by omega);refine c6 ?_;refine zQ (hK3 _ _ ?_);refine gP [1,6,8,9] ?_;refine b9 fun K4 hK4=>?_;refine d4 ?_;refine gD ?_ fun K hK=>by simp -dsimp [g0,g1,wj,tj,t0];refine cI (hb) ?_;simp -dsimp [g0,g1,wj,tj,t0];exact hK
   refine gW ?_;refine c3 rfl (fun hc2=>?_) (fun hc2=>?_)
   ·skip
    try simp only at hc2
    rw[hc2,if_pos rfl]at hsj;refine gV ?_ fun K hK=>by simp -dsimp [f1];exact hK
    refine zQ (hK4 _ _ ?_);refine gP [1,6,8,9] ?_;refine gV ?_ fun K hK=>by simp -dsimp [wi];exact hK
    refine zQ ?_;exact⟨i+1,by omega,by omega,Q3 (e8 [some 0,some 3] rfl (by simp[hsj]) (by simp[hsj,hc2])) (by simp)⟩
   ·skip
    try simp only at hc2
    rw[hc2,if_neg (by simp)]at hsj;refine c6 ?_;refine zQ (hK4 _ _ ?_);refine gP [1,6,8,9] ?_;refine gV ?_ fun K hK=>by simp -dsimp [wi];exact hK
    refine zQ ?_;exact⟨i+1,by omega,by omega,Q3 (e8 [some 0,some 1] rfl (by simp[hsj]) (by simp[hsj])) (by simp)⟩
  ·have hie:i=l.length-1:=by simp at hc1;omega
   subst hie;refine r7 ?_;refine zQ (hK2 _ _ ?_);refine gP [8] ?_;refine gW ?_;exact i6 (gT [some 1])
theorem W7 {s:j5} (hv:d8 s.Plan=true) (fo si up:Kvs) (nx nd:n5) (c:Car) (hw:wayB s.Plan c.Way=true):c8 Tryz.prog 45 [.ptr 0 0 0,c.av] [ruR s fo si up 1 2] [nxR s nx,ndR s nd] (.row 3 0 (F0 s c).length) [ruR s fo si up 1 2] [nxR s nx,ndR s nd,some (.els 2 ((F0 s c).map R0.cells))]:=by
 have h:=b0n s.Plan c.Way hv hw;rw[←O2 (c:=c) hw]at h;refine oG [0] Tryz.func45 Tryz.ntmps45 Tryz.results45 ?_;intro J hJ;refine gW ?_;refine gD ?_ fun K hK=>by simp -dsimp;refine cM [] [] (h) ?_;simp -dsimp;exact hK
 refine gW ?_;exact i6 (gT [some 0,some 1,some 2,some 4])
end Go.Tram.Lk
end
section
namespace Go.Tram.Lk
open Go.AM Go.Proofs
theorem b1P {cs:List Car} (c:Car) (h:Srt cs) (hl:cs.length≤1000) (hc:a0g cs c.Name=none):c8 Tryz.prog 124 [.row 0 0 (cs.length+1)] [some (.els 1 (nmL cs++[[I c.Name]]))] [] (.tup []) [some (.els 1 (nmL (C1 cs c)))] []:=by
 have:=c1z (cs.map (·.Name)++[c.Name]) (by simp) (by simp;omega)
 rw[b9Y h hc]at this;have e:(cs.map (·.Name)++[c.Name]).map g8=nmL cs++[[I c.Name]]:=by simp[nmL,g8]
 rw[e]at this;simpa [nmL]using this
theorem a4J {cs:List Car} {c:Car} (h:Srt cs) (hc:a0g cs c.Name=none):(C1 cs c).length=cs.length+1:=by
 rw[(Y6 c h).length_eq,Z7 (a4n.1 hc)];rfl
theorem a3Q {cs:List Car} {c c':Car} (h:Srt cs) (hc:a0g cs c.Name=some c'):(C1 cs c).length=cs.length:=by
 have:=congrArg List.length (a9V (c:=c) h hc);simpa using this
theorem a6a {α:Type} {p:α→Bool} {l:List α} {x:α} (h:l.find? p=some x):∃i:Nat,l[i]?=some x∧p x=true∧∀(j:Nat) y,j<i→l[j]?=some y→p y=false:=by
 rw[List.find?_eq_some_iff_getElem]at h;obtain⟨h1,i,hi,he,hj⟩:=h;refine⟨i,by rw[List.getElem?_eq_getElem hi,he],h1,fun j y hji hy=>?_⟩;obtain⟨hjl,hye⟩:=List.getElem?_eq_some_iff.1 hy;have:=hj j hji;rw[hye]at this;simpa using this
section
variable {s:j5} {fo si up:Kvs} (X:Value) {cs:List Car} (hcs:b6s s cs) (ps:List Int) (nx nd:n5) {c:Car} {m:Move} (hv:d8 s.Plan=true) (hne:c.Way≠[]) (hw:wayB s.Plan c.Way=true) (hm:D3 s.Plan m=true) (hb:K0 s c m=true)
include hcs hv hne hw hm hb
theorem b6l {c':Car} (hmt:a0g cs c.Name=some c') (hh:∀y∈C1 cs c,r9 s y (D8 s c m)=false):c8 Tryz.prog 97 [.ptr 0 0 0,c.av,m.av] (stK X s fo si up ps.length) (stD s cs ps nx nd) (.tup []) (stK X s fo si up ps.length) (stD s cs ps nx (a4V nd c m)):=by
 have p9:=S2 X s fo si up cs ps nx nd c m hv hne hw hm;rw[hb]at p9;have hsrt:=hcs.srt;have hcl:=hcs.len;have hwy:∀y∈C1 cs c,wayB s.Plan y.Way=true:=fun y hy=>by
  rcases(z4 hsrt).1 hy with rfl|⟨h,_⟩
  ·exact hw
  ·exact(o5 (hcs.car y h)).2.2.1.2.2.2
 have hcc:C2 (o4 cs) (kOf c.Name)=some c'.av:=by rw[n6,hmt];rfl
 have hil:(C1 cs c).length=cs.length:=a3Q hsrt hmt;have hnl:nmL cs=nmL (C1 cs c):=by unfold nmL;rw[a9V hsrt hmt]
 have hci:c∈C1 cs c:=S7 hsrt;have hsi:=P9 c hsrt;generalize D8 s c m=B at p9 hh;generalize a4V nd c m=nd2 at p9 ⊢;have hnm:=Z8 cs hsrt hcl (fun x hx=>(hcs.bd x hx).1) (.fptr X 1 0 0) (.row 3 0 ps.length) (ruR s fo si up 4 5) (ptR ps) (nxR s nx) (ndR s nd2);have htp:List.take ps.length (ps.map g8)=ps.map g8:=List.take_of_length_le (by simp);refine B8 ?_;refine oG [0] Tryz.func97 Tryz.ntmps97 Tryz.results97 ?_;intro J hJ;refine gW ?_;refine gW ?_ fun K hK=>by simp -dsimp;refine cM [0,1] [2,3,4,5] (p9) ?_;simp -dsimp;exact hK
 refine b9 fun K1 hK1=>?_;refine gW ?_;refine c3 rfl (fun hc0=>?_) (fun hc0=>?_)
 ·simp at hc0
 ·refine c6 ?_;refine zQ (hK1 _ _ ?_);refine gP [0,4,6] ?_;refine gW ?_ fun K hK=>by simp -dsimp;refine cM [0,1] [8,9,10,11] (hnm) ?_;simp -dsimp;exact hK
  refine b9 fun K2 hK2=>?_;refine gD ?_ fun K hK=>by simp -dsimp;refine d7 (.tup [c'.av,Bo true]) (fun hm=>by rw[hcc];rfl) ?_;simp -dsimp;exact hK
  refine gW ?_;refine c3 rfl (fun hc1=>?_) (fun hc1=>?_)
  ·simp at hc1
  ·refine c6 ?_;refine zQ (hK2 _ _ ?_);refine gP [0,4,6,8] ?_;refine gW ?_;refine d4 ?_;refine gP [0,4,6,44,45,46] ?_;refine i9 [0,4,6,44,45] (α:=Nat) (fun k=>[(46,I k)]) (fun k=>[some (.els 3 [[.fptr X 1 0 0, .mp 13, .row 14 0 ps.length]]),ruR s fo si up 15 16,none,none,none,none,some (.els 4 [c.cells]),none,none,none,none,none,some (.els 2 [B.cells]),caR cs,ptR ps,nxR s nx,ndR s nd2,some (.els 1 (nmL (C1 cs c)))]) (fun k=>k≤(C1 cs c).length) (fun k=>cs.length-k) 0 ?_ ?_ ?_
   ·exact Nat.zero_le _
   ·exact gB [some 0,some 1,none,none,none,none,some 6,none,none,none,none,none,some 12,some 13,some 14,some 15,some 16,some 17] (hH:=by simp[hnl])
   rintro k k1
   by_cases hq:(C1 cs c)[k]?=some c
   ·refine zN ?_;refine gW ?_;refine b9 fun K3 hK3=>?_;refine c3 rfl (fun hc2=>?_) (fun hc2=>?_)
    ·skip
     try simp at hc2
     have hkn:k<cs.length:=by first|omega|(simp at hc2;omega)
     obtain⟨y,hy⟩:∃y,(C1 cs c)[k]?=some y:=⟨_,List.getElem?_eq_getElem (by omega)⟩;have hym:=List.mem_of_getElem? hy;have hwyy:=hwy y hym;have wk:=zW k (by omega);obtain⟨hnl2,hng⟩:=List.getElem?_eq_some_iff.1 (n8 hy);have hkl:=(List.getElem?_eq_some_iff.1 hy).1;have hyc:y=c:=by rw[hy]at hq;exact Option.some.inj hq
     subst hyc;refine c6 ?_;refine zQ (hK3 _ _ ?_);refine gP [0,4,6,44,45,46] ?_;refine b9 fun K4 hK4=>?_;refine d4 ?_;refine gW ?_ fun K hK=>by simp -dsimp [n8 hy,hkl,hkn,hng];exact hK
     refine gW ?_ fun K hK=>by simp -dsimp;refine d7 (c'.av) (fun hm=>by rw[hcc];rfl) ?_;simp -dsimp;exact hK
     refine b9 fun K5 hK5=>?_;refine gW ?_;refine c3 rfl (fun hc3=>?_) (fun hc3=>?_)
     ·refine gV ?_;refine zQ (hK5 _ _ ?_);refine gP [0,4,6,12,13,44,45,46] ?_;refine gE ?_ fun K hK=>by simp -dsimp [htp,(show r9 s y B=false from hh y hym)];refine cM [1] [15,16] (a1u (X:=X) (W7 hv fo si up nx nd2 y hwyy)) ?_;simp -dsimp [htp,(show r9 s y B=false from hh y hym)];refine cI (W4 y B hwyy) ?_;simp -dsimp [htp,(show r9 s y B=false from hh y hym)];refine cI (r8 4 y.Name) ?_;simp -dsimp [htp,(show r9 s y B=false from hh y hym)];exact hK
      refine zQ (hK4 _ _ ?_);refine gP [0,4,6,44,45,46] ?_;refine gV ?_ fun K hK=>by simp -dsimp [wk];exact hK
      refine zQ ?_;exact⟨k+1,by omega,by omega,gB [some 0,some 1,none,none,none,none,some 6,none,none,none,none,none,some 12,some 13,some 14,some 19,some 20,some 17]⟩
     ·simp at hc3
    ·skip
     try simp at hc2
     have hke:k=cs.length:=by first|omega|(simp at hc2;omega)
     subst hke;refine r7 ?_
     try simp only[zT,reduceIte,Nat.reduceEqDiff]
     exact⟨[some 0,some 1,some 13,some 14,some 15,some 16],rfl,by simp,by simp,by simp,by simp[W9,x4]⟩
   ·refine zN ?_;refine gW ?_;refine b9 fun K6 hK6=>?_;refine c3 rfl (fun hc2=>?_) (fun hc2=>?_)
    ·skip
     try simp at hc2
     have hkn:k<cs.length:=by first|omega|(simp at hc2;omega)
     obtain⟨y,hy⟩:∃y,(C1 cs c)[k]?=some y:=⟨_,List.getElem?_eq_getElem (by omega)⟩;have hym:=List.mem_of_getElem? hy;have hwyy:=hwy y hym;have wk:=zW k (by omega);obtain⟨hnl2,hng⟩:=List.getElem?_eq_some_iff.1 (n8 hy);have hkl:=(List.getElem?_eq_some_iff.1 hy).1;have hyc:y∈cs∧y.Name≠c.Name:=((z4 hsrt).1 hym).resolve_left (fun e=>hq (by rw[hy,e]));refine c6 ?_;refine zQ (hK6 _ _ ?_);refine gP [0,4,6,44,45,46] ?_;refine b9 fun K7 hK7=>?_;refine d4 ?_;refine gW ?_ fun K hK=>by simp -dsimp [n8 hy,hkl,hkn,hng];exact hK
     refine gW ?_ fun K hK=>by simp -dsimp;refine d7 (y.av) (fun hm=>by rw[n6,J8 hsrt hyc.1];rfl) ?_;simp -dsimp;exact hK
     refine b9 fun K8 hK8=>?_;refine gW ?_;refine c3 rfl (fun hc3=>?_) (fun hc3=>?_)
     ·exact absurd (by simpa using hc3) hyc.2
     ·refine c6 ?_;refine zQ (hK8 _ _ ?_);refine gP [0,4,6,12,13,44,45,46] ?_;refine gE ?_ fun K hK=>by simp -dsimp [htp,(show r9 s y B=false from hh y hym)];refine cM [1] [15,16] (a1u (X:=X) (W7 hv fo si up nx nd2 y hwyy)) ?_;simp -dsimp [htp,(show r9 s y B=false from hh y hym)];refine cI (W4 y B hwyy) ?_;simp -dsimp [htp,(show r9 s y B=false from hh y hym)];refine cI (r8 4 y.Name) ?_;simp -dsimp [htp,(show r9 s y B=false from hh y hym)];exact hK
      refine zQ (hK7 _ _ ?_);refine gP [0,4,6,44,45,46] ?_;refine gV ?_ fun K hK=>by simp -dsimp [wk];exact hK
      refine zQ ?_;exact⟨k+1,by omega,by omega,gB [some 0,some 1,none,none,none,none,some 6,none,none,none,none,none,some 12,some 13,some 14,some 19,some 20,some 17]⟩
    ·skip
     try simp at hc2
     have hke:k=cs.length:=by first|omega|(simp at hc2;omega)
     subst hke;refine r7 ?_
     try simp only[zT,reduceIte,Nat.reduceEqDiff]
     exact⟨[some 0,some 1,some 13,some 14,some 15,some 16],rfl,by simp,by simp,by simp,by simp[W9,x4]⟩
theorem b5S (hmt:a0g cs c.Name=none) (hh:∀y∈C1 cs c,r9 s y (D8 s c m)=false):c8 Tryz.prog 97 [.ptr 0 0 0,c.av,m.av] (stK X s fo si up ps.length) (stD s cs ps nx nd) (.tup []) (stK X s fo si up ps.length) (stD s cs ps nx (a4V nd c m)):=by
 have p9:=S2 X s fo si up cs ps nx nd c m hv hne hw hm;rw[hb]at p9;have hsrt:=hcs.srt;have hcl:=hcs.len;have hwy:∀y∈C1 cs c,wayB s.Plan y.Way=true:=fun y hy=>by
  rcases(z4 hsrt).1 hy with rfl|⟨h,_⟩
  ·exact hw
  ·exact(o5 (hcs.car y h)).2.2.1.2.2.2
 have hcc:C2 (o4 cs) (kOf c.Name)=none:=by rw[n6,hmt];rfl
 have hil:(C1 cs c).length=(cs.length+1):=a4J hsrt hmt;have hci:c∈C1 cs c:=S7 hsrt;have hsi:=P9 c hsrt;generalize D8 s c m=B at p9 hh;generalize a4V nd c m=nd2 at p9 ⊢;have hnm:=Z8 cs hsrt hcl (fun x hx=>(hcs.bd x hx).1) (.fptr X 1 0 0) (.row 3 0 ps.length) (ruR s fo si up 4 5) (ptR ps) (nxR s nx) (ndR s nd2);have hso:=b1P c hsrt hcl hmt;have f1:Q5 (cs.length+1) 9:=l8 (by omega) (by omega);have htp:List.take ps.length (ps.map g8)=ps.map g8:=List.take_of_length_le (by simp);refine B8 ?_;refine oG [0] Tryz.func97 Tryz.ntmps97 Tryz.results97 ?_;intro J hJ;refine gW ?_;refine gW ?_ fun K hK=>by simp -dsimp;refine cM [0,1] [2,3,4,5] (p9) ?_;simp -dsimp;exact hK
 refine b9 fun K1 hK1=>?_;refine gW ?_;refine c3 rfl (fun hc0=>?_) (fun hc0=>?_)
 ·simp at hc0
 ·refine c6 ?_;refine zQ (hK1 _ _ ?_);refine gP [0,4,6] ?_;refine gW ?_ fun K hK=>by simp -dsimp;refine cM [0,1] [8,9,10,11] (hnm) ?_;simp -dsimp;exact hK
  refine b9 fun K2 hK2=>?_;refine gD ?_ fun K hK=>by simp -dsimp;refine d7 (.tup [.agg [I 0,I 0, .v (.slice none 0 0),I 0],Bo false]) (fun hm=>by rw[hcc];rfl) ?_;simp -dsimp;exact hK
  refine gW ?_;refine c3 rfl (fun hc1=>?_) (fun hc1=>?_)
  ·refine gW ?_ fun K hK=>by simp -dsimp [f1,(List.take_of_length_le (by simp):List.take cs.length (nmL cs)=nmL cs)];exact hK
   refine gV ?_ fun K hK=>by simp -dsimp;refine cM [19] [] (hso) ?_;simp -dsimp;exact hK
   refine zQ (hK2 _ _ ?_);refine gP [0,4,6,8] ?_;refine gW ?_;refine d4 ?_;refine gP [0,4,6,44,45,46] ?_;refine i9 [0,4,6,44,45] (α:=Nat) (fun k=>[(46,I k)]) (fun k=>[some (.els 3 [[.fptr X 1 0 0, .mp 13, .row 14 0 ps.length]]),ruR s fo si up 15 16,none,none,none,none,some (.els 4 [c.cells]),none,none,none,none,none,some (.els 2 [B.cells]),caR cs,ptR ps,nxR s nx,ndR s nd2,none,none,some (.els 1 (nmL (C1 cs c)))]) (fun k=>k≤(C1 cs c).length) (fun k=>(cs.length+1)-k) 0 ?_ ?_ ?_
   ·exact Nat.zero_le _
   ·exact gB [some 0,some 1,none,none,none,none,some 6,none,none,none,none,none,some 12,some 13,some 14,some 15,some 16,none,none,some 19]
   rintro k k1
   by_cases hq:(C1 cs c)[k]?=some c
   ·refine zN ?_;refine gW ?_;refine b9 fun K3 hK3=>?_;refine c3 rfl (fun hc2=>?_) (fun hc2=>?_)
    ·skip
     try simp at hc2
     have hkn:k<(cs.length+1):=by first|omega|(simp at hc2;omega)
     obtain⟨y,hy⟩:∃y,(C1 cs c)[k]?=some y:=⟨_,List.getElem?_eq_getElem (by omega)⟩;have hym:=List.mem_of_getElem? hy;have hwyy:=hwy y hym;have wk:=zW k (by omega);obtain⟨hnl2,hng⟩:=List.getElem?_eq_some_iff.1 (n8 hy);have hkl:=(List.getElem?_eq_some_iff.1 hy).1;have hyc:y=c:=by rw[hy]at hq;exact Option.some.inj hq
     subst hyc;refine c6 ?_;refine zQ (hK3 _ _ ?_);refine gP [0,4,6,44,45,46] ?_;refine b9 fun K4 hK4=>?_;refine d4 ?_;refine gW ?_ fun K hK=>by simp -dsimp [n8 hy,hkl,hkn,hng];exact hK
     refine gW ?_ fun K hK=>by simp -dsimp;refine d7 (.agg [I 0,I 0, .v (.slice none 0 0),I 0]) (fun hm=>by rw[hcc];rfl) ?_;simp -dsimp;exact hK
     refine b9 fun K5 hK5=>?_;refine gW ?_;refine c3 rfl (fun hc3=>?_) (fun hc3=>?_)
     ·refine gV ?_;refine zQ (hK5 _ _ ?_);refine gP [0,4,6,12,13,44,45,46] ?_;refine gE ?_ fun K hK=>by simp -dsimp [htp,(show r9 s y B=false from hh y hym)];refine cM [1] [15,16] (a1u (X:=X) (W7 hv fo si up nx nd2 y hwyy)) ?_;simp -dsimp [htp,(show r9 s y B=false from hh y hym)];refine cI (W4 y B hwyy) ?_;simp -dsimp [htp,(show r9 s y B=false from hh y hym)];refine cI (r8 4 y.Name) ?_;simp -dsimp [htp,(show r9 s y B=false from hh y hym)];exact hK
      refine zQ (hK4 _ _ ?_);refine gP [0,4,6,44,45,46] ?_;refine gV ?_ fun K hK=>by simp -dsimp [wk];exact hK
      refine zQ ?_;exact⟨k+1,by omega,by omega,gB [some 0,some 1,none,none,none,none,some 6,none,none,none,none,none,some 12,some 13,some 14,some 21,some 22,none,none,some 19]⟩
     ·simp at hc3
    ·skip
     try simp at hc2
     have hke:k=(cs.length+1):=by first|omega|(simp at hc2;omega)
     subst hke;refine r7 ?_
     try simp only[zT,reduceIte,Nat.reduceEqDiff]
     exact⟨[some 0,some 1,some 13,some 14,some 15,some 16],rfl,by simp,by simp,by simp,by simp[W9,x4]⟩
   ·refine zN ?_;refine gW ?_;refine b9 fun K6 hK6=>?_;refine c3 rfl (fun hc2=>?_) (fun hc2=>?_)
    ·skip
     try simp at hc2
     have hkn:k<(cs.length+1):=by first|omega|(simp at hc2;omega)
     obtain⟨y,hy⟩:∃y,(C1 cs c)[k]?=some y:=⟨_,List.getElem?_eq_getElem (by omega)⟩;have hym:=List.mem_of_getElem? hy;have hwyy:=hwy y hym;have wk:=zW k (by omega);obtain⟨hnl2,hng⟩:=List.getElem?_eq_some_iff.1 (n8 hy);have hkl:=(List.getElem?_eq_some_iff.1 hy).1;have hyc:y∈cs∧y.Name≠c.Name:=((z4 hsrt).1 hym).resolve_left (fun e=>hq (by rw[hy,e]));refine c6 ?_;refine zQ (hK6 _ _ ?_);refine gP [0,4,6,44,45,46] ?_;refine b9 fun K7 hK7=>?_;refine d4 ?_;refine gW ?_ fun K hK=>by simp -dsimp [n8 hy,hkl,hkn,hng];exact hK
     refine gW ?_ fun K hK=>by simp -dsimp;refine d7 (y.av) (fun hm=>by rw[n6,J8 hsrt hyc.1];rfl) ?_;simp -dsimp;exact hK
     refine b9 fun K8 hK8=>?_;refine gW ?_;refine c3 rfl (fun hc3=>?_) (fun hc3=>?_)
     ·exact absurd (by simpa using hc3) hyc.2
     ·refine c6 ?_;refine zQ (hK8 _ _ ?_);refine gP [0,4,6,12,13,44,45,46] ?_;refine gE ?_ fun K hK=>by simp -dsimp [htp,(show r9 s y B=false from hh y hym)];refine cM [1] [15,16] (a1u (X:=X) (W7 hv fo si up nx nd2 y hwyy)) ?_;simp -dsimp [htp,(show r9 s y B=false from hh y hym)];refine cI (W4 y B hwyy) ?_;simp -dsimp [htp,(show r9 s y B=false from hh y hym)];refine cI (r8 4 y.Name) ?_;simp -dsimp [htp,(show r9 s y B=false from hh y hym)];exact hK
      refine zQ (hK7 _ _ ?_);refine gP [0,4,6,44,45,46] ?_;refine gV ?_ fun K hK=>by simp -dsimp [wk];exact hK
      refine zQ ?_;exact⟨k+1,by omega,by omega,gB [some 0,some 1,none,none,none,none,some 6,none,none,none,none,none,some 12,some 13,some 14,some 21,some 22,none,none,some 19]⟩
    ·skip
     try simp at hc2
     have hke:k=(cs.length+1):=by first|omega|(simp at hc2;omega)
     subst hke;refine r7 ?_
     try simp only[zT,reduceIte,Nat.reduceEqDiff]
     exact⟨[some 0,some 1,some 13,some 14,some 15,some 16],rfl,by simp,by simp,by simp,by simp[W9,x4]⟩
  ·simp at hc1
theorem b4B {c':Car} (hmt:a0g cs c.Name=some c') {yi:Car} (hh:(C1 cs c).find? (fun y=>r9 s y (D8 s c m))=some yi):l5 Tryz.prog 97 [.ptr 0 0 0,c.av,m.av] (stK X s fo si up ps.length) (stD s cs ps nx nd) (b3k 4 yi.Name) (stK X s fo si up ps.length) (stD s cs ps nx (a4V nd c m)):=by
 have p9:=S2 X s fo si up cs ps nx nd c m hv hne hw hm;rw[hb]at p9;have hsrt:=hcs.srt;have hcl:=hcs.len;have hwy:∀y∈C1 cs c,wayB s.Plan y.Way=true:=fun y hy=>by
  rcases(z4 hsrt).1 hy with rfl|⟨h,_⟩
  ·exact hw
  ·exact(o5 (hcs.car y h)).2.2.1.2.2.2
 have hcc:C2 (o4 cs) (kOf c.Name)=some c'.av:=by rw[n6,hmt];rfl
 have hil:(C1 cs c).length=cs.length:=a3Q hsrt hmt;have hnl:nmL cs=nmL (C1 cs c):=by unfold nmL;rw[a9V hsrt hmt]
 have hci:c∈C1 cs c:=S7 hsrt;have hsi:=P9 c hsrt;generalize D8 s c m=B at p9 hh;generalize a4V nd c m=nd2 at p9 ⊢;have hnm:=Z8 cs hsrt hcl (fun x hx=>(hcs.bd x hx).1) (.fptr X 1 0 0) (.row 3 0 ps.length) (ruR s fo si up 4 5) (ptR ps) (nxR s nx) (ndR s nd2);have htp:List.take ps.length (ps.map g8)=ps.map g8:=List.take_of_length_le (by simp);obtain⟨i,hyi,hhi,hbef⟩:=a6a hh;have hilt:=(List.getElem?_eq_some_iff.1 hyi).1;refine U2 ?_;refine l5.of_bodyG [0] Tryz.func97 rfl (by decide) (by simp[Tryz.ntmps97]) rfl rfl ?_;intro J hJ;simp only[Tryz.ntmps97,Tryz.results97];refine gW ?_;refine gW ?_ fun K hK=>by simp -dsimp;refine cM [0,1] [2,3,4,5] (p9) ?_;simp -dsimp;exact hK
 refine b9 fun K1 hK1=>?_;refine gW ?_;refine c3 rfl (fun hc0=>?_) (fun hc0=>?_)
 ·simp at hc0
 ·refine c6 ?_;refine zQ (hK1 _ _ ?_);refine gP [0,4,6] ?_;refine gW ?_ fun K hK=>by simp -dsimp;refine cM [0,1] [8,9,10,11] (hnm) ?_;simp -dsimp;exact hK
  refine b9 fun K2 hK2=>?_;refine gD ?_ fun K hK=>by simp -dsimp;refine d7 (.tup [c'.av,Bo true]) (fun hm=>by rw[hcc];rfl) ?_;simp -dsimp;exact hK
  refine gW ?_;refine c3 rfl (fun hc1=>?_) (fun hc1=>?_)
  ·simp at hc1
  ·refine c6 ?_;refine zQ (hK2 _ _ ?_);refine gP [0,4,6,8] ?_;refine gW ?_;refine d4 ?_;refine gP [0,4,6,44,45,46] ?_;refine i9 [0,4,6,44,45] (α:=Nat) (fun k=>[(46,I k)]) (fun k=>[some (.els 3 [[.fptr X 1 0 0, .mp 13, .row 14 0 ps.length]]),ruR s fo si up 15 16,none,none,none,none,some (.els 4 [c.cells]),none,none,none,none,none,some (.els 2 [B.cells]),caR cs,ptR ps,nxR s nx,ndR s nd2,some (.els 1 (nmL (C1 cs c)))]) (fun k=>k≤i) (fun k=>cs.length-k) 0 ?_ ?_ ?_
   ·exact Nat.zero_le _
   ·exact gB [some 0,some 1,none,none,none,none,some 6,none,none,none,none,none,some 12,some 13,some 14,some 15,some 16,some 17] (hH:=by simp[hnl])
   rintro k k1
   rcases Nat.lt_or_eq_of_le k1 with hlt|rfl
   all_goals by_cases hq:(C1 cs c)[k]?=some c
   ·refine zN ?_;refine gW ?_;refine b9 fun K3 hK3=>?_;refine c3 rfl (fun hc2=>?_) (fun hc2=>?_)
    ·skip
     try simp at hc2
     have hkn:k<cs.length:=by first|omega|(simp at hc2;omega)
     obtain⟨y,hy⟩:∃y,(C1 cs c)[k]?=some y:=⟨_,List.getElem?_eq_getElem (by omega)⟩;have hym:=List.mem_of_getElem? hy;have hwyy:=hwy y hym;have wk:=zW k (by omega);obtain⟨hnl2,hng⟩:=List.getElem?_eq_some_iff.1 (n8 hy);have hkl:=(List.getElem?_eq_some_iff.1 hy).1;have hyc:y=c:=by rw[hy]at hq;exact Option.some.inj hq
     subst hyc;refine c6 ?_;refine zQ (hK3 _ _ ?_);refine gP [0,4,6,44,45,46] ?_;refine b9 fun K4 hK4=>?_;refine d4 ?_;refine gW ?_ fun K hK=>by simp -dsimp [n8 hy,hkl,hkn,hng];exact hK
     refine gW ?_ fun K hK=>by simp -dsimp;refine d7 (c'.av) (fun hm=>by rw[hcc];rfl) ?_;simp -dsimp;exact hK
     refine b9 fun K5 hK5=>?_;refine gW ?_;refine c3 rfl (fun hc3=>?_) (fun hc3=>?_)
     ·refine gV ?_;refine zQ (hK5 _ _ ?_);refine gP [0,4,6,12,13,44,45,46] ?_;refine gE ?_ fun K hK=>by simp -dsimp [htp,(show r9 s y B=false from hbef k y hlt hy)];refine cM [1] [15,16] (a1u (X:=X) (W7 hv fo si up nx nd2 y hwyy)) ?_;simp -dsimp [htp,(show r9 s y B=false from hbef k y hlt hy)];refine cI (W4 y B hwyy) ?_;simp -dsimp [htp,(show r9 s y B=false from hbef k y hlt hy)];refine cI (r8 4 y.Name) ?_;simp -dsimp [htp,(show r9 s y B=false from hbef k y hlt hy)];exact hK
      refine zQ (hK4 _ _ ?_);refine gP [0,4,6,44,45,46] ?_;refine gV ?_ fun K hK=>by simp -dsimp [wk];exact hK
      refine zQ ?_;exact⟨k+1,by omega,by omega,gB [some 0,some 1,none,none,none,none,some 6,none,none,none,none,none,some 12,some 13,some 14,some 19,some 20,some 17]⟩
     ·simp at hc3
    ·skip
     try simp at hc2
     exfalso;first|omega|(simp at hc2;omega)
   ·refine zN ?_;refine gW ?_;refine b9 fun K6 hK6=>?_;refine c3 rfl (fun hc2=>?_) (fun hc2=>?_)
    ·skip
     try simp at hc2
     have hkn:k<cs.length:=by first|omega|(simp at hc2;omega)
     obtain⟨y,hy⟩:∃y,(C1 cs c)[k]?=some y:=⟨_,List.getElem?_eq_getElem (by omega)⟩;have hym:=List.mem_of_getElem? hy;have hwyy:=hwy y hym;have wk:=zW k (by omega);obtain⟨hnl2,hng⟩:=List.getElem?_eq_some_iff.1 (n8 hy);have hkl:=(List.getElem?_eq_some_iff.1 hy).1;have hyc:y∈cs∧y.Name≠c.Name:=((z4 hsrt).1 hym).resolve_left (fun e=>hq (by rw[hy,e]));refine c6 ?_;refine zQ (hK6 _ _ ?_);refine gP [0,4,6,44,45,46] ?_;refine b9 fun K7 hK7=>?_;refine d4 ?_;refine gW ?_ fun K hK=>by simp -dsimp [n8 hy,hkl,hkn,hng];exact hK
     refine gW ?_ fun K hK=>by simp -dsimp;refine d7 (y.av) (fun hm=>by rw[n6,J8 hsrt hyc.1];rfl) ?_;simp -dsimp;exact hK
     refine b9 fun K8 hK8=>?_;refine gW ?_;refine c3 rfl (fun hc3=>?_) (fun hc3=>?_)
     ·exact absurd (by simpa using hc3) hyc.2
     ·refine c6 ?_;refine zQ (hK8 _ _ ?_);refine gP [0,4,6,12,13,44,45,46] ?_;refine gE ?_ fun K hK=>by simp -dsimp [htp,(show r9 s y B=false from hbef k y hlt hy)];refine cM [1] [15,16] (a1u (X:=X) (W7 hv fo si up nx nd2 y hwyy)) ?_;simp -dsimp [htp,(show r9 s y B=false from hbef k y hlt hy)];refine cI (W4 y B hwyy) ?_;simp -dsimp [htp,(show r9 s y B=false from hbef k y hlt hy)];refine cI (r8 4 y.Name) ?_;simp -dsimp [htp,(show r9 s y B=false from hbef k y hlt hy)];exact hK
      refine zQ (hK7 _ _ ?_);refine gP [0,4,6,44,45,46] ?_;refine gV ?_ fun K hK=>by simp -dsimp [wk];exact hK
      refine zQ ?_;exact⟨k+1,by omega,by omega,gB [some 0,some 1,none,none,none,none,some 6,none,none,none,none,none,some 12,some 13,some 14,some 19,some 20,some 17]⟩
    ·skip
     try simp at hc2
     exfalso;first|omega|(simp at hc2;omega)
   ·refine zN ?_;refine gW ?_;refine b9 fun K9 hK9=>?_;refine c3 rfl (fun hc2=>?_) (fun hc2=>?_)
    ·skip
     try simp at hc2
     have hkn:k<cs.length:=by first|omega|(simp at hc2;omega)
     obtain⟨y,hy⟩:∃y,(C1 cs c)[k]?=some y:=⟨_,List.getElem?_eq_getElem (by omega)⟩;have hym:=List.mem_of_getElem? hy;have hwyy:=hwy y hym;have wk:=zW k (by omega);obtain⟨hnl2,hng⟩:=List.getElem?_eq_some_iff.1 (n8 hy);have hkl:=(List.getElem?_eq_some_iff.1 hy).1;have hyc:y=c:=by rw[hy]at hq;exact Option.some.inj hq
     subst hyc;have hyi2:y=yi:=by rw[hy]at hyi;exact Option.some.inj hyi
     refine c6 ?_;refine zQ (hK9 _ _ ?_);refine gP [0,4,6,44,45,46] ?_;refine b9 fun K10 hK10=>?_;refine d4 ?_;refine gW ?_ fun K hK=>by simp -dsimp [n8 hy,hkl,hkn,hng];exact hK
     refine gW ?_ fun K hK=>by simp -dsimp;refine d7 (c'.av) (fun hm=>by rw[hcc];rfl) ?_;simp -dsimp;exact hK
     refine b9 fun K11 hK11=>?_;refine gW ?_;refine c3 rfl (fun hc3=>?_) (fun hc3=>?_)
     ·refine gV ?_;refine zQ (hK11 _ _ ?_);refine gP [0,4,6,12,13,44,45,46] ?_;refine a4C (List.cons_ne_nil _ _) a1m rfl (by decide) rfl rfl rfl (by decide+kernel) (by decide+kernel) fun K hK=>?_;simp only[List.dropLast];simp -dsimp [htp,(show r9 s y B=true by rw[hyi2];exact hhi)];refine cM [1] [15,16] (a1u (X:=X) (W7 hv fo si up nx nd2 y hwyy)) ?_;simp -dsimp [htp,(show r9 s y B=true by rw[hyi2];exact hhi)];refine cI (W4 y B hwyy) ?_;simp -dsimp [htp,(show r9 s y B=true by rw[hyi2];exact hhi)];refine hK _ _ _ (by decide+kernel) (x8 [] [] [none,none,none,none,none,none,none,none,none,none,none,none,none,none,none,none,none,none,none,none,none,none] (N0 4 y.Name) rfl (by simp[a3z]) rfl (by simp) (by simp) rfl (by simp) (by simp) (by simp) ?_);clear hK K;rw[←hyi2];exact⟨rfl,[some 0,some 1,some 13,some 14,some 19,some 20],rfl,by simp,by simp,by simp⟩
     ·simp at hc3
    ·skip
     try simp at hc2
     exfalso;first|omega|(simp at hc2;omega)
   ·refine zN ?_;refine gW ?_;refine b9 fun K12 hK12=>?_;refine c3 rfl (fun hc2=>?_) (fun hc2=>?_)
    ·skip
     try simp at hc2
     have hkn:k<cs.length:=by first|omega|(simp at hc2;omega)
     obtain⟨y,hy⟩:∃y,(C1 cs c)[k]?=some y:=⟨_,List.getElem?_eq_getElem (by omega)⟩;have hym:=List.mem_of_getElem? hy;have hwyy:=hwy y hym;have wk:=zW k (by omega);obtain⟨hnl2,hng⟩:=List.getElem?_eq_some_iff.1 (n8 hy);have hkl:=(List.getElem?_eq_some_iff.1 hy).1;have hyc:y∈cs∧y.Name≠c.Name:=((z4 hsrt).1 hym).resolve_left (fun e=>hq (by rw[hy,e]));have hyi2:y=yi:=by rw[hy]at hyi;exact Option.some.inj hyi
     refine c6 ?_;refine zQ (hK12 _ _ ?_);refine gP [0,4,6,44,45,46] ?_;refine b9 fun K13 hK13=>?_;refine d4 ?_;refine gW ?_ fun K hK=>by simp -dsimp [n8 hy,hkl,hkn,hng];exact hK
     refine gW ?_ fun K hK=>by simp -dsimp;refine d7 (y.av) (fun hm=>by rw[n6,J8 hsrt hyc.1];rfl) ?_;simp -dsimp;exact hK
     refine b9 fun K14 hK14=>?_;refine gW ?_;refine c3 rfl (fun hc3=>?_) (fun hc3=>?_)
     ·exact absurd (by simpa using hc3) hyc.2
     ·refine c6 ?_;refine zQ (hK14 _ _ ?_);refine gP [0,4,6,12,13,44,45,46] ?_;refine a4C (List.cons_ne_nil _ _) a1m rfl (by decide) rfl rfl rfl (by decide+kernel) (by decide+kernel) fun K hK=>?_;simp only[List.dropLast];simp -dsimp [htp,(show r9 s y B=true by rw[hyi2];exact hhi)];refine cM [1] [15,16] (a1u (X:=X) (W7 hv fo si up nx nd2 y hwyy)) ?_;simp -dsimp [htp,(show r9 s y B=true by rw[hyi2];exact hhi)];refine cI (W4 y B hwyy) ?_;simp -dsimp [htp,(show r9 s y B=true by rw[hyi2];exact hhi)];refine hK _ _ _ (by decide+kernel) (x8 [] [] [none,none,none,none,none,none,none,none,none,none,none,none,none,none,none,none,none,none,none,none,none,none] (N0 4 y.Name) rfl (by simp[a3z]) rfl (by simp) (by simp) rfl (by simp) (by simp) (by simp) ?_);clear hK K;rw[←hyi2];exact⟨rfl,[some 0,some 1,some 13,some 14,some 19,some 20],rfl,by simp,by simp,by simp⟩
    ·skip
     try simp at hc2
     exfalso;first|omega|(simp at hc2;omega)
theorem b5L (hmt:a0g cs c.Name=none) {yi:Car} (hh:(C1 cs c).find? (fun y=>r9 s y (D8 s c m))=some yi):l5 Tryz.prog 97 [.ptr 0 0 0,c.av,m.av] (stK X s fo si up ps.length) (stD s cs ps nx nd) (b3k 4 yi.Name) (stK X s fo si up ps.length) (stD s cs ps nx (a4V nd c m)):=by
 have p9:=S2 X s fo si up cs ps nx nd c m hv hne hw hm;rw[hb]at p9;have hsrt:=hcs.srt;have hcl:=hcs.len;have hwy:∀y∈C1 cs c,wayB s.Plan y.Way=true:=fun y hy=>by
  rcases(z4 hsrt).1 hy with rfl|⟨h,_⟩
  ·exact hw
  ·exact(o5 (hcs.car y h)).2.2.1.2.2.2
 have hcc:C2 (o4 cs) (kOf c.Name)=none:=by rw[n6,hmt];rfl
 have hil:(C1 cs c).length=(cs.length+1):=a4J hsrt hmt;have hci:c∈C1 cs c:=S7 hsrt;have hsi:=P9 c hsrt;generalize D8 s c m=B at p9 hh;generalize a4V nd c m=nd2 at p9 ⊢;have hnm:=Z8 cs hsrt hcl (fun x hx=>(hcs.bd x hx).1) (.fptr X 1 0 0) (.row 3 0 ps.length) (ruR s fo si up 4 5) (ptR ps) (nxR s nx) (ndR s nd2);have hso:=b1P c hsrt hcl hmt;have f1:Q5 (cs.length+1) 9:=l8 (by omega) (by omega);have htp:List.take ps.length (ps.map g8)=ps.map g8:=List.take_of_length_le (by simp);obtain⟨i,hyi,hhi,hbef⟩:=a6a hh;have hilt:=(List.getElem?_eq_some_iff.1 hyi).1;refine U2 ?_;refine l5.of_bodyG [0] Tryz.func97 rfl (by decide) (by simp[Tryz.ntmps97]) rfl rfl ?_;intro J hJ;simp only[Tryz.ntmps97,Tryz.results97];refine gW ?_;refine gW ?_ fun K hK=>by simp -dsimp;refine cM [0,1] [2,3,4,5] (p9) ?_;simp -dsimp;exact hK
 refine b9 fun K1 hK1=>?_;refine gW ?_;refine c3 rfl (fun hc0=>?_) (fun hc0=>?_)
 ·simp at hc0
 ·refine c6 ?_;refine zQ (hK1 _ _ ?_);refine gP [0,4,6] ?_;refine gW ?_ fun K hK=>by simp -dsimp;refine cM [0,1] [8,9,10,11] (hnm) ?_;simp -dsimp;exact hK
  refine b9 fun K2 hK2=>?_;refine gD ?_ fun K hK=>by simp -dsimp;refine d7 (.tup [.agg [I 0,I 0, .v (.slice none 0 0),I 0],Bo false]) (fun hm=>by rw[hcc];rfl) ?_;simp -dsimp;exact hK
  refine gW ?_;refine c3 rfl (fun hc1=>?_) (fun hc1=>?_)
  ·refine gW ?_ fun K hK=>by simp -dsimp [f1,(List.take_of_length_le (by simp):List.take cs.length (nmL cs)=nmL cs)];exact hK
   refine gV ?_ fun K hK=>by simp -dsimp;refine cM [19] [] (hso) ?_;simp -dsimp;exact hK
   refine zQ (hK2 _ _ ?_);refine gP [0,4,6,8] ?_;refine gW ?_;refine d4 ?_;refine gP [0,4,6,44,45,46] ?_;refine i9 [0,4,6,44,45] (α:=Nat) (fun k=>[(46,I k)]) (fun k=>[some (.els 3 [[.fptr X 1 0 0, .mp 13, .row 14 0 ps.length]]),ruR s fo si up 15 16,none,none,none,none,some (.els 4 [c.cells]),none,none,none,none,none,some (.els 2 [B.cells]),caR cs,ptR ps,nxR s nx,ndR s nd2,none,none,some (.els 1 (nmL (C1 cs c)))]) (fun k=>k≤i) (fun k=>(cs.length+1)-k) 0 ?_ ?_ ?_
   ·exact Nat.zero_le _
   ·exact gB [some 0,some 1,none,none,none,none,some 6,none,none,none,none,none,some 12,some 13,some 14,some 15,some 16,none,none,some 19]
   rintro k k1
   rcases Nat.lt_or_eq_of_le k1 with hlt|rfl
   all_goals by_cases hq:(C1 cs c)[k]?=some c
   ·refine zN ?_;refine gW ?_;refine b9 fun K3 hK3=>?_;refine c3 rfl (fun hc2=>?_) (fun hc2=>?_)
    ·skip
     try simp at hc2
     have hkn:k<(cs.length+1):=by first|omega|(simp at hc2;omega)
     obtain⟨y,hy⟩:∃y,(C1 cs c)[k]?=some y:=⟨_,List.getElem?_eq_getElem (by omega)⟩;have hym:=List.mem_of_getElem? hy;have hwyy:=hwy y hym;have wk:=zW k (by omega);obtain⟨hnl2,hng⟩:=List.getElem?_eq_some_iff.1 (n8 hy);have hkl:=(List.getElem?_eq_some_iff.1 hy).1;have hyc:y=c:=by rw[hy]at hq;exact Option.some.inj hq
     subst hyc;refine c6 ?_;refine zQ (hK3 _ _ ?_);refine gP [0,4,6,44,45,46] ?_;refine b9 fun K4 hK4=>?_;refine d4 ?_;refine gW ?_ fun K hK=>by simp -dsimp [n8 hy,hkl,hkn,hng];exact hK
     refine gW ?_ fun K hK=>by simp -dsimp;refine d7 (.agg [I 0,I 0, .v (.slice none 0 0),I 0]) (fun hm=>by rw[hcc];rfl) ?_;simp -dsimp;exact hK
     refine b9 fun K5 hK5=>?_;refine gW ?_;refine c3 rfl (fun hc3=>?_) (fun hc3=>?_)
     ·refine gV ?_;refine zQ (hK5 _ _ ?_);refine gP [0,4,6,12,13,44,45,46] ?_;refine gE ?_ fun K hK=>by simp -dsimp [htp,(show r9 s y B=false from hbef k y hlt hy)];refine cM [1] [15,16] (a1u (X:=X) (W7 hv fo si up nx nd2 y hwyy)) ?_;simp -dsimp [htp,(show r9 s y B=false from hbef k y hlt hy)];refine cI (W4 y B hwyy) ?_;simp -dsimp [htp,(show r9 s y B=false from hbef k y hlt hy)];refine cI (r8 4 y.Name) ?_;simp -dsimp [htp,(show r9 s y B=false from hbef k y hlt hy)];exact hK
      refine zQ (hK4 _ _ ?_);refine gP [0,4,6,44,45,46] ?_;refine gV ?_ fun K hK=>by simp -dsimp [wk];exact hK
      refine zQ ?_;exact⟨k+1,by omega,by omega,gB [some 0,some 1,none,none,none,none,some 6,none,none,none,none,none,some 12,some 13,some 14,some 21,some 22,none,none,some 19]⟩
     ·simp at hc3
    ·skip
     try simp at hc2
     exfalso;first|omega|(simp at hc2;omega)
   ·refine zN ?_;refine gW ?_;refine b9 fun K6 hK6=>?_;refine c3 rfl (fun hc2=>?_) (fun hc2=>?_)
    ·skip
     try simp at hc2
     have hkn:k<(cs.length+1):=by first|omega|(simp at hc2;omega)
     obtain⟨y,hy⟩:∃y,(C1 cs c)[k]?=some y:=⟨_,List.getElem?_eq_getElem (by omega)⟩;have hym:=List.mem_of_getElem? hy;have hwyy:=hwy y hym;have wk:=zW k (by omega);obtain⟨hnl2,hng⟩:=List.getElem?_eq_some_iff.1 (n8 hy);have hkl:=(List.getElem?_eq_some_iff.1 hy).1;have hyc:y∈cs∧y.Name≠c.Name:=((z4 hsrt).1 hym).resolve_left (fun e=>hq (by rw[hy,e]));refine c6 ?_;refine zQ (hK6 _ _ ?_);refine gP [0,4,6,44,45,46] ?_;refine b9 fun K7 hK7=>?_;refine d4 ?_;refine gW ?_ fun K hK=>by simp -dsimp [n8 hy,hkl,hkn,hng];exact hK
     refine gW ?_ fun K hK=>by simp -dsimp;refine d7 (y.av) (fun hm=>by rw[n6,J8 hsrt hyc.1];rfl) ?_;simp -dsimp;exact hK
     refine b9 fun K8 hK8=>?_;refine gW ?_;refine c3 rfl (fun hc3=>?_) (fun hc3=>?_)
     ·exact absurd (by simpa using hc3) hyc.2
     ·refine c6 ?_;refine zQ (hK8 _ _ ?_);refine gP [0,4,6,12,13,44,45,46] ?_;refine gE ?_ fun K hK=>by simp -dsimp [htp,(show r9 s y B=false from hbef k y hlt hy)];refine cM [1] [15,16] (a1u (X:=X) (W7 hv fo si up nx nd2 y hwyy)) ?_;simp -dsimp [htp,(show r9 s y B=false from hbef k y hlt hy)];refine cI (W4 y B hwyy) ?_;simp -dsimp [htp,(show r9 s y B=false from hbef k y hlt hy)];refine cI (r8 4 y.Name) ?_;simp -dsimp [htp,(show r9 s y B=false from hbef k y hlt hy)];exact hK
      refine zQ (hK7 _ _ ?_);refine gP [0,4,6,44,45,46] ?_;refine gV ?_ fun K hK=>by simp -dsimp [wk];exact hK
      refine zQ ?_;exact⟨k+1,by omega,by omega,gB [some 0,some 1,none,none,none,none,some 6,none,none,none,none,none,some 12,some 13,some 14,some 21,some 22,none,none,some 19]⟩
    ·skip
     try simp at hc2
     exfalso;first|omega|(simp at hc2;omega)
   ·refine zN ?_;refine gW ?_;refine b9 fun K9 hK9=>?_;refine c3 rfl (fun hc2=>?_) (fun hc2=>?_)
    ·skip
     try simp at hc2
     have hkn:k<(cs.length+1):=by first|omega|(simp at hc2;omega)
     obtain⟨y,hy⟩:∃y,(C1 cs c)[k]?=some y:=⟨_,List.getElem?_eq_getElem (by omega)⟩;have hym:=List.mem_of_getElem? hy;have hwyy:=hwy y hym;have wk:=zW k (by omega);obtain⟨hnl2,hng⟩:=List.getElem?_eq_some_iff.1 (n8 hy);have hkl:=(List.getElem?_eq_some_iff.1 hy).1;have hyc:y=c:=by rw[hy]at hq;exact Option.some.inj hq
     subst hyc;have hyi2:y=yi:=by rw[hy]at hyi;exact Option.some.inj hyi
     refine c6 ?_;refine zQ (hK9 _ _ ?_);refine gP [0,4,6,44,45,46] ?_;refine b9 fun K10 hK10=>?_;refine d4 ?_;refine gW ?_ fun K hK=>by simp -dsimp [n8 hy,hkl,hkn,hng];exact hK
     refine gW ?_ fun K hK=>by simp -dsimp;refine d7 (.agg [I 0,I 0, .v (.slice none 0 0),I 0]) (fun hm=>by rw[hcc];rfl) ?_;simp -dsimp;exact hK
     refine b9 fun K11 hK11=>?_;refine gW ?_;refine c3 rfl (fun hc3=>?_) (fun hc3=>?_)
     ·refine gV ?_;refine zQ (hK11 _ _ ?_);refine gP [0,4,6,12,13,44,45,46] ?_;refine a4C (List.cons_ne_nil _ _) a1m rfl (by decide) rfl rfl rfl (by decide+kernel) (by decide+kernel) fun K hK=>?_;simp only[List.dropLast];simp -dsimp [htp,(show r9 s y B=true by rw[hyi2];exact hhi)];refine cM [1] [15,16] (a1u (X:=X) (W7 hv fo si up nx nd2 y hwyy)) ?_;simp -dsimp [htp,(show r9 s y B=true by rw[hyi2];exact hhi)];refine cI (W4 y B hwyy) ?_;simp -dsimp [htp,(show r9 s y B=true by rw[hyi2];exact hhi)];refine hK _ _ _ (by decide+kernel) (x8 [] [] [none,none,none,none,none,none,none,none,none,none,none,none,none,none,none,none,none,none,none,none,none,none,none,none] (N0 4 y.Name) rfl (by simp[a3z]) rfl (by simp) (by simp) rfl (by simp) (by simp) (by simp) ?_);clear hK K;rw[←hyi2];exact⟨rfl,[some 0,some 1,some 13,some 14,some 21,some 22],rfl,by simp,by simp,by simp⟩
     ·simp at hc3
    ·skip
     try simp at hc2
     exfalso;first|omega|(simp at hc2;omega)
   ·refine zN ?_;refine gW ?_;refine b9 fun K12 hK12=>?_;refine c3 rfl (fun hc2=>?_) (fun hc2=>?_)
    ·skip
     try simp at hc2
     have hkn:k<(cs.length+1):=by first|omega|(simp at hc2;omega)
     obtain⟨y,hy⟩:∃y,(C1 cs c)[k]?=some y:=⟨_,List.getElem?_eq_getElem (by omega)⟩;have hym:=List.mem_of_getElem? hy;have hwyy:=hwy y hym;have wk:=zW k (by omega);obtain⟨hnl2,hng⟩:=List.getElem?_eq_some_iff.1 (n8 hy);have hkl:=(List.getElem?_eq_some_iff.1 hy).1;have hyc:y∈cs∧y.Name≠c.Name:=((z4 hsrt).1 hym).resolve_left (fun e=>hq (by rw[hy,e]));have hyi2:y=yi:=by rw[hy]at hyi;exact Option.some.inj hyi
     refine c6 ?_;refine zQ (hK12 _ _ ?_);refine gP [0,4,6,44,45,46] ?_;refine b9 fun K13 hK13=>?_;refine d4 ?_;refine gW ?_ fun K hK=>by simp -dsimp [n8 hy,hkl,hkn,hng];exact hK
     refine gW ?_ fun K hK=>by simp -dsimp;refine d7 (y.av) (fun hm=>by rw[n6,J8 hsrt hyc.1];rfl) ?_;simp -dsimp;exact hK
     refine b9 fun K14 hK14=>?_;refine gW ?_;refine c3 rfl (fun hc3=>?_) (fun hc3=>?_)
     ·exact absurd (by simpa using hc3) hyc.2
     ·refine c6 ?_;refine zQ (hK14 _ _ ?_);refine gP [0,4,6,12,13,44,45,46] ?_;refine a4C (List.cons_ne_nil _ _) a1m rfl (by decide) rfl rfl rfl (by decide+kernel) (by decide+kernel) fun K hK=>?_;simp only[List.dropLast];simp -dsimp [htp,(show r9 s y B=true by rw[hyi2];exact hhi)];refine cM [1] [15,16] (a1u (X:=X) (W7 hv fo si up nx nd2 y hwyy)) ?_;simp -dsimp [htp,(show r9 s y B=true by rw[hyi2];exact hhi)];refine cI (W4 y B hwyy) ?_;simp -dsimp [htp,(show r9 s y B=true by rw[hyi2];exact hhi)];refine hK _ _ _ (by decide+kernel) (x8 [] [] [none,none,none,none,none,none,none,none,none,none,none,none,none,none,none,none,none,none,none,none,none,none,none,none] (N0 4 y.Name) rfl (by simp[a3z]) rfl (by simp) (by simp) rfl (by simp) (by simp) (by simp) ?_);clear hK K;rw[←hyi2];exact⟨rfl,[some 0,some 1,some 13,some 14,some 21,some 22],rfl,by simp,by simp,by simp⟩
    ·skip
     try simp at hc2
     exfalso;first|omega|(simp at hc2;omega)
  ·simp at hc1
end
end Go.Tram.Lk
end
section
namespace Go.Tram.Lk
open Go.AM Go.Proofs
def RF (k:Nat):FuncId:=[94,95,96,97,98,99].getD k 0
def a8C:List (List AV):=[[.bnd 94 [.ptr 0 0 0]],[.bnd 95 [.ptr 0 0 0]],[.bnd 96 [.ptr 0 0 0]],[.bnd 97 [.ptr 0 0 0]],[.bnd 98 [.ptr 0 0 0]],[.bnd 99 [.ptr 0 0 0]]]
theorem a3E {k:Nat} (h:k<6):a8C[k]?=some [.bnd (RF k) [.ptr 0 0 0]]:=by
 match k,h with
 |0,_=>rfl
 |1,_=>rfl
 |2,_=>rfl
 |3,_=>rfl
 |4,_=>rfl
 |5,_=>rfl
theorem a3n:a8C.length=6:=rfl
theorem a3I (l:List (Option Nat)):a8C.map (fun e=>e.map (o9 (some 0::l) 3))=a8C:=by
 simp[a8C]
@[simp] def c0C (c:Car):List AV:=[I c.Name,I c.Profile,I8,I c.Front]
@[simp] def c0A (c:Car):AV:= .agg [I c.Name,I c.Profile,I8,I c.Front]
def nxF (nx:n5) (c:Car) (m:Move) (k:Nat):n5:=if k=0 then nx else a4V nx c m
def ndF (nd:n5) (c:Car) (m:Move) (k:Nat):n5:=if k≤3 then nd else a4V nd c m
section
variable (X:Value) (s:j5) (fo si up:Kvs) (cs:List Car) (ps:List Int) (nx nd:n5) (c:Car) (m:Move)
theorem b2b {i:Nat} {kd kc:Int} (hi:i<6)
  (hp:∀k<i,c8 Tryz.prog (RF k) [.ptr 0 0 0,c.av,m.av] (stK X s fo si up ps.length) (stD s cs ps (nxF nx c m k) (ndF nd c m k)) (.tup []) (stK X s fo si up ps.length) (stD s cs ps (nxF nx c m (k+1)) (ndF nd c m (k+1))))
  (hq:l5 Tryz.prog (RF i) [.ptr 0 0 0,c.av,m.av] (stK X s fo si up ps.length) (stD s cs ps (nxF nx c m i) (ndF nd c m i)) (b3k kd kc) (stK X s fo si up ps.length) (stD s cs ps (nxF nx c m (i+1)) (ndF nd c m (i+1)))):
  c8 Tryz.prog 51 [.ptr 0 0 0,c.av,m.av] (stK X s fo si up ps.length) (stD s cs ps nx nd) (.tup [.agg [I 0,I 0,I8,I 0], .agg [I kd,I kc]]) (stK X s fo si up ps.length) (stD s cs ps (nxF nx c m (i+1)) (ndF nd c m (i+1))++[some (.els 4 [[I 0,I 0,I8,I 0]]),some (.els 2 [[I kd,I kc]])]):=by
 refine B8 ?_;have e0:nxF nx c m 0=nx:=rfl;have e1:ndF nd c m 0=nd:=rfl;generalize hN:nxF nx c m=N at*
 generalize hD:ndF nd c m=D at*
 refine c8.of_bodyD 7 [0] Tryz.func51 rfl (by decide) (by simp[Tryz.ntmps51]) (by simp[Tryz.ntmps51]) rfl rfl a3x rfl (by decide) rfl rfl rfl rfl fun K hK=>?_;simp only[Tryz.ntmps51,Tryz.results51];simp -dsimp;apply hK;clear hK K;intro J hJ;refine b9 fun K1 hK1=>?_;refine a3F (by decide) ?_;refine gW ?_;refine d4 ?_;refine gP [0,4,5,6,7,24,25,26] ?_;refine i9 [0,4,5,6,7,24,25] (α:=Nat) (fun k=>[(26,I k)]) (fun k=>[some (.els 3 [[.fptr X 1 0 0, .mp 2, .row 3 0 ps.length]]),ruR s fo si up 4 5,caR cs,ptR ps,nxR s (N k),ndR s (D k),some (.els 4 [c.cells]),some (.els 2 [m.cells]),some (.els 4 [[I 0,I 0,I8,I 0]]),some (.els 2 [[I 0,I 0]]),some (.els 1 a8C)]) (fun k=>k≤i) (fun k=>6-k) 0 ?_ ?_ ?_
 ·exact Nat.zero_le _
 ·exact gB [some 0,some 1,some 2,some 3,some 4,some 5,some 6,some 7,some 8,some 9,some 10] (hH:=by simp[a8C,e0,e1])
 rintro k k1;have hb:=a3E (k:=k) (by omega);have hbl:k<a8C.length:=by rw[a3n];omega
 have hb6:k<6:=by omega
 obtain⟨hbl2,hbg⟩:=List.getElem?_eq_some_iff.1 hb;have wk:=zW k (by omega)
 rcases Nat.lt_or_eq_of_le k1 with hlt|rfl
 ·refine zN ?_;refine gW ?_;refine b9 fun K2 hK2=>?_;refine c3 rfl (fun hc0=>?_) (fun hc0=>?_)
  ·refine c6 ?_;refine zQ (hK2 _ _ ?_);refine gP [0,4,5,6,7,24,25,26] ?_;refine b9 fun K3 hK3=>?_;refine d4 ?_;refine gW ?_ fun K hK=>by simp -dsimp [hb,hbl,hb6,hbg];exact hK
   refine gV ?_ fun K hK=>by simp -dsimp;refine cM [0,1] [2,3,4,5] (hp k hlt) ?_;simp -dsimp;exact hK
   refine zQ (hK3 _ _ ?_);refine gP [0,4,5,6,7,24,25,26] ?_;refine gV ?_ fun K hK=>by simp -dsimp [wk];exact hK
   refine zQ ?_;exact⟨k+1,by omega,by omega,gB [some 0,some 1,some 11,some 12,some 13,some 14,some 6,some 7,some 8,some 9,some 10] (hH:=by simp[a3I])⟩
  ·exfalso;have h9:=hc0;simp at h9;omega
 ·refine zN ?_;refine gW ?_;refine b9 fun K4 hK4=>?_;refine c3 rfl (fun hc0=>?_) (fun hc0=>?_)
  ·refine c6 ?_;refine zQ (hK4 _ _ ?_);refine gP [0,4,5,6,7,24,25,26] ?_;refine b9 fun K5 hK5=>?_;refine d4 ?_;refine gW ?_ fun K hK=>by simp -dsimp [hb,hbl,hb6,hbg];exact hK
   refine a2P (List.cons_ne_nil _ _) rfl (by decide) rfl rfl rfl fun K hK=>?_;simp only[List.dropLast];simp -dsimp;refine hK _ _ (x8 [0,1] [2,3,4,5] [some 0,some 1,none,none,none,none,none,none,none,none,none,some 2,some 3,some 4,some 5] (hq) rfl (by simp[a3z]) rfl (by simp) (by simp) rfl (by simp) (by simp) (by simp) ?_);clear hK K;refine⟨9,[I 0,I 0], .int .i64 kd, .int .i64 kc,rfl,rfl,by simp,rfl,rfl,rfl,?_⟩;exact⟨[some 0,some 1,some 11,some 12,some 13,some 14,some 8,some 9],rfl,by simp,by simp,by simp,by simp[W9,x4]⟩
  ·exfalso;have h9:=hc0;simp at h9;omega
theorem b3g {i:Nat} {kd kc:Int} (hi:i<6)
  (hp:∀k<i,c8 Tryz.prog (RF k) [.ptr 0 0 0,(c0A c),m.av] (stK X s fo si up ps.length) (stD s cs ps (nxF nx c m k) (ndF nd c m k)) (.tup []) (stK X s fo si up ps.length) (stD s cs ps (nxF nx c m (k+1)) (ndF nd c m (k+1))))
  (hq:l5 Tryz.prog (RF i) [.ptr 0 0 0,(c0A c),m.av] (stK X s fo si up ps.length) (stD s cs ps (nxF nx c m i) (ndF nd c m i)) (b3k kd kc) (stK X s fo si up ps.length) (stD s cs ps (nxF nx c m (i+1)) (ndF nd c m (i+1)))):
  c8 Tryz.prog 51 [.ptr 0 0 0,(c0A c),m.av] (stK X s fo si up ps.length) (stD s cs ps nx nd) (.tup [.agg [I 0,I 0,I8,I 0], .agg [I kd,I kc]]) (stK X s fo si up ps.length) (stD s cs ps (nxF nx c m (i+1)) (ndF nd c m (i+1))++[some (.els 4 [[I 0,I 0,I8,I 0]]),some (.els 2 [[I kd,I kc]])]):=by
 refine B8 ?_;have e0:nxF nx c m 0=nx:=rfl;have e1:ndF nd c m 0=nd:=rfl;generalize hN:nxF nx c m=N at*
 generalize hD:ndF nd c m=D at*
 refine c8.of_bodyD 7 [0] Tryz.func51 rfl (by decide) (by simp[Tryz.ntmps51]) (by simp[Tryz.ntmps51]) rfl rfl a3x rfl (by decide) rfl rfl rfl rfl fun K hK=>?_;simp only[Tryz.ntmps51,Tryz.results51];simp -dsimp;apply hK;clear hK K;intro J hJ;refine b9 fun K1 hK1=>?_;refine a3F (by decide) ?_;refine gW ?_;refine d4 ?_;refine gP [0,4,5,6,7,24,25,26] ?_;refine i9 [0,4,5,6,7,24,25] (α:=Nat) (fun k=>[(26,I k)]) (fun k=>[some (.els 3 [[.fptr X 1 0 0, .mp 2, .row 3 0 ps.length]]),ruR s fo si up 4 5,caR cs,ptR ps,nxR s (N k),ndR s (D k),some (.els 4 [(c0C c)]),some (.els 2 [m.cells]),some (.els 4 [[I 0,I 0,I8,I 0]]),some (.els 2 [[I 0,I 0]]),some (.els 1 a8C)]) (fun k=>k≤i) (fun k=>6-k) 0 ?_ ?_ ?_
 ·exact Nat.zero_le _
 ·exact gB [some 0,some 1,some 2,some 3,some 4,some 5,some 6,some 7,some 8,some 9,some 10] (hH:=by simp[a8C,e0,e1])
 rintro k k1;have hb:=a3E (k:=k) (by omega);have hbl:k<a8C.length:=by rw[a3n];omega
 have hb6:k<6:=by omega
 obtain⟨hbl2,hbg⟩:=List.getElem?_eq_some_iff.1 hb;have wk:=zW k (by omega)
 rcases Nat.lt_or_eq_of_le k1 with hlt|rfl
 ·refine zN ?_;refine gW ?_;refine b9 fun K2 hK2=>?_;refine c3 rfl (fun hc0=>?_) (fun hc0=>?_)
  ·refine c6 ?_;refine zQ (hK2 _ _ ?_);refine gP [0,4,5,6,7,24,25,26] ?_;refine b9 fun K3 hK3=>?_;refine d4 ?_;refine gW ?_ fun K hK=>by simp -dsimp [hb,hbl,hb6,hbg];exact hK
   refine gV ?_ fun K hK=>by simp -dsimp;refine cM [0,1] [2,3,4,5] (hp k hlt) ?_;simp -dsimp;exact hK
   refine zQ (hK3 _ _ ?_);refine gP [0,4,5,6,7,24,25,26] ?_;refine gV ?_ fun K hK=>by simp -dsimp [wk];exact hK
   refine zQ ?_;exact⟨k+1,by omega,by omega,gB [some 0,some 1,some 11,some 12,some 13,some 14,some 6,some 7,some 8,some 9,some 10] (hH:=by simp[a3I])⟩
  ·exfalso;have h9:=hc0;simp at h9;omega
 ·refine zN ?_;refine gW ?_;refine b9 fun K4 hK4=>?_;refine c3 rfl (fun hc0=>?_) (fun hc0=>?_)
  ·refine c6 ?_;refine zQ (hK4 _ _ ?_);refine gP [0,4,5,6,7,24,25,26] ?_;refine b9 fun K5 hK5=>?_;refine d4 ?_;refine gW ?_ fun K hK=>by simp -dsimp [hb,hbl,hb6,hbg];exact hK
   refine a2P (List.cons_ne_nil _ _) rfl (by decide) rfl rfl rfl fun K hK=>?_;simp only[List.dropLast];simp -dsimp;refine hK _ _ (x8 [0,1] [2,3,4,5] [some 0,some 1,none,none,none,none,none,none,none,none,none,some 2,some 3,some 4,some 5] (hq) rfl (by simp[a3z]) rfl (by simp) (by simp) rfl (by simp) (by simp) (by simp) ?_);clear hK K;refine⟨9,[I 0,I 0], .int .i64 kd, .int .i64 kc,rfl,rfl,by simp,rfl,rfl,rfl,?_⟩;exact⟨[some 0,some 1,some 11,some 12,some 13,some 14,some 8,some 9],rfl,by simp,by simp,by simp,by simp[W9,x4]⟩
  ·exfalso;have h9:=hc0;simp at h9;omega
theorem a6u (t:List Move) (hne:t≠[]) (hn:t.length≤1000):c8 Tryz.prog 40 [a4W t] [] [] (.row 0 0 t.length) [] [some (.els 2 (t.map Move.cells))]:=by
 have f1:Q5 t.length 17:=l8 (by omega) (by omega);refine oG [] Tryz.func40 Tryz.ntmps40 Tryz.results40 ?_;intro J hJ;refine gW ?_;refine b9 fun K1 hK1=>?_;refine gW ?_ fun K hK=>by simp -dsimp [hne];exact hK
 refine c3 rfl (fun hc0=>?_) (fun hc0=>?_)
 ·simp at hc0
 ·refine c6 ?_;refine zQ (hK1 _ _ ?_);refine gP [0] ?_;refine gW ?_ fun K hK=>by simp -dsimp [hne,f1];exact hK
  exact i6 (gT [some 0])
theorem b2h {B:R0} {b:Bool} {nd2:n5} (hne:c.Way≠[]) (hlen:c.Way.length≤1000)
  (hp:∀k<6,c8 Tryz.prog (RF k) [.ptr 0 0 0,c.av,m.av] (stK X s fo si up ps.length) (stD s cs ps (nxF nx c m k) (ndF nd c m k)) (.tup []) (stK X s fo si up ps.length) (stD s cs ps (nxF nx c m (k+1)) (ndF nd c m (k+1))))
  (p9:c8 Tryz.prog 100 [.ptr 0 0 0,c.av,m.av] (stK X s fo si up ps.length) (stD s cs ps (nxF nx c m 6) (ndF nd c m 6)) (.tup [.agg B.cells,Bo b]) (stK X s fo si up ps.length) (stD s cs ps (nxF nx c m 6) nd2))
  (hB:b=true→0≤B.Node∧B.Node.toNat<ps.length):
  c8 Tryz.prog 51 [.ptr 0 0 0,c.av,m.av] (stK X s fo si up ps.length) (stD s cs ps nx nd) (.tup [(p7 c m).av, .agg [I 0,I 0]]) (stK X s fo si up ps.length) (stD s cs (if b then ps.set B.Node.toNat B.Leg else ps) (nxF nx c m 6) nd2++[some (.els 4 [(p7 c m).cells]),some (.els 2 [[I 0,I 0]])]):=by
 have hcl:=a6u c.Way hne hlen;have htk:List.take (c.Way.length+1) (List.map Move.cells c.Way++[[I m.Rail,Bo m.Back]])=List.map Move.cells c.Way++[[I m.Rail,Bo m.Back]]:=List.take_of_length_le (by simp);have f1:Q5 (c.Way.length+1) 17:=l8 (by omega) (by omega);refine B8 ?_;have e0:nxF nx c m 0=nx:=rfl;have e1:ndF nd c m 0=nd:=rfl;generalize hN:nxF nx c m=N at*
 generalize hD:ndF nd c m=D at*
 refine c8.of_bodyD 7 [0] Tryz.func51 rfl (by decide) (by simp[Tryz.ntmps51]) (by simp[Tryz.ntmps51]) rfl rfl a3x rfl (by decide) rfl rfl rfl rfl fun K hK=>?_;simp only[Tryz.ntmps51,Tryz.results51];simp -dsimp;apply hK;clear hK K;intro J hJ;refine b9 fun K1 hK1=>?_;refine a3F (by decide) ?_;refine gW ?_;refine d4 ?_;refine gP [0,4,5,6,7,24,25,26] ?_;refine i9 [0,4,5,6,7,24,25] (α:=Nat) (fun k=>[(26,I k)]) (fun k=>[some (.els 3 [[.fptr X 1 0 0, .mp 2, .row 3 0 ps.length]]),ruR s fo si up 4 5,caR cs,ptR ps,nxR s (N k),ndR s (D k),some (.els 4 [c.cells]),some (.els 2 [m.cells]),some (.els 4 [[I 0,I 0,I8,I 0]]),some (.els 2 [[I 0,I 0]]),some (.els 1 a8C)]) (fun k=>k≤6) (fun k=>6-k) 0 ?_ ?_ ?_
 ·exact Nat.zero_le _
 ·exact gB [some 0,some 1,some 2,some 3,some 4,some 5,some 6,some 7,some 8,some 9,some 10] (hH:=by simp[a8C,e0,e1])
 rintro k k1;refine zN ?_;refine gW ?_;refine b9 fun K2 hK2=>?_;refine c3 rfl (fun hc0=>?_) (fun hc0=>?_)
 ·have hb6:k<6:=by first|omega|(simp at hc0;omega)
  have hb:=a3E hb6;have hbl:k<a8C.length:=by rw[a3n];omega
  obtain⟨hbl2,hbg⟩:=List.getElem?_eq_some_iff.1 hb;have wk:=zW k (by omega);refine c6 ?_;refine zQ (hK2 _ _ ?_);refine gP [0,4,5,6,7,24,25,26] ?_;refine b9 fun K3 hK3=>?_;refine d4 ?_;refine gW ?_ fun K hK=>by simp -dsimp [hb,hbl,hb6,hbg];exact hK
  refine gV ?_ fun K hK=>by simp -dsimp;refine cM [0,1] [2,3,4,5] (hp k hb6) ?_;simp -dsimp;exact hK
  refine zQ (hK3 _ _ ?_);refine gP [0,4,5,6,7,24,25,26] ?_;refine gV ?_ fun K hK=>by simp -dsimp [wk];exact hK
  refine zQ ?_;exact⟨k+1,by omega,by omega,gB [some 0,some 1,some 11,some 12,some 13,some 14,some 6,some 7,some 8,some 9,some 10] (hH:=by simp[a3I])⟩
 ·have hke:k=6:=by first|omega|(simp at hc0;omega)
  subst hke;refine r7 ?_;refine zQ (hK1 _ _ ?_);refine gP [0,4,5,6,7] ?_;refine b9 fun K4 hK4=>?_;refine gW ?_ fun K hK=>by simp -dsimp;refine cM [0,1] [2,3,4,5] (p9) ?_;simp -dsimp;exact hK
  refine gW ?_;refine c3 rfl (fun hc1=>?_) (fun hc1=>?_)
  ·have hbb:b=true:=by simpa using hc1
   subst hbb;obtain⟨hB0,hB1⟩:=hB rfl;refine gE ?_ fun K hK=>by simp -dsimp [hB0,hB1];exact hK
   refine zQ (hK4 _ _ ?_);refine gP [0,4,5,6,7] ?_;refine gD ?_ fun K hK=>by simp -dsimp [f1];refine cM [] [] (hcl) ?_;simp -dsimp [f1];exact hK
   refine gW ?_;refine gU (T':=[(0, .ptr 0 0 0),(6, .ptr 6 0 0),(7, .ptr 7 0 0)]) (H':=stR X ps.length::ruR s fo si up 4 5::(stD s cs (ps.set B.Node.toNat B.Leg) (N 6) nd2++[some (.els 4 [(p7 c m).cells]),some (.els 2 [[I 0,I 0]])])) [some 0,some 1,some 11,some 12,some 13,some 14,some 8,some 9] ?_ (hH:=by simp[p7,htk]);exact i6 ⟨[some 0,some 1,some 2,some 3,some 4,some 5,some 6,some 7],rfl,by simp,by simp,by simp,by simp[W9,x4,p7]⟩
  ·have hbb:b=false:=by simpa using hc1
   subst hbb;refine c6 ?_;refine zQ (hK4 _ _ ?_);refine gP [0,4,5,6,7] ?_;refine gD ?_ fun K hK=>by simp -dsimp [f1];refine cM [] [] (hcl) ?_;simp -dsimp [f1];exact hK
   refine gW ?_;refine gU (T':=[(0, .ptr 0 0 0),(6, .ptr 6 0 0),(7, .ptr 7 0 0)]) (H':=stR X ps.length::ruR s fo si up 4 5::(stD s cs ps (N 6) nd2++[some (.els 4 [(p7 c m).cells]),some (.els 2 [[I 0,I 0]])])) [some 0,some 1,some 11,some 12,some 13,some 14,some 8,some 9] ?_ (hH:=by simp[p7,htk]);exact i6 ⟨[some 0,some 1,some 2,some 3,some 4,some 5,some 6,some 7],rfl,by simp,by simp,by simp,by simp[W9,x4,p7]⟩
theorem a9N:a8 Tryz.prog 40 [I8] I8:=by
 refine oB Tryz.func40 Tryz.ntmps40 Tryz.results40 ?_;refine aW ?_;refine a5 fun K1 hK1=>?_;refine aW ?_;refine a6 rfl (fun hc0=>?_) (fun hc0=>?_)
 ·refine aW ?_;exact a7 (by simp)
 ·simp at hc0
theorem b2t {B:R0} {b:Bool} {nd2:n5} (hne:c.Way=[])
  (hp:∀k<6,c8 Tryz.prog (RF k) [.ptr 0 0 0,(c0A c),m.av] (stK X s fo si up ps.length) (stD s cs ps (nxF nx c m k) (ndF nd c m k)) (.tup []) (stK X s fo si up ps.length) (stD s cs ps (nxF nx c m (k+1)) (ndF nd c m (k+1))))
  (p9:c8 Tryz.prog 100 [.ptr 0 0 0,(c0A c),m.av] (stK X s fo si up ps.length) (stD s cs ps (nxF nx c m 6) (ndF nd c m 6)) (.tup [.agg B.cells,Bo b]) (stK X s fo si up ps.length) (stD s cs ps (nxF nx c m 6) nd2))
  (hB:b=true→0≤B.Node∧B.Node.toNat<ps.length):
  c8 Tryz.prog 51 [.ptr 0 0 0,(c0A c),m.av] (stK X s fo si up ps.length) (stD s cs ps nx nd) (.tup [(p7 c m).av, .agg [I 0,I 0]]) (stK X s fo si up ps.length) (stD s cs (if b then ps.set B.Node.toNat B.Leg else ps) (nxF nx c m 6) nd2++[some (.els 4 [(p7 c m).cells]),some (.els 2 [[I 0,I 0]])]):=by
 have hcl:=a9N;have f1:Q5 1 17:=l8 (by omega) (by omega);refine B8 ?_;have e0:nxF nx c m 0=nx:=rfl;have e1:ndF nd c m 0=nd:=rfl;generalize hN:nxF nx c m=N at*
 generalize hD:ndF nd c m=D at*
 refine c8.of_bodyD 7 [0] Tryz.func51 rfl (by decide) (by simp[Tryz.ntmps51]) (by simp[Tryz.ntmps51]) rfl rfl a3x rfl (by decide) rfl rfl rfl rfl fun K hK=>?_;simp only[Tryz.ntmps51,Tryz.results51];simp -dsimp;apply hK;clear hK K;intro J hJ;refine b9 fun K1 hK1=>?_;refine a3F (by decide) ?_;refine gW ?_;refine d4 ?_;refine gP [0,4,5,6,7,24,25,26] ?_;refine i9 [0,4,5,6,7,24,25] (α:=Nat) (fun k=>[(26,I k)]) (fun k=>[some (.els 3 [[.fptr X 1 0 0, .mp 2, .row 3 0 ps.length]]),ruR s fo si up 4 5,caR cs,ptR ps,nxR s (N k),ndR s (D k),some (.els 4 [c0C c]),some (.els 2 [m.cells]),some (.els 4 [[I 0,I 0,I8,I 0]]),some (.els 2 [[I 0,I 0]]),some (.els 1 a8C)]) (fun k=>k≤6) (fun k=>6-k) 0 ?_ ?_ ?_
 ·exact Nat.zero_le _
 ·exact gB [some 0,some 1,some 2,some 3,some 4,some 5,some 6,some 7,some 8,some 9,some 10] (hH:=by simp[a8C,e0,e1])
 rintro k k1;refine zN ?_;refine gW ?_;refine b9 fun K2 hK2=>?_;refine c3 rfl (fun hc0=>?_) (fun hc0=>?_)
 ·have hb6:k<6:=by first|omega|(simp at hc0;omega)
  have hb:=a3E hb6;have hbl:k<a8C.length:=by rw[a3n];omega
  obtain⟨hbl2,hbg⟩:=List.getElem?_eq_some_iff.1 hb;have wk:=zW k (by omega);refine c6 ?_;refine zQ (hK2 _ _ ?_);refine gP [0,4,5,6,7,24,25,26] ?_;refine b9 fun K3 hK3=>?_;refine d4 ?_;refine gW ?_ fun K hK=>by simp -dsimp [hb,hbl,hb6,hbg];exact hK
  refine gV ?_ fun K hK=>by simp -dsimp;refine cM [0,1] [2,3,4,5] (hp k hb6) ?_;simp -dsimp;exact hK
  refine zQ (hK3 _ _ ?_);refine gP [0,4,5,6,7,24,25,26] ?_;refine gV ?_ fun K hK=>by simp -dsimp [wk];exact hK
  refine zQ ?_;exact⟨k+1,by omega,by omega,gB [some 0,some 1,some 11,some 12,some 13,some 14,some 6,some 7,some 8,some 9,some 10] (hH:=by simp[a3I])⟩
 ·have hke:k=6:=by first|omega|(simp at hc0;omega)
  subst hke;refine r7 ?_;refine zQ (hK1 _ _ ?_);refine gP [0,4,5,6,7] ?_;refine b9 fun K4 hK4=>?_;refine gW ?_ fun K hK=>by simp -dsimp;refine cM [0,1] [2,3,4,5] (p9) ?_;simp -dsimp;exact hK
  refine gW ?_;refine c3 rfl (fun hc1=>?_) (fun hc1=>?_)
  ·have hbb:b=true:=by simpa using hc1
   subst hbb;obtain⟨hB0,hB1⟩:=hB rfl;refine gE ?_ fun K hK=>by simp -dsimp [hB0,hB1];exact hK
   refine zQ (hK4 _ _ ?_);refine gP [0,4,5,6,7] ?_;refine gD ?_ fun K hK=>by simp -dsimp [f1];refine cI (hcl) ?_;simp -dsimp [f1];exact hK
   refine gW ?_;refine gU (T':=[(0, .ptr 0 0 0),(6, .ptr 6 0 0),(7, .ptr 7 0 0)]) (H':=stR X ps.length::ruR s fo si up 4 5::(stD s cs (ps.set B.Node.toNat B.Leg) (N 6) nd2++[some (.els 4 [(p7 c m).cells]),some (.els 2 [[I 0,I 0]])])) [some 0,some 1,some 11,some 12,some 13,some 14,some 8,some 9] ?_ (hH:=by simp[p7,hne]);exact i6 ⟨[some 0,some 1,some 2,some 3,some 4,some 5,some 6,some 7],rfl,by simp,by simp,by simp,by simp[W9,x4,p7,hne]⟩
  ·have hbb:b=false:=by simpa using hc1
   subst hbb;refine c6 ?_;refine zQ (hK4 _ _ ?_);refine gP [0,4,5,6,7] ?_;refine gD ?_ fun K hK=>by simp -dsimp [f1];refine cI (hcl) ?_;simp -dsimp [f1];exact hK
   refine gW ?_;refine gU (T':=[(0, .ptr 0 0 0),(6, .ptr 6 0 0),(7, .ptr 7 0 0)]) (H':=stR X ps.length::ruR s fo si up 4 5::(stD s cs ps (N 6) nd2++[some (.els 4 [(p7 c m).cells]),some (.els 2 [[I 0,I 0]])])) [some 0,some 1,some 11,some 12,some 13,some 14,some 8,some 9] ?_ (hH:=by simp[p7,hne]);exact i6 ⟨[some 0,some 1,some 2,some 3,some 4,some 5,some 6,some 7],rfl,by simp,by simp,by simp,by simp[W9,x4,p7,hne]⟩
end
end Go.Tram.Lk
end
section
namespace Go.Tram.Lk
open Go.AM Go.Proofs
section
variable (X:Value) (s:j5) (fo si up:Kvs) (cs:List Car) (ps:List Int) (nx nd:n5) (c:Car) (m:Move)
theorem c4l (hn:c.Way.length≤1000) (h:b6h c m=false):c8 Tryz.prog 95 [.ptr 0 0 0,c.av,m.av] (stK X s fo si up ps.length) (stD s cs ps nx nd) (.tup []) (stK X s fo si up ps.length) (stD s cs ps nx nd):=by
 have hc:=a0A c.Way 133 [m.cells] (fun x=>decide (x.Rail=m.Rail)) (fun x _=>b9j m x) (by omega);rw[b5E,h]at hc;have hr:=r8 2 0;refine B8 ?_;refine oG [0] Tryz.func95 Tryz.ntmps95 Tryz.results95 ?_;intro J hJ;refine gW ?_;refine gV ?_ fun K hK=>by simp -dsimp;refine cI (hc) ?_;simp -dsimp;refine cI (hr) ?_;simp -dsimp;exact hK
 try simp only[zT,reduceIte,Nat.reduceEqDiff]
 exact⟨[some 0,some 1,some 2,some 3,some 4,some 5],rfl,by simp,by simp,by simp,by simp[W9,x4]⟩
theorem c2V (hn:c.Way.length≤1000) (h:b6h c m=true):l5 Tryz.prog 95 [.ptr 0 0 0,c.av,m.av] (stK X s fo si up ps.length) (stD s cs ps nx nd) (b3k 2 0) (stK X s fo si up ps.length) (stD s cs ps nx nd):=by
 have hc:=a0A c.Way 133 [m.cells] (fun x=>decide (x.Rail=m.Rail)) (fun x _=>b9j m x) (by omega);rw[b5E,h]at hc;refine U2 ?_;refine l5.of_bodyG [0] Tryz.func95 rfl (by decide) (by simp[Tryz.ntmps95]) rfl rfl ?_;intro J hJ;simp only[Tryz.ntmps95,Tryz.results95];refine gW ?_;refine a2P (List.cons_ne_nil _ _) rfl (by decide) rfl rfl rfl fun K hK=>?_;simp only[List.dropLast];simp -dsimp;refine cI (hc) ?_;simp -dsimp;refine hK _ _ (x8 [] [] [none,none,none,none,none,none,none,none] (N0 2 0) rfl (by simp[a3z]) rfl (by simp) (by simp) rfl (by simp) (by simp) (by simp) ?_);clear hK K;exact⟨rfl,[some 0,some 1,some 2,some 3,some 4,some 5],rfl,by simp,by simp,by simp⟩
theorem c2F (h:c.Way.length<20):c8 Tryz.prog 99 [.ptr 0 0 0,c.av,m.av] (stK X s fo si up ps.length) (stD s cs ps nx nd) (.tup []) (stK X s fo si up ps.length) (stD s cs ps nx nd):=by
 have hd:decide ((20:Int)≤(c.Way.length:Int))=false:=decide_eq_false (by omega);have hr:=r8 6 0;refine B8 ?_;refine oG [0] Tryz.func99 Tryz.ntmps99 Tryz.results99 ?_;intro J hJ;refine gW ?_;refine gV ?_ fun K hK=>by simp -dsimp [hd];refine cI (hr) ?_;simp -dsimp [hd];exact hK
 try simp only[zT,reduceIte,Nat.reduceEqDiff]
 exact⟨[some 0,some 1,some 2,some 3,some 4,some 5],rfl,by simp,by simp,by simp,by simp[W9,x4]⟩
theorem c0J (h:20≤c.Way.length):l5 Tryz.prog 99 [.ptr 0 0 0,c.av,m.av] (stK X s fo si up ps.length) (stD s cs ps nx nd) (b3k 6 0) (stK X s fo si up ps.length) (stD s cs ps nx nd):=by
 have hd:decide ((20:Int)≤(c.Way.length:Int))=true:=decide_eq_true (by omega);refine U2 ?_;refine l5.of_bodyG [0] Tryz.func99 rfl (by decide) (by simp[Tryz.ntmps99]) rfl rfl ?_;intro J hJ;simp only[Tryz.ntmps99,Tryz.results99];refine gW ?_;refine a2P (List.cons_ne_nil _ _) rfl (by decide) rfl rfl rfl fun K hK=>?_;simp only[List.dropLast];simp -dsimp [hd];refine hK _ _ (x8 [] [] [none,none,none,none,none,none,none,none] (N0 6 0) rfl (by simp[a3z]) rfl (by simp) (by simp) rfl (by simp) (by simp) (by simp) ?_);clear hK K;exact⟨rfl,[some 0,some 1,some 2,some 3,some 4,some 5],rfl,by simp,by simp,by simp⟩
theorem c0T {B:R0} {nd2:n5} (p9:c8 Tryz.prog 100 [.ptr 0 0 0,c.av,m.av] (stK X s fo si up ps.length) (stD s cs ps nx nd) (.tup [.agg B.cells,Bo false]) (stK X s fo si up ps.length) (stD s cs ps nx nd2)):
  c8 Tryz.prog 97 [.ptr 0 0 0,c.av,m.av] (stK X s fo si up ps.length) (stD s cs ps nx nd) (.tup []) (stK X s fo si up ps.length) (stD s cs ps nx nd2):=by
 refine B8 ?_;refine oG [0] Tryz.func97 Tryz.ntmps97 Tryz.results97 ?_;intro J hJ;refine gW ?_;refine gW ?_ fun K hK=>by simp -dsimp;refine cM [0,1] [2,3,4,5] (p9) ?_;simp -dsimp;exact hK
 refine b9 fun K1 hK1=>?_;refine gW ?_;refine c3 rfl (fun hc0=>?_) (fun hc0=>?_)
 ·exact i6 (gT [some 0,some 1,some 8,some 9,some 10,some 11])
 ·simp at hc0
end
def a5j (s:j5) (cs:List Car) (c:Car) (m:Move):Nat→Prop
 |0=>endB s c m=false
 |1=>b6h c m=false
 |2=>a5k cs c (fun o n=>G0 s m.Rail c.Profile n.Rail o.Profile)=none
 |3=>K0 s c m=true→(C1 cs c).find? (fun y=>r9 s y (D8 s c m))=none
 |4=>a5k cs c (fun _ n=>G7 s m n)=none
 |_=>c.Way.length<20
def a9i (s:j5) (cs:List Car) (c:Car) (m:Move) (kd kc:Int):Nat→Prop
 |0=>endB s c m=true∧kd=1∧kc=0
 |1=>b6h c m=true∧kd=2∧kc=0
 |2=>a5k cs c (fun o n=>G0 s m.Rail c.Profile n.Rail o.Profile)=some kc∧kd=3
 |3=>K0 s c m=true∧∃y,(C1 cs c).find? (fun y=>r9 s y (D8 s c m))=some y∧kc=y.Name∧kd=4
 |4=>a5k cs c (fun _ n=>G7 s m n)=some kc∧kd=5
 |_=>20≤c.Way.length∧kd=6∧kc=0
theorem Q0 (s:j5) (x:Sta) (c:Car) (m:Move):
  ((s8 s x c m).Kind=0∧s8 s x c m=⟨0,0⟩∧∀k<6,a5j s x.Cars c m k)∨∃i<6,(s8 s x c m).Kind≠0∧(∀k<i,a5j s x.Cars c m k)∧a9i s x.Cars c m (s8 s x c m).Kind (s8 s x c m).Car i:=by
 unfold s8
 by_cases h0:endB s c m=true
 ·exact Or.inr ⟨0,by omega,by simp[h0],fun k hk=>by omega,by simp[a9i,h0]⟩
 have p0:a5j s x.Cars c m 0:=by simpa [a5j]using h0
 rw[if_neg h0]
 by_cases h1:b6h c m=true
 ·refine Or.inr ⟨1,by omega,by simp[h1],fun k hk=>?_,by simp[a9i,h1]⟩;have:k=0:=by omega
  rw[this];exact p0
 have p1:a5j s x.Cars c m 1:=by simpa [a5j]using h1
 rw[if_neg h1]
 cases h2:a5k x.Cars c (fun o n=>G0 s m.Rail c.Profile n.Rail o.Profile)with
 |some k2=>
  refine Or.inr ⟨2,by omega,by simp,fun k hk=>?_,by simp[a9i,h2]⟩
  match k,hk with
  |0,_=>exact p0
  |1,_=>exact p1
 |none=>
 have p2:a5j s x.Cars c m 2:=h2
 cases h3:(if K0 s c m=true then((C1 x.Cars c).find? fun o=>r9 s o (D8 s c m)).map (·.Name)else none)with
 | some k3=>
  refine Or.inr ⟨3,by omega,by simp,fun k hk=>?_,?_⟩
  ·match k,hk with
   |0,_=>exact p0
   |1,_=>exact p1
   |2,_=>exact p2
  ·by_cases hb:K0 s c m=true
   ·rw[if_pos hb,Option.map_eq_some_iff]at h3;obtain⟨y,hy,hn⟩:=h3;exact⟨hb,y,hy,by simpa using hn.symm,by simp⟩
   ·rw[if_neg hb]at h3;cases h3
 |none=>
 have p3:a5j s x.Cars c m 3:=by
  intro hb;rw[if_pos hb,Option.map_eq_none_iff]at h3;exact h3
 cases h4:a5k x.Cars c (fun _ n=>G7 s m n)with
 |some k4=>
  refine Or.inr ⟨4,by omega,by simp,fun k hk=>?_,by simp[a9i,h4]⟩
  match k,hk with
  |0,_=>exact p0
  |1,_=>exact p1
  |2,_=>exact p2
  |3,_=>exact p3
 |none=>
 have p4:a5j s x.Cars c m 4:=h4
 by_cases h5:20≤c.Way.length
 ·refine Or.inr ⟨5,by omega,by simp[h5],fun k hk=>?_,by simp[a9i,h5]⟩
  match k,hk with
  |0,_=>exact p0
  |1,_=>exact p1
  |2,_=>exact p2
  |3,_=>exact p3
  |4,_=>exact p4
 refine Or.inl ⟨by simp[h5],by simp[h5],fun k hk=>?_⟩
 match k,hk with
 |0,_=>exact p0
 |1,_=>exact p1
 |2,_=>exact p2
 |3,_=>exact p3
 |4,_=>exact p4
 |5,_=>show c.Way.length<20;omega
section
variable {s:j5} {fo si up:Kvs} (hru:b2l s fo si up) (X:Value) {cs:List Car} (hcs:b6s s cs) (ps:List Int) (nx nd:n5) {c:Car} {m:Move} (hv:d8 s.Plan=true) (hw:c.Way≠[]→wayB s.Plan c.Way=true) (hm:D3 s.Plan m=true) (hl:c.Way.length≤1000)
include hru hcs hv hw hm hl
theorem a2q (nx nd:n5):c8 Tryz.prog 100 [.ptr 0 0 0,c.av,m.av] (stK X s fo si up ps.length) (stD s cs ps nx nd) (.tup [.agg (D8 s c m).cells,Bo (K0 s c m)]) (stK X s fo si up ps.length) (stD s cs ps nx (a4V nd c m)):=by
 have _:=And.intro hru (And.intro hcs hl)
 by_cases hne:c.Way=[]
 ·exact b1W X s fo si up cs ps nx nd c m hne
 ·exact S2 X s fo si up cs ps nx nd c m hv hne (hw hne) hm
theorem b1I (k:Nat) (hk:k<6) (h:a5j s cs c m k):c8 Tryz.prog (RF k) [.ptr 0 0 0,c.av,m.av] (stK X s fo si up ps.length) (stD s cs ps (nxF nx c m k) (ndF nd c m k)) (.tup []) (stK X s fo si up ps.length) (stD s cs ps (nxF nx c m (k+1)) (ndF nd c m (k+1))):=by
 match k,hk,h with
 |0,_,h=>
  by_cases hne:c.Way=[]
  ·exact c3C X s fo si up cs ps nx nd c m hne
  ·exact c2A X s fo si up cs ps nx nd c m hv hne (hw hne) hm h
 |1,_,h=>exact c4l X s fo si up cs ps _ _ c m hl h
 |2,_,h=>exact b8b hru X hcs ps _ _ c m h
 | 3,_,h=>
  have p9:=a2q hru X hcs ps hv hw hm hl (a4V nx c m) nd
  by_cases hb:K0 s c m=true
  ·have hne:c.Way≠[]:=by intro e;simp[K0,e]at hb
   have hh:∀y∈C1 cs c,r9 s y (D8 s c m)=false:=by simpa using h hb
   cases hk:a0g cs c.Name with
   |some c'=>exact b6l X hcs ps _ _ hv hne (hw hne) hm hb hk hh
   |none=>exact b5S X hcs ps _ _ hv hne (hw hne) hm hb hk hh
  ·have hb':K0 s c m=false:=by simpa using hb
   rw[hb']at p9;exact c0T X s fo si up cs ps _ _ c m p9
 |4,_,h=>exact a9Z hru X hcs ps _ _ c m h
 |5,_,h=>exact c2F X s fo si up cs ps _ _ c m h
theorem b9u (k:Nat) (hk:k<6) {kd kc:Int} (h:a9i s cs c m kd kc k):l5 Tryz.prog (RF k) [.ptr 0 0 0,c.av,m.av] (stK X s fo si up ps.length) (stD s cs ps (nxF nx c m k) (ndF nd c m k)) (b3k kd kc) (stK X s fo si up ps.length) (stD s cs ps (nxF nx c m (k+1)) (ndF nd c m (k+1))):=by
 match k,hk,h with
 |0,_,⟨g0,g1,g2⟩=>subst g1 g2;exact c3n X s fo si up cs ps nx nd c m hv hw hm g0
 |1,_,⟨g0,g1,g2⟩=>subst g1 g2;exact c2V X s fo si up cs ps _ _ c m hl g0
 |2,_,⟨g0,g1⟩=>subst g1;exact b7N hru X hcs ps _ _ c m g0
 |3,_,⟨hb,y,hy,h1,h2⟩=>
  subst h1 h2;have hne:c.Way≠[]:=by intro e;simp[K0,e]at hb
  cases hk:a0g cs c.Name with
  |some c'=>exact b4B X hcs ps _ _ hv hne (hw hne) hm hb hk hy
  |none=>exact b5L X hcs ps _ _ hv hne (hw hne) hm hb hk hy
 |4,_,⟨g0,g1⟩=>subst g1;exact a9D hru X hcs ps _ _ c m g0
 |5,_,⟨g0,g1,g2⟩=>subst g1 g2;exact c0J X s fo si up cs ps _ _ c m g0
end
end Go.Tram.Lk
end
section
namespace Go.Tram.Lk
open Go.AM Go.Proofs
theorem b5b {P:Program} {f:FuncId} {args args':List AV} {Hk Hd Hk' Hn:Hp} {res:AV} (h:c8 P f args' Hk Hd res Hk' Hn) (hl:args.length=args'.length)
  (hr:∀(i:Nat) c c',args[i]?=some c→args'[i]?=some c'→c=c'∨(c.noRef 2=true∧∀(w:World) (S:Nat→Prop) (y:Value),q9 w S c y→q9 w S c' y)):c8 P f args Hk Hd res Hk' Hn:=by
 obtain⟨h1,h2,h3⟩:=h;refine⟨h1,h2,fun S0 w ρ vs hh hlen hrep=>h3 S0 w ρ vs hh (by rw[←hl];exact hlen) fun i c x hc hx=>?_⟩;have hil:i<args.length:=by rw[hl];exact(List.getElem?_eq_some_iff.1 hc).1
 have h0:=List.getElem?_eq_getElem hil
 rcases hr i _ c h0 hc with e|⟨e1,e2⟩
 ·rw[←e];exact hrep i _ x h0 hx
 ·exact .pure _ _ (e2 _ _ _ (A9 2 _ _ e1 (hrep i _ x h0 hx)))
def E5:j5:=⟨j8,[⟨100,0⟩],[]⟩
theorem b0N:P7 E5=true:=by
 have hv:=b1y;unfold P7;rw[show E5.Plan=j8 from rfl,hv]
 decide+kernel
abbrev b4D:AV:= .agg [.lst 5 (j8.Nodes.map Node.cells), .lst 5 (j8.Rails.map Rail.cells), .full 2 [[I 100,I 0]],I8]
theorem b6I:c8 Tryz.prog 10 [b4D] [] [] (.tup [.ptr 0 0 0,I 0]) [] (b3V E5 [] [] ⟨[],z7 j8⟩):=by
 have h:=c0k E5 b0N (by decide+kernel);refine b5b h rfl fun i c c' h1 h2=>?_
 match i,h1,h2 with
 |0,h1,h2=>
  simp only[List.getElem?_cons_zero,Option.some.injEq]at h1 h2;subst h1 h2;refine Or.inr ⟨by rfl,fun w S y hy=>?_⟩;have e:wkN 1 6 b4D=E5.av:=by rfl
  rw[←e];exact a9v 1 6 _ _ hy
@[simp] theorem c7d:b3u Tryz.prog 32=true:=by kernel_rfl
@[simp] theorem c7J:b3u Tryz.prog 99=true:=by kernel_rfl
theorem O6 (x:List AV):a8 Tryz.prog 38 [.iptr [.iptr x]] (Bo true):=by
 refine oB Tryz.func38 Tryz.ntmps38 Tryz.results38 ?_;refine aW ?_;refine aW ?_;exact a7 (by simp)
end Go.Tram.Lk
end
section
namespace Go.Tram.Lk
open Go.AM Go.Proofs
theorem c0W {c:Car} (h:c.Way=[]):(c0A c).noRef 2=true∧∀(w:World) (S:Nat→Prop) (y:Value),q9 w S (c0A c) y→q9 w S c.av y:=by
 refine⟨by rfl,fun w S y hy=>?_⟩;have e:wkN 2 6 (c0A c)=c.av:=by
  obtain⟨n,p,l,f⟩:=c;simp only at h;subst h
  rfl
 rw[←e];exact a9v 2 6 _ _ hy
theorem b8Z {c:Car} {m:Move} (h:c.Way=[]):∀(i:Nat) (a a':AV),[AV.ptr 0 0 0,c0A c,m.av][i]?=some a→[AV.ptr 0 0 0,c.av,m.av][i]?=some a'→a=a'∨(a.noRef 2=true∧∀(w:World) (S:Nat→Prop) (y:Value),q9 w S a y→q9 w S a' y)
 |0,a,a',h1,h2=>Or.inl (by simp only[List.getElem?_cons_zero,Option.some.injEq]at h1 h2;rw[←h1,←h2])
 |1,a,a',h1,h2=>by
  simp only[List.getElem?_cons_succ,List.getElem?_cons_zero,Option.some.injEq]at h1 h2;subst h1 h2;exact Or.inr (c0W h)
 |2,a,a',h1,h2=>Or.inl (by simp only[List.getElem?_cons_succ,List.getElem?_cons_zero,Option.some.injEq]at h1 h2;rw[←h1,←h2])
 |n+3,a,a',h1,h2=>by simp at h1
theorem a6S {P:Program} {f:FuncId} {c:Car} {m:Move} {K D K' D':Hp} {res:AV} (h:c.Way=[]) (h1:c8 P f [.ptr 0 0 0,c.av,m.av] K D res K' D'):c8 P f [.ptr 0 0 0,c0A c,m.av] K D res K' D':=
 b5b h1 rfl (b8Z h)
theorem c0b {P:Program} {f:FuncId} {c:Car} {m:Move} {K D K' D':Hp} {pv:Value} (h:c.Way=[]) (h1:l5 P f [.ptr 0 0 0,c.av,m.av] K D pv K' D'):l5 P f [.ptr 0 0 0,c0A c,m.av] K D pv K' D':=by
 obtain⟨g1,g2,g3⟩:=h1;refine⟨g1,g2,fun S0 w ρ vs hh hlen hrep=>g3 S0 w ρ vs hh hlen fun i a' x hc hx=>?_⟩;have hil:i<[AV.ptr 0 0 0,c0A c,m.av].length:=(List.getElem?_eq_some_iff.1 hc).1;have h0:=List.getElem?_eq_getElem hil
 rcases b8Z h i _ a' h0 hc with e|⟨e1,e2⟩
 ·rw[←e];exact hrep i _ x h0 hx
 ·exact .pure _ _ (e2 _ _ _ (A9 2 _ _ e1 (hrep i _ x h0 hx)))
abbrev R8 (r:b3t):AV:= .agg [I r.Kind,I r.Car]
abbrev grR (cl:List AV) (r:b3t):Hp:=[some (.els 4 [cl]),some (.els 2 [[I r.Kind,I r.Car]])]
abbrev a5m:List AV:=[I 0,I 0,I8,I 0]
section
variable {s:j5} {fo si up:Kvs} (hru:b2l s fo si up) {cs:List Car} (hcs:b6s s cs) {ps:List Int} (nx nd:n5) {c:Car} {m:Move} (hs:P7 s=true) (hpl:ps.length=s.Plan.Nodes.length) (hw:c.Way≠[]→wayB s.Plan c.Way=true) (hm:D3 s.Plan m=true) (hl:c.Way.length≤1000)
include hru hcs hs hpl hw hm hl
theorem a4s (hne:c.Way≠[]) (hr:(s8 s ⟨cs,ps⟩ c m).Kind=0):∃nx' nd',∀X:Value,c8 Tryz.prog 51 [.ptr 0 0 0,c.av,m.av] (stK X s fo si up ps.length) (stD s cs ps nx nd) (.tup [(p7 c m).av,R8 ⟨0,0⟩]) (stK X s fo si up ps.length) (stD s cs (a3d s c m ps) nx' nd'++grR (p7 c m).cells ⟨0,0⟩):=by
 have hv:=(o7 hs).1
 rcases Q0 s ⟨cs,ps⟩ c m with⟨_,_,h⟩|⟨i,_,h,_⟩
 ·refine⟨_,_,fun X=>b2h X s fo si up cs ps nx nd c m hne hl (fun k hk=>id (b1I hru X hcs ps nx nd hv hw hm hl k hk (h k hk))) (id (a2q hru X hcs ps hv hw hm hl _ _)) fun hb=>?_⟩;have:=a3R hs hw hm hb;exact⟨this.1,by have:=this.2.1;omega⟩
 ·exact absurd hr h
theorem a4x (hne:c.Way≠[]) (hr:(s8 s ⟨cs,ps⟩ c m).Kind≠0):∃nx' nd',∀X:Value,c8 Tryz.prog 51 [.ptr 0 0 0,c.av,m.av] (stK X s fo si up ps.length) (stD s cs ps nx nd) (.tup [.agg a5m,R8 (s8 s ⟨cs,ps⟩ c m)]) (stK X s fo si up ps.length) (stD s cs ps nx' nd'++grR a5m (s8 s ⟨cs,ps⟩ c m)):=by
 have _:=hpl;have hv:=(o7 hs).1
 rcases Q0 s ⟨cs,ps⟩ c m with⟨h,_⟩|⟨i,hi,_,hp,hf⟩
 ·exact absurd h hr
 ·exact⟨_,_,fun X=>b2b X s fo si up cs ps nx nd c m hi (fun k hk=>id (b1I hru X hcs ps nx nd hv hw hm hl k (by omega) (hp k hk))) (id (b9u hru X hcs ps nx nd hv hw hm hl i hi hf))⟩
theorem a9C (hne:c.Way=[]) (hr:(s8 s ⟨cs,ps⟩ c m).Kind=0):∃nx' nd',∀X:Value,c8 Tryz.prog 51 [.ptr 0 0 0,(c0A c),m.av] (stK X s fo si up ps.length) (stD s cs ps nx nd) (.tup [(p7 c m).av,R8 ⟨0,0⟩]) (stK X s fo si up ps.length) (stD s cs (a3d s c m ps) nx' nd'++grR (p7 c m).cells ⟨0,0⟩):=by
 have hv:=(o7 hs).1
 rcases Q0 s ⟨cs,ps⟩ c m with⟨_,_,h⟩|⟨i,_,h,_⟩
 ·refine⟨_,_,fun X=>b2t X s fo si up cs ps nx nd c m hne (fun k hk=>a6S hne (b1I hru X hcs ps nx nd hv hw hm hl k hk (h k hk))) (a6S hne (a2q hru X hcs ps hv hw hm hl _ _)) fun hb=>?_⟩;have:=a3R hs hw hm hb;exact⟨this.1,by have:=this.2.1;omega⟩
 ·exact absurd hr h
theorem b0k (hne:c.Way=[]) (hr:(s8 s ⟨cs,ps⟩ c m).Kind≠0):∃nx' nd',∀X:Value,c8 Tryz.prog 51 [.ptr 0 0 0,(c0A c),m.av] (stK X s fo si up ps.length) (stD s cs ps nx nd) (.tup [.agg a5m,R8 (s8 s ⟨cs,ps⟩ c m)]) (stK X s fo si up ps.length) (stD s cs ps nx' nd'++grR a5m (s8 s ⟨cs,ps⟩ c m)):=by
 have _:=hpl;have hv:=(o7 hs).1
 rcases Q0 s ⟨cs,ps⟩ c m with⟨h,_⟩|⟨i,hi,_,hp,hf⟩
 ·exact absurd h hr
 ·exact⟨_,_,fun X=>b3g X s fo si up cs ps nx nd c m hi (fun k hk=>a6S hne (b1I hru X hcs ps nx nd hv hw hm hl k (by omega) (hp k hk))) (c0b hne (b9u hru X hcs ps nx nd hv hw hm hl i hi hf))⟩
end
end Go.Tram.Lk
end
section
namespace Go.Tram.Lk
open Go.AM Go.Proofs
abbrev lkK:Hp:=[some (.els 1 [[.ptr 1 0 0]])]
abbrev lkD (s:j5) (fo si up:Kvs) (nx nd:n5) (cs:List Car) (ps:List Int):Hp:=[some (.els 3 [[.ptr 2 0 0, .mp 3, .row 4 0 ps.length]]),ruR s fo si up 5 6,caR cs,ptR ps,nxR s nx,ndR s nd]
theorem c1v (s:j5) (nx nd:n5) (x:Sta):b3V s (nxK s nx) (ndK s nd) x=lkK++lkD s (a5x s) (W3 (B3 s)) (a0H (B3 s)) nx nd x.Cars x.Points:=rfl
section
variable (s:j5) (fo si up:Kvs) (nx nd:n5) (cs:List Car) (ps:List Int)
theorem a2i (name:Int) (hn:inr name 1 1000000=false):c8 Tryz.prog 50 [.ptr 0 0 0,I name] lkK (lkD s fo si up nx nd cs ps) (.tup [.agg a5m,I 2]) lkK (lkD s fo si up nx nd cs ps):=by
 have hw:=s7 name 1 1000000;rw[hn]at hw;refine oG [0] Tryz.func50 Tryz.ntmps50 Tryz.results50 ?_;intro J hJ;refine gW ?_;refine b9 fun K1 hK1=>?_;refine gW ?_ fun K hK=>by simp -dsimp;refine cI (O6 _) ?_;simp -dsimp;exact hK
 refine c3 rfl (fun hc0=>?_) (fun hc0=>?_)
 ·simp at hc0
 ·refine c6 ?_;refine zQ (hK1 _ _ ?_);refine gP [0,1,4] ?_;refine b9 fun K2 hK2=>?_;refine gW ?_ fun K hK=>by simp -dsimp;refine cI (hw) ?_;simp -dsimp;exact hK
  refine c3 rfl (fun hc1=>?_) (fun hc1=>?_)
  ·refine gW ?_;refine gU (T':=[(0, .ptr 0 0 0),(4, .iptr a5m),(5,I 2)]) (H':=lkK++lkD s fo si up nx nd cs ps) [some 0,some 1,some 2,some 3,some 4,some 5,some 6] ?_;exact i6 (gT [some 0,some 1,some 2,some 3,some 4,some 5,some 6])
  ·simp at hc1
theorem V1 (name:Int) (hn:inr name 1 1000000=true) (hc:a0g cs name=none):c8 Tryz.prog 50 [.ptr 0 0 0,I name] lkK (lkD s fo si up nx nd cs ps) (.tup [.agg a5m,I 4]) lkK (lkD s fo si up nx nd cs ps):=by
 have hw:=s7 name 1 1000000;rw[hn]at hw;have hcc:C2 (o4 cs) (kOf name)=none:=by rw[n6,hc];rfl
 refine oG [0] Tryz.func50 Tryz.ntmps50 Tryz.results50 ?_;intro J hJ;refine gW ?_;refine b9 fun K1 hK1=>?_;refine gW ?_ fun K hK=>by simp -dsimp;refine cI (O6 _) ?_;simp -dsimp;exact hK
 refine c3 rfl (fun hc0=>?_) (fun hc0=>?_)
 ·simp at hc0
 ·refine c6 ?_;refine zQ (hK1 _ _ ?_);refine gP [0,1,4] ?_;refine b9 fun K2 hK2=>?_;refine gW ?_ fun K hK=>by simp -dsimp;refine cI (hw) ?_;simp -dsimp;exact hK
  refine c3 rfl (fun hc1=>?_) (fun hc1=>?_)
  ·simp at hc1
  ·refine c6 ?_;refine zQ (hK2 _ _ ?_);refine gP [0,1,4] ?_;refine gW ?_ fun K hK=>by simp -dsimp;refine d7 (.tup [.agg a5m,Bo false]) (fun hm=>by rw[hcc];rfl) ?_;simp -dsimp;exact hK
   refine b9 fun K3 hK3=>?_;refine gW ?_;refine c3 rfl (fun hc2=>?_) (fun hc2=>?_)
   ·refine gW ?_;refine gU (T':=[(0, .ptr 0 0 0),(4, .iptr a5m),(5,I 4)]) (H':=lkK++lkD s fo si up nx nd cs ps) [some 0,some 1,some 2,some 3,some 4,some 5,some 6] ?_;exact i6 (gT [some 0,some 1,some 2,some 3,some 4,some 5,some 6])
   ·simp at hc2
theorem a1U (name:Int) (hn:inr name 1 1000000=true) {c:Car} (hc:a0g cs name=some c):c8 Tryz.prog 50 [.ptr 0 0 0,I name] lkK (lkD s fo si up nx nd cs ps) (.tup [c.av,I 0]) lkK (lkD s fo si up nx nd cs ps):=by
 have hw:=s7 name 1 1000000;rw[hn]at hw;have hcc:C2 (o4 cs) (kOf name)=some c.av:=by rw[n6,hc];rfl
 refine oG [0] Tryz.func50 Tryz.ntmps50 Tryz.results50 ?_;intro J hJ;refine gW ?_;refine b9 fun K1 hK1=>?_;refine gW ?_ fun K hK=>by simp -dsimp;refine cI (O6 _) ?_;simp -dsimp;exact hK
 refine c3 rfl (fun hc0=>?_) (fun hc0=>?_)
 ·simp at hc0
 ·refine c6 ?_;refine zQ (hK1 _ _ ?_);refine gP [0,1,4] ?_;refine b9 fun K2 hK2=>?_;refine gW ?_ fun K hK=>by simp -dsimp;refine cI (hw) ?_;simp -dsimp;exact hK
  refine c3 rfl (fun hc1=>?_) (fun hc1=>?_)
  ·simp at hc1
  ·refine c6 ?_;refine zQ (hK2 _ _ ?_);refine gP [0,1,4] ?_;refine gW ?_ fun K hK=>by simp -dsimp;refine d7 (.tup [c.av,Bo true]) (fun hm=>by rw[hcc];rfl) ?_;simp -dsimp;exact hK
   refine b9 fun K3 hK3=>?_;refine gW ?_;refine c3 rfl (fun hc2=>?_) (fun hc2=>?_)
   ·simp at hc2
   ·refine c6 ?_;refine zQ (hK3 _ _ ?_);refine gP [0,4,6] ?_;refine gW ?_;refine gU (T':=[(0, .ptr 0 0 0),(4, .iptr c.cells),(5,I 0)]) (H':=lkK++lkD s fo si up nx nd cs ps) [some 0,some 1,some 2,some 3,some 4,some 5,some 6] ?_;exact i6 (gT [some 0,some 1,some 2,some 3,some 4,some 5,some 6])
end
end Go.Tram.Lk
end
