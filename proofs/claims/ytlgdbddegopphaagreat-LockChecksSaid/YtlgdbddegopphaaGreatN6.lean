import Derived.Test.YtlgdbddegopphaaGreatN5
import Derived.Test.YtlgdbddegopphaaGreatLay
set_option maxRecDepth 100000
set_option maxHeartbeats 8000000
set_option linter.unusedVariables false
set_option linter.unusedSimpArgs false
section
namespace Go.Tram.Lk
open Go.AM Go.Proofs
abbrev tB:Value:= .bool true
abbrev kI (a:Int):List KC:=[.i .i64 a]
abbrev kF (a x b y:Int):List KC:=[.i .i64 a, .i .i64 x, .i .i64 b, .i .i64 y]
abbrev kM (m:Move):List KC:=[.i .i64 m.Rail, .b m.Back]
def b1t (kv:Kvs) (f:O1):Kvs:=I9 (I9 kv (kF f.RailA f.ProfileA f.RailB f.ProfileB) tB) (kF f.RailB f.ProfileB f.RailA f.ProfileA) tB
def b0L (l:List O1) (n:Nat):Kvs:=(l.take n).foldl b1t []
theorem a7L {l:List O1} {n:Nat} {f:O1} (h:l[n]?=some f):b0L l (n+1)=b1t (b0L l n) f:=by
 unfold b0L;rw[List.take_add_one,h];simp
theorem b7Z (a x b y:Int):∀(l:List O1) (kv:Kvs),o7 (l.foldl b1t kv) (kF a x b y)=if (l.any fun f=>decide (f=⟨a,x,b,y⟩)||decide (f=⟨b,y,a,x⟩))=true then some tB else o7 kv (kF a x b y)
 |[],kv=>rfl
 | f::l,kv=>by
  rw[List.foldl_cons,b7Z a x b y l,List.any_cons]
  cases h:l.any fun f=>decide (f=⟨a,x,b,y⟩)||decide (f=⟨b,y,a,x⟩)with
  |true=>simp
  | false=>
   rw[if_neg (by simp),Bool.or_false];unfold b1t;rw[D3,D3];obtain⟨c,d,e,g⟩:=f;have i1:(kF a x b y=kF e g c d)↔((⟨c,d,e,g⟩:O1)=⟨b,y,a,x⟩):=by
    constructor
    ·intro h;simp[kF]at h;obtain⟨rfl,rfl,rfl,rfl⟩:=h;rfl
    ·intro h;cases h;rfl
   have i2:(kF a x b y=kF c d e g)↔((⟨c,d,e,g⟩:O1)=⟨a,x,b,y⟩):=by
    constructor
    ·intro h;simp[kF]at h;obtain⟨rfl,rfl,rfl,rfl⟩:=h;rfl
    ·intro h;cases h;rfl
   simp only[i1,i2]
   by_cases h1:(⟨c,d,e,g⟩:O1)=⟨a,x,b,y⟩
   ·rw[decide_eq_true h1,if_pos h1,Bool.true_or,if_pos rfl];split<;>rfl
   ·rw[decide_eq_false h1,if_neg h1,Bool.false_or]
    by_cases h2:(⟨c,d,e,g⟩:O1)=⟨b,y,a,x⟩
    ·rw[decide_eq_true h2,if_pos h2,if_pos rfl]
    ·rw[decide_eq_false h2,if_neg h2,if_neg (by simp)]
def sgA (l:List (List Move)) (i:Nat):List (Nat×Move):=(List.range i).flatMap fun j=>(l[j]?.getD []).map fun m=>(j,m)
def sgK (l:List (List Move)) (i k:Nat):List (Nat×Move):=((l[i]?.getD []).take k).map fun m=>(i,m)
theorem Z1 (l:List (List Move)) (i:Nat) {x:List Move} (h:l[i]?=some x):sgA l (i+1)=sgA l i++sgK l i x.length:=by
 unfold sgA sgK;rw[List.range_succ,List.flatMap_append];simp[h]
theorem a3o (l:List (List Move)) (i k:Nat) {x:List Move} {m:Move} (h:l[i]?=some x) (hm:x[k]?=some m):sgK l i (k+1)=sgK l i k++[(i,m)]:=by
 unfold sgK;rw[h];simp[List.take_add_one,hm]
def b1h (kv:Kvs) (p:Nat×Move):Kvs:=I9 kv (kI p.2.Rail) (.int .i64 p.1)
def b5Y (kv:Kvs) (p:Nat×Move):Kvs:=I9 kv (kM p.2) tB
def U9 (ps:List (Nat×Move)):Kvs:=ps.foldl b1h []
def a0r (ps:List (Nat×Move)):Kvs:=ps.foldl b5Y []
theorem a6Z (ps:List (Nat×Move)) (p:Nat×Move):U9 (ps++[p])=I9 (U9 ps) (kI p.2.Rail) (.int .i64 p.1):=by simp[U9,b1h]
theorem a7r (ps:List (Nat×Move)) (p:Nat×Move):a0r (ps++[p])=I9 (a0r ps) (kM p.2) tB:=by simp[a0r,b5Y]
theorem a6B {r:Int}:∀(ps:List (Nat×Move)) (kv:Kvs),(∀p∈ps,p.2.Rail≠r)→o7 (ps.foldl b1h kv) (kI r)=o7 kv (kI r)
 |[],kv,_=>rfl
 |p::ps,kv,h=>by
  rw[List.foldl_cons,a6B ps _ fun q hq=>h q (by simp[hq])];unfold b1h;rw[D3,if_neg];intro e;have:=h p (by simp);simp at e;exact this e.symm
theorem a6c {p:Nat×Move}:∀(ps:List (Nat×Move)) (kv:Kvs),(ps.map (·.2.Rail)).Nodup→p∈ps→o7 (ps.foldl b1h kv) (kI p.2.Rail)=some (.int .i64 p.1)
 | q::ps,kv,hn,hp=>by
  rw[List.map_cons,List.nodup_cons]at hn;rw[List.foldl_cons]
  rcases List.mem_cons.1 hp with rfl|hp
  ·rw[a6B ps _ fun q hq e=>hn.1 (by rw[←e];exact List.mem_map_of_mem (f:=(·.2.Rail)) hq)]
   unfold b1h;rw[D3,if_pos rfl]
  ·exact a6c ps _ hn.2 hp
theorem b8c (m:Move):∀(ps:List (Nat×Move)) (kv:Kvs),o7 (ps.foldl b5Y kv) (kM m)=if (ps.map (·.2)).contains m=true then some tB else o7 kv (kM m)
 |[],kv=>by simp
 | p::ps,kv=>by
  rw[List.foldl_cons,b8c m ps,List.map_cons];unfold b5Y;rw[D3];obtain⟨j,⟨r,b⟩⟩:=p;obtain⟨r',b'⟩:=m
  by_cases h1:r'=r∧b'=b
  ·obtain⟨rfl,rfl⟩:=h1;simp
  ·have h2:¬(⟨r',b'⟩:Move)=⟨r,b⟩:=by intro e;simp at e;exact h1 e
   have h3:¬(kM ⟨r',b'⟩=kM ⟨r,b⟩):=by intro e;simp at e;exact h1 e
   rw[if_neg h3,List.contains_cons,beq_eq_false_iff_ne.2 h2,Bool.false_or]
theorem a2Z:∀(l:List (List Move)),(sgA l l.length).map (·.2)=l.flatten:=by
 intro l;unfold sgA;rw[List.map_flatMap];have:∀n,n≤l.length→(List.range n).flatMap (fun j=>((l[j]?.getD []).map fun m=>(j,m)).map (·.2))=(l.take n).flatten:=by
  intro n
  induction n with
  |zero=>intro _;rfl
  |succ n ih=>
   intro hn;rw[List.range_succ,List.flatMap_append,ih (by omega),List.take_add_one,List.flatten_append];have hnl:n<l.length:=by omega
   simp[List.getElem?_eq_getElem hnl,Function.comp_def]
 rw[this _ (Nat.le_refl _),List.take_length]
theorem a9D {l:List (List Move)} {n:Nat} {p:Nat×Move}:p∈sgA l n↔p.1<n∧∃x,l[p.1]?=some x∧p.2∈x:=by
 obtain⟨i,m⟩:=p;unfold sgA;simp only[List.mem_flatMap,List.mem_range,List.mem_map,Prod.mk.injEq];constructor
 ·rintro⟨j,hj,m',hm,rfl,rfl⟩;refine⟨hj,?_⟩
  cases h:l[j]? with
  |none=>rw[h]at hm;simp at hm
  |some x=>rw[h]at hm;exact⟨x,rfl,by simpa using hm⟩
 ·rintro⟨h1,x,hx,hm⟩;exact⟨i,h1,m,by rw[hx];exact hm,rfl,rfl⟩
theorem b7e {s:l5} (hn:(s.Singles.flatten.map (·.Rail)).Nodup) (r:Int):o7 (U9 (sgA s.Singles s.Singles.length)) (kI r)=(a4w s r).map fun(i:Nat)=>(.int .i64 i:Value):=by
 have hn2:((sgA s.Singles s.Singles.length).map (·.2.Rail)).Nodup:=by
  have:(sgA s.Singles s.Singles.length).map (·.2.Rail)=(s.Singles.flatten).map (·.Rail):=by rw[←a2Z,List.map_map];rfl
  rw[this];exact hn
 cases h:a4w s r with
 |none=>
  unfold U9;rw[a6B]
  ·rfl
  ·intro p hp e;obtain⟨_,x,hx,hm⟩:=a9D.1 hp;unfold a4w at h;rw[List.findIdx?_eq_none_iff]at h;have:=h x (List.mem_of_getElem? hx);rw[List.any_eq_false]at this;have:=this p.2 hm;simp[e]at this
 |some i=>
  unfold a4w at h;rw[List.findIdx?_eq_some_iff_getElem]at h;obtain⟨h1,h2,_⟩:=h;rw[List.any_eq_true]at h2;obtain⟨m,hm,hr⟩:=h2;have hp:(i,m)∈sgA s.Singles s.Singles.length:=a9D.2 ⟨h1,_,List.getElem?_eq_getElem h1,hm⟩;have:=a6c (p:=(i,m)) _ [] hn2 hp;simp only[decide_eq_true_eq]at hr;rw[hr]at this;exact this
theorem c3y {s:l5} (hn:(s.Singles.flatten.map (·.Rail)).Nodup):b2J s (b0L (D2 s.Plan s.Profiles) (D2 s.Plan s.Profiles).length) (U9 (sgA s.Singles s.Singles.length)) (a0r (sgA s.Singles s.Singles.length)):=by
 refine⟨fun a x b y=>?_,b7e hn,fun m _=>?_⟩
 ·unfold b0L;rw[List.take_length,b7Z];unfold P3
  split
  ·rename_i h;rw[h];rfl
  ·rename_i h;rw[Bool.not_eq_true]at h;rw[h];rfl
 ·unfold a0r;rw[b8c,a2Z]
  split
  ·rename_i h;rw[h];rfl
  ·rename_i h;rw[Bool.not_eq_true]at h;rw[h];rfl
def b1y (p:Plan) (ps:List (Nat×Move)):Prop:=(∀q∈ps,E3 p q.2=true)∧(ps.map (·.2.Rail)).Nodup
theorem S8 {p:Plan} {l:List (List Move)}:a8s p l=true↔(∀x∈l,1≤x.length∧x.length≤100)∧b1y p (sgA l l.length):=by
 unfold a8s b1y;have e1:(sgA l l.length).map (·.2.Rail)=l.flatten.map (·.Rail):=by rw[←a2Z,List.map_map];rfl
 rw[e1];simp only[Bool.and_eq_true,List.all_eq_true,decide_eq_true_eq,g8];have e2:(∀q∈sgA l l.length,E3 p q.2=true)↔∀x∈l.flatten,E3 p x=true:=by
  rw[←a2Z];simp only[List.mem_map];exact⟨fun h x ⟨q,hq,e⟩=>e▸h q hq,fun h q hq=>h _ ⟨q,hq,rfl⟩⟩
 rw[e2];constructor
 ·rintro⟨h1,h2,h3⟩;exact⟨fun x hx=>by have:=h1 x hx;omega,h2,h3⟩
 ·rintro⟨h1,h2,h3⟩;exact⟨fun x hx=>by have:=h1 x hx;omega,h2,h3⟩
theorem b8t {p:Plan} {l:List (List Move)} (h:a8s p l=true) {i k:Nat} {x:List Move} {m:Move} (hx:l[i]?=some x) (hm:x[k]?=some m):(o7 (U9 (sgA l i++sgK l i k)) (kI m.Rail)).isSome=false∧E3 p m=true:=by
 obtain⟨_,h1,h2⟩:=S8.1 h;have hi:=(List.getElem?_eq_some_iff.1 hx).1;have hp:(i,m)∈sgA l l.length:=a9D.2 ⟨hi,x,hx,List.mem_of_getElem? hm⟩;refine⟨?_,h1 _ hp⟩;unfold U9;rw[a6B]
 ·rfl
 have gen:∀n,i<n→∃rest,sgA l n=(sgA l i++sgK l i k)++(i,m)::rest:=by
  intro n
  induction n with
  |zero=>intro h;omega
  | succ n ih=>
   intro hn
   by_cases e:i=n
   ·subst e;refine⟨(x.drop (k+1)).map fun m=>(i,m),?_⟩;rw[Z1 l i hx];have:sgK l i x.length=sgK l i k++(i,m)::(x.drop (k+1)).map fun m=>(i,m):=by
     unfold sgK;rw[hx];simp only[Option.getD_some,List.take_length];have hk:=(List.getElem?_eq_some_iff.1 hm);obtain⟨hk1,hk2⟩:=hk
     conv=>lhs;rw[←List.take_append_drop k x,List.drop_eq_getElem_cons hk1,hk2]
     simp
    rw[this,List.append_assoc]
   ·obtain⟨rest,hr⟩:=ih (by omega);refine⟨rest++(l[n]?.getD []).map fun m=>(n,m),?_⟩;unfold sgA at hr ⊢;rw[List.range_succ,List.flatMap_append,hr];simp
 obtain⟨rest,hr⟩:=gen l.length hi;rw[hr,List.map_append,List.map_cons,List.nodup_append]at h2;intro q hq e;exact h2.2.2 _ (List.mem_map_of_mem (f:=(·.2.Rail)) hq) _ (by simp) e
theorem b9w {p:Plan} {ps:List (Nat×Move)} (h:b1y p ps) {i:Nat} {m:Move} (h1:(o7 (U9 ps) (kI m.Rail)).isSome=false) (h2:E3 p m=true):b1y p (ps++[(i,m)]):=by
 refine⟨fun q hq=>?_,?_⟩
 ·rcases List.mem_append.1 hq with hq|hq
  ·exact h.1 q hq
  ·simp only[List.mem_singleton]at hq;rw[hq];exact h2
 ·rw[List.map_append,List.nodup_append];refine⟨h.2,by simp,fun a ha b hb e=>?_⟩;simp only[List.map_cons,List.map_nil,List.mem_singleton]at hb;obtain⟨q,hq,rfl⟩:=List.mem_map.1 ha;rw[hb]at e;have:=a6c (p:=q) ps [] h.2 hq;unfold U9 at h1;rw[←e,this]at h1
  cases h1
abbrev KT4:List KT:=[.i .i64, .i .i64, .i .i64, .i .i64]
abbrev KTM:List KT:=[.i .i64, .b]
abbrev a1H:List KT:=[.i .i64, .b, .i .i64, .b]
abbrev a8Q (s:l5) (a b c d e:Nat):k7:= .els 9 [s.cells++[.mp a, .mp b, .mp c, .mp d, .mp e]]
abbrev a4Q (s:l5):Kvs:=b0L (D2 s.Plan s.Profiles) (D2 s.Plan s.Profiles).length
abbrev A4 (s:l5):List (Nat×Move):=sgA s.Singles s.Singles.length
abbrev b9V (s:l5):Hp:=[some (a8Q s 1 2 3 4 5),some (.map true KT4 (a4Q s)),some (.map false [.i .i64] (U9 (A4 s))),some (.map true KTM (a0r (A4 s))),some (.map true a1H []),some (.map true a1H [])]
theorem b7O {p:Plan} {l:List Profile} (hN:p.Rails.length≤20) (h:E2 l=true):(D2 p l).length≤100000:=by
 have hl:l.length≤6:=by simp only[E2,Bool.and_eq_true,decide_eq_true_eq]at h;exact h.2.1
 have h1:=b8o p l p.Rails.length;have h2:p.Rails.length*(l.length*(p.Rails.length*l.length))≤20*(6*(20*6)):=Nat.mul_le_mul hN (Nat.mul_le_mul hl (Nat.mul_le_mul hN hl));unfold D2;omega
theorem a9N (s:l5) (h:R1 s=true) (hN:s.Plan.Rails.length≤20):c6 Tryz.prog 31 [s.av] [] [] (.tup [.ptr 0 0 0,Bo true]) [] (b9V s):=by
 have h0:d7 s.Plan=true∧E2 s.Profiles=true∧s.Singles.length≤30∧a8s s.Plan s.Singles=true:=by simpa [R1]using h
 obtain⟨hv,hp,hsn,hsb⟩:=h0;have hck:=a0A s.Plan;rw[hv,if_pos rfl]at hck;have hfo:=a5f s.Plan s.Profiles hv hp hN;have hfl:=b7O hN hp;have hR:s.Plan.Rails.length≤400:=(n5 hv).2.1.2;unfold b9V a4Q;generalize D2 s.Plan s.Profiles=fl at hfo hfl;refine oG [] Tryz.func31 Tryz.ntmps31 Tryz.results31 ?_;intro J hJ;refine gW ?_;refine a7 fun K1 hK1=>?_;refine gW ?_ fun K hK=>by simp -dsimp;refine cI (hck) ?_;simp -dsimp;exact hK
 refine c3 rfl (fun hc0=>?_) (fun hc0=>?_)
 ·exfalso;simp at hc0;omega
 ·refine c5 ?_;refine zQ (hK1 _ _ ?_);refine gP [1] ?_;refine gW ?_ fun K hK=>by simp -dsimp;refine cI (hfo) ?_;simp -dsimp;exact hK
  refine a7 fun K2 hK2=>?_;refine gW ?_;refine c3 rfl (fun hc1=>?_) (fun hc1=>?_)
  ·simp at hc1
  ·refine c5 ?_;refine zQ (hK2 _ _ ?_);refine gP [1,4] ?_;refine gW ?_;refine a7 fun K3 hK3=>?_;refine gW ?_;refine c8 ?_;refine gP [1,6,43,44,45] ?_;refine i6 [1,6,43,44] (α:=Nat) (fun k=>[(45,I k)]) (fun k=>[some (.els 4 [s.cells]),some (.map true KT4 (b0L fl k)),some (.map false [.i .i64] []),some (.map true KTM []),some (.map true a1H []),some (.map true a1H []),some (a8Q s 1 2 3 4 5)]) (fun k=>k≤fl.length) (fun k=>fl.length-k) 0 ?_ ?_ ?_
   ·exact Nat.zero_le _
   ·exact gB [some 0,some 1,some 2,some 3,some 4,some 5,some 6] (hH:=by simp[b0L])
   rintro k k1;refine zN ?_;refine gW ?_;refine a7 fun K4 hK4=>?_;refine c3 rfl (fun hc2=>?_) (fun hc2=>?_)
   ·skip
    try simp at hc2
    obtain⟨f,hf⟩:=gx (l:=fl) (i:=k) (by simpa using hc2);have wk:=zW k (by omega);have hs1:=a7L hf;refine c5 ?_;refine zQ (hK4 _ _ ?_);refine gP [1,6,43,44,45] ?_;refine a7 fun K5 hK5=>?_;refine c8 ?_;refine gW ?_ fun K hK=>by simp -dsimp [hf];exact hK
    refine gD ?_;refine gE ?_;refine zQ (hK5 _ _ ?_);refine gP [1,6,43,44,45] ?_;refine gV ?_ fun K hK=>by simp -dsimp [wk];exact hK
    refine zQ ?_;exact⟨k+1,by have:=(List.getElem?_eq_some_iff.1 hf).1;omega,by have:=(List.getElem?_eq_some_iff.1 hf).1;omega,gB [some 0,some 1,some 2,some 3,some 4,some 5,some 6] (hH:=by simp[hs1,b1t])⟩
   ·skip
    try simp at hc2
    have hke:k=fl.length:=by have:¬k<fl.length:=(by simpa using hc2);omega
    subst hke;refine p7 ?_;refine zQ (hK3 _ _ ?_);refine gP [1,6] ?_;refine a7 fun K6 hK6=>?_;refine gW ?_;refine c8 ?_;refine gP [1,6,77,78,79] ?_;refine i6 [1,6,77,78] (α:=Nat) (fun i=>[(79,I i)]) (fun i=>[some (.els 4 [s.cells]),some (.map true KT4 (b0L fl fl.length)),some (.map false [.i .i64] (U9 (sgA s.Singles i))),some (.map true KTM (a0r (sgA s.Singles i))),some (.map true a1H []),some (.map true a1H []),some (a8Q s 1 2 3 4 5)]) (fun i=>i≤s.Singles.length) (fun i=>s.Singles.length-i) 0 ?_ ?_ ?_
    ·exact Nat.zero_le _
    ·exact gB [some 0,some 1,some 2,some 3,some 4,some 5,some 6] (hH:=by simp[sgA,U9,a0r])
    rintro i i1;refine zN ?_;refine gW ?_;refine a7 fun K7 hK7=>?_;refine c3 rfl (fun hc3=>?_) (fun hc3=>?_)
    ·skip
     try simp at hc3
     obtain⟨x,hx⟩:=gx (l:=s.Singles) (i:=i) (by simpa using hc3);have wi:=zW i (by omega);have hsx:=Z1 s.Singles i hx;have hxl:1≤x.length∧x.length≤100:=(S8.1 hsb).1 x (List.mem_of_getElem? hx);refine c5 ?_;refine zQ (hK7 _ _ ?_);refine gP [1,6,77,78,79] ?_;refine a7 fun K8 hK8=>?_;refine c8 ?_;refine gW ?_ fun K hK=>by simp -dsimp [hx];exact hK
     refine a7 fun K9 hK9=>?_;refine gW ?_ fun K hK=>by simp -dsimp [hx];refine cI (u0 x.length 1 100) ?_;simp -dsimp [hx];exact hK
     refine c3 rfl (fun hc4=>?_) (fun hc4=>?_)
     ·exfalso;simp[inr]at hc4;omega
     ·refine c5 ?_;refine zQ (hK9 _ _ ?_);refine gP [1,6,9,10,77,78,79] ?_;refine gW ?_;refine c8 ?_;refine gP [1,6,9,77,78,79,90,91,92] ?_;refine i6 [1,6,9,77,78,79,90,91] (α:=Nat) (fun k=>[(92,I k)]) (fun k=>[some (.els 4 [s.cells]),some (.map true KT4 (b0L fl fl.length)),some (.map false [.i .i64] (U9 (sgA s.Singles i++sgK s.Singles i k))),some (.map true KTM (a0r (sgA s.Singles i++sgK s.Singles i k))),some (.map true a1H []),some (.map true a1H []),some (a8Q s 1 2 3 4 5)]) (fun k=>k≤x.length) (fun k=>x.length-k) 0 ?_ ?_ ?_
      ·exact Nat.zero_le _
      ·exact gB [some 0,some 1,some 2,some 3,some 4,some 5,some 6] (hH:=by simp[sgK])
      rintro k k1;refine zN ?_;refine gW ?_;refine a7 fun K10 hK10=>?_;refine c3 rfl (fun hc5=>?_) (fun hc5=>?_)
      ·skip
       try simp at hc5
       obtain⟨m,hm⟩:=gx (l:=x) (i:=k) (by simpa using hc5);have wk:=zW k (by omega);have wr:IntKind.i64.wrap ((s.Plan.Rails.length:Int)-1)=(s.Plan.Rails.length:Int)-1:=c4 (by omega) (by omega);have hsk:=a3o s.Singles i k hx hm;obtain⟨hmet,hmv⟩:=b8t hsb hx hm;have hs1:=a6Z (sgA s.Singles i++sgK s.Singles i k) (i,m);have hs2:=a7r (sgA s.Singles i++sgK s.Singles i k) (i,m);rw[List.append_assoc,←hsk]at hs1 hs2;simp only at hs1 hs2;generalize U9 (sgA s.Singles i++sgK s.Singles i k)=si at hmet hs1 ⊢;generalize a0r (sgA s.Singles i++sgK s.Singles i k)=up at hs2 ⊢;have hml:inr m.Rail 0 (s.Plan.Rails.length-1)=true:=hmv;refine c5 ?_;refine zQ (hK10 _ _ ?_);refine gP [1,6,9,77,78,79,90,91,92] ?_;refine a7 fun K11 hK11=>?_;refine c8 ?_;refine gW ?_ fun K hK=>by simp -dsimp [hm];exact hK
       refine a7 fun K12 hK12=>?_;refine gD ?_ fun K hK=>by simp -dsimp;refine d6 (.tup [.v ((o7 si (kI m.Rail)).getD (.int .i64 0)),Bo false]) (fun hm=>by rw[hmet]) ?_;simp -dsimp;exact hK
       refine gW ?_ fun K hK=>by simp -dsimp [wr];refine cY (fun hm=>u0 m.Rail 0 (s.Plan.Rails.length-1)) ?_;simp -dsimp [wr];exact hK
       refine c3 rfl (fun hc6=>?_) (fun hc6=>?_)
       ·exfalso;simp[hmet,hml]at hc6
       ·refine c5 ?_;refine zQ (hK12 _ _ ?_);refine gP [1,6,9,12,77,78,79,90,91,92] ?_;refine gD ?_;refine gE ?_;refine zQ (hK11 _ _ ?_);refine gP [1,6,9,77,78,79,90,91,92] ?_;refine gV ?_ fun K hK=>by simp -dsimp [wk];exact hK
        refine zQ ?_;exact⟨k+1,by have:=(List.getElem?_eq_some_iff.1 hm).1;omega,by have:=(List.getElem?_eq_some_iff.1 hm).1;omega,gB [some 0,some 1,some 2,some 3,some 4,some 5,some 6] (hH:=by simp[hs1,hs2])⟩
      ·skip
       try simp at hc5
       have hke:k=x.length:=by have:¬k<x.length:=(by simpa using hc5);omega
       subst hke;refine p7 ?_;refine zQ (hK8 _ _ ?_);refine gP [1,6,77,78,79] ?_;refine gV ?_ fun K hK=>by simp -dsimp [wi];exact hK
       refine zQ ?_;exact⟨i+1,by have:=(List.getElem?_eq_some_iff.1 hx).1;omega,by have:=(List.getElem?_eq_some_iff.1 hx).1;omega,gB [some 0,some 1,some 2,some 3,some 4,some 5,some 6] (hH:=by simp[hsx])⟩
    ·skip
     try simp at hc3
     have hie:i=s.Singles.length:=by have:¬i<s.Singles.length:=(by simpa using hc3);omega
     subst hie;refine p7 ?_;refine zQ (hK6 _ _ ?_);refine gP [6] ?_;refine gW ?_;exact g7 (gT [some 6,some 1,some 2,some 3,some 4,some 5])
abbrev c2X:AV:= .tup [.v (.pointer none),Bo false]
theorem b0Q (s:l5) (h:d7 s.Plan=false∨30<s.Singles.length):a6 Tryz.prog 31 [s.av] c2X:=by
 have hck:=a0A s.Plan
 cases hv:d7 s.Plan with
 |false=>
  rw[hv,if_neg (by simp)]at hck;refine oB Tryz.func31 Tryz.ntmps31 Tryz.results31 ?_;refine aW ?_;refine a5 fun K1 hK1=>?_;refine aW ?_ fun K hK=>by simp -dsimp;refine cI (hck) ?_;simp -dsimp;exact hK
  refine a8 rfl (fun hc0=>?_) (fun hc0=>?_)
  ·refine aW ?_;exact a9 (by simp)
  ·simp at hc0
 |true=>
  rw[hv,if_pos rfl]at hck;have hl:30<s.Singles.length:=by simpa [hv]using h
  refine oB Tryz.func31 Tryz.ntmps31 Tryz.results31 ?_;refine aW ?_;refine a5 fun K1 hK1=>?_;refine aW ?_ fun K hK=>by simp -dsimp;refine cI (hck) ?_;simp -dsimp;exact hK
  refine a8 rfl (fun hc0=>?_) (fun hc0=>?_)
  ·refine aW ?_;exact a9 (by simp)
  ·exfalso;simp at hc0;omega
theorem b6n (s:l5) (hv:d7 s.Plan=true) (hsn:s.Singles.length≤30) (hp:E2 s.Profiles=false) (hn:s.Profiles.length≤100000):a6 Tryz.prog 31 [s.av] c2X:=by
 have hck:=a0A s.Plan;rw[hv,if_pos rfl]at hck;have hfo:=b3L s.Plan s.Profiles hv hp hn;refine oB Tryz.func31 Tryz.ntmps31 Tryz.results31 ?_;refine aW ?_;refine a5 fun K1 hK1=>?_;refine aW ?_ fun K hK=>by simp -dsimp;refine cI (hck) ?_;simp -dsimp;exact hK
 refine a8 rfl (fun hc0=>?_) (fun hc0=>?_)
 ·exfalso;simp at hc0;omega
 ·refine b8 ?_;refine zQ (hK1 _ _ ?_);refine aP [1] ?_;refine aW ?_ fun K hK=>by simp -dsimp;refine cI (hfo) ?_;simp -dsimp;exact hK
  refine a5 fun K2 hK2=>?_;refine aW ?_;refine a8 rfl (fun hc1=>?_) (fun hc1=>?_)
  ·refine aW ?_;exact a9 (by simp)
  ·simp at hc1
theorem b6z (s:l5) (hv:d7 s.Plan=true) (hsn:s.Singles.length≤30) (hp:E2 s.Profiles=true) (hsb:a8s s.Plan s.Singles=false) (hN:s.Plan.Rails.length≤20) (hm100:∀x∈s.Singles,x.length≤100000):a6 Tryz.prog 31 [s.av] c2X:=by
 have hck:=a0A s.Plan;rw[hv,if_pos rfl]at hck;have hfo:=a5f s.Plan s.Profiles hv hp hN;have hfl:=b7O hN hp;have hR:s.Plan.Rails.length≤400:=(n5 hv).2.1.2;generalize D2 s.Plan s.Profiles=fl at hfo hfl;refine oB Tryz.func31 Tryz.ntmps31 Tryz.results31 ?_;refine aW ?_;refine a5 fun K1 hK1=>?_;refine aW ?_ fun K hK=>by simp -dsimp;refine cI (hck) ?_;simp -dsimp;exact hK
 refine a8 rfl (fun hc0=>?_) (fun hc0=>?_)
 ·exfalso;simp at hc0;omega
 ·refine b8 ?_;refine zQ (hK1 _ _ ?_);refine aP [1] ?_;refine aW ?_ fun K hK=>by simp -dsimp;refine cI (hfo) ?_;simp -dsimp;exact hK
  refine a5 fun K2 hK2=>?_;refine aW ?_;refine a8 rfl (fun hc1=>?_) (fun hc1=>?_)
  ·simp at hc1
  ·refine b8 ?_;refine zQ (hK2 _ _ ?_);refine aP [1,4] ?_;refine aW ?_;refine a5 fun K3 hK3=>?_;refine aW ?_;refine b9 ?_;refine aP [1,6,43,44,45] ?_;refine c7 [1,6,43,44] (α:=Nat) (fun k=>[(45,I k)]) (fun k=>[some (.els 4 [s.cells]),some (.map true KT4 (b0L fl k)),some (.map false [.i .i64] []),some (.map true KTM []),some (.map true a1H []),some (.map true a1H []),some (a8Q s 1 2 3 4 5)]) (fun k=>k≤fl.length) (fun k=>fl.length-k) 0 ?_ ?_ ?_
   ·exact Nat.zero_le _
   ·exact d9 [some 0,some 1,some 2,some 3,some 4,some 5,some 6] rfl (by simp) (by simp[b0L])
   rintro k k1;refine zN ?_;refine aW ?_;refine a5 fun K4 hK4=>?_;refine a8 rfl (fun hc2=>?_) (fun hc2=>?_)
   ·skip
    try simp at hc2
    obtain⟨f,hf⟩:=gx (l:=fl) (i:=k) (by simpa using hc2);have wk:=zW k (by omega);have hs1:=a7L hf;refine b8 ?_;refine zQ (hK4 _ _ ?_);refine aP [1,6,43,44,45] ?_;refine a5 fun K5 hK5=>?_;refine b9 ?_;refine aW ?_ fun K hK=>by simp -dsimp [hf];exact hK
    refine aD ?_;refine aE ?_;refine zQ (hK5 _ _ ?_);refine aP [1,6,43,44,45] ?_;refine aV ?_ fun K hK=>by simp -dsimp [wk];exact hK
    refine zQ ?_;exact⟨k+1,by have:=(List.getElem?_eq_some_iff.1 hf).1;omega,by have:=(List.getElem?_eq_some_iff.1 hf).1;omega,d9 [some 0,some 1,some 2,some 3,some 4,some 5,some 6] rfl (by simp) (by simp[hs1,b1t])⟩
   ·skip
    try simp at hc2
    have hke:k=fl.length:=by have:¬k<fl.length:=(by simpa using hc2);omega
    subst hke;refine d4 ?_;refine zQ (hK3 _ _ ?_);refine aP [1,6] ?_;refine a5 fun K6 hK6=>?_;refine aW ?_;refine b9 ?_;refine aP [1,6,77,78,79] ?_;refine c7 [1,6,77,78] (α:=Nat) (fun i=>[(79,I i)]) (fun i=>[some (.els 4 [s.cells]),some (.map true KT4 (b0L fl fl.length)),some (.map false [.i .i64] (U9 (sgA s.Singles i))),some (.map true KTM (a0r (sgA s.Singles i))),some (.map true a1H []),some (.map true a1H []),some (a8Q s 1 2 3 4 5)]) (fun i=>i≤s.Singles.length∧(∀j x,j<i→s.Singles[j]?=some x→1≤x.length∧x.length≤100)∧b1y s.Plan (sgA s.Singles i)) (fun i=>s.Singles.length-i) 0 ?_ ?_ ?_
    ·exact⟨Nat.zero_le _,fun j x h=>absurd h (Nat.not_lt_zero _),by simp[b1y,sgA]⟩
    ·exact d9 [some 0,some 1,some 2,some 3,some 4,some 5,some 6] rfl (by simp) (by simp[sgA,U9,a0r])
    rintro i ⟨i1,i2,i3⟩;refine zN ?_;refine aW ?_;refine a5 fun K7 hK7=>?_;refine a8 rfl (fun hc3=>?_) (fun hc3=>?_)
    ·skip
     try simp at hc3
     obtain⟨x,hx⟩:=gx (l:=s.Singles) (i:=i) (by simpa using hc3);have wi:=zW i (by omega);have hsx:=Z1 s.Singles i hx;have hxm:=hm100 x (List.mem_of_getElem? hx);refine b8 ?_;refine zQ (hK7 _ _ ?_);refine aP [1,6,77,78,79] ?_;refine a5 fun K8 hK8=>?_;refine b9 ?_;refine aW ?_ fun K hK=>by simp -dsimp [hx];exact hK
     refine a5 fun K9 hK9=>?_;refine aW ?_ fun K hK=>by simp -dsimp [hx];refine cI (u0 x.length 1 100) ?_;simp -dsimp [hx];exact hK
     refine a8 rfl (fun hc4=>?_) (fun hc4=>?_)
     ·refine aW ?_;exact a9 (by simp)
     ·have hxl:1≤x.length∧x.length≤100:=by simp[inr]at hc4;omega
      refine b8 ?_;refine zQ (hK9 _ _ ?_);refine aP [1,6,9,10,77,78,79] ?_;refine aW ?_;refine b9 ?_;refine aP [1,6,9,77,78,79,90,91,92] ?_;refine c7 [1,6,9,77,78,79,90,91] (α:=Nat) (fun k=>[(92,I k)]) (fun k=>[some (.els 4 [s.cells]),some (.map true KT4 (b0L fl fl.length)),some (.map false [.i .i64] (U9 (sgA s.Singles i++sgK s.Singles i k))),some (.map true KTM (a0r (sgA s.Singles i++sgK s.Singles i k))),some (.map true a1H []),some (.map true a1H []),some (a8Q s 1 2 3 4 5)]) (fun k=>k≤x.length∧b1y s.Plan (sgA s.Singles i++sgK s.Singles i k)) (fun k=>x.length-k) 0 ?_ ?_ ?_
      ·exact⟨Nat.zero_le _,by simpa [sgK]using i3⟩
      ·exact d9 [some 0,some 1,some 2,some 3,some 4,some 5,some 6] rfl (by simp) (by simp[sgK])
      rintro k ⟨k1,k2⟩;refine zN ?_;refine aW ?_;refine a5 fun K10 hK10=>?_;refine a8 rfl (fun hc5=>?_) (fun hc5=>?_)
      ·skip
       try simp at hc5
       obtain⟨m,hm⟩:=gx (l:=x) (i:=k) (by simpa using hc5);have wk:=zW k (by omega);have wr:IntKind.i64.wrap ((s.Plan.Rails.length:Int)-1)=(s.Plan.Rails.length:Int)-1:=c4 (by omega) (by omega);have hsk:=a3o s.Singles i k hx hm;have hs1:=a6Z (sgA s.Singles i++sgK s.Singles i k) (i,m);have hs2:=a7r (sgA s.Singles i++sgK s.Singles i k) (i,m);have hgo:=fun h1 h2=>b9w k2 (i:=i) (m:=m) h1 h2;rw[List.append_assoc,←hsk]at hs1 hs2 hgo;simp only at hs1 hs2;generalize U9 (sgA s.Singles i++sgK s.Singles i k)=si at hgo hs1 ⊢;generalize a0r (sgA s.Singles i++sgK s.Singles i k)=up at hs2 ⊢;refine b8 ?_;refine zQ (hK10 _ _ ?_);refine aP [1,6,9,77,78,79,90,91,92] ?_;refine a5 fun K11 hK11=>?_;refine b9 ?_;refine aW ?_ fun K hK=>by simp -dsimp [hm];exact hK
       refine a5 fun K12 hK12=>?_;refine aD ?_ fun K hK=>by simp -dsimp;refine d6 (.tup [.v ((o7 si (kI m.Rail)).getD (.int .i64 0)),Bo (o7 si (kI m.Rail)).isSome]) (fun hm=>rfl) ?_;simp -dsimp;exact hK
       refine aW ?_ fun K hK=>by simp -dsimp [wr];refine cY (fun hm=>u0 m.Rail 0 (s.Plan.Rails.length-1)) ?_;simp -dsimp [wr];exact hK
       refine a8 rfl (fun hc6=>?_) (fun hc6=>?_)
       ·refine aW ?_;exact a9 (by simp)
       ·have hgo2:=hgo (by cases h9:(o7 si (kI m.Rail)).isSome<;>simp[h9]at hc6 ⊢) (by show inr m.Rail 0 (s.Plan.Rails.length-1)=true;cases h9:(o7 si (kI m.Rail)).isSome<;>simp[h9]at hc6 ⊢ <;>exact hc6);refine b8 ?_;refine zQ (hK12 _ _ ?_);refine aP [1,6,9,12,77,78,79,90,91,92] ?_;refine aD ?_;refine aE ?_;refine zQ (hK11 _ _ ?_);refine aP [1,6,9,77,78,79,90,91,92] ?_;refine aV ?_ fun K hK=>by simp -dsimp [wk];exact hK
        refine zQ ?_;exact⟨k+1,⟨by have:=(List.getElem?_eq_some_iff.1 hm).1;omega,hgo2⟩,by have:=(List.getElem?_eq_some_iff.1 hm).1;omega,d9 [some 0,some 1,some 2,some 3,some 4,some 5,some 6] rfl (by simp) (by simp[hs1,hs2])⟩
      ·skip
       try simp at hc5
       have hke:k=x.length:=by have:¬k<x.length:=(by simpa using hc5);omega
       subst hke;refine d4 ?_;refine zQ (hK8 _ _ ?_);refine aP [1,6,77,78,79] ?_;refine aV ?_ fun K hK=>by simp -dsimp [wi];exact hK
       refine zQ ?_;exact⟨i+1,⟨by have:=(List.getElem?_eq_some_iff.1 hx).1;omega,fun j y hj hy=>by rcases Nat.lt_succ_iff_lt_or_eq.1 hj with h|rfl;exact i2 j y h hy;rw[hx]at hy;cases hy;exact hxl,by rw[hsx];exact k2⟩,by have:=(List.getElem?_eq_some_iff.1 hx).1;omega,d9 [some 0,some 1,some 2,some 3,some 4,some 5,some 6] rfl (by simp) (by simp[hsx])⟩
    ·skip
     try simp at hc3
     have hie:i=s.Singles.length:=by have:¬i<s.Singles.length:=(by simpa using hc3);omega
     subst hie;exfalso;have:=S8.2 ⟨fun x hx=>by obtain⟨j,hj⟩:=List.getElem?_of_mem hx;exact i2 j x (List.getElem?_eq_some_iff.1 hj).1 hj,i3⟩;rw[hsb]at this;cases this
theorem c_open_f (s:l5) (h:R1 s=false) (hN:s.Plan.Rails.length≤20) (hp:s.Profiles.length≤100000) (hm:∀x∈s.Singles,x.length≤100000):a6 Tryz.prog 31 [s.av] c2X:=by
 cases hv:d7 s.Plan with
 |false=>exact b0Q s (Or.inl hv)
 | true=>
  by_cases hs:s.Singles.length≤30
  ·cases hpf:E2 s.Profiles with
   |false=>exact b6n s hv hs hpf hp
   |true=>
    refine b6z s hv hs hpf ?_ hN hm;simpa [R1,hv,hpf,hs]using h
  ·exact b0Q s (Or.inr (by omega))
end Go.Tram.Lk
end
section
namespace Go.Tram.Lk
open Go.AM
abbrev kOf (n:Int):List KC:=[.i .i64 n]
def n7 (l:List Car):List (List KC×AV):=l.map fun c=>(kOf c.Name,c.av)
abbrev a8a (l:List Car):k7:= .mpa false [.i .i64] (n7 l)
def b2d (l:List Car) (n:Int):List Car:=l.filter fun c=>decide (c.Name≠n)
theorem k8:∀(l:List Car) (n:Int),A9 (n7 l) (kOf n)=(Y6 l n).map Car.av
 |[],n=>rfl
 |c::l,n=>by
  have ih:=k8 l n;unfold n7 at ih ⊢;unfold Y6 at ih ⊢;rw[List.map_cons,A9,List.find?_cons]
  by_cases h:c.Name=n
  ·rw[if_pos (by rw[h]),decide_eq_true h];rfl
  ·rw[if_neg (by intro e;simp at e;exact h e.symm),decide_eq_false h];exact ih
theorem a1P (l:List Car):(n7 l).map (·.1)=l.map fun c=>kOf c.Name:=by
 simp[n7,List.map_map]
theorem srt_nodup {l:List Car} (h:Srt l):(l.map (·.Name)).Nodup:=by
 unfold Srt at h;exact h.imp (fun h=>by omega)
theorem a5o {l:List Car} (h:Srt l):((n7 l).map (·.1)).Nodup:=by
 rw[a1P];have:=srt_nodup h;unfold List.Nodup at this ⊢;rw[List.pairwise_map]at this ⊢;exact this.imp fun h e=>h (by simpa [kOf]using e)
theorem U3 {c:Car} {l:List Car}:Srt (c::l)↔(∀x∈l,c.Name<x.Name)∧Srt l:=by
 unfold Srt;rw[List.map_cons,List.pairwise_cons];simp
theorem a4k (c:Car) (l:List Car) (n:Int):b2d (c::l) n=if c.Name=n then b2d l n else c::b2d l n:=by
 unfold b2d;rw[List.filter_cons]
 by_cases h:c.Name=n<;>simp[h]
theorem Y2 {l:List Car} {n:Int} (h:∀x∈l,x.Name≠n):b2d l n=l:=by
 unfold b2d;rw[List.filter_eq_self];intro a ha;simpa using h a ha
theorem a4R:∀(l:List Car) (n:Int),O2 (n7 l) (kOf n)=n7 (b2d l n)
 |[],n=>rfl
 |c::l,n=>by
  have ih:=a4R l n;unfold O2 n7 at ih ⊢;rw[List.map_cons,List.filter_cons,a4k]
  by_cases h:c.Name=n
  ·rw[if_pos h,if_neg (by simp[h])];exact ih
  ·rw[if_neg h,if_pos (by simp;exact h),List.map_cons,ih]
theorem W3:∀{l:List Car} (c:Car),Srt l→(B4 l c).Perm (c::b2d l c.Name)
 |[],c,_=>by simp[B4,b2d]
 | x ::l,c,h=>by
  obtain⟨h1,h2⟩:=U3.1 h;have ih:=W3 c h2;unfold B4 at ih ⊢;rw[a4k];rw[List.takeWhile_cons,List.dropWhile_cons]
  by_cases hx:x.Name<c.Name
  ·rw[if_pos (by simpa using hx),if_pos (by simpa using Int.le_of_lt hx),if_neg (by omega),List.cons_append];exact(ih.cons x).trans (List.Perm.swap _ _ _)
  ·rw[if_neg (by simpa using hx),List.nil_append]
   by_cases he:x.Name=c.Name
   ·rw[if_pos (by simp;omega),if_pos he];have e1:l.dropWhile (fun x=>decide (x.Name≤c.Name))=l:=by
     cases l with
     |nil=>rfl
     |cons y l=>rw[List.dropWhile_cons,if_neg];have:=h1 y (by simp);simp;omega
    rw[e1,Y2 fun y hy=>by have:=h1 y hy;omega]
   ·rw[if_neg (by simp;omega),if_neg he,Y2 fun y hy=>by have:=h1 y hy;omega]
theorem Z6 {l:List Car} (c:Car) (h:Srt l):(O0 (n7 l) (kOf c.Name) c.av).Perm (n7 (B4 l c)):=by
 refine(Z4 _ _ _ (a5o h)).trans ?_;rw[a4R];have:=(W3 c h).symm.map (fun c:Car=>(kOf c.Name,c.av));simpa [n7]using this
theorem b7t {l:List Car} {n:Int} {x:Car}:x∈b2d l n↔x∈l∧x.Name≠n:=by
 unfold b2d;rw[List.mem_filter];simp
theorem y9 {l:List Car} (h:Srt l) {c x:Car}:x∈B4 l c↔x=c∨(x∈l∧x.Name≠c.Name):=by
 rw[(W3 c h).mem_iff,List.mem_cons,b7t]
theorem O7:∀{l:List Car} (c:Car),Srt l→Srt (B4 l c)
 |[],c,_=>by simp[B4,Srt]
 | x ::l,c,h=>by
  obtain⟨h1,h2⟩:=U3.1 h;have ih:=O7 c h2;have hm:=fun y=>y9 (x:=y) (c:=c) h2;unfold B4 at ih hm ⊢;rw[List.takeWhile_cons,List.dropWhile_cons]
  by_cases hx:x.Name<c.Name
  ·rw[if_pos (by simpa using hx),if_pos (by simpa using Int.le_of_lt hx),List.cons_append];refine U3.2 ⟨fun y hy=>?_,ih⟩
   rcases(hm y).1 hy with rfl|⟨h3,_⟩
   ·exact hx
   ·exact h1 y h3
  ·rw[if_neg (by simpa using hx),List.nil_append]
   by_cases he:x.Name=c.Name
   ·rw[if_pos (by simp;omega)];have e1:l.dropWhile (fun x=>decide (x.Name≤c.Name))=l:=by
     cases l with
     |nil=>rfl
     |cons y l=>rw[List.dropWhile_cons,if_neg];have:=h1 y (by simp);simp;omega
    rw[e1];exact U3.2 ⟨fun y hy=>by have:=h1 y hy;omega,h2⟩
   ·rw[if_neg (by simp;omega)];refine U3.2 ⟨fun y hy=>?_,h⟩
    rcases List.mem_cons.1 hy with rfl|hy
    ·omega
    ·have:=h1 y hy;omega
theorem T5 {l:List Car} {n:Int} {c:Car} (h:Y6 l n=some c):c∈l∧c.Name=n:=by
 unfold Y6 at h;exact⟨List.mem_of_find?_eq_some h,by simpa using List.find?_some h⟩
theorem b4X {l:List Car} (h:Srt l) {x y:Car} (hx:x∈l) (hy:y∈l) (e:x.Name=y.Name):x=y:=by
 induction l with
 |nil=>cases hx
 |cons z l ih=>
  obtain⟨h1,h2⟩:=U3.1 h
  rcases List.mem_cons.1 hx with e1|hx'<;>rcases List.mem_cons.1 hy with e2|hy'
  ·rw[e1,e2]
  ·have:=h1 y hy';rw[e1]at e;omega
  ·have:=h1 x hx';rw[e2]at e;omega
  ·exact ih h2 hx' hy'
theorem F5 {l:List Car} (h:Srt l) {c:Car} (hc:c∈l):Y6 l c.Name=some c:=by
 unfold Y6
 cases e:l.find? fun x=>decide (x.Name=c.Name)with
 |none=>have:=List.find?_eq_none.1 e c hc;simp at this
 |some y=>
  have:=T5 (n:=c.Name) (l:=l) (c:=y) e;rw[b4X h this.1 hc this.2]
theorem a3X {l:List Car} {n:Int}:Y6 l n=none↔∀x∈l,x.Name≠n:=by
 unfold Y6;rw[List.find?_eq_none];simp
theorem Z8 {l:List Car} (h:Srt l) {ss:List Int} (hp:ss.Perm (l.map (·.Name))):ss.mergeSort (fun x y=>decide (x≤y))=l.map (·.Name):=by
 have h1:(ss.mergeSort (fun x y=>decide (x≤y))).Pairwise (fun x y:Int=>decide (x≤y)=true):=List.pairwise_mergeSort (fun a b c=>by simp;omega) (fun a b=>by simp;omega) ss;have h2:(l.map (·.Name)).Pairwise (fun x y:Int=>decide (x≤y)=true):=by
  unfold Srt at h;exact h.imp fun h=>by simp;omega
 refine List.Perm.eq_of_pairwise (le:=fun x y:Int=>decide (x≤y)=true) (fun a b _ _ h1 h2=>by simp at h1 h2;omega) h1 h2 ((List.mergeSort_perm ss _).trans hp)
end Go.Tram.Lk
end
section
namespace Go.Tram.Lk
open Go.AM
theorem b8n {p:Plan} (hv:d7 p=true) {m k:Move} (hm:E3 p m=true) (hk:E3 p k=true) (hf:H4 p m k=true) (hs:a0B p m=true):
  0≤(V7 p m k).Node∧(V7 p m k).Node<p.Nodes.length∧(p.node (V7 p m k).Node).Kind=4∧((V7 p m k).Leg=1∨(V7 p m k).Leg=2):=by
 rw[b9G hv hm hk]at hf;obtain⟨i,hi,h1,h2,h3,a,b,ha,hb,hl⟩:=b5v hv hm hf;have e:V7 p m k=⟨(i:Int),b2l a b⟩:=by unfold V7;rw[h1,a5U hv hi ha,a5U hv hi hb]
 have hkd:(p.node i).Kind=4:=by
  unfold a0B at hs;rw[h3]at hs;simpa using hs
 have hnf:=a3K hv (i:=i) (by omega) (by omega);have he:((p.node i).Ends.length:Int)=3:=by
  simp only[B5,Bool.and_eq_true,decide_eq_true_eq]at hnf;have:=hnf.2.2.2;rw[hkd]at this;simpa [P6]using this
 have ha2:=(List.getElem?_eq_some_iff.1 ha).1;have hb2:=(List.getElem?_eq_some_iff.1 hb).1;rw[b7o,hkd]at hl;simp only[c2J]at hl;rw[if_neg (by omega),if_neg (by omega),if_neg (by omega),if_pos trivial]at hl;simp only[Bool.and_eq_true,Bool.or_eq_true,decide_eq_true_eq]at hl;rw[e];refine⟨by simp,by simpa using hi,hkd,?_⟩;simp only[b2l]
 split<;>omega
theorem b5F {p:Plan} {l:List Move} (hw:wayB p l=true) {m:Move} (hm:E3 p m=true) (hf:H4 p (l.getLast?.getD default) m=true) (hn:l.length≤1999):wayB p (l++[m])=true:=by
 have hl:=I5 hw;unfold wayB at hw ⊢;rw[Bool.and_eq_true]at hw ⊢;refine⟨?_,g8.2 (by simp;omega)⟩;rw[List.length_append,List.length_singleton,a8m,Bool.and_eq_true];constructor
 ·refine List.all_eq_true.2 fun i hi=>?_;have h1:=List.mem_range.1 hi;have h2:=a1I hw.1 h1;unfold a2q at h2 ⊢;rw[List.getElem?_append_left h1,List.getElem?_append_left (by omega)];exact h2
 ·unfold a2q;rw[List.getElem?_append_right (Nat.le_refl _),List.getElem?_append_left (by omega)];simp only[Nat.sub_self,List.getElem?_cons_zero,Option.getD_some,Bool.and_eq_true,Bool.or_eq_true];refine⟨hm,Or.inr ?_⟩;rw[←List.getLast?_eq_getElem?];exact hf
theorem b8S {p:Plan} {m:Move} (hm:E3 p m=true):wayB p [m]=true:=by
 unfold wayB a2q;simp[hm,inr]
theorem a3P {l k:List Move} {i:Nat} (h:i<l.length):V0 (l++k) i=V0 l i:=by
 unfold V0;rw[List.getElem?_append_left h]
theorem b6J {p:Plan} {l:List Move} (hw:wayB p l=true) {n:Nat} (h1:1≤n):wayB p (l.take n)=true:=by
 have hl:=I5 hw;unfold wayB at hw ⊢;rw[Bool.and_eq_true]at hw ⊢;refine⟨List.all_eq_true.2 fun i hi=>?_,g8.2 (by simp;omega)⟩;have h2:=List.mem_range.1 hi;rw[List.length_take]at h2;have h3:=a1I hw.1 (show i<l.length by omega);unfold a2q at h3 ⊢;rw[List.getElem?_take,List.getElem?_take,if_pos (by omega),if_pos (by omega)];exact h3
theorem b5K {p:Plan} {l:List Move} (hw:wayB p l=true) {n:Nat} (h1:n<l.length):wayB p (l.drop n)=true:=by
 have hl:=I5 hw;unfold wayB at hw ⊢;rw[Bool.and_eq_true]at hw ⊢;refine⟨List.all_eq_true.2 fun i hi=>?_,g8.2 (by simp;omega)⟩;have h2:=List.mem_range.1 hi;rw[List.length_drop]at h2;have h3:=a1I hw.1 (show n+i<l.length by omega);unfold a2q at h3 ⊢;rw[List.getElem?_drop,List.getElem?_drop];rw[Bool.and_eq_true,Bool.or_eq_true]at h3 ⊢;refine⟨h3.1,?_⟩
 by_cases h0:i=0
 ·exact Or.inl (by simp[h0])
 ·rcases h3.2 with h|h
  ·simp at h;omega
  ·rw[show n+i-1=n+(i-1)by omega]at h;exact Or.inr h
theorem b4k (p:Plan) (l k:List Move) {n:Nat} (h:n<l.length∨n=0):a0Y p (l++k) n=a0Y p l n:=by
 unfold a0Y;rw[List.flatMap_def,List.flatMap_def]
 congr 1
 refine List.map_congr_left fun i hi=>?_;have:=List.mem_range.1 hi;unfold a0Z;rw[a3P (by omega),a3P (by omega)]
theorem b8Q (p:Plan) {l:List Move} (hne:l≠[]) (m:Move):a0Y p (l++[m]) ((l++[m]).length-1)=a0Y p l (l.length-1)++if a0B p (l.getLast?.getD default)then [V7 p (l.getLast?.getD default) m]else []:=by
 have h1:1≤l.length:=by cases l with|nil=>exact absurd rfl hne|cons a l=>simp
 have e:(l++[m]).length-1=l.length-1+1:=by simp;omega
 rw[e,a4g,b4k p l [m] (by omega)]
 congr 1
 unfold a0Z;rw[a3P (by omega)];have e1:V0 l (l.length-1)=l.getLast?.getD default:=by unfold V0;rw[List.getLast?_eq_getElem?]
 have e2:V0 (l++[m]) (l.length-1+1)=m:=by
  unfold V0;rw[List.getElem?_append_right (by omega)];simp[show l.length-1+1-l.length=0 by omega]
 rw[e1,e2]
theorem b4C {p:Plan} {l:List Move} {n:Nat} {y:Y7}:y∈a0Y p l n↔∃i,i<n∧a0B p (V0 l i)=true∧y=V7 p (V0 l i) (V0 l (i+1)):=by
 unfold a0Y;rw[List.mem_flatMap];constructor
 ·rintro⟨i,hi,hy⟩;unfold a0Z at hy
  split at hy
  ·rename_i h;exact⟨i,List.mem_range.1 hi,h,by simpa using hy⟩
  ·cases hy
 ·rintro⟨i,hi,h,rfl⟩;exact⟨i,List.mem_range.2 hi,by unfold a0Z;rw[if_pos h];simp⟩
def ptB (n:Node) (v:Int):Bool:=if n.Kind=4 then inr v 1 2 else decide (v=0)
def b4S (p:Plan) (l:List Int):Bool:=decide (l.length=p.Nodes.length)&&(List.range l.length).all fun i=>ptB (p.node i) (l[i]?.getD 0)
structure a2X (s:l5) (x:Sta):Prop where
 srt:Srt x.Cars
 car:∀c∈x.Cars,a8p s c=true
 pts:b4S s.Plan x.Points=true
 held:∀c∈x.Cars,∀y∈a0k s c,x.Points[y.Node.toNat]?=some y.Leg
 apart:∀a∈x.Cars,∀b∈x.Cars,a.Name≠b.Name→a5B s a b=true
theorem r5 {s:l5} (h:R1 s=true):d7 s.Plan=true∧E2 s.Profiles=true∧s.Singles.length≤30∧a8s s.Plan s.Singles=true:=by
 simpa [R1]using h
theorem o6 {s:l5} {c:Car} (h:a8p s c=true):(1≤c.Name∧c.Name≤1000000)∧(0≤c.Profile∧c.Profile≤(s.Profiles.length:Int)-1)∧(1≤c.Way.length∧c.Way.length≤20∧(E4 c.Way).Nodup∧wayB s.Plan c.Way=true)∧0≤c.Front∧c.Front≤(c.Way.length:Int)-1:=by
 simp only[a8p,b0J,Bool.and_eq_true,decide_eq_true_eq,g8]at h;exact⟨h.1,h.2.1,h.2.2.1,h.2.2.2⟩
theorem a0z {s:l5} {c:Car} (h:wayB s.Plan c.Way=true):a0k s c=a0Y s.Plan c.Way (c.Way.length-1):=by
 unfold a0k;rw[if_pos h]
theorem c1I {s:l5} (hs:R1 s=true) {l:List Move} (hw:wayB s.Plan l=true) {y:Y7} (hy:y∈a0Y s.Plan l (l.length-1)):
  0≤y.Node∧y.Node<s.Plan.Nodes.length∧(s.Plan.node y.Node).Kind=4∧(y.Leg=1∨y.Leg=2):=by
 obtain⟨hv,_⟩:=r5 hs;obtain⟨i,hi,h1,rfl⟩:=b4C.1 hy;exact b8n hv (R8 hw i (by omega)) (R8 hw (i+1) (by omega)) (b7E hw (by omega)) h1
theorem a3J {s:l5} (hs:R1 s=true) {c:Car} {m:Move} (hw:c.Way≠[]→wayB s.Plan c.Way=true) (hm:E3 s.Plan m=true) (h:I7 s c m=true):
  0≤(D1 s c m).Node∧(D1 s c m).Node<s.Plan.Nodes.length∧(s.Plan.node (D1 s c m).Node).Kind=4∧((D1 s c m).Leg=1∨(D1 s c m).Leg=2):=by
 obtain⟨hv,_⟩:=r5 hs;have h0:=h;simp only[I7,Bool.and_eq_true,decide_eq_true_eq]at h;have hwy:=hw h.1;have hl:=I5 hwy;unfold D1;rw[if_pos h0];refine b8n hv ?_ hm h.2.1 h.2.2;have:=R8 hwy (c.Way.length-1) (by omega);unfold V0 at this;unfold B7;rw[List.getLast?_eq_getElem?];exact this
end Go.Tram.Lk
end
section
namespace Go.Tram.Lk
open Go.AM
theorem b4D (s:l5) (a x b y:Int):P3 s a x b y=P3 s b y a x:=by
 unfold P3
 congr 1
 funext f
 exact Bool.or_comm _ _
theorem b4P (s:l5) (m n:Move):V9 s m n=V9 s n m:=by
 unfold V9;rw[Bool.eq_iff_iff];simp only[Bool.and_eq_true,decide_eq_true_eq];constructor<;>rintro⟨h1,h2,h3⟩<;>exact⟨by omega,by omega,fun e=>h3 e.symm⟩
theorem a1o {s:l5} {a b:Car}:a5B s a b=true↔∀m∈a.Way,∀n∈b.Way,P3 s m.Rail a.Profile n.Rail b.Profile=false∧V9 s m n=false:=by
 simp[a5B,List.all_eq_true]
theorem b2D {s:l5} {a b:Car} (h:a5B s a b=true):a5B s b a=true:=by
 rw[a1o]at h ⊢;intro m hm n hn;rw[b4D,b4P];exact h n hn m hm
theorem a1c {l:List Car} {c:Car} {f:Car→Move→Bool}:a4C l c f=none↔∀x∈l,x.Name≠c.Name→∀n∈x.Way,f x n=false:=by
 unfold a4C;rw[Option.map_eq_none_iff,List.find?_eq_none];constructor
 ·intro h x hx hne n hn;have:=h x hx;simp only[Bool.and_eq_true,decide_eq_true_eq,List.any_eq_true,not_and,not_exists]at this;have:=this hne n hn;simpa using this
 ·intro h x hx;simp only[Bool.and_eq_true,decide_eq_true_eq,List.any_eq_true,not_and,not_exists];intro hne n hn;rw[h x hx hne n hn];simp
structure c3T (s:l5) (x:Sta) (c:Car) (m:Move):Prop where
 ends:endB s c m=false
 own:b3o c m=false
 foul:∀o∈x.Cars,o.Name≠c.Name→∀n∈o.Way,P3 s m.Rail c.Profile n.Rail o.Profile=false
 set:I7 s c m=true→∀o∈B4 x.Cars c,r6 s o (D1 s c m)=false
 side:∀o∈x.Cars,o.Name≠c.Name→∀n∈o.Way,V9 s m n=false
 long:c.Way.length<20
theorem a3G {s:l5} {x:Sta} {c:Car} {m:Move} (h:(r7 s x c m).Kind=0):c3T s x c m:=by
 unfold r7 at h
 split at h
 ·simp at h
 rename_i h1
 split at h
 ·simp at h
 rename_i h2
 split at h
 ·simp at h
 rename_i h3
 split at h
 ·simp at h
 rename_i h4
 split at h
 ·simp at h
 rename_i h5
 split at h
 ·simp at h
 rename_i h6;refine⟨by simpa using h1,by simpa using h2,a1c.1 h3,fun hs o ho=>?_,a1c.1 h5,by omega⟩;rw[if_pos hs,Option.map_eq_none_iff,List.find?_eq_none]at h4;simpa using h4 o ho
structure a3D (s:l5) (x:Sta) (c:Car):Prop where
 way:c.Way≠[]→wayB s.Plan c.Way=true
 nod:(E4 c.Way).Nodup
 len:c.Way.length≤20
 held:∀y∈a0k s c,x.Points[y.Node.toNat]?=some y.Leg
 apart:∀o∈x.Cars,o.Name≠c.Name→a5B s c o=true
theorem a2X.carOk {s:l5} {x:Sta} (h:a2X s x) {c:Car} (hc:c∈x.Cars):a3D s x c:=by
 obtain⟨_,_,⟨h1,h2,h3,h4⟩,_⟩:=o6 (h.car c hc);exact⟨fun _=>h4,h3,h2,h.held c hc,fun o ho hne=>h.apart c hc o ho (fun e=>hne e.symm)⟩
theorem b5s (s:l5) (x:Sta) (n p f:Int):a3D s x ⟨n,p,[],f⟩:=by
 refine⟨fun h=>absurd rfl h,by simp[E4],by simp,fun y hy=>?_,fun o ho hne=>by rw[a1o];intro m hm;cases hm⟩;unfold a0k at hy;simp[wayB,inr]at hy
theorem b8D {p:Plan} {l:List Int} (h:b4S p l=true) {i:Nat} (hi:i<p.Nodes.length) (hk:(p.node i).Kind=4) {v:Int} (hv:v=1∨v=2):b4S p (l.set i v)=true:=by
 simp only[b4S,Bool.and_eq_true,decide_eq_true_eq,List.all_eq_true,List.mem_range,List.length_set]at h ⊢;refine⟨h.1,fun j hj=>?_⟩;have:=h.2 j hj;rw[List.getElem?_set]
 split
 ·rename_i e;subst e;rw[if_pos (by omega)];unfold ptB;rw[if_pos hk];exact g8.2 (by simp;omega)
 ·exact this
theorem b9a {s:l5} (hs:R1 s=true) {x:Sta} {c:Car} {m:Move} (hc:a3D s x c) (hm:E3 s.Plan m=true) (h:b4S s.Plan x.Points=true):b4S s.Plan (a2U s c m x.Points)=true:=by
 unfold a2U
 split
 ·rename_i hg;obtain⟨h1,h2,h3,h4⟩:=a3J hs hc.way hm hg;refine b8D h (by omega) ?_ h4;rw[Int.toNat_of_nonneg h1];exact h3
 ·exact h
theorem b1d {s:l5} (hs:R1 s=true) {x:Sta} {c o:Car} {m:Move} (hc:a3D s x c) (hm:E3 s.Plan m=true) (hp:b4S s.Plan x.Points=true) (hw:o.Way≠[]→wayB s.Plan o.Way=true) (hh:∀y∈a0k s o,x.Points[y.Node.toNat]?=some y.Leg)
  (hf:I7 s c m=true→r6 s o (D1 s c m)=false):∀y∈a0k s o,(a2U s c m x.Points)[y.Node.toNat]?=some y.Leg:=by
 intro y hy;have h0:=hh y hy;unfold a2U
 split
 ·rename_i hg;have h1:=hf hg;obtain⟨g1,g2,_,_⟩:=a3J hs hc.way hm hg;unfold r6 at h1;rw[List.any_eq_false]at h1;have h2:=h1 y hy;simp only[Bool.and_eq_true,decide_eq_true_eq,not_and,Decidable.not_not]at h2;rw[List.getElem?_set]
  split
  ·rename_i e;have hne:o.Way≠[]:=by
    intro e;unfold a0k at hy;rw[e]at hy;simp[wayB,inr]at hy
   have hwy:=hw hne;rw[a0z hwy]at hy;obtain⟨k1,k2,_⟩:=c1I hs hwy hy;have e2:y.Node=(D1 s c m).Node:=by omega
   simp only[b4S,Bool.and_eq_true,decide_eq_true_eq]at hp;rw[if_pos (by omega),h2 e2]
  ·exact h0
 ·exact h0
theorem Q0 {l:List Car} (h:Srt l) {c:Car}:c∈B4 l c:=(y9 h).2 (Or.inl rfl)
theorem b0l {s:l5} (hs:R1 s=true) {x:Sta} {c:Car} {m:Move} (hx:a2X s x) (hc:a3D s x c) (hsame:∀o∈x.Cars,o.Name=c.Name→o=c) (hm:E3 s.Plan m=true) (hf:c3T s x c m):
  a2X s {x with Points:=a2U s c m x.Points}∧a3D s {x with Points:=a2U s c m x.Points} (o9 c m):=by
 obtain⟨hv,_⟩:=r5 hs;have hins:∀o∈x.Cars,o∈B4 x.Cars c:=by
  intro o ho
  by_cases e:o.Name=c.Name
  ·rw[hsame o ho e];exact Q0 hx.srt
  ·exact(y9 hx.srt).2 (Or.inr ⟨ho,e⟩)
 have hwl:c.Way≠[]→H4 s.Plan (B7 c) m=true:=by
  intro hne;have:=hf.ends;simp only[endB,Bool.and_eq_false_iff,decide_eq_false_iff_not,Bool.not_eq_false']at this
  rcases this with h|h
  ·exact absurd hne h
  ·exact h
 have hway:wayB s.Plan (c.Way++[m])=true:=by
  by_cases hne:c.Way=[]
  ·rw[hne];exact b8S hm
  ·exact b5F (hc.way hne) hm (hwl hne) (by have:=hc.len;omega)
 refine⟨⟨hx.srt,hx.car,b9a hs hc hm hx.pts,fun o ho=>?_,hx.apart⟩,fun _=>hway,?_,?_,?_,fun o ho hne=>?_⟩
 ·have hcb:=o6 (hx.car o ho);exact b1d hs hc hm hx.pts (fun _=>hcb.2.2.1.2.2.2) (hx.held o ho) fun hg=>hf.set hg o (hins o ho)
 ·have h1:=hf.own;show(E4 (c.Way++[m])).Nodup;unfold E4 at h1 ⊢;rw[List.map_append,List.nodup_append];refine⟨hc.nod,by simp,fun a ha b hb=>?_⟩;simp only[List.map_cons,List.map_nil,List.mem_singleton]at hb;subst hb;rintro rfl;unfold b3o E4 at h1;rw[List.contains_eq_mem,decide_eq_false_iff_not]at h1;exact h1 ha
 ·show(c.Way++[m]).length≤20;have:=hf.long;simp;omega
 ·intro y hy;have hy2:y∈a0Y s.Plan (c.Way++[m]) ((c.Way++[m]).length-1):=by
   have:a0k s (o9 c m)=a0Y s.Plan (c.Way++[m]) ((c.Way++[m]).length-1):=a0z hway;rw[←this];exact hy
  by_cases hne:c.Way=[]
  ·rw[hne]at hy2;simp at hy2
  rw[b8Q _ hne,List.mem_append]at hy2
  rcases hy2 with h|h
  ·have hwy:=hc.way hne;refine b1d hs hc hm hx.pts hc.way hc.held (fun hg=>hf.set hg c (Q0 hx.srt)) y ?_;rw[a0z hwy];exact h
  ·split at h
   ·rename_i p6;simp only[List.mem_singleton]at h;have hg:I7 s c m=true:=by
     simp only[I7,Bool.and_eq_true,decide_eq_true_eq];exact⟨hne,hwl hne,p6⟩
    obtain⟨g1,g2,_⟩:=a3J hs hc.way hm hg;have e:y=D1 s c m:=by unfold D1;rw[if_pos hg,h];rfl
    have hp:=hx.pts;simp only[b4S,Bool.and_eq_true,decide_eq_true_eq]at hp;show(a2U s c m x.Points)[y.Node.toNat]?=some y.Leg;unfold a2U;rw[if_pos hg,e,List.getElem?_set_self (by omega)]
   ·cases h
 ·have ha:=hc.apart o ho hne;rw[a1o]at ha ⊢;intro a hal n hn
  rcases List.mem_append.1 hal with h|h
  ·exact ha a h n hn
  ·simp only[List.mem_singleton]at h;subst h;exact⟨hf.foul o ho hne n hn,hf.side o ho hne n hn⟩
theorem b3M {s:l5} {x:Sta} {c:Car} (hx:a2X s x) (hc:a3D s x c) (hb:a8p s c=true):a2X s {x with Cars:=B4 x.Cars c}:=by
 refine⟨O7 c hx.srt,fun o ho=>?_,hx.pts,fun o ho=>?_,fun a ha b hb2 hne=>?_⟩
 ·rcases(y9 hx.srt).1 ho with rfl|⟨h,_⟩
  ·exact hb
  ·exact hx.car o h
 ·rcases(y9 hx.srt).1 ho with rfl|⟨h,_⟩
  ·exact hc.held
  ·exact hx.held o h
 ·rcases(y9 hx.srt).1 ha with rfl|⟨h,k⟩<;>rcases(y9 hx.srt).1 hb2 with rfl|⟨h2,k2⟩
  ·exact absurd rfl hne
  ·exact hc.apart b h2 k2
  ·exact b2D (hc.apart a h k)
  ·exact hx.apart a h b h2 hne
theorem b2G {s:l5} (hs:R1 s=true) {x:Sta} {c:Car} (hc:a3D s x c) {way:List Move} {f:Int} (hw:way≠[]→wayB s.Plan way=true) (hsub:way.Sublist c.Way) (hl:∀y∈a0Y s.Plan way (way.length-1),y∈a0Y s.Plan c.Way (c.Way.length-1)):a3D s x {c with Way:=way,Front:=f}:=by
 refine⟨hw,?_,Nat.le_trans hsub.length_le hc.len,?_,fun o ho hne=>?_⟩
 ·exact hc.nod.sublist (hsub.map _)
 ·intro y hy
  by_cases hne:way=[]
  ·unfold a0k at hy;rw[hne]at hy;simp[wayB,inr]at hy
  have e:a0k s {c with Way:=way,Front:=f}=a0Y s.Plan way (way.length-1):=a0z (c:={c with Way:=way,Front:=f}) (hw hne);rw[e]at hy;have hcne:c.Way≠[]:=by rintro e;rw[e]at hsub;exact hne (List.sublist_nil.1 hsub)
  refine hc.held y ?_;rw[a0z (hc.way hcne)];exact hl y hy
 ·have:=hc.apart o ho hne;rw[a1o]at this ⊢;exact fun m hm=>this m (hsub.subset hm)
theorem b9g {p:Plan} {l:List Move} {n:Nat} {y:Y7} (h:y∈a0Y p (l.drop n) ((l.drop n).length-1)):y∈a0Y p l (l.length-1):=by
 obtain⟨i,hi,h1,h2⟩:=b4C.1 h;rw[List.length_drop]at hi;have e:∀j,V0 (l.drop n) j=V0 l (n+j):=by
  intro j;unfold V0;rw[List.getElem?_drop]
 rw[e]at h1 h2;rw[e]at h2;exact b4C.2 ⟨n+i,by omega,h1,by rw[h2,Nat.add_assoc]⟩
end Go.Tram.Lk
end
section
namespace Go.Tram.Lk
open Go.AM Go.Proofs
theorem a7R {P : Program} {f : FuncId} {fn : Func} {c : Code} {x : AV} {rest : List AV} {res : AV} (hf : P.funcs[f]? = some fn) (hb : fn.body = some c) (hname : (fn.name == "runtime.NumGoroutine") = false)
  (h:∀(w:World) (S:Nat→Prop) (y:Value),p9 w S x y→∃x',p9 w S x' y∧a6 P f (x'::rest) res):a6 P f (x::rest) res:=by
 have hn' : ¬ fn.name = "runtime.NumGoroutine" := by simpa using hname
 have hcf:∀(w:World) (vs:Array Value),(callFunc f vs).run P w= .ok (.enter f vs) w:=fun w vs=>by simp[callFunc,hf,hn',hb]
 refine Or.inl ⟨hcf,?_⟩;intro S0 w vs hlow hl hrep
 match vs,hl with
 | y::vs,hl=>
  obtain⟨x',hx',hp⟩:=h w S0 y (hrep 0 x y rfl rfl);have hrep':∀(i:Nat) c z,(x'::rest)[i]?=some c→(y::vs)[i]?=some z→p9 w S0 c z:=by
   intro i c z h1 h2
   cases i with
   |zero=>simp only[List.getElem?_cons_zero,Option.some.injEq]at h1 h2;subst h1 h2;exact hx'
   |succ i=>exact hrep (i+1) c z (by simpa using h1) h2
  rcases hp with⟨_,h2⟩|h2
  ·exact h2 S0 w (y::vs) hlow (by simpa using hl) hrep'
  ·obtain⟨v,h3,_⟩:=h2 S0 w (y::vs) (by simpa using hl) hrep';rw[hcf]at h3;cases h3
theorem c2i (op:BinOp) (t:TypeId) (x y:Operand) (a b:Option Addr) (n c m d:Nat) (w:World):(eqGuard op t x y (.slice a n c) (.slice b m d)).run Tryz.prog w= .ok () w:=by
 cases op<;>simp[eqGuard]
theorem c1o (t e:TypeId) (hu:(Tryz.prog).underlying t=some (.slice e)) (a:Option Addr) (n c:Nat) (w:World):(binOp .eql t (.slice a n c) (.slice none 0 0)).run Tryz.prog w= .ok (.bool a.isNone) w:=by
 have hq:(Op.equal t (.slice a n c) (.slice none 0 0)).run Tryz.prog w= .ok a.isNone w:=by
  show(Op.equalIn (Op.maxDepth-1+1) t _ _).run _ w=_
  cases a<;>simp[Op.equalIn,run_underlying hu]
 simp[binOp,hq]
theorem c1Y {w:World} {S:Nat→Prop} {sz:Nat} {y:Value} (h:p9 w S (.lst sz []) y):∃a cap,y= .slice a 0 cap:=by
 cases h with
 |lst _ _ b off cap=>exact⟨_,cap,rfl⟩
 |lstNil _ a cap=>exact⟨a,cap,rfl⟩
theorem c2j {w:World} {S:Nat→Prop} {sz:Nat} {y:Value} (h:p9 w S (.v (.slice none 0 0)) y):p9 w S (.lst sz []) y:=by
 cases h;exact .lstNil _ _ _
theorem b3k {w:World} {S:Nat→Prop} {sz:Nat} {y:Value} (h:p9 w S (.full sz []) y):p9 w S (.lst sz []) y:=by
 cases h;exact .lstNil _ _ _
@[simp] theorem slM:L9 Tryz.prog 49=true:=by kernel_rfl
@[simp] theorem c6q:L9 Tryz.prog 26=true:=by kernel_rfl
@[simp] theorem c6k:L9 Tryz.prog 27=true:=by kernel_rfl
@[simp] theorem c5T:L9 Tryz.prog 22=true:=by kernel_rfl
@[simp] theorem c6h:L9 Tryz.prog 23=true:=by kernel_rfl
@[simp] theorem c6H:L9 Tryz.prog 78=true:=by kernel_rfl
@[simp] theorem c6u:L9 Tryz.prog 81=true:=by kernel_rfl
@[simp] theorem c6L:L9 Tryz.prog 41=true:=by kernel_rfl
theorem usM:(Tryz.prog).underlying 49=some (.slice 56):=by kernel_rfl
theorem c5Q:(Tryz.prog).underlying 26=some (.slice 108):=by kernel_rfl
theorem c5C:(Tryz.prog).underlying 27=some (.slice 85):=by kernel_rfl
theorem c5R:(Tryz.prog).underlying 78=some (.slice 161):=by kernel_rfl
theorem c4X:(Tryz.prog).underlying 81=some (.slice 76):=by kernel_rfl
theorem c3I (l:List Move) (hn:l.length≤1000):a6 Tryz.prog 40 [.lst 2 (l.map Move.cells)] (.lst 2 (l.map Move.cells)):=by
 by_cases hne:l=[]
 ·subst hne;refine a7R Tryz.func40 rfl (by decide) fun w S y hy=>?_;obtain⟨a,cap,rfl⟩:=c1Y hy;refine⟨.v (.slice a 0 cap), .v _,?_⟩
  cases a with
  |none=>
   refine a6.res (res:= .v (.slice none 0 0)) ?_ fun w S y=>c2j;refine oB Tryz.func40 Tryz.ntmps40 Tryz.results40 ?_;refine aW ?_;refine a5 fun K1 hK1=>?_;refine aW ?_;refine a8 rfl (fun hc0=>?_) (fun hc0=>?_)
   ·refine aW ?_;exact a9 (by simp)
   ·simp at hc0
  |some a=>
   refine a6.res (res:= .full 2 []) ?_ fun w S y=>b3k;refine oB Tryz.func40 Tryz.ntmps40 Tryz.results40 ?_;refine aW ?_;refine a5 fun K1 hK1=>?_;refine aW ?_ fun K hK=>by simp -dsimp;refine⟨fun w=>c2i _ _ _ _ _ _ _ _ _ _ w,_,fun w=>c1o _ _ usM _ _ _ w,?_⟩;simp -dsimp;exact hK
   refine a8 rfl (fun hc0=>?_) (fun hc0=>?_)
   ·simp at hc0
   ·refine b8 ?_;refine zQ (hK1 _ _ ?_);refine aP [0] ?_;refine aW ?_;exact a9 (by simp)
 ·have f1:P4 l.length 17:=l9 (by omega) (by omega);refine oB Tryz.func40 Tryz.ntmps40 Tryz.results40 ?_;refine aW ?_;refine a5 fun K1 hK1=>?_;refine aW ?_ fun K hK=>by simp -dsimp [hne];exact hK
  refine a8 rfl (fun hc0=>?_) (fun hc0=>?_)
  ·simp at hc0
  ·refine b8 ?_;refine zQ (hK1 _ _ ?_);refine aP [0] ?_;refine aW ?_ fun K hK=>by simp -dsimp [hne,f1];exact hK
   have htk:List.take l.length (l.map Move.cells)=l.map Move.cells:=List.take_of_length_le (by simp);have hfz:∀H n,List.map ((fun e=>List.map (I6 H (n+1)) e)∘Move.cells) l=l.map Move.cells:=fun H n=>List.map_congr_left fun x _=>by simp[I6]
   exact a9 (by simp[htk,hfz])
theorem b7Q (l:List Profile) (hn:l.length≤1000):a6 Tryz.prog 69 [.lst 2 (l.map Profile.cells)] (.lst 2 (l.map Profile.cells)):=by
 by_cases hne:l=[]
 ·subst hne;refine a7R Tryz.func69 rfl (by decide) fun w S y hy=>?_;obtain⟨a,cap,rfl⟩:=c1Y hy;refine⟨.v (.slice a 0 cap), .v _,?_⟩
  cases a with
  |none=>
   refine a6.res (res:= .v (.slice none 0 0)) ?_ fun w S y=>c2j;refine oB Tryz.func69 Tryz.ntmps69 Tryz.results69 ?_;refine aW ?_;refine a5 fun K1 hK1=>?_;refine aW ?_;refine a8 rfl (fun hc0=>?_) (fun hc0=>?_)
   ·refine aW ?_;exact a9 (by simp)
   ·simp at hc0
  |some a=>
   refine a6.res (res:= .full 2 []) ?_ fun w S y=>b3k;refine oB Tryz.func69 Tryz.ntmps69 Tryz.results69 ?_;refine aW ?_;refine a5 fun K1 hK1=>?_;refine aW ?_ fun K hK=>by simp -dsimp;refine⟨fun w=>c2i _ _ _ _ _ _ _ _ _ _ w,_,fun w=>c1o _ _ c5Q _ _ _ w,?_⟩;simp -dsimp;exact hK
   refine a8 rfl (fun hc0=>?_) (fun hc0=>?_)
   ·simp at hc0
   ·refine b8 ?_;refine zQ (hK1 _ _ ?_);refine aP [0] ?_;refine aW ?_;exact a9 (by simp)
 ·have f1:P4 l.length 17:=l9 (by omega) (by omega);refine oB Tryz.func69 Tryz.ntmps69 Tryz.results69 ?_;refine aW ?_;refine a5 fun K1 hK1=>?_;refine aW ?_ fun K hK=>by simp -dsimp [hne];exact hK
  refine a8 rfl (fun hc0=>?_) (fun hc0=>?_)
  ·simp at hc0
  ·refine b8 ?_;refine zQ (hK1 _ _ ?_);refine aP [0] ?_;refine aW ?_ fun K hK=>by simp -dsimp [hne,f1];exact hK
   have htk:List.take l.length (l.map Profile.cells)=l.map Profile.cells:=List.take_of_length_le (by simp);have hfz:∀H n,List.map ((fun e=>List.map (I6 H (n+1)) e)∘Profile.cells) l=l.map Profile.cells:=fun H n=>List.map_congr_left fun x _=>by simp[I6]
   exact a9 (by simp[htk,hfz])
theorem c1w (l:List (List Move)) (hn:l.length≤1000):a6 Tryz.prog 70 [.lst 1 (l.map p8)] (.lst 1 (l.map p8)):=by
 by_cases hne:l=[]
 ·subst hne;refine a7R Tryz.func70 rfl (by decide) fun w S y hy=>?_;obtain⟨a,cap,rfl⟩:=c1Y hy;refine⟨.v (.slice a 0 cap), .v _,?_⟩
  cases a with
  |none=>
   refine a6.res (res:= .v (.slice none 0 0)) ?_ fun w S y=>c2j;refine oB Tryz.func70 Tryz.ntmps70 Tryz.results70 ?_;refine aW ?_;refine a5 fun K1 hK1=>?_;refine aW ?_;refine a8 rfl (fun hc0=>?_) (fun hc0=>?_)
   ·refine aW ?_;exact a9 (by simp)
   ·simp at hc0
  |some a=>
   refine a6.res (res:= .full 1 []) ?_ fun w S y=>b3k;refine oB Tryz.func70 Tryz.ntmps70 Tryz.results70 ?_;refine aW ?_;refine a5 fun K1 hK1=>?_;refine aW ?_ fun K hK=>by simp -dsimp;refine⟨fun w=>c2i _ _ _ _ _ _ _ _ _ _ w,_,fun w=>c1o _ _ c5C _ _ _ w,?_⟩;simp -dsimp;exact hK
   refine a8 rfl (fun hc0=>?_) (fun hc0=>?_)
   ·simp at hc0
   ·refine b8 ?_;refine zQ (hK1 _ _ ?_);refine aP [0] ?_;refine aW ?_;exact a9 (by simp)
 ·have f1:P4 l.length 25:=l9 (by omega) (by omega);refine oB Tryz.func70 Tryz.ntmps70 Tryz.results70 ?_;refine aW ?_;refine a5 fun K1 hK1=>?_;refine aW ?_ fun K hK=>by simp -dsimp [hne];exact hK
  refine a8 rfl (fun hc0=>?_) (fun hc0=>?_)
  ·simp at hc0
  ·refine b8 ?_;refine zQ (hK1 _ _ ?_);refine aP [0] ?_;refine aW ?_ fun K hK=>by simp -dsimp [hne,f1];exact hK
   have htk:List.take l.length (l.map p8)=l.map p8:=List.take_of_length_le (by simp);have hfz:∀H n,List.map ((fun e=>List.map (I6 H (n+1)) e)∘p8) l=l.map p8:=fun H n=>List.map_congr_left fun x _=>by simp[I6]
   exact a9 (by simp[htk,hfz])
theorem b8s (l:List D7) (hn:l.length≤1000):a6 Tryz.prog 73 [.lst 2 (l.map D7.cells)] (.lst 2 (l.map D7.cells)):=by
 by_cases hne:l=[]
 ·subst hne;refine a7R Tryz.func73 rfl (by decide) fun w S y hy=>?_;obtain⟨a,cap,rfl⟩:=c1Y hy;refine⟨.v (.slice a 0 cap), .v _,?_⟩
  cases a with
  |none=>
   refine a6.res (res:= .v (.slice none 0 0)) ?_ fun w S y=>c2j;refine oB Tryz.func73 Tryz.ntmps73 Tryz.results73 ?_;refine aW ?_;refine a5 fun K1 hK1=>?_;refine aW ?_;refine a8 rfl (fun hc0=>?_) (fun hc0=>?_)
   ·refine aW ?_;exact a9 (by simp)
   ·simp at hc0
  |some a=>
   refine a6.res (res:= .full 2 []) ?_ fun w S y=>b3k;refine oB Tryz.func73 Tryz.ntmps73 Tryz.results73 ?_;refine aW ?_;refine a5 fun K1 hK1=>?_;refine aW ?_ fun K hK=>by simp -dsimp;refine⟨fun w=>c2i _ _ _ _ _ _ _ _ _ _ w,_,fun w=>c1o _ _ c5R _ _ _ w,?_⟩;simp -dsimp;exact hK
   refine a8 rfl (fun hc0=>?_) (fun hc0=>?_)
   ·simp at hc0
   ·refine b8 ?_;refine zQ (hK1 _ _ ?_);refine aP [0] ?_;refine aW ?_;exact a9 (by simp)
 ·have f1:P4 l.length 17:=l9 (by omega) (by omega);refine oB Tryz.func73 Tryz.ntmps73 Tryz.results73 ?_;refine aW ?_;refine a5 fun K1 hK1=>?_;refine aW ?_ fun K hK=>by simp -dsimp [hne];exact hK
  refine a8 rfl (fun hc0=>?_) (fun hc0=>?_)
  ·simp at hc0
  ·refine b8 ?_;refine zQ (hK1 _ _ ?_);refine aP [0] ?_;refine aW ?_ fun K hK=>by simp -dsimp [hne,f1];exact hK
   have htk:List.take l.length (l.map D7.cells)=l.map D7.cells:=List.take_of_length_le (by simp);have hfz:∀H n,List.map ((fun e=>List.map (I6 H (n+1)) e)∘D7.cells) l=l.map D7.cells:=fun H n=>List.map_congr_left fun x _=>by simp[I6]
   exact a9 (by simp[htk,hfz])
theorem b8w (l:List Spot) (hn:l.length≤1000):a6 Tryz.prog 74 [.lst 2 (l.map Spot.cells)] (.lst 2 (l.map Spot.cells)):=by
 by_cases hne:l=[]
 ·subst hne;refine a7R Tryz.func74 rfl (by decide) fun w S y hy=>?_;obtain⟨a,cap,rfl⟩:=c1Y hy;refine⟨.v (.slice a 0 cap), .v _,?_⟩
  cases a with
  |none=>
   refine a6.res (res:= .v (.slice none 0 0)) ?_ fun w S y=>c2j;refine oB Tryz.func74 Tryz.ntmps74 Tryz.results74 ?_;refine aW ?_;refine a5 fun K1 hK1=>?_;refine aW ?_;refine a8 rfl (fun hc0=>?_) (fun hc0=>?_)
   ·refine aW ?_;exact a9 (by simp)
   ·simp at hc0
  |some a=>
   refine a6.res (res:= .full 2 []) ?_ fun w S y=>b3k;refine oB Tryz.func74 Tryz.ntmps74 Tryz.results74 ?_;refine aW ?_;refine a5 fun K1 hK1=>?_;refine aW ?_ fun K hK=>by simp -dsimp;refine⟨fun w=>c2i _ _ _ _ _ _ _ _ _ _ w,_,fun w=>c1o _ _ c4X _ _ _ w,?_⟩;simp -dsimp;exact hK
   refine a8 rfl (fun hc0=>?_) (fun hc0=>?_)
   ·simp at hc0
   ·refine b8 ?_;refine zQ (hK1 _ _ ?_);refine aP [0] ?_;refine aW ?_;exact a9 (by simp)
 ·have f1:P4 l.length 17:=l9 (by omega) (by omega);refine oB Tryz.func74 Tryz.ntmps74 Tryz.results74 ?_;refine aW ?_;refine a5 fun K1 hK1=>?_;refine aW ?_ fun K hK=>by simp -dsimp [hne];exact hK
  refine a8 rfl (fun hc0=>?_) (fun hc0=>?_)
  ·simp at hc0
  ·refine b8 ?_;refine zQ (hK1 _ _ ?_);refine aP [0] ?_;refine aW ?_ fun K hK=>by simp -dsimp [hne,f1];exact hK
   have htk:List.take l.length (l.map Spot.cells)=l.map Spot.cells:=List.take_of_length_le (by simp);have hfz:∀H n,List.map ((fun e=>List.map (I6 H (n+1)) e)∘Spot.cells) l=l.map Spot.cells:=fun H n=>List.map_congr_left fun x _=>by simp[I6]
   exact a9 (by simp[htk,hfz])
theorem c2A (l:List (List Move)) (hne:l≠[]) (hn:l.length≤1000):F4 Tryz.prog 70 [.lst 1 (l.map p8)] 0 l.length 1 (l.map p8):=by
 have f1:P4 l.length 25:=l9 (by omega) (by omega);refine F4.of_body Tryz.func70 rfl (by decide) (by simp[Tryz.ntmps70]) (by simp) (by simpa using hne) ?_;simp only[Tryz.ntmps70,Tryz.results70];refine aW ?_;refine a5 fun K1 hK1=>?_;refine aW ?_ fun K hK=>by simp -dsimp [hne];exact hK
 refine a8 rfl (fun hc0=>?_) (fun hc0=>?_)
 ·simp at hc0
 ·refine b8 ?_;refine zQ (hK1 _ _ ?_);refine aP [0] ?_;refine aW ?_ fun K hK=>by simp -dsimp [hne,f1];exact hK
  exact a9 ⟨2,0,rfl,by simp,by simp⟩
theorem b7T (l:List Node) (hne:l≠[]) (hn:l.length≤1000):F4 Tryz.prog 71 [.lst 5 (l.map Node.cells)] 0 l.length 5 (l.map Node.cells):=by
 have f1:P4 l.length 57:=l9 (by omega) (by omega);refine F4.of_body Tryz.func71 rfl (by decide) (by simp[Tryz.ntmps71]) (by simp) (by simpa using hne) ?_;simp only[Tryz.ntmps71,Tryz.results71];refine aW ?_;refine a5 fun K1 hK1=>?_;refine aW ?_ fun K hK=>by simp -dsimp [hne];exact hK
 refine a8 rfl (fun hc0=>?_) (fun hc0=>?_)
 ·simp at hc0
 ·refine b8 ?_;refine zQ (hK1 _ _ ?_);refine aP [0] ?_;refine aW ?_ fun K hK=>by simp -dsimp [hne,f1];exact hK
  exact a9 ⟨2,0,rfl,by simp,by simp⟩
theorem b8p (l:List Rail) (hne:l≠[]) (hn:l.length≤1000):F4 Tryz.prog 72 [.lst 5 (l.map Rail.cells)] 0 l.length 5 (l.map Rail.cells):=by
 have f1:P4 l.length 57:=l9 (by omega) (by omega);refine F4.of_body Tryz.func72 rfl (by decide) (by simp[Tryz.ntmps72]) (by simp) (by simpa using hne) ?_;simp only[Tryz.ntmps72,Tryz.results72];refine aW ?_;refine a5 fun K1 hK1=>?_;refine aW ?_ fun K hK=>by simp -dsimp [hne];exact hK
 refine a8 rfl (fun hc0=>?_) (fun hc0=>?_)
 ·simp at hc0
 ·refine b8 ?_;refine zQ (hK1 _ _ ?_);refine aP [0] ?_;refine aW ?_ fun K hK=>by simp -dsimp [hne,f1];exact hK
  exact a9 ⟨2,0,rfl,by simp,by simp⟩
end Go.Tram.Lk
end
section
namespace Go.Tram.Lk
open Go.AM Go.Proofs
theorem a0W {α β:Type} {f:α→β} {l:List α} {i:Nat} {x:α} (h:l[i]?=some x):(l.map f).set i (f x)=l.map f:=by
 apply List.ext_getElem?;intro j;rw[List.getElem?_set,List.getElem?_map]
 split
 ·rename_i e;subst e;rw[h,List.length_map,if_pos (List.getElem?_eq_some_iff.1 h).1];rfl
 ·rfl
abbrev H7:AV:= .v (.slice none 0 0)
abbrev ndL (p:Plan):AV:= .lst 5 (p.Nodes.map Node.cells)
abbrev rlL (p:Plan):AV:= .lst 5 (p.Rails.map Rail.cells)
abbrev pfL (l:List Profile):AV:= .lst 2 (l.map Profile.cells)
abbrev c0o (l:List (List Move)):AV:= .lst 1 (l.map p8)
theorem b5J (s:l5) (hs:R1 s=true) (hne:s.Singles≠[]):a6 Tryz.prog 32 [s.av] s.av:=by
 obtain⟨hv,hp,hsn,hsb⟩:=r5 hs;have hvp:=n5 hv;have hNl:s.Plan.Nodes.length≤300:=hvp.1.2;have hRl:s.Plan.Rails.length≤400:=hvp.2.1.2;have hN1:s.Plan.Nodes≠[]:=by intro e;have:=hvp.1.1;rw[e]at this;simp at this
 have hR1:s.Plan.Rails≠[]:=by intro e;have:=hvp.2.1.1;rw[e]at this;simp at this
 have hpl:s.Profiles.length≤6:=by simp only[E2,Bool.and_eq_true,decide_eq_true_eq]at hp;exact hp.2.1
 have hcp:=b7Q s.Profiles (by omega);refine oB Tryz.func32 Tryz.ntmps32 Tryz.results32 ?_;refine aW ?_;refine aW ?_ fun K hK=>by simp -dsimp;refine cI (hcp) ?_;simp -dsimp;exact hK
 refine aW ?_ fun K hK=>by simp -dsimp;refine Q8 (c2A s.Singles hne (by omega)) ?_;simp -dsimp;exact hK
 refine a5 fun K1 hK1=>?_;refine aW ?_;refine b9 ?_;refine aP [1,2,18,19,20] ?_;refine c7 [1,2,18,19] (α:=Nat) (fun i=>[(20,I i)]) (fun i=>[some (.els 4 [[ndL s.Plan,rlL s.Plan,pfL s.Profiles, .row 2 0 s.Singles.length]]),some (.els 4 [[H7,H7,H7,H7]]),some (.els 1 (s.Singles.map p8))]) (fun i=>i≤s.Singles.length) (fun i=>s.Singles.length-i) 0 ?_ ?_ ?_
 ·exact Nat.zero_le _
 ·exact aB [some 0,some 1,some 2]
 rintro i i1;refine zN ?_;refine aW ?_;refine a5 fun K2 hK2=>?_;refine a8 rfl (fun hc0=>?_) (fun hc0=>?_)
 ·skip
  try simp at hc0
  obtain⟨x,hx⟩:=gx (l:=s.Singles) (i:=i) (by simpa using hc0);have wi:=zW i (by omega);have hxl:=(S8.1 hsb).1 x (List.mem_of_getElem? hx);have hcm:=c3I x (by omega);have p6:=a0W (f:=p8) hx;obtain⟨hil,hxe⟩:=List.getElem?_eq_some_iff.1 hx;refine b8 ?_;refine zQ (hK2 _ _ ?_);refine aP [1,2,18,19,20] ?_;refine a5 fun K3 hK3=>?_;refine b9 ?_;refine aW ?_ fun K hK=>by simp -dsimp [hx,hil,hxe];exact hK
  refine aE ?_ fun K hK=>by simp -dsimp [hx,hil,hxe];refine cI (hcm) ?_;simp -dsimp [hx,hil,hxe];exact hK
  refine zQ (hK3 _ _ ?_);refine aP [1,2,18,19,20] ?_;refine aV ?_ fun K hK=>by simp -dsimp [wi];exact hK
  refine zQ ?_;exact⟨i+1,by omega,by omega,d9 [some 0,some 1,some 2] rfl (by simp) (by simp at p6;simp[p6])⟩
 ·skip
  try simp at hc0
  have hie:i=s.Singles.length:=by have:¬i<s.Singles.length:=(by simpa using hc0);omega
  subst hie;refine d4 ?_;refine zQ (hK1 _ _ ?_);refine aP [1,2] ?_;refine aD ?_ fun K hK=>by simp -dsimp;refine Q8 (b7T s.Plan.Nodes hN1 (by omega)) ?_;simp -dsimp;refine Q8 (b8p s.Plan.Rails hR1 (by omega)) ?_;simp -dsimp;exact hK
  refine a5 fun K4 hK4=>?_;refine aW ?_;refine b9 ?_;refine aP [1,2,48,49,50] ?_;refine c7 [1,2,48,49] (α:=Nat) (fun i=>[(50,I i)]) (fun i=>[some (.els 4 [[.row 3 0 s.Plan.Nodes.length, .row (3+1) 0 s.Plan.Rails.length,pfL s.Profiles, .row 2 0 s.Singles.length]]),some (.els 4 [[H7,H7,H7,H7]]),some (.els 1 (s.Singles.map p8)),some (.els 5 (s.Plan.Nodes.map Node.cells)),some (.els 5 (s.Plan.Rails.map Rail.cells))]) (fun i=>i≤s.Plan.Nodes.length) (fun i=>s.Plan.Nodes.length-i) 0 ?_ ?_ ?_
  ·exact Nat.zero_le _
  ·exact aB [some 0,some 1,some 2,some 3,some 4]
  rintro i i1;refine zN ?_;refine aW ?_;refine a5 fun K5 hK5=>?_;refine a8 rfl (fun hc1=>?_) (fun hc1=>?_)
  ·skip
   try simp at hc1
   obtain⟨n,hn⟩:=gx (l:=s.Plan.Nodes) (i:=i) (by simpa using hc1);have wi:=zW i (by omega);obtain⟨hil,hxe⟩:=List.getElem?_eq_some_iff.1 hn;have hnk:=(a1s (List.all_eq_true.1 hvp.2.2.1 n (List.mem_of_getElem? hn))).2.1;have hce:=b8s n.Ends (by omega);have p6:=a0W (f:=Node.cells) hn;refine b8 ?_;refine zQ (hK5 _ _ ?_);refine aP [1,2,48,49,50] ?_;refine a5 fun K6 hK6=>?_;refine b9 ?_;refine aW ?_ fun K hK=>by simp -dsimp [hn,hil,hxe];exact hK
   refine aE ?_ fun K hK=>by simp -dsimp [hn,hil,hxe];refine cI (hce) ?_;simp -dsimp [hn,hil,hxe];exact hK
   refine zQ (hK6 _ _ ?_);refine aP [1,2,48,49,50] ?_;refine aV ?_ fun K hK=>by simp -dsimp [wi];exact hK
   refine zQ ?_;exact⟨i+1,by omega,by omega,d9 [some 0,some 1,some 2,some 3,some 4] rfl (by simp) (by simp at p6;simp[p6])⟩
  ·skip
   try simp at hc1
   have hie:i=s.Plan.Nodes.length:=by have:¬i<s.Plan.Nodes.length:=(by simpa using hc1);omega
   subst hie;refine d4 ?_;refine zQ (hK4 _ _ ?_);refine aP [1,2] ?_;refine a5 fun K7 hK7=>?_;refine aW ?_;refine b9 ?_;refine aP [1,2,67,68,69] ?_;refine c7 [1,2,67,68] (α:=Nat) (fun i=>[(69,I i)]) (fun i=>[some (.els 4 [[.row 3 0 s.Plan.Nodes.length, .row (3+1) 0 s.Plan.Rails.length,pfL s.Profiles, .row 2 0 s.Singles.length]]),some (.els 4 [[H7,H7,H7,H7]]),some (.els 1 (s.Singles.map p8)),some (.els 5 (s.Plan.Nodes.map Node.cells)),some (.els 5 (s.Plan.Rails.map Rail.cells))]) (fun i=>i≤s.Plan.Rails.length) (fun i=>s.Plan.Rails.length-i) 0 ?_ ?_ ?_
   ·exact Nat.zero_le _
   ·exact aB [some 0,some 1,some 2,some 3,some 4]
   rintro i i1;refine zN ?_;refine aW ?_;refine a5 fun K8 hK8=>?_;refine a8 rfl (fun hc2=>?_) (fun hc2=>?_)
   ·skip
    try simp at hc2
    obtain⟨r,hr⟩:=gx (l:=s.Plan.Rails) (i:=i) (by simpa using hc2);have wi:=zW i (by omega);obtain⟨hil,hxe⟩:=List.getElem?_eq_some_iff.1 hr;have hrk:r.Shape.length≤30:=by have:=List.all_eq_true.1 hvp.2.2.2.1 r (List.mem_of_getElem? hr);simp only[C9,P0,Bool.and_eq_true,decide_eq_true_eq]at this;exact this.1.2.2.1
    have hcs:=b8w r.Shape (by omega);have p6:=a0W (f:=Rail.cells) hr;refine b8 ?_;refine zQ (hK8 _ _ ?_);refine aP [1,2,67,68,69] ?_;refine a5 fun K9 hK9=>?_;refine b9 ?_;refine aW ?_ fun K hK=>by simp -dsimp [hr,hil,hxe];exact hK
    refine aE ?_ fun K hK=>by simp -dsimp [hr,hil,hxe];refine cI (hcs) ?_;simp -dsimp [hr,hil,hxe];exact hK
    refine zQ (hK9 _ _ ?_);refine aP [1,2,67,68,69] ?_;refine aV ?_ fun K hK=>by simp -dsimp [wi];exact hK
    refine zQ ?_;exact⟨i+1,by omega,by omega,d9 [some 0,some 1,some 2,some 3,some 4] rfl (by simp) (by simp at p6;simp[p6])⟩
   ·skip
    try simp at hc2
    have hie:i=s.Plan.Rails.length:=by have:¬i<s.Plan.Rails.length:=(by simpa using hc2);omega
    subst hie;refine d4 ?_;refine zQ (hK7 _ _ ?_);refine aP [1,2] ?_;refine aW ?_;have t1:List.take s.Plan.Nodes.length (s.Plan.Nodes.map Node.cells)=s.Plan.Nodes.map Node.cells:=List.take_of_length_le (by simp);have t2:List.take s.Plan.Rails.length (s.Plan.Rails.map Rail.cells)=s.Plan.Rails.map Rail.cells:=List.take_of_length_le (by simp);have t3:List.take s.Singles.length (s.Singles.map p8)=s.Singles.map p8:=List.take_of_length_le (by simp);have z1:∀H n,List.map ((fun e=>List.map (I6 H (n+1)) e)∘Node.cells) s.Plan.Nodes=s.Plan.Nodes.map Node.cells:=fun H n=>List.map_congr_left fun x _=>by simp[I6]
    have z2:∀H n,List.map ((fun e=>List.map (I6 H (n+1)) e)∘Rail.cells) s.Plan.Rails=s.Plan.Rails.map Rail.cells:=fun H n=>List.map_congr_left fun x _=>by simp[I6]
    have z3:∀H n,List.map ((fun e=>List.map (I6 H (n+1)) e)∘p8) s.Singles=s.Singles.map p8:=fun H n=>List.map_congr_left fun x _=>by simp[I6]
    exact a9 (by simp[t1,t2,t3,z1,z2,z3])
theorem b7n (s:l5) (hs:R1 s=true) (hne:s.Singles=[]):a6 Tryz.prog 32 [s.av] s.av:=by
 obtain⟨hv,hp,hsn,hsb⟩:=r5 hs;have hvp:=n5 hv;have hNl:s.Plan.Nodes.length≤300:=hvp.1.2;have hRl:s.Plan.Rails.length≤400:=hvp.2.1.2;have hN1:s.Plan.Nodes≠[]:=by intro e;have:=hvp.1.1;rw[e]at this;simp at this
 have hR1:s.Plan.Rails≠[]:=by intro e;have:=hvp.2.1.1;rw[e]at this;simp at this
 have hpl:s.Profiles.length≤6:=by simp only[E2,Bool.and_eq_true,decide_eq_true_eq]at hp;exact hp.2.1
 have hcp:=b7Q s.Profiles (by omega);refine oB Tryz.func32 Tryz.ntmps32 Tryz.results32 ?_;refine aW ?_;refine aW ?_ fun K hK=>by simp -dsimp;refine cI (hcp) ?_;simp -dsimp;exact hK
 refine aW ?_ fun K hK=>by simp -dsimp;refine cI (c1w s.Singles (by omega)) ?_;simp -dsimp;exact hK
 refine a5 fun K1 hK1=>?_;refine aW ?_;refine b9 ?_;refine aP [1,2,18,19,20] ?_;refine c7 [1,2,18,19] (α:=Nat) (fun i=>[(20,I i)]) (fun i=>[some (.els 4 [[ndL s.Plan,rlL s.Plan,pfL s.Profiles,c0o s.Singles]]),some (.els 4 [[H7,H7,H7,H7]])]) (fun i=>i≤s.Singles.length) (fun i=>s.Singles.length-i) 0 ?_ ?_ ?_
 ·exact Nat.zero_le _
 ·exact aB [some 0,some 1]
 rintro i i1;refine zN ?_;refine aW ?_;refine a5 fun K2 hK2=>?_;refine a8 rfl (fun hc0=>?_) (fun hc0=>?_)
 ·skip
  try simp at hc0
  exfalso;simp[hne]at hc0
 ·skip
  try simp at hc0
  have hie:i=s.Singles.length:=by have:¬i<s.Singles.length:=(by simpa using hc0);omega
  subst hie;refine d4 ?_;refine zQ (hK1 _ _ ?_);refine aP [1,2] ?_;refine aD ?_ fun K hK=>by simp -dsimp;refine Q8 (b7T s.Plan.Nodes hN1 (by omega)) ?_;simp -dsimp;refine Q8 (b8p s.Plan.Rails hR1 (by omega)) ?_;simp -dsimp;exact hK
  refine a5 fun K3 hK3=>?_;refine aW ?_;refine b9 ?_;refine aP [1,2,48,49,50] ?_;refine c7 [1,2,48,49] (α:=Nat) (fun i=>[(50,I i)]) (fun i=>[some (.els 4 [[.row 2 0 s.Plan.Nodes.length, .row (2+1) 0 s.Plan.Rails.length,pfL s.Profiles,c0o s.Singles]]),some (.els 4 [[H7,H7,H7,H7]]),some (.els 5 (s.Plan.Nodes.map Node.cells)),some (.els 5 (s.Plan.Rails.map Rail.cells))]) (fun i=>i≤s.Plan.Nodes.length) (fun i=>s.Plan.Nodes.length-i) 0 ?_ ?_ ?_
  ·exact Nat.zero_le _
  ·exact aB [some 0,some 1,some 2,some 3]
  rintro i i1;refine zN ?_;refine aW ?_;refine a5 fun K4 hK4=>?_;refine a8 rfl (fun hc1=>?_) (fun hc1=>?_)
  ·skip
   try simp at hc1
   obtain⟨n,hn⟩:=gx (l:=s.Plan.Nodes) (i:=i) (by simpa using hc1);have wi:=zW i (by omega);obtain⟨hil,hxe⟩:=List.getElem?_eq_some_iff.1 hn;have hnk:=(a1s (List.all_eq_true.1 hvp.2.2.1 n (List.mem_of_getElem? hn))).2.1;have hce:=b8s n.Ends (by omega);have p6:=a0W (f:=Node.cells) hn;refine b8 ?_;refine zQ (hK4 _ _ ?_);refine aP [1,2,48,49,50] ?_;refine a5 fun K5 hK5=>?_;refine b9 ?_;refine aW ?_ fun K hK=>by simp -dsimp [hn,hil,hxe];exact hK
   refine aE ?_ fun K hK=>by simp -dsimp [hn,hil,hxe];refine cI (hce) ?_;simp -dsimp [hn,hil,hxe];exact hK
   refine zQ (hK5 _ _ ?_);refine aP [1,2,48,49,50] ?_;refine aV ?_ fun K hK=>by simp -dsimp [wi];exact hK
   refine zQ ?_;exact⟨i+1,by omega,by omega,d9 [some 0,some 1,some 2,some 3] rfl (by simp) (by simp at p6;simp[p6])⟩
  ·skip
   try simp at hc1
   have hie:i=s.Plan.Nodes.length:=by have:¬i<s.Plan.Nodes.length:=(by simpa using hc1);omega
   subst hie;refine d4 ?_;refine zQ (hK3 _ _ ?_);refine aP [1,2] ?_;refine a5 fun K6 hK6=>?_;refine aW ?_;refine b9 ?_;refine aP [1,2,67,68,69] ?_;refine c7 [1,2,67,68] (α:=Nat) (fun i=>[(69,I i)]) (fun i=>[some (.els 4 [[.row 2 0 s.Plan.Nodes.length, .row (2+1) 0 s.Plan.Rails.length,pfL s.Profiles,c0o s.Singles]]),some (.els 4 [[H7,H7,H7,H7]]),some (.els 5 (s.Plan.Nodes.map Node.cells)),some (.els 5 (s.Plan.Rails.map Rail.cells))]) (fun i=>i≤s.Plan.Rails.length) (fun i=>s.Plan.Rails.length-i) 0 ?_ ?_ ?_
   ·exact Nat.zero_le _
   ·exact aB [some 0,some 1,some 2,some 3]
   rintro i i1;refine zN ?_;refine aW ?_;refine a5 fun K7 hK7=>?_;refine a8 rfl (fun hc2=>?_) (fun hc2=>?_)
   ·skip
    try simp at hc2
    obtain⟨r,hr⟩:=gx (l:=s.Plan.Rails) (i:=i) (by simpa using hc2);have wi:=zW i (by omega);obtain⟨hil,hxe⟩:=List.getElem?_eq_some_iff.1 hr;have hrk:r.Shape.length≤30:=by have:=List.all_eq_true.1 hvp.2.2.2.1 r (List.mem_of_getElem? hr);simp only[C9,P0,Bool.and_eq_true,decide_eq_true_eq]at this;exact this.1.2.2.1
    have hcs:=b8w r.Shape (by omega);have p6:=a0W (f:=Rail.cells) hr;refine b8 ?_;refine zQ (hK7 _ _ ?_);refine aP [1,2,67,68,69] ?_;refine a5 fun K8 hK8=>?_;refine b9 ?_;refine aW ?_ fun K hK=>by simp -dsimp [hr,hil,hxe];exact hK
    refine aE ?_ fun K hK=>by simp -dsimp [hr,hil,hxe];refine cI (hcs) ?_;simp -dsimp [hr,hil,hxe];exact hK
    refine zQ (hK8 _ _ ?_);refine aP [1,2,67,68,69] ?_;refine aV ?_ fun K hK=>by simp -dsimp [wi];exact hK
    refine zQ ?_;exact⟨i+1,by omega,by omega,d9 [some 0,some 1,some 2,some 3] rfl (by simp) (by simp at p6;simp[p6])⟩
   ·skip
    try simp at hc2
    have hie:i=s.Plan.Rails.length:=by have:¬i<s.Plan.Rails.length:=(by simpa using hc2);omega
    subst hie;refine d4 ?_;refine zQ (hK6 _ _ ?_);refine aP [1,2] ?_;refine aW ?_;have t1:List.take s.Plan.Nodes.length (s.Plan.Nodes.map Node.cells)=s.Plan.Nodes.map Node.cells:=List.take_of_length_le (by simp);have t2:List.take s.Plan.Rails.length (s.Plan.Rails.map Rail.cells)=s.Plan.Rails.map Rail.cells:=List.take_of_length_le (by simp);have t3:List.take s.Singles.length (s.Singles.map p8)=s.Singles.map p8:=List.take_of_length_le (by simp);have z1:∀H n,List.map ((fun e=>List.map (I6 H (n+1)) e)∘Node.cells) s.Plan.Nodes=s.Plan.Nodes.map Node.cells:=fun H n=>List.map_congr_left fun x _=>by simp[I6]
    have z2:∀H n,List.map ((fun e=>List.map (I6 H (n+1)) e)∘Rail.cells) s.Plan.Rails=s.Plan.Rails.map Rail.cells:=fun H n=>List.map_congr_left fun x _=>by simp[I6]
    have z3:∀H n,List.map ((fun e=>List.map (I6 H (n+1)) e)∘p8) s.Singles=s.Singles.map p8:=fun H n=>List.map_congr_left fun x _=>by simp[I6]
    exact a9 (by simp[t1,t2,z1,z2])
end Go.Tram.Lk
end
section
namespace Go.Tram.Lk
open Go.AM Go.Proofs
def b3v (n:Node):Int:=if n.Kind=4 then 1 else 0
theorem a7W (p:Plan):u9 p=p.Nodes.map b3v:=rfl
def a0j (p:Plan) (k:Nat):List Int:=(p.Nodes.take k).map b3v++List.replicate (p.Nodes.length-k) 0
theorem b2q (p:Plan):a0j p 0=List.replicate p.Nodes.length 0:=by simp[a0j]
theorem b3R (p:Plan):a0j p p.Nodes.length=u9 p:=by simp[a0j,a7W]
theorem b5k (p:Plan) {k:Nat} (h:k≤p.Nodes.length):(a0j p k).length=p.Nodes.length:=by simp[a0j];omega
theorem b1p {p:Plan} {k:Nat} {n:Node} (h:p.Nodes[k]?=some n):a0j p (k+1)=(a0j p k).set k (b3v n):=by
 have hk:=(List.getElem?_eq_some_iff.1 h).1;unfold a0j;rw[List.take_add_one,h,List.map_append];have e:p.Nodes.length-k=(p.Nodes.length-(k+1))+1:=by omega
 rw[e,List.replicate_succ,List.set_append_right _ _ (by simp;omega)];have e2:k-((p.Nodes.take k).map b3v).length=0:=by simp;omega
 rw[e2,List.set_cons_zero];simp
theorem b1M {p:Plan} {k:Nat} {n:Node} (h:p.Nodes[k]?=some n) (hk:n.Kind≠4):a0j p (k+1)=a0j p k:=by
 have hl:=(List.getElem?_eq_some_iff.1 h).1;unfold a0j;rw[List.take_add_one,h,List.map_append];have e:p.Nodes.length-k=(p.Nodes.length-(k+1))+1:=by omega
 rw[e,List.replicate_succ];simp[b3v,hk]
theorem b6O (s:l5) (hv:d7 s.Plan=true) (fo si up:Kvs) (x y:AV):c6 Tryz.prog 33 [.vptr (e8 s fo si up x y)] [] [] (.row 0 0 s.Plan.Nodes.length) [] [some (.els 1 ((u9 s.Plan).map j4))]:=by
 have hNl:1≤s.Plan.Nodes.length∧s.Plan.Nodes.length≤300:=(n5 hv).1;have hf1:P4 s.Plan.Nodes.length 9:=l9 (by omega) (by omega);have hz:=b2q s.Plan;have hfa:=b3R s.Plan;refine oG [] Tryz.func33 Tryz.ntmps33 Tryz.results33 ?_;intro J hJ;refine gW ?_ fun K hK=>by simp -dsimp [e8];exact hK
 refine gW ?_ fun K hK=>by simp -dsimp [e8,hf1];exact hK
 refine a7 fun K1 hK1=>?_;refine gW ?_ fun K hK=>by simp -dsimp [e8];exact hK
 refine c8 ?_;refine gP [3,19,20,21] ?_;refine i6 [3,19,20] (α:=Nat) (fun k=>[(21,I k)]) (fun k=>[some (.els 1 ((a0j s.Plan k).map j4))]) (fun k=>k≤s.Plan.Nodes.length) (fun k=>s.Plan.Nodes.length-k) 0 ?_ ?_ ?_
 ·exact Nat.zero_le _
 ·exact gB [some 0] (hH:=by simp[hz,j4])
 rintro k k1;have hlen:=b5k s.Plan k1;refine zN ?_;refine gW ?_ fun K hK=>by simp -dsimp [e8];exact hK
 refine a7 fun K2 hK2=>?_;refine c3 rfl (fun hc0=>?_) (fun hc0=>?_)
 ·skip
  try simp at hc0
  obtain⟨n,hn⟩:=gx (l:=s.Plan.Nodes) (i:=k) (by simpa using hc0);have wk:=zW k (by omega);obtain⟨hkl,hne⟩:=List.getElem?_eq_some_iff.1 hn;have hs1:=b1p hn;have hs2:=fun h=>b1M hn h;generalize a0j s.Plan k=F at hlen hs1 hs2 ⊢;refine c5 ?_;refine zQ (hK2 _ _ ?_);refine gP [3,19,20,21] ?_;refine a7 fun K3 hK3=>?_;refine c8 ?_;refine gW ?_ fun K hK=>by simp -dsimp [e8,hn,hkl,hne];exact hK
  refine gW ?_ fun K hK=>by simp -dsimp [e8];exact hK
  refine c3 rfl (fun hc1=>?_) (fun hc1=>?_)
  ·have hkd:n.Kind=4:=by simpa using hc1
   have hG:a0j s.Plan (k+1)=F.set k 1:=by rw[hs1];simp[b3v,hkd]
   refine gV ?_ fun K hK=>by simp -dsimp [e8,hlen,hkl];exact hK
   refine zQ (hK3 _ _ ?_);refine gP [3,19,20,21] ?_;refine gV ?_ fun K hK=>by simp -dsimp [e8,wk];exact hK
   refine zQ ?_;exact⟨k+1,by omega,by omega,gB [some 0] (hH:=by simp[hG,j4])⟩
  ·have hkd:n.Kind≠4:=by simpa using hc1
   have hG:a0j s.Plan (k+1)=F:=hs2 hkd;refine c5 ?_;refine zQ (hK3 _ _ ?_);refine gP [3,19,20,21] ?_;refine gV ?_ fun K hK=>by simp -dsimp [e8,wk];exact hK
   refine zQ ?_;exact⟨k+1,by omega,by omega,gB [some 0] (hH:=by simp[hG,j4])⟩
 ·skip
  try simp at hc0
  have hke:k=s.Plan.Nodes.length:=by have:¬k<s.Plan.Nodes.length:=(by simpa using hc0);omega
  subst hke;refine p7 ?_;refine zQ (hK1 _ _ ?_);refine gP [3] ?_;refine gW ?_ fun K hK=>by simp -dsimp [e8];exact hK
  exact g7 ⟨[some 0],rfl,by simp,by simp[hfa],by simp,by simp[R3,v7]⟩
abbrev Kas:=List (List KC×AV)
abbrev b1r (s:l5) (nx:Kvs) (nd:Kas) (x:Sta):Hp:=[some (.els 1 [[.ptr 1 0 0]]),some (.els 3 [[.ptr 2 0 0, .mp 3, .row 4 0 x.Points.length]]),some (.els 9 [s.cells++[.mpc true KT4 (a4Q s), .mpc false [.i .i64] (U9 (A4 s)), .mpc true KTM (a0r (A4 s)), .mp 5, .mp 6]]),
 some (a8a x.Cars),some (.els 1 (x.Points.map j4)),some (.map true a1H nx),some (.mpa true a1H nd)]
theorem b4F (s:l5) (h:R1 s=true) (hN:s.Plan.Rails.length≤20):c6 Tryz.prog 10 [s.av] [] [] (.tup [.ptr 0 0 0,I 0]) [] (b1r s [] [] ⟨[],u9 s.Plan⟩):=by
 have h0:=r5 h;have ho:=a9N s h hN;have hw:a6 Tryz.prog 32 [s.av] s.av:=by
  by_cases e:s.Singles=[]
  ·exact b7n s h e
  ·exact b5J s h e
 have hpt:=b6O s h0.1 (a4Q s) (U9 (A4 s)) (a0r (A4 s)) (.mpc true a1H []) (.mpc true a1H []);have hpl:(u9 s.Plan).length=s.Plan.Nodes.length:=by simp[u9]
 unfold b1r;rw[hpl];unfold b9V at ho;unfold e8 at hpt;generalize a4Q s=fo at ho hpt ⊢;generalize U9 (A4 s)=si at ho hpt ⊢;generalize a0r (A4 s)=up at ho hpt ⊢;generalize u9 s.Plan=fp at hpt ⊢;refine oG [] Tryz.func10 Tryz.ntmps10 Tryz.results10 ?_;intro J hJ;refine gW ?_;refine gW ?_ fun K hK=>by simp -dsimp;refine cM [] [] (ho) ?_;simp -dsimp;exact hK
 refine a7 fun K1 hK1=>?_;refine gW ?_;refine c3 rfl (fun hc0=>?_) (fun hc0=>?_)
 ·simp at hc0
 ·refine c5 ?_;refine zQ (hK1 _ _ ?_);refine gP [1,4] ?_;refine gW ?_ fun K hK=>by simp -dsimp;refine cI (hw) ?_;simp -dsimp;exact hK
  refine gW ?_ fun K hK=>by simp -dsimp;refine a2h [] [] [none,none,none,none,none,none,none,none,some 0] (hpt) (by decide) rfl (by simp) (by simp) rfl (by simp) (by simp) (by simp) ?_;simp -dsimp;exact hK
  refine s9 (M9 (a8W 7 (row':= .mpa false [.i .i64] []) (by simp) (by simp) fun _ _ _ _ _=>a9j) (by simp)) ?_;refine s9 (M9 (a8W 6 (row':= .mpa true a1H []) (by simp) (by simp) fun _ _ _ _ _=>a9j) (by simp)) ?_;refine gU (T':=[(2, .ptr 0 0 0),(3,I 0)]) (H':=[some (.els 1 [[.ptr 1 0 0]]),some (.els 3 [[.ptr 2 0 0, .mp 3, .row 4 0 s.Plan.Nodes.length]]),some (.els 9 [s.cells++[.mpc true KT4 fo, .mpc false [.i .i64] si, .mpc true KTM up, .mp 5, .mp 6]]),some (.mpa false [.i .i64] []),some (.els 1 (fp.map j4)),some (.map true a1H []),some (.mpa true a1H [])]) [some 10,some 9,some 1,some 7,some 8,some 5,some 6] ?_;exact g7 ⟨[some 0,some 1,some 2,some 3,some 4,some 5,some 6],rfl,by simp,by simp[n7],by simp,by simp[R3,v7]⟩
end Go.Tram.Lk
end
section
namespace Go.Tram.Lk
open Go.AM Go.Proofs
open Go.RowKit Go.Maps Go.Sort Go.Shelf
theorem c2s (m:Nat):AnyZI.SortsIn Tryz.prog Tryz.sortedA_ren Fence.wide m:=
  ⟨fun blk off cap ss W hH hblk hsz=>callsIn_wide.2 (AnyM.slices_Sort_int Tryz.sortA blk off cap ss W hH hblk hsz),
   fun p cap W=>callsIn_wide.2 (AnyM.slices_Sort_int_none Tryz.sortA p cap W)⟩
theorem a8J {H:Type} (sb so b nn:Nat) (D0:DataW H) (R:Value→Option (DataW H×List MemPlace)) (w:World) (hc:w.cell? ⟨sb,so+1,none⟩=some (.map (some b))) (hown:w.ownsMap Tryz.prog 3 R b nn D0) (hmax:Maps.size D0≤1000):
  Calls Tryz.prog 39 #[.pointer (some ⟨sb,so,none⟩)] w fun e w'=>∃(v:Value) (ss:List Int),e= .returned v∧ss.Perm (intKeys D0)∧
   w'.ownsRow w.heap.size 3 1 v ss.length ((ss.mergeSort (fun x y=>decide (x≤y))).map encZ)∧(v= .slice none 0 0↔ss=[])∧Go.RowKit.Below w.heap.size w w':=by
 refine(callsIn_wide (n:=6)).1 ?_;have hbl:=hown.lt;have hseq:SeqGives Fence.wide 2 Tryz.prog 125 #[.pointer (some ⟨w.heap.size,0,none⟩)] encZ (fun ss=>ss.Perm (intKeys D0)) (Maps.size D0) (w.alloc (.cells #[.map (some b)] 100)):=
  AnyZI.keys_gives (ρ:=Tryz.keysA_ren) {Tryz.keysA with} Fence.wide _ trivial rfl (by omega) w.heap.size b nn D0 _ (by simp) (by simp) (by
   obtain⟨es,clock,hb,Ft,hs,hD⟩:=hown;exact⟨es,clock,(Go.RowKit.Below.heap_alloc _ _ b hbl).trans hb,Ft,hs,hD⟩)
 have cK:∀mb W,CallsIn Fence.wide 5 Tryz.prog 83 #[.map mb] W fun e w'=>e= .returned (.func (.func 125) #[] #[.pointer (some ⟨W.heap.size,0,none⟩)])∧w'=W.alloc (.cells #[.map mb] 100):=fun mb W=>AnyZI.keys_in Tryz.keysA Fence.wide 5 trivial rfl mb W;have cS:=AnyZI.sorted_in Tryz.sortedA Fence.wide 5 trivial trivial trivial trivial rfl (by omega) (c2s _) (enters_of Tryz.func124 (by kernel_rfl) rfl) 125 #[.pointer (some ⟨w.heap.size,0,none⟩)] trivial (enters_of Tryz.func125 (by kernel_rfl) rfl) _ _ (Nat.le_trans hmax (by decide)) (by omega) _ hseq;change CallsIn _ _ Tryz.prog 82 _ _ _ at cS;have hfK:Fence.wide.fn 83:=trivial;have hfS:Fence.wide.fn 82:=trivial;refine callsIn_of_wp Tryz.func39 rfl trivial ?_ rfl;simp only[Tryz.ntmps39,List.size_toArray,List.length_cons,List.length_nil,Nat.reduceAdd,Nat.reduceSub,Array.replicate_succ,Array.replicate_zero,List.push_toArray,List.append_toArray,List.nil_append,List.cons_append]
 gi_wp2_with (first
  |(gi_at_call 83;refine(cK _ _).mono ?_;rintro e w' ⟨rfl,rfl⟩)
  |(gi_at_call 82;refine cS.mono ?_;rintro e w' ⟨v,ss,rfl,hS,j9,hnil,hb⟩))
 go_ret
 exact⟨v,ss,rfl,hS,ownsRow_base_a j9 (by simp),hnil,((Go.RowKit.Below.refl _ w).alloc (Nat.le_refl _) _).trans (hb.mono (by simp))⟩
theorem a1l:∀ns:List Int,(ns.map j4).flatten=ns.map fun n=>I n
 |[]=>rfl
 |n::ns=>by rw[List.map_cons,List.flatten_cons,a1l ns];rfl
theorem b3C {P:Program} {f:FuncId} {args:List AV} {Hk Hd:Hp} {ns:List Int} (hcf:∀(w:World) (vs:Array Value),(callFunc f vs).run P w= .ok (.enter f vs) w)
  (h:∀(S0:Nat→Prop) (w:World) (ρ:Nat→Option AM.Loc) (vs:List Value),a6x S0 w ρ (Hk++Hd)→args.length=vs.length→
   (∀(i:Nat) c x,args[i]?=some c→vs[i]?=some x→d8 w (Sx S0 ρ) ρ (fun r=>r<(Hk++Hd).length) c x)→
   Calls P f vs.toArray w fun e w'=>∃v,e= .returned v∧Ext (fun _=>False) w w'∧((v= .slice none 0 0∧ns=[])∨∃g cap cur t,v= .slice (some ⟨g,0,none⟩) ns.length cap∧w.heap.size≤g∧w'.heap[g]?=some (.cells cur t (0,0))∧ns.length≤cap∧cur.size=cap∧cur.toList.take ns.length=ns.map encZ)):
  c6 P f args Hk Hd (.row (Hk++Hd).length 0 ns.length) Hk (Hd++[some (.els 1 (ns.map j4))]):=by
 refine⟨hcf,rfl,fun S0 w ρ vs hh hl hreps=>(h S0 w ρ vs hh hl hreps).mono ?_⟩;rintro e w' ⟨v,rfl,he,hv⟩;obtain⟨N,hN⟩:∃N,N=(Hk++Hd).length:=⟨_,rfl⟩;rw[←hN]at hreps ⊢;have hH:Hk++(Hd++[some (.els 1 (ns.map j4))])=(Hk++Hd)++[some (k7.els 1 (ns.map j4))]:=by simp
 rw[hH];have hlen:((Hk++Hd)++[some (k7.els 1 (ns.map j4))]).length=N+1:=by rw[List.length_append,←hN];rfl
 obtain⟨l,hlsz,hlo,hlb,hrep,hrw⟩:∃l:AM.Loc,l.sz=1∧l.o=0∧(∀b,l.b=some b→w.heap.size≤b∧b<w'.heap.size)∧(∀(S:Nat→Prop) (ρ':Nat→Option AM.Loc) (L:Nat→Prop),ρ' N=some l→L N→d8 w' S ρ' L (.row N 0 ns.length) v)∧
   ∀(S:Nat→Prop) (ρ':Nat→Option AM.Loc) (L:Nat→Prop),g9 w' S ρ' L l (.els 1 (ns.map j4)):=by
  rcases hv with⟨rfl,rfl⟩|⟨g,cap,cur,t,rfl,hg,hgc,hcap,hcs,htk⟩
  ·refine⟨⟨none,0,1,0⟩,rfl,rfl,(by intro b h;cases h),fun S ρ' L h1 h2=> .row _ _ _ _ h2 rfl fun l' hl'=>?_,fun S ρ' L=>⟨rfl,by simp,by simp,by intro b h;cases h⟩⟩;rw[h1]at hl'
   cases hl'
   exact⟨fun _=>⟨rfl,rfl,rfl⟩,by intro b h;cases h⟩
  ·have hgl:g<w'.heap.size:=(Array.getElem?_eq_some_iff.1 hgc).1;refine⟨⟨some g,0,1,cap⟩,rfl,rfl,(by intro b h;cases h;exact⟨hg,hgl⟩),fun S ρ' L h1 h2=> .row _ _ _ _ h2 rfl fun l' hl'=>?_,fun S ρ' L=>⟨rfl,by simp[j4],(by intro h;cases h),?_⟩⟩
   ·rw[h1]at hl'
    cases hl'
    refine⟨(by intro h;cases h),?_⟩;intro b hb
    cases hb
    exact⟨0,cap,rfl,hcap,Or.inr ⟨by simp,by simp⟩⟩
   ·intro b hb
    cases hb
    refine⟨cur,t,hgc,hcs,by simp;exact hcap,fun i a hi=>?_⟩;rw[a1l,List.getElem?_map,Option.map_eq_some_iff]at hi;obtain⟨n,hn,rfl⟩:=hi;have h1:(cur.toList.take ns.length)[i]?=some (encZ n):=by rw[htk,List.getElem?_map,hn];rfl
    rw[List.getElem?_take]at h1
    split at h1
    ·refine⟨encZ n,by simpa using h1,rfl, .pure _ _ (.v _)⟩
    ·cases h1
 have hsz:=he.size;have hwf:=a0N (N:=N) (w':=w') hh.wf (by rw[←hN];exact Nat.lt_irrefl _) l hsz hlb;have hL:∀r,r<(Hk++Hd).length→r<((Hk++Hd)++[some (k7.els 1 (ns.map j4))]).length:=fun r hr=>by rw[hlen];omega
 have hkb:∀b,b<w.heap.size→¬Sx S0 ρ b→w'.heap[b]?=w.heap[b]?∧¬Sx S0 (Loc.fresh ρ N l) b:=by
  intro b hb hn;refine⟨he.block b hb (fun h=>h),?_⟩;rintro(h|⟨r,l',h1,h2⟩)
  ·exact hn (Or.inl h)
  ·simp only[Loc.fresh]at h1
   split at h1
   ·simp only[Option.some.injEq]at h1;subst h1;have:=(hlb b h2).1;omega
   ·exact hn (Or.inr ⟨r,l',h1,h2⟩)
 have hρ:∀r l',r<(Hk++Hd).length→Loc.fresh ρ N l r=some l'→ρ r=some l':=by
  intro r l' hr h;simp only[Loc.fresh]at h;rw[if_neg (by omega)]at h;exact h
 refine⟨v,Loc.fresh ρ N l,rfl,⟨hwf.more ?_,?_,?_⟩,hrep _ _ _ (by simp[Loc.fresh]) (by rw[hlen];omega),?_,?_,he.mono fun _ _ h=>h.elim⟩
 ·rintro r (h|rfl)
  ·exact hL r h
  ·rw[hlen];omega
 ·intro r row hr;rw[B6]at hr
  by_cases hrN:r<(Hk++Hd).length
  ·rw[List.getElem?_append_left hrN,←B6]at hr;obtain⟨l',h1,h2⟩:=hh.rows r row hr;refine⟨l',by simp only[Loc.fresh];rw[if_neg (by omega)];exact h1,h2.ext hsz hkb hL hρ fun b hb=>he.block b (hh.wf.own r l' b h1 hb).1 (fun h=>h)⟩
  ·by_cases hrE:r=N
   ·subst hrE;rw[List.getElem?_append_right (by omega)]at hr;simp only[←hN,Nat.sub_self,List.getElem?_cons_zero,Option.getD_some,Option.some.injEq]at hr;subst hr;exact⟨l,by simp[Loc.fresh],hrw _ _ _⟩
   ·rw[List.getElem?_eq_none (by rw[hlen];omega)]at hr
    cases hr
 ·intro r hr;rw[B6]at hr;simp only[Loc.fresh]
  by_cases hrN:r<(Hk++Hd).length
  ·rw[if_neg (by omega)];rw[List.getElem?_append_left hrN,←B6]at hr;exact hh.dead r hr
  ·by_cases hrE:r=N
   ·subst hrE;rw[List.getElem?_append_right (by omega)]at hr;simp[←hN]at hr
   ·rw[if_neg hrE];exact hh.dead r (a1p _ _ (by omega))
 ·intro r l' hr h;exact hρ r l' (by simp;omega) h
 ·rintro b ⟨r,l',h1,h2⟩;simp only[Loc.fresh]at h1
  split at h1
  ·simp only[Option.some.injEq]at h1;subst h1;exact Or.inr (hlb b h2).1
  ·exact Or.inl ⟨r,l',h1,h2⟩
def gI:Value→Int
 | .int _ n=>n
 |_=>0
theorem b6a {w:World} {S:Nat→Prop} {ρ:Nat→Option AM.Loc} {L:Nat→Prop} {b:Nat} {l:List Car} (hs:Srt l) (hl:l.length≤1000) (hb:∀c∈l,0≤c.Name∧c.Name≤1000000) (h:a0p w S ρ L b false [.i .i64] (n7 l)):
  ∃D0:DataW Unit,w.ownsMap Tryz.prog 3 (fun _=>some (.nil,[])) b 1000 D0∧(intKeys D0).Perm (l.map (·.Name))∧Maps.size D0≤1000:=by
 obtain⟨vs,ks,⟨es,clock,h1,h2,h3,h4,h5⟩,hp,hn,hlen,hpt⟩:=h;have hkl:ks.length=l.length:=by rw[hp.length_eq];simp[n7]
 have hes:es.size=l.length:=by
  have:=congrArg List.length h2;simp only[List.length_map,Array.length_toList]at this;omega
 have hkeys:(es.toList.map (·.key)).Perm (l.map fun c=>encZ c.Name):=by
  have e1:es.toList.map (·.key)=(vs.map (·.1)).map (e9 false):=by
   have:=congrArg (List.map Prod.fst) h2;rw[List.map_map,List.map_map]at this;rw[List.map_map];exact this
  have e2:vs.map (·.1)=ks.map (·.1):=by
   apply List.ext_getElem?;intro i;rw[List.getElem?_map,List.getElem?_map]
   cases hv:vs[i]? with
   |none=>rw[List.getElem?_eq_none (by have:=List.getElem?_eq_none_iff.1 hv;omega)];rfl
   |some q=>
    obtain⟨p,hp'⟩:∃p,ks[i]?=some p:=⟨_,List.getElem?_eq_getElem (by rw[hlen];exact(List.getElem?_eq_some_iff.1 hv).1)⟩;rw[hp'];simp[(hpt i p q hp' hv).1]
  rw[e1,e2];have e3:(l.map fun c=>encZ c.Name)=((n7 l).map (·.1)).map (e9 false):=by
   rw[a1P,List.map_map]
   rfl
  rw[e3];exact(hp.map _).map _
 have hkey:∀x∈es.toList,∃c∈l,x.key=encZ c.Name:=by
  intro x hx;have:=hkeys.mem_iff.1 (List.mem_map_of_mem (f:=(·.key)) hx)
  obtain⟨c,hc,e⟩:=List.mem_map.1 this;exact⟨c,hc,e.symm⟩
 have hu:(Tryz.prog).underlying 3=some (.int .i64):=by kernel_rfl
 have hrd:∀x∈es.toList,∃n:Int,x.key=encZ n∧Go.WideElems.rd (H:=Unit) Tryz.prog 3 (fun _=>some (.nil,[])) x=some (.int .i64 n, .nil):=by
  intro x hx;obtain⟨c,hc,e⟩:=hkey x hx;have hbc:=hb c hc;have hw:(Lit.int .i64 c.Name).wf=true:=by
   simp[Lit.wf,IntKind.min,IntKind.max,IntKind.signed,IntKind.bits];omega
  refine⟨c.Name,e,?_⟩;unfold Go.WideElems.rd;rw[e,Go.Maps.keyOf_int_mk hu hw]
  rfl
 obtain⟨D0,hD⟩:∃D0:DataW Unit,D0= .map ((es.toList.map (Go.WideElems.rg Tryz.prog 3 (fun _=>some (.nil,[])))).foldr DataW.insert []):=⟨_,rfl⟩;refine⟨D0,⟨es,clock,h1,⟨by rw[hes];exact Nat.le_trans hl (by decide),⟨fun x hx=>h5 x hx,h4,?_⟩,fun x hx=>by obtain⟨n,_,h⟩:=hrd x hx;exact⟨_,h⟩⟩,by omega,hD⟩,?_,?_⟩
 ·rw[hkeys.nodup_iff];have:=srt_nodup hs;unfold List.Nodup at this ⊢;rw[List.pairwise_map]at this ⊢;exact this.imp fun h e=>h (by simpa [encZ]using e)
 ·rw[hD];show((_:List (Lit×DataW Unit)).map fun p=>intOf p.1).Perm _;refine((Go.WideShapes.sorted_perm _).map _).trans ?_;rw[List.map_map];have e1:es.toList.map ((fun p:Lit×DataW Unit=>intOf p.1)∘Go.WideElems.rg Tryz.prog 3 (fun _=>some (.nil,[])))=(es.toList.map (·.key)).map gI:=by
   rw[List.map_map];refine List.map_congr_left fun x hx=>?_;obtain⟨n,h6,h7⟩:=hrd x hx;simp only[Function.comp,Go.WideElems.rg,h7,h6,Option.getD_some,intOf,gI,encZ]
  rw[e1];have e2:l.map (·.Name)=(l.map fun c=>encZ c.Name).map gI:=by rw[List.map_map];rfl
  rw[e2];exact hkeys.map _
 ·rw[hD];show((es.toList.map (Go.WideElems.rg Tryz.prog 3 (fun _=>some (.nil,[])))).foldr DataW.insert []).length≤1000;rw[length_sorted,List.length_map,Array.length_toList];omega
def nmL (l:List Car):List (List AV):=(l.map (·.Name)).map j4
theorem l8 {l:List Car} {k:Nat} {x:Car} (h:l[k]?=some x):(nmL l)[k]?=some [I x.Name]:=by
 unfold nmL;rw[List.getElem?_map,List.getElem?_map,h];rfl
@[simp] theorem c3t (l:List Car):(nmL l).length=l.length:=by simp[nmL]
@[simp high] theorem c3L (l:List Car) (g:List (Option Nat)) (n:Nat):(nmL l).map (fun e=>e.map (o4 g n))=nmL l:=by
 unfold nmL;rw[List.map_map];refine List.map_congr_left fun x _=>?_
 cases n<;>simp[j4,o4]
@[simp high] theorem c2R (l:List Car) (H:Nat→Option k7) (g:List (Option Nat)) (n:Nat):(nmL l).map (fun e=>e.map (V5 H g n))=nmL l:=by
 unfold nmL;rw[List.map_map];refine List.map_congr_left fun x _=>?_
 cases n<;>simp[j4,V5]
theorem R4 (l:List Car) (hs:Srt l) (hl:l.length≤1000) (hb:∀c∈l,0≤c.Name∧c.Name≤1000000) (c0 c2:AV) (ru d1 d2 d3:Option k7):
  c6 Tryz.prog 39 [.ptr 0 0 0] [some (.els 3 [[c0, .mp 2,c2]]),ru] [some (a8a l),d1,d2,d3] (.row 6 0 l.length) [some (.els 3 [[c0, .mp 2,c2]]),ru] [some (a8a l),d1,d2,d3,some (.els 1 (nmL l))]:=by
 have key:=b3C (P:=Tryz.prog) (f:=39) (args:=[.ptr 0 0 0]) (Hk:=[some (.els 3 [[c0, .mp 2,c2]]),ru]) (Hd:=[some (a8a l),d1,d2,d3]) (ns:=l.map (·.Name)) (fun w vs=>by simp[callFunc,Tryz.func39];rfl) ?_
 ·rw[List.length_map]at key;exact key
 intro S0 w ρ vs hh hlen hreps
 match vs,hlen with
 | [p],_=>
  have hp:=hreps 0 _ p rfl rfl;obtain⟨l0,hl0,hsz,_,hnone,j9⟩:=hh.rows 0 _ rfl;obtain⟨l2,hl2,b,hb2,hmp⟩:=hh.rows 2 _ rfl;obtain⟨q,hq⟩:∃q,p= .pointer (some ⟨q,l0.o,none⟩)∧l0.b=some q:=by
   cases hp with
   |pure _ _ h=>cases h
   |ptr _ _ _ _ _ _ h3=>
    obtain⟨q,h1,h2⟩:=h3 l0 hl0;exact⟨q,by simpa using h2,h1⟩
  obtain⟨rfl,hqb⟩:=hq;obtain⟨c,t,hc,hcs,_,hcell⟩:=j9 q hqb;obtain⟨x,hx,_,hxr⟩:=hcell 1 (.mp 2) rfl;have hxe:x= .map (some b):=by
   cases hxr with
   |pure _ _ h=>cases h
   |mp _ _ _ _ h=>
    obtain⟨b',h1,h2⟩:=h l2 hl2;rw[hb2]at h1
    cases h1
    exact h2
  subst hxe;have hcl:w.cell? ⟨q,l0.o+1,none⟩=some (.map (some b)):=by
   unfold World.cell?;simp[hc,hx]
  obtain⟨D0,hown,hperm,hD⟩:=b6a hs hl hb hmp;refine(a8J q l0.o b 1000 D0 _ w hcl hown hD).mono ?_;rintro e w' ⟨v,ss,rfl,hss,hrow',hnil,hbel⟩;have hsp:=hss.trans hperm;have hsort:=Z8 hs hsp;have hln:ss.length=l.length:=by rw[hsp.length_eq];simp
  refine⟨v,rfl,⟨hbel.os,hbel.tape,hbel.output,hbel.size,fun k hk _=>hbel.block k hk,fun k cc tt sg hk=>⟨cc,tt,sg,(hbel.block k (Array.getElem?_eq_some_iff.1 hk).1).trans hk,rfl⟩⟩,?_⟩;rw[hsort]at hrow'
  rcases hrow'.2 with⟨h1,h2⟩|⟨g,cap,cur,h1,h2,h3,h4,h5,h6,h7⟩
  ·refine Or.inl ⟨h1,?_⟩;have:l=[]:=List.eq_nil_of_length_eq_zero (by omega);rw[this];rfl
  ·refine Or.inr ⟨g,cap,cur,_,by rw[h1];simp[hln],h2,h3,by simp;omega,by omega,?_⟩;rw[List.length_map,←hln,←h7];simp
abbrev c1g (ns:List Int):List Int:=ns.mergeSort fun x y=>decide (x≤y)
theorem b9B (ns:List Int) (hn:1≤ns.length) (hN:ns.length≤100000):c6 Tryz.prog 124 [.row 0 0 ns.length] [some (.els 1 (ns.map j4))] [] (.tup []) [some (.els 1 ((c1g ns).map j4))] []:=by
 refine⟨fun w vs=>by simp[callFunc,Tryz.func124];rfl,rfl,fun S0 w ρ vs hh hlen hreps=>?_⟩
 match vs,hlen with
 | [p],_=>
  have hp:=hreps 0 _ p rfl rfl;obtain⟨l,hl,hsz,_,hnone,j9⟩:=hh.rows 0 _ rfl;obtain⟨g,hg⟩:∃g,l.b=some g:=by
   cases hb:l.b with
   |none=>have:=hnone hb;simp at this;rw[this]at hn;simp at hn
   |some g=>exact⟨g,rfl⟩
  obtain⟨c,t,hc,hcs,hlm,hcell⟩:=j9 g hg;obtain⟨cap,hpe,hcap⟩:∃cap,p= .slice (some ⟨g,l.o,none⟩) ns.length cap∧ns.length≤cap:=by
   cases hp with
   |pure _ _ h=>cases h
   |row _ _ _ _ _ _ h3=>
    obtain⟨off,cap,h1,h2,h4⟩:=(h3 l hl).2 g hg;refine⟨cap,?_,h2⟩
    rcases h4 with h4|h4
    ·omega
    ·rw[h1,h4.1];simp
  subst hpe;have hcl:∀(j:Nat) n,ns[j]?=some n→c[l.o+j]?=some (encZ n):=by
   intro j n hj;obtain⟨x,h1,_,h3⟩:=hcell j (I n) (by rw[a1l,List.getElem?_map,hj];rfl);rw[h1,i9 h3]
  have hH:Holds encZ w g l.o ns.toArray:=by
   intro j hj;have hj':j<ns.length:=by simpa using hj
   have e:=hcl j ns[j] (List.getElem?_eq_getElem hj');refine⟨?_,?_⟩
   ·unfold World.cell?;simp only[hc];rw[e];simp[hj']
   ·simp[World.frozen?,hc]
  have hgl:g<w.heap.size:=(Array.getElem?_eq_some_iff.1 hc).1;refine Calls.mono (AnyM.slices_Sort_int Tryz.sortA g l.o cap ns w hH hgl (by omega)) ?_;rintro e w' ⟨rfl,k,os,rfl⟩;obtain⟨w',hw'⟩:∃w',w'=grow (putRow (Value.int .i64) (Sort.ahead w k) g l.o (c1g ns).toArray) os:=⟨_,rfl⟩;rw[←hw'];have hlen2:(c1g ns).length=ns.length:=List.length_mergeSort ns;have hsize:w.heap.size≤w'.heap.size:=by rw[hw'];simp[grow,putRow,mapBlock,Sort.ahead]
  have hold:∀b,b<w.heap.size→w'.heap[b]?=(if g=b then(w.heap[b]?).map (onCells (putCells (Value.int .i64) l.o (c1g ns).toArray))else w.heap[b]?):=by
   intro b hb;rw[hw'];simp only[grow,putRow,mapBlock,Sort.ahead];rw[Array.getElem?_append_left (by simpa using hb),Array.getElem?_modify]
  have hgn:w'.heap[g]?=some (.cells (putCells (Value.int .i64) l.o (c1g ns).toArray c) t (0,0)):=by
   rw[hold g hgl,if_pos rfl,hc];rfl
  refine⟨.tuple #[],ρ,rfl,⟨⟨hh.wf.inj,fun r l' b h1 h2=>⟨Nat.lt_of_lt_of_le (hh.wf.own r l' b h1 h2).1 hsize,(hh.wf.own r l' b h1 h2).2⟩,hh.wf.given,fun b h=>Nat.lt_of_lt_of_le (hh.wf.low b h) hsize,fun _ _=>trivial⟩,?_,?_⟩, .tup [] [] rfl (by simp),fun r l' _ h=>h,fun b h=>Or.inl h,?_⟩
  ·intro r row hr
   match r,hr with
   |0,hr=>
    simp only[List.append_nil,g6,Option.some.injEq]at hr;subst hr;refine⟨l,hl,hsz,by simp[j4],fun h=>(by rw[hg]at h;cases h),fun b hb=>?_⟩;rw[hg]at hb
    cases hb
    refine⟨_,t,hgn,by simp[putCells,hcs],by simp only[List.length_map]at hlm ⊢;omega,fun i a hi=>?_⟩;rw[a1l,List.getElem?_map,Option.map_eq_some_iff]at hi;obtain⟨n,hn',rfl⟩:=hi;have hil:=(List.getElem?_eq_some_iff.1 hn').1;have hin:i<ns.length:=by omega
    refine⟨encZ n,?_,rfl, .pure _ _ (.v _)⟩;have e0:=hcl i ns[i] (List.getElem?_eq_getElem hin);simp only[putCells,Array.getElem?_mapIdx,e0,Option.map_some];rw[if_pos ⟨by omega,by simp;omega⟩,show l.o+i-l.o=i by omega];simp only[List.getElem!_toArray,List.getElem!_eq_getElem?_getD,hn',Option.getD_some]
   |r+1,hr=>simp[g6]at hr
  ·intro r hr
   match r,hr with
   |0,hr=>simp[g6]at hr
   |r+1,hr=>exact hh.dead _ (by simp[g6])
  ·refine⟨by rw[hw'];rfl,by rw[hw'];rfl,by rw[hw'];rfl,hsize,fun b hb hn=>?_,fun b cc tt sg hb=>?_⟩
   ·rw[hold b hb,if_neg];rintro rfl;exact hn ⟨0,l,hl,hg⟩
   ·have hbl:=(Array.getElem?_eq_some_iff.1 hb).1;rw[hold b hbl]
    split
    ·rename_i e;subst e;rw[hb];exact⟨_,_,_,rfl,by simp[putCells]⟩
    ·exact⟨_,_,_,hb,rfl⟩
end Go.Tram.Lk
end
section
namespace Go.AM
theorem b3Q {B S0:Nat→Prop} {nt:Nat} {w:World} {ρ:Nat→Option Loc} {L:Nat→Prop} {T T':Tm} {H H':Hp} {a:Act} (g:List (Option Nat)) (hn:∀(i j q:Nat),g[i]?=some (some q)→g[j]?=some (some q)→i=j) (hT:a4q H g T T') (hH:a1w H g=H') (hc:L0 B S0 nt w ρ L (i7 T) (g6 H) a):
  L0 B S0 nt w (j8 ρ g) (fun r=>r<g.length) (i7 T') (g6 H') a:=by
 subst hH;have hren:=b0B (g:=g) (H:=g6 H) hc.wf (fun r row hr=>hc.rows r row hr);refine⟨⟨?_,?_,?_,hc.wf.low,hc.wf.new⟩,hc.size,hc.defers,?_,?_,?_⟩
 ·intro r r' l l' b h1 h2 k1 k2;obtain⟨q,g1,p1⟩:=f9 h1;obtain⟨q',g2,p2⟩:=f9 h2;have:=hc.wf.inj q q' l l' b p1 p2 k1 k2;subst this;exact hn _ _ _ g1 g2
 ·intro r l b h1 k1;obtain⟨q,g1,p1⟩:=f9 h1;exact hc.wf.own q l b p1 k1
 ·intro r l h1;obtain⟨q,g1,p1⟩:=f9 h1;exact(List.getElem?_eq_some_iff.1 g1).1
 ·intro t;have gen:∀(T':Tm),a4q H g T T'→d8 w (Sx S0 (j8 ρ g)) (j8 ρ g) (fun r=>r<g.length) (i7 T' t) (a.tmps.getD t undef):=by
   intro T'
   induction T' with
   |nil=>intro _;exact .pure _ _ (.any _)
   | cons p T' ih=>
    obtain⟨i,x⟩:=p;rintro⟨h1,h2⟩;simp only[i7]
    split
    ·rename_i e;subst e
     rcases h1 with rfl|rfl
     ·exact .pure _ _ (.any _)
     ·exact hren 3 _ _ (hc.tmps t)
    ·exact ih h2
  exact gen T' hT
 ·intro r row hr;simp only[a1w,G4]at hr
  split at hr
  ·rename_i q hq
   split at hr
   ·rename_i q';simp only[Option.map_eq_some_iff]at hr;obtain⟨row0,h0,rfl⟩:=hr;obtain⟨l,hl,j9⟩:=hc.rows q' row0 h0;refine⟨l,by simp only[j8,hq];exact hl,?_⟩
    cases row0 with
    |map kvs=>exact j9
    |mpa ag kts kvs=>obtain⟨b,h1,h2⟩:=j9;exact⟨b,h1,h2.map _ (fun x y h=>hren 3 x y h) rfl⟩
    | itr ag kts left cur=>
     obtain⟨b,h1,h0,h2⟩:=j9;exact⟨b,h1,h0,h2.same rfl (Nat.le_refl _) (fun b _ hn=>⟨rfl,fun k=>hn (by
      rcases k with h|⟨r,l,h1,h2⟩
      ·exact Or.inl h
      ·obtain⟨q,_,h3⟩:=f9 h1;exact Or.inr ⟨q,l,h3,h2⟩)⟩)⟩
    |els sz es=>
     obtain⟨h1,h2,h3,h4⟩:=j9;refine⟨h1,?_,fun hb=>by rw[h3 hb];rfl,fun b hb=>?_⟩
     ·intro e he;simp only[List.mem_map]at he;obtain⟨e',he',rfl⟩:=he;simpa using h2 e' he'
     ·obtain⟨c,t,k1,k2,k3,k4⟩:=h4 b hb;refine⟨c,t,k1,k2,by simpa using k3,fun i av hi=>?_⟩;rw[←List.map_flatten]at hi;simp only[List.getElem?_map,Option.map_eq_some_iff]at hi;obtain⟨av0,hi,rfl⟩:=hi;obtain⟨x,p1,p2,p3⟩:=k4 i av0 hi;exact⟨x,p1,p2,hren 3 _ _ p3⟩
   ·cases hr
  ·cases hr
 ·intro r hr;simp only[a1w,G4]at hr;simp only[j8]
  split
  ·rename_i q hq;rw[hq]at hr;simp only[Option.map_eq_none_iff]at hr;exact hc.dead q hr
  ·rfl
def b4v (gs:List Nat) (n:Nat):List (Option Nat):=(List.range n).map fun r=>if gs.contains r then none else some r
theorem b6L (gs:List Nat) (n r:Nat):(b4v gs n)[r]?=if r<n then some (if gs.contains r then none else some r)else none:=by
 unfold b4v;rw[List.getElem?_map]
 by_cases h:r<n
 ·rw[if_pos h,List.getElem?_range h];rfl
 ·rw[if_neg h,List.getElem?_eq_none (by simpa using h)];rfl
def bkN (gs:List Nat) (i:Nat):Nat:=gs.getD i 0
def c1j (gs:List Nat):AV→AV
 | .v x=> .v x
 | .row i k n=>if i<gs.length then .row (bkN gs i) k n else .any
 | .ptr i k o=>if i<gs.length then .ptr (bkN gs i) k o else .any
 | .mp i=>if i<gs.length then .mp (bkN gs i)else .any
 |_=> .any
def c3A (gs:List Nat):k7→k7
 | .els sz es=> .els sz (es.map fun e=>e.map (c1j gs))
 | .map ag kts kvs=> .map ag kts kvs
 | .itr ag kts left cur=> .itr ag kts left cur
 | .mpa ag kts kvs=> .mpa ag kts (kvs.map fun p=>(p.1,c1j gs p.2))
def c5A (gs:List Nat) (H H':Hp):Hp:=(List.range H.length).map fun r=>match gs.findIdx? (· ==r)with
 |some i=>(g6 H' i).map (c3A gs)
 |none=>(g6 H r).map (B3 (b4v gs H.length))
def b8Y (B:Nat→Prop) (S0:Nat→Prop) (w:World) (J:Jt):Jt:={rel:=fun _ S' O w'=>S'=S0∧Ext B w w'∧∀b,O b→B b,mark:=J.mark,base:=J.base}
theorem b5S {B S0:Nat→Prop} {w:World} {m:Jt} (hB:∀b,w.heap.size≤b→B b):JOk (b8Y B S0 w m):=by
 rintro y S' O O' A A' ⟨rfl,h1,h2⟩ _ _ he ho;refine⟨rfl,h1.trans (he.mono fun b _ hb=>h2 b hb),fun b hb=>?_⟩
 rcases(ho b hb).2 with h|h
 ·exact h2 b h
 ·exact hB b (Nat.le_trans h1.size h)
def bkρ (gs:List Nat) (ρ ρ1:Nat→Option Loc) (r:Nat):Option Loc:=match gs.findIdx? (· ==r)with|some i=>ρ1 i|none=>ρ r
theorem c2z {gs:List Nat} (hn:gs.Nodup) {i:Nat} (hi:i<gs.length):gs.findIdx? (· ==bkN gs i)=some i:=by
 rw[List.findIdx?_eq_some_iff_getElem];refine⟨hi,by simp[bkN,hi],fun j hj=>?_⟩;simp only[bkN,List.getD_eq_getElem?_getD,List.getElem?_eq_getElem hi,Option.getD_some,beq_iff_eq];intro e;have:=(List.getElem?_inj (Nat.lt_trans hj hi) hn).1 (show gs[j]?=gs[i]? by rw[List.getElem?_eq_getElem hi,List.getElem?_eq_getElem (Nat.lt_trans hj hi),e]);omega
theorem a9e {gs:List Nat} {r i:Nat} (h:gs.findIdx? (· ==r)=some i):i<gs.length∧gs[i]?=some r:=by
 rw[List.findIdx?_eq_some_iff_getElem]at h;obtain⟨h1,h2,_⟩:=h;exact⟨h1,by rw[List.getElem?_eq_getElem h1];simpa using h2⟩
theorem b3p {gs:List Nat} {r:Nat} (h:gs.findIdx? (· ==r)=none):r∉gs:=by
 rw[List.findIdx?_eq_none_iff]at h;intro hr;simpa using h r hr
theorem b0F {w:World} {S0:Nat→Prop} {ρ ρ1:Nat→Option Loc} {L1 L:Nat→Prop} {S1 S:Nat→Prop} {gs:List Nat} (hn:gs.Nodup) (hL:∀r∈gs,L r) {x:AV} {y:Value} (h:d8 w S1 ρ1 L1 x y):d8 w S (bkρ gs ρ ρ1) L (c1j gs x) y:=by
 have nm:∀{i:Nat},i<gs.length→L (bkN gs i)∧bkρ gs ρ ρ1 (bkN gs i)=ρ1 i:=by
  intro i hi;refine⟨hL _ (by simp[bkN,hi]),?_⟩;unfold bkρ;rw[c2z hn hi]
 cases x with
 |v c=>rw[i9 h];exact .pure _ _ (.v _)
 | row i k n=>
  simp only[c1j]
  split
  ·rename_i hi
   cases h with
   |pure _ _ h=>cases h
   |row _ _ _ _ h1 h2 h3=>exact .row _ _ _ _ (nm hi).1 h2 (fun l hl=>h3 l ((nm hi).2▸hl))
  ·exact .pure _ _ (.any _)
 | ptr i k n=>
  simp only[c1j]
  split
  ·rename_i hi
   cases h with
   |pure _ _ h=>cases h
   |ptr _ _ _ _ h1 h2 h3=>exact .ptr _ _ _ _ (nm hi).1 h2 (fun l hl=>h3 l ((nm hi).2▸hl))
  ·exact .pure _ _ (.any _)
 | mp i=>
  simp only[c1j]
  split
  ·rename_i hi
   cases h with
   |pure _ _ h=>cases h
   |mp _ _ h1 h2 h3=>exact .mp _ _ (nm hi).1 h2 (fun l hl=>h3 l ((nm hi).2▸hl))
  ·exact .pure _ _ (.any _)
 |_=>exact .pure _ _ (.any _)
def a8K:Hp→Bool
 |[]=>true
 |some (.itr _ _ _ _)::_=>false
 |_::H=>a8K H
theorem a4U:∀{H:Hp},a8K H=true→∀(r:Nat) ag kts left cur,g6 H r≠some (.itr ag kts left cur)
 |[],_,r,_,_,_,_=>by cases r<;>simp[g6]
 |x::H,h,0,_,_,_,_=>by
  intro e;simp only[g6]at e;subst e;simp[a8K]at h
 | x::H,h,r+1,ag,kts,left,cur=>by
  simp only[g6];refine a4U (H:=H) ?_ r ag kts left cur
  cases x with
  |none=>exact h
  |some row=>cases row with
   |itr=>simp[a8K]at h
   |_=>exact h
theorem c6.keep {P:Program} {f:FuncId} {args:List AV} {Hk Hd Hk' Hn:Hp} {res:AV} {d d':Option k7} (q k k':Nat) {sz sz' s1:Nat} {es es' e1 e1':List (List AV)} {x:Value} {i o:Nat} (h:c6 P f args Hk (d::Hd) res Hk' (d'::Hn))
  (h1:g6 (Hk++d::Hd) q=some (.els sz es)) (h2:es.flatten[k]?=some (.fptr x Hk.length i o)) (h3:g6 (Hk'++d'::Hn) q=some (.els sz' es')) (h4:es'.flatten[k']?=some (.fptr x Hk.length i o))
  (h5:d=some (.els s1 e1)) (h6:d'=some (.els s1 e1')):c6 P f args (Hk++[d]) Hd res (Hk'++[d']) Hn:=by
 have eH:Hk++[d]++Hd=Hk++d::Hd:=by simp
 have eH':Hk'++[d']++Hn=Hk'++d'::Hn:=by simp
 refine⟨h.1,by simp[h.2.1],?_⟩;rw[eH,eH'];intro S0 w ρ vs hh hl hreps;refine(h.2.2 S0 w ρ vs hh hl hreps).mono ?_;rintro e w' ⟨v,ρ',rfl,hh',hrep,hkeep,hfresh,hext⟩;refine⟨v,ρ',rfl,hh',hrep,fun r l' hr hl'=>?_,hfresh,hext⟩
 by_cases hrk:r<Hk.length
 ·exact hkeep r l' hrk hl'
 have hre:r=Hk.length:=by
  rw[List.length_append]at hr;simp at hr;omega
 subst hre;have g1:g6 (Hk++d::Hd) Hk.length=some (.els s1 e1):=by rw[B6,List.getElem?_append_right (Nat.le_refl _)];simp[h5]
 have g2:g6 (Hk'++d'::Hn) Hk.length=some (.els s1 e1'):=by rw[B6,h.2.1,List.getElem?_append_right (Nat.le_refl _)];simp[h6]
 obtain⟨l,hlr,j9⟩:=hh.rows _ _ g1;obtain⟨l2,hl2,hrow2⟩:=hh'.rows _ _ g2;rw[hl2]at hl';simp only[Option.some.injEq]at hl';subst hl';have cell:∀{w:World} {ρ:Nat→Option Loc} {L:Nat→Prop} {S:Nat→Prop} {l:Loc} {sz:Nat} {es:List (List AV)} {k:Nat},g9 w S ρ L l (.els sz es)→es.flatten[k]?=some (.fptr x Hk.length i o)→d8 w S ρ L (.ptr Hk.length i o) x:=by
  intro w ρ L S l sz es k hr hk;obtain⟨_,_,e3,e4⟩:=hr
  cases hb:l.b with
  |none=>rw[e3 hb]at hk;simp at hk
  |some b=>
   obtain⟨c,t,_,_,_,p⟩:=e4 b hb;obtain⟨u,_,_,hu⟩:=p k _ hk
   cases hu with
   |pure _ _ h=>cases h
   |fptr _ _ _ _ h=>exact h
 obtain⟨lq,_,hrq⟩:=hh.rows q _ h1;obtain⟨lq',_,hrq'⟩:=hh'.rows q _ h3;have:=a4l (x:= .ptr Hk.length i o) rfl (cell hrq h2) (cell hrq' h4) hlr hl2 j9 hrow2 hext.cells (fun b hb hn=>hext.block b hb (fun ho=>hn (Or.inr ho)));rw[this];exact hlr
theorem a3q {w:World} {S:Nat→Prop} {ρ:Nat→Option Loc} {L:Nat→Prop} {l:Loc} {sz:Nat} {e e':List AV} (h:g9 w S ρ L l (.els sz [e])) (hl:e'.length=e.length)
  (hc:∀(k:Nat) a',e'[k]?=some a'→∃a,e[k]?=some a∧∀x,(∃b c t,l.b=some b∧w.heap[b]?=some (.cells c t (0,0))∧c[l.o+k]?=some x)→d8 w S ρ L a x→d8 w S ρ L a' x):g9 w S ρ L l (.els sz [e']):=by
 obtain⟨h1,h2,h3,h4⟩:=h;refine⟨h1,fun y hy=>?_,fun hb=>(by cases h3 hb),fun b hb=>?_⟩
 ·simp only[List.mem_singleton]at hy;subst hy;rw[hl];exact h2 e (by simp)
 ·obtain⟨c,t,k1,k2,k3,k4⟩:=h4 b hb;refine⟨c,t,k1,k2,by simpa using k3,fun i a hi=>?_⟩;simp only[List.flatten_cons,List.flatten_nil,List.append_nil]at hi k4;obtain⟨a0,g1,g2⟩:=hc i a hi;obtain⟨x,p1,p2,p3⟩:=k4 i a0 g1;exact⟨x,p1,p2,g2 x ⟨b,c,t,hb,k1,p1⟩ p3⟩
theorem a2j {P:Program} {ro:Option Nat} {J:Jt} {nt:Nat} {kp:List Nat} {c:Code} {T:Tm} {H:Hp} {Q:Exit→Tm→Hp→Prop} (q j:Nat) {sz:Nat} {e:List AV} {r i o:Nat} (hr:g6 H q=some (.els sz [e])) (hj:e[j]?=some (.ptr r i o))
  (h:∀x,GWp P ro J nt kp c T (p6 H q (some (.els sz [e.set j (.fptr x r i o)]))) Q):GWp P ro J nt kp c T H Q:=by
 intro hJ kv a w ⟨⟨S0,ρ,L,hc,hL,hjr,hm⟩,hk⟩;have hql:=T7 hr;obtain⟨l,hl,j9⟩:=hc.rows q _ hr;have hrow0:=j9;obtain⟨_,_,e3,e4⟩:=hrow0
 cases hb:l.b with
 |none=>cases e3 hb
 | some b=>
  obtain⟨cc,t,k1,k2,k3,k4⟩:=e4 b hb;simp only[List.flatten_cons,List.flatten_nil,List.append_nil]at k4;obtain⟨x,p1,p2,p3⟩:=k4 j _ hj;refine h x hJ kv a w ⟨⟨S0,ρ,L,⟨hc.wf,hc.size,hc.defers,hc.tmps,fun r' row hr'=>?_,fun r' hr'=>?_⟩,fun r' hr'=>by rw[J6 _ _ _ hql];exact hL r' hr',hjr,hm⟩,hk⟩
  ·rw[x5 _ _ _ _ (by omega)]at hr'
   split at hr'
   ·rename_i e';subst e';simp only[Option.some.injEq]at hr';subst hr';refine⟨l,hl,a3q j9 (by simp) fun k a' ha=>?_⟩
    by_cases hkj:k=j
    ·subst hkj;have hkl:k<e.length:=(List.getElem?_eq_some_iff.1 hj).1;rw[List.getElem?_set_self hkl]at ha;simp only[Option.some.injEq]at ha;subst ha;refine⟨_,hj,?_⟩;rintro y ⟨b',c',t',q1,q2,q3⟩ hy;rw[hb]at q1;simp only[Option.some.injEq]at q1;subst q1;rw[k1]at q2;simp only[Option.some.injEq,Obj.cells.injEq]at q2;rw[←q2.1,p1]at q3;simp only[Option.some.injEq]at q3;subst q3;exact .fptr _ _ _ _ hy
    ·rw[List.getElem?_set_ne (fun e=>hkj e.symm)]at ha;exact⟨a',ha,fun _ _ h=>h⟩
   ·exact hc.rows r' row hr'
  ·rw[x5 _ _ _ _ (by omega)]at hr'
   split at hr'
   ·cases hr'
   ·exact hc.dead r' hr'
theorem E8 {nt:Nat} {T:Tm} {H:Hp} (q j:Nat) {sz:Nat} {e:List AV} {x:Value} {r i o:Nat} (hr:g6 H q=some (.els sz [e])) (hj:e[j]?=some (.fptr x r i o)):Sub nt T H T (p6 H q (some (.els sz [e.set j (.ptr r i o)]))):=by
 rintro w0 B S0 a w ⟨⟨ρ,L,hc,hL⟩,hext⟩;have hql:=T7 hr;refine⟨⟨ρ,L,⟨hc.wf,hc.size,hc.defers,hc.tmps,fun r' row hr'=>?_,fun r' hr'=>?_⟩,fun r' hr'=>by rw[J6 _ _ _ hql];exact hL r' hr'⟩,hext⟩
 ·rw[x5 _ _ _ _ (by omega)]at hr'
  split at hr'
  ·rename_i e';subst e';simp only[Option.some.injEq]at hr';subst hr';obtain⟨l,hl,j9⟩:=hc.rows r' _ hr;refine⟨l,hl,a3q j9 (by simp) fun k a' ha=>?_⟩
   by_cases hkj:k=j
   ·subst hkj;have hkl:k<e.length:=(List.getElem?_eq_some_iff.1 hj).1;rw[List.getElem?_set_self hkl]at ha;simp only[Option.some.injEq]at ha;subst ha;refine⟨_,hj,fun y _ hy=>?_⟩
    cases hy with
    |pure _ _ h=>cases h
    |fptr _ _ _ _ h=>exact h
   ·rw[List.getElem?_set_ne (fun e=>hkj e.symm)]at ha;exact⟨a',ha,fun _ _ h=>h⟩
  ·exact hc.rows r' row hr'
 ·rw[x5 _ _ _ _ (by omega)]at hr'
  split at hr'
  ·cases hr'
  ·exact hc.dead r' hr'
end Go.AM
end
section
namespace Go.Tram.Lk
open Go.AM Go.Proofs
abbrev l7:=List (Move×Move)
abbrev kMM (m n:Move):List KC:=[.i .i64 m.Rail, .b m.Back, .i .i64 n.Rail, .b n.Back]
theorem a1K {m n m' n':Move}:kMM m n=kMM m' n'↔m=m'∧n=n':=by
 obtain⟨a,b⟩:=m;obtain⟨c,d⟩:=n;obtain⟨a',b'⟩:=m';obtain⟨c',d'⟩:=n';simp[kMM,and_assoc]
def b3I (s:l5) (m n:Move):Bool:=E3 s.Plan m&&(E3 s.Plan n&&H4 s.Plan m n)
def nxK (s:l5) (l:l7):Kvs:=l.map fun p=>(kMM p.1 p.2,(.bool (b3I s p.1 p.2):Value))
theorem a8v (s:l5) (m n:Move):∀l:l7,o7 (nxK s l) (kMM m n)=if (m,n)∈l then some (.bool (b3I s m n))else none
 |[]=>by simp[nxK,o7]
 | p ::l=>by
  have ih:=a8v s m n l;unfold nxK at ih ⊢;rw[List.map_cons,o7]
  by_cases h:m=p.1∧n=p.2
  ·rw[if_pos (a1K.2 h),if_pos (by rw[h.1,h.2];simp),h.1,h.2]
  ·rw[if_neg (fun e=>h (a1K.1 e)),ih];have:((m,n)∈p::l)↔((m,n)∈l):=by
    rw[List.mem_cons];constructor
    ·rintro(e|e)
     ·exact absurd (by rw[←e];exact⟨rfl,rfl⟩) h
     ·exact e
    ·exact Or.inr
   simp only[this]
theorem b4Y (s:l5) (m n:Move):∀l:l7,(m,n)∉l→I9 (nxK s l) (kMM m n) (.bool (b3I s m n))=nxK s (l++[(m,n)])
 |[],_=>rfl
 |p::l,h=>by
  have ih:=b4Y s m n l fun e=>h (by simp[e]);unfold nxK at ih ⊢;rw[List.map_cons,I9,if_neg,ih]
  ·rfl
  ·intro e;obtain⟨e1,e2⟩:=a1K.1 e;exact h (by rw[e1,e2];simp)
def b7h (s:l5) (m n:Move):Bool:=E3 s.Plan m&&(E3 s.Plan n&&(H4 s.Plan m n&&a0B s.Plan m))
def b7M (s:l5) (m n:Move):Y7:=if b7h s m n then V7 s.Plan m n else⟨0,0⟩
abbrev c2Y (s:l5) (m n:Move):List AV:=[I (b7M s m n).Node,I (b7M s m n).Leg,Bo (b7h s m n)]
def ndK (s:l5) (l:l7):List (List KC×AV):=l.map fun p=>(kMM p.1 p.2, .agg (c2Y s p.1 p.2))
theorem b3X (s:l5) (m n:Move):∀l:l7,A9 (ndK s l) (kMM m n)=if (m,n)∈l then some (.agg (c2Y s m n))else none
 |[]=>by simp[ndK,A9]
 | p ::l=>by
  have ih:=b3X s m n l;unfold ndK at ih ⊢;rw[List.map_cons,A9]
  by_cases h:m=p.1∧n=p.2
  ·rw[if_pos (a1K.2 h),if_pos (by rw[h.1,h.2];simp),h.1,h.2]
  ·rw[if_neg (fun e=>h (a1K.1 e)),ih];have:((m,n)∈p::l)↔((m,n)∈l):=by
    rw[List.mem_cons];constructor
    ·rintro(e|e)
     ·exact absurd (by rw[←e];exact⟨rfl,rfl⟩) h
     ·exact e
    ·exact Or.inr
   simp only[this]
theorem b2Q (s:l5) (m n:Move):∀l:l7,(m,n)∉l→O0 (ndK s l) (kMM m n) (.agg (c2Y s m n))=ndK s (l++[(m,n)])
 |[],_=>rfl
 |p::l,h=>by
  have ih:=b2Q s m n l fun e=>h (by simp[e]);unfold ndK at ih ⊢;rw[List.map_cons,O0,if_neg,ih]
  ·rfl
  ·intro e;obtain⟨e1,e2⟩:=a1K.1 e;exact h (by rw[e1,e2];simp)
@[simp high] theorem c3g (s:l5) (l:l7) (g:List (Option Nat)) (n:Nat):(ndK s l).map (fun p=>(p.1,o4 g (n+1) p.2))=ndK s l:=by
 unfold ndK;rw[List.map_map];refine List.map_congr_left fun p _=>?_;simp[o4]
@[simp high] theorem c1F (l:List Car) (g:List (Option Nat)) (n:Nat):(n7 l).map (fun p=>(p.1,o4 g (n+1) p.2))=n7 l:=by
 unfold n7;rw[List.map_map];refine List.map_congr_left fun p _=>?_;simp[o4]
@[simp high] theorem c2V (s:l5) (l:l7) (H:Nat→Option k7) (g:List (Option Nat)) (n:Nat):(ndK s l).map (fun p=>(p.1,V5 H g (n+1) p.2))=ndK s l:=by
 unfold ndK;rw[List.map_map];refine List.map_congr_left fun p _=>?_;simp[V5]
@[simp high] theorem c0W (l:List Car) (H:Nat→Option k7) (g:List (Option Nat)) (n:Nat):(n7 l).map (fun p=>(p.1,V5 H g (n+1) p.2))=n7 l:=by
 unfold n7;rw[List.map_map];refine List.map_congr_left fun p _=>?_;simp[V5]
@[simp] theorem c6y:zOk (.agg #[.int .i64 0, .int .i64 0, .bool false])=true:=rfl
@[simp] theorem c6K:zAV (.agg #[.int .i64 0, .int .i64 0, .bool false])= .agg [I 0,I 0,Bo false]:=rfl
@[simp] theorem c6F:zOk (.agg #[.int .i64 0, .int .i64 0, .slice none 0 0, .int .i64 0])=true:=rfl
@[simp] theorem c6s:zAV (.agg #[.int .i64 0, .int .i64 0, .slice none 0 0, .int .i64 0])= .agg [I 0,I 0, .v (.slice none 0 0),I 0]:=rfl
abbrev ruR (s:l5) (fo si up:Kvs) (x y:Nat):Option k7:=some (.els 9 [s.cells++[.mpc true KT4 fo, .mpc false [.i .i64] si, .mpc true KTM up, .mp x, .mp y]])
abbrev nxR (s:l5) (l:l7):Option k7:=some (.map true a1H (nxK s l))
abbrev ndR (s:l5) (l:l7):Option k7:=some (.mpa true a1H (ndK s l))
def b5R (l:l7) (m n:Move):l7:=if (m,n)∈l then l else l++[(m,n)]
theorem a7D (s:l5) (hv:d7 s.Plan=true) (m n:Move) (hm:E3 s.Plan m=true) (hn:E3 s.Plan n=true) (fo si up:Kvs) (nx nd:l7):
  c6 Tryz.prog 132 [.ptr 0 0 0,m.av,n.av] [ruR s fo si up 1 2] [nxR s nx,ndR s nd] (Bo (H4 s.Plan m n)) [ruR s fo si up 1 2] [nxR s (b5R nx m n),ndR s nd]:=by
 have hf:b3I s m n=H4 s.Plan m n:=by simp[b3I,hm,hn]
 have hg:=a8v s m n nx;rw[hf]at hg
 by_cases hmem:(m,n)∈nx
 ·rw[if_pos hmem]at hg;have ha:b5R nx m n=nx:=if_pos hmem;rw[ha];refine oG [0] Tryz.func132 Tryz.ntmps132 Tryz.results132 ?_;intro J hJ;refine gW ?_;refine gW ?_;refine a7 fun K1 hK1=>?_;refine gD ?_ fun K hK=>by simp -dsimp;refine d6 (.tup [Bo (H4 s.Plan m n),Bo true]) (fun hm=>by rw[hg];rfl) ?_;simp -dsimp;exact hK
  refine gW ?_;refine c3 rfl (fun hc0=>?_) (fun hc0=>?_)
  ·refine gW ?_;exact g7 (gT [some 0,some 1,some 2])
  ·simp at hc0
 ·rw[if_neg hmem]at hg;have ha:b5R nx m n=nx++[(m,n)]:=if_neg hmem;rw[ha];have hs:=b4Y s m n nx hmem;rw[hf]at hs;have hfo:=a7Z s.Plan m n hv hm hn;have hg2:o7 (nxK s (nx++[(m,n)])) (kMM m n)=some (.bool (H4 s.Plan m n)):=by rw[a8v,if_pos (by simp),hf]
  refine oG [0] Tryz.func132 Tryz.ntmps132 Tryz.results132 ?_;intro J hJ;refine gW ?_;refine gW ?_;refine a7 fun K1 hK1=>?_;refine gD ?_ fun K hK=>by simp -dsimp;refine d6 (.tup [Bo false,Bo false]) (fun hm=>by rw[hg];rfl) ?_;simp -dsimp;exact hK
  refine gW ?_;refine c3 rfl (fun hc0=>?_) (fun hc0=>?_)
  ·simp at hc0
  ·refine c5 ?_;refine zQ (hK1 _ _ ?_);refine gP [0,4,5,7] ?_;refine gD ?_ fun K hK=>by simp -dsimp;refine cI (hfo) ?_;simp -dsimp;exact hK
   refine gD ?_ fun K hK=>by simp -dsimp [hs];exact hK
   refine gD ?_ fun K hK=>by simp -dsimp;refine d6 (Bo (H4 s.Plan m n)) (fun hm=>by rw[hg2];rfl) ?_;simp -dsimp;exact hK
   exact g7 (gT [some 0,some 1,some 2])
abbrev stR (X:Value) (np:Nat):Option k7:=some (.els 3 [[.fptr X 1 0 0, .mp 2, .row 3 0 np]])
abbrev ptR (l:List Int):Option k7:=some (.els 1 (l.map j4))
abbrev caR (l:List Car):Option k7:=some (a8a l)
abbrev stK (X:Value) (s:l5) (fo si up:Kvs) (np:Nat):Hp:=[stR X np,ruR s fo si up 4 5]
abbrev stD (s:l5) (cs:List Car) (ps:List Int) (nx nd:l7):Hp:=[caR cs,ptR ps,nxR s nx,ndR s nd]
def a4A (l:l7) (c:Car) (m:Move):l7:=if c.Way=[]then l else b5R l (B7 c) m
theorem B2 {P:Program} {f:FuncId} {args:List AV} {X:Value} {np np':Nat} {s:l5} {fo si up:Kvs} {D D':Hp} {res:AV}
  (h:c6 P f args [stR X np] (ruR s fo si up 4 5::D) res [stR X np'] (ruR s fo si up 4 5::D')):c6 P f args (stK X s fo si up np) D res (stK X s fo si up np') D':=
 c6.keep 0 0 0 h rfl rfl rfl rfl rfl rfl
theorem a3l {c:Car} (h:c.Way≠[]):c.Way[c.Way.length-1]?=some (B7 c):=by
 unfold B7;rw[←List.getLast?_eq_getElem?]
 cases hg:c.Way.getLast? with
 |none=>exact absurd (List.getLast?_eq_none_iff.1 hg) h
 |some x=>rfl
theorem a6d {s:l5} {c:Car} (h:c.Way≠[]) (hw:wayB s.Plan c.Way=true):E3 s.Plan (B7 c)=true:=by
 have hl:=I5 hw;have:=R8 hw (c.Way.length-1) (by omega);unfold V0 at this;rw[a3l h]at this;exact this
theorem b2g (X:Value) (s:l5) (fo si up:Kvs) (cs:List Car) (ps:List Int) (nx nd:l7) (c:Car) (m:Move) (hne:c.Way=[]):
  c6 Tryz.prog 100 [.ptr 0 0 0,c.av,m.av] (stK X s fo si up ps.length) (stD s cs ps nx nd) (.tup [.agg (D1 s c m).cells,Bo (I7 s c m)]) (stK X s fo si up ps.length) (stD s cs ps nx (a4A nd c m)):=by
 have e1:I7 s c m=false:=by simp[I7,hne]
 have e2:D1 s c m=⟨0,0⟩:=by unfold D1;rw[if_neg (by simp[e1])]
 have e3:a4A nd c m=nd:=if_pos hne;rw[e1,e2,e3];refine B2 ?_;refine oG [0] Tryz.func100 Tryz.ntmps100 Tryz.results100 ?_;intro J hJ;refine gW ?_;refine a7 fun K1 hK1=>?_;refine gW ?_ fun K hK=>by simp -dsimp [hne];exact hK
 refine c3 rfl (fun hc0=>?_) (fun hc0=>?_)
 ·refine gW ?_;refine gU (T':=[(0, .ptr 0 0 0),(6, .iptr [I 0,I 0]),(7,Bo false)]) (H':=stR X ps.length::ruR s fo si up 4 5::stD s cs ps nx nd) [some 0,some 1,some 2,some 3,some 4,some 5] ?_;exact g7 (gT [some 0,some 1,some 2,some 3,some 4,some 5])
 ·simp at hc0
theorem Q5 (X:Value) (s:l5) (fo si up:Kvs) (cs:List Car) (ps:List Int) (nx nd:l7) (c:Car) (m:Move) (hv:d7 s.Plan=true) (hne:c.Way≠[]) (hw:wayB s.Plan c.Way=true) (hm:E3 s.Plan m=true):
  c6 Tryz.prog 100 [.ptr 0 0 0,c.av,m.av] (stK X s fo si up ps.length) (stD s cs ps nx nd) (.tup [.agg (D1 s c m).cells,Bo (I7 s c m)]) (stK X s fo si up ps.length) (stD s cs ps nx (a4A nd c m)):=by
 have hl:=I5 hw;have hlast:=a3l hne;have hml:=a6d hne hw;have eb:I7 s c m=b7h s (B7 c) m:=by simp[I7,b7h,hne,hml,hm]
 have es:D1 s c m=b7M s (B7 c) m:=by unfold D1 b7M;rw[eb]
 have ex:a4A nd c m=b5R nd (B7 c) m:=if_neg hne;rw[eb,es,ex];have hbt:=a7Q s.Plan (B7 c) m hv hml hm;have hbe:b7h s (B7 c) m=(H4 s.Plan (B7 c) m&&a0B s.Plan (B7 c)):=by simp[b7h,hml,hm]
 rw[←hbe]at hbt;have hg:=b3X s (B7 c) m nd;have p6:=b2Q s (B7 c) m nd;have hbs:(if b7h s (B7 c) m=true then V7 s.Plan (B7 c) m else⟨0,0⟩)=b7M s (B7 c) m:=rfl;rw[hbs]at hbt;have hbc:c2Y s (B7 c) m=[I (b7M s (B7 c) m).Node,I (b7M s (B7 c) m).Leg,Bo (b7h s (B7 c) m)]:=rfl;rw[hbc]at hg p6;generalize B7 c=last at*
 generalize b7M s last m=B at*
 generalize b7h s last m=b at*
 have herr:((if b=true then(0:Int)else 4)==0)=b:=by cases b<;>rfl
 have wl:IntKind.i64.wrap ((c.Way.length:Int)-1)=(c.Way.length:Int)-1:=c4 (by omega) (by omega);have tl:((c.Way.length:Int)-1).toNat=c.Way.length-1:=by omega
 have l0:0≤(c.Way.length:Int)-1:=by omega
 have l1:1≤(c.Way.length:Int):=by omega
 refine B2 ?_
 by_cases hmem:(last,m)∈nd
 ·rw[if_pos hmem]at hg;have ha:b5R nd last m=nd:=if_pos hmem;rw[ha];refine oG [0] Tryz.func100 Tryz.ntmps100 Tryz.results100 ?_;intro J hJ;refine gW ?_;refine a7 fun K1 hK1=>?_;refine gW ?_ fun K hK=>by simp -dsimp [hne];exact hK
  refine c3 rfl (fun hc0=>?_) (fun hc0=>?_)
  ·simp[hne]at hc0
  ·refine c5 ?_;refine zQ (hK1 _ _ ?_);refine gP [0,4,5,6] ?_;refine gD ?_ fun K hK=>by simp -dsimp [hlast,wl,tl,l0,l1];exact hK
   refine a7 fun K2 hK2=>?_;refine gD ?_ fun K hK=>by simp -dsimp;refine d6 (.tup [.agg [I B.Node,I B.Leg,Bo b],Bo true]) (fun hm=>by rw[hg];rfl) ?_;simp -dsimp;exact hK
   refine gW ?_;refine c3 rfl (fun hc1=>?_) (fun hc1=>?_)
   ·refine gD ?_;refine gU (T':=[(0, .ptr 0 0 0),(6, .iptr [I B.Node,I B.Leg]),(7,Bo b)]) (H':=stR X ps.length::ruR s fo si up 4 5::stD s cs ps nx nd) [some 0,some 1,some 2,some 3,some 4,some 5] ?_;exact g7 (gT [some 0,some 1,some 2,some 3,some 4,some 5])
   ·simp at hc1
 ·rw[if_neg hmem]at hg;have hset2:=p6 hmem;have ha:b5R nd last m=nd++[(last,m)]:=if_neg hmem;rw[ha];refine oG [0] Tryz.func100 Tryz.ntmps100 Tryz.results100 ?_;intro J hJ;refine gW ?_;refine a7 fun K1 hK1=>?_;refine gW ?_ fun K hK=>by simp -dsimp [hne];exact hK
  refine c3 rfl (fun hc0=>?_) (fun hc0=>?_)
  ·simp[hne]at hc0
  ·refine c5 ?_;refine zQ (hK1 _ _ ?_);refine gP [0,4,5,6] ?_;refine gD ?_ fun K hK=>by simp -dsimp [hlast,wl,tl,l0,l1];exact hK
   refine a7 fun K2 hK2=>?_;refine gD ?_ fun K hK=>by simp -dsimp;refine d6 (.tup [.agg [I 0,I 0,Bo false],Bo false]) (fun hm=>by rw[hg];rfl) ?_;simp -dsimp;exact hK
   refine gW ?_;refine c3 rfl (fun hc1=>?_) (fun hc1=>?_)
   ·simp at hc1
   ·refine c5 ?_;refine zQ (hK2 _ _ ?_);refine gP [0,6,8] ?_;refine gD ?_ fun K hK=>by simp -dsimp;refine cI (hbt) ?_;simp -dsimp;exact hK
    refine gD ?_ fun K hK=>by simp -dsimp [hset2,herr];exact hK
    refine gW ?_ fun K hK=>by simp -dsimp [herr];exact hK
    refine gU (T':=[(0, .ptr 0 0 0),(6, .iptr [I B.Node,I B.Leg]),(7,Bo b)]) (H':=stR X ps.length::ruR s fo si up 4 5::stD s cs ps nx (nd++[(last,m)])) [some 0,some 1,some 2,some 3,some 4,some 5] ?_;exact g7 (gT [some 0,some 1,some 2,some 3,some 4,some 5])
end Go.Tram.Lk
end
section
namespace Go.Tram.Lk
open Go.AM Go.Proofs
theorem a1d {P:Program} {f:FuncId} {X:Value} {r i o:Nat} {args:List AV} {Hk Hd Hk' Hn:Hp} {res:AV} (h:c6 P f (.ptr r i o::args) Hk Hd res Hk' Hn):c6 P f (.fptr X r i o::args) Hk Hd res Hk' Hn:=by
 obtain⟨h1,h2,h3⟩:=h;refine⟨h1,h2,fun S0 w ρ vs hh hlen hrep=>h3 S0 w ρ vs hh hlen fun j c x hc hx=>?_⟩
 cases j with
 |zero=>
  simp only[List.getElem?_cons_zero,Option.some.injEq]at hc;subst hc;have:=hrep 0 _ x rfl hx
  cases this with
  |pure _ _ h=>cases h
  |fptr _ _ _ _ h=>exact h
 |succ j=>exact hrep (j+1) c x hc hx
theorem R5 {P:Program} {f:FuncId} {args:List AV} {X pv:Value} {np np':Nat} {s:l5} {fo si up:Kvs} {D D':Hp}
  (h:k9 P f args [stR X np] (ruR s fo si up 4 5::D) pv [stR X np'] (ruR s fo si up 4 5::D')):k9 P f args (stK X s fo si up np) D pv (stK X s fo si up np') D':=by
 refine⟨h.1,rfl,fun S0 w ρ vs hh hl hreps=>(h.2.2 S0 w ρ vs hh hl hreps).mono ?_⟩;rintro e w' ⟨rfl,ρ',hh',hkeep,hfresh,hext⟩;refine⟨rfl,ρ',hh',fun r l' hr hl'=>?_,hfresh,hext⟩
 by_cases hrk:r<1
 ·exact hkeep r l' hrk hl'
 have hre:r=1:=by simp at hr;omega
 subst hre;obtain⟨l,hlr,j9⟩:=hh.rows 1 _ rfl;obtain⟨l2,hl2,hrow2⟩:=hh'.rows 1 _ rfl;rw[hl2]at hl'
 cases hl'
 have cell:∀{w:World} {ρ:Nat→Option AM.Loc} {L:Nat→Prop} {S:Nat→Prop} {l:AM.Loc} {n:Nat},g9 w S ρ L l (.els 3 [[.fptr X 1 0 0, .mp 2, .row 3 0 n]])→d8 w S ρ L (.ptr 1 0 0) X:=by
  intro w ρ L S l n hr;obtain⟨_,_,e3,e4⟩:=hr
  cases hb:l.b with
  |none=>have:=e3 hb;simp at this
  |some b=>
   obtain⟨c,t,_,_,_,p⟩:=e4 b hb;obtain⟨u,_,_,hu⟩:=p 0 _ rfl
   cases hu with
   |pure _ _ h=>cases h
   |fptr _ _ _ _ h=>exact h
 obtain⟨lq,_,hrq⟩:=hh.rows 0 _ rfl;obtain⟨lq',_,hrq'⟩:=hh'.rows 0 _ rfl;have:=a4l (x:= .ptr 1 0 0) rfl (cell hrq) (cell hrq') hlr hl2 j9 hrow2 hext.cells (fun b hb hn=>hext.block b hb (fun ho=>hn (Or.inr ho)));rw[this];exact hlr
section
variable (X:Value) (s:l5) (fo si up:Kvs) (cs:List Car) (ps:List Int) (nx nd:l7) (c:Car) (m:Move)
theorem c2f (hne:c.Way=[]):c6 Tryz.prog 94 [.ptr 0 0 0,c.av,m.av] (stK X s fo si up ps.length) (stD s cs ps nx nd) (.tup []) (stK X s fo si up ps.length) (stD s cs ps (a4A nx c m) nd):=by
 have ex:a4A nx c m=nx:=if_pos hne;rw[ex];refine B2 ?_;have hr:=r4 1 0;refine oG [0] Tryz.func94 Tryz.ntmps94 Tryz.results94 ?_;intro J hJ;refine gW ?_;refine gE ?_ fun K hK=>by simp -dsimp [hne];refine s7 [I 0,Bo false] (fun h=>by simp at h) ?_;simp -dsimp [hne];refine a6R (Bo false) (fun hm=>by simp at hm) (by simp) ?_;simp -dsimp;refine cI (hr) ?_;simp -dsimp [hne];exact hK
 try simp only[zT,reduceIte,Nat.reduceEqDiff]
 exact⟨[some 0,some 1,some 2,some 3,some 4,some 5],rfl,by simp,by simp,by simp,by simp[R3,v7]⟩
theorem c2F (hv:d7 s.Plan=true) (hne:c.Way≠[]) (hw:wayB s.Plan c.Way=true) (hm:E3 s.Plan m=true) (hb:endB s c m=false):
  c6 Tryz.prog 94 [.ptr 0 0 0,c.av,m.av] (stK X s fo si up ps.length) (stD s cs ps nx nd) (.tup []) (stK X s fo si up ps.length) (stD s cs ps (a4A nx c m) nd):=by
 have ex:a4A nx c m=b5R nx (B7 c) m:=if_neg hne;rw[ex];have hl:=I5 hw;have hlast:=a3l hne;have hml:=a6d hne hw;have hfo:=a1d (X:=X) (a7D s hv (B7 c) m hml hm fo si up nx nd);have hf:H4 s.Plan (B7 c) m=true:=by simpa [endB,hne]using hb
 rw[hf]at hfo;generalize B7 c=last at*
 have wl:IntKind.i64.wrap ((c.Way.length:Int)-1)=(c.Way.length:Int)-1:=c4 (by omega) (by omega);have tl:((c.Way.length:Int)-1).toNat=c.Way.length-1:=by omega
 have l1:1≤(c.Way.length:Int):=by omega
 have l2:0<(c.Way.length:Int):=by omega
 have l3:0<c.Way.length:=by omega
 have hr:=r4 1 0;refine B2 ?_;refine oG [0] Tryz.func94 Tryz.ntmps94 Tryz.results94 ?_;intro J hJ;refine gW ?_;refine gE ?_ fun K hK=>by simp -dsimp [hlast,wl,tl,l1,l2,l3,hne];refine s7 last.cells (fun _=>by rw[List.getElem?_map,hlast];rfl) ?_;simp -dsimp [hlast,wl,tl,l1,l2,l3,hne];refine cM [1] [4,5] (hfo) ?_;simp -dsimp [hlast,wl,tl,l1,l2,l3,hne];refine cI (hr) ?_;simp -dsimp [hlast,wl,tl,l1,l2,l3,hne];exact hK
 try simp only[zT,reduceIte,Nat.reduceEqDiff]
 exact⟨[some 0,some 1,some 2,some 3,some 8,some 9],rfl,by simp,by simp,by simp,by simp[R3,v7]⟩
theorem c2L (hv:d7 s.Plan=true) (hw:c.Way≠[]→wayB s.Plan c.Way=true) (hm:E3 s.Plan m=true) (hb:endB s c m=true):
  k9 Tryz.prog 94 [.ptr 0 0 0,c.av,m.av] (stK X s fo si up ps.length) (stD s cs ps nx nd) (b1j 1 0) (stK X s fo si up ps.length) (stD s cs ps (a4A nx c m) nd):=by
 have hne:c.Way≠[]:=by intro e;simp[endB,e]at hb
 have ex:a4A nx c m=b5R nx (B7 c) m:=if_neg hne;rw[ex]
 replace hw:=hw hne
 have hl:=I5 hw;have hlast:=a3l hne;have hml:=a6d hne hw;have hfo:=a1d (X:=X) (a7D s hv (B7 c) m hml hm fo si up nx nd);have hf:H4 s.Plan (B7 c) m=false:=by simpa [endB,hne]using hb
 rw[hf]at hfo;generalize B7 c=last at*
 have wl:IntKind.i64.wrap ((c.Way.length:Int)-1)=(c.Way.length:Int)-1:=c4 (by omega) (by omega);have tl:((c.Way.length:Int)-1).toNat=c.Way.length-1:=by omega
 have l1:1≤(c.Way.length:Int):=by omega
 have l2:0<(c.Way.length:Int):=by omega
 have l3:0<c.Way.length:=by omega
 refine R5 ?_;refine k9.of_bodyG [0] Tryz.func94 rfl (by decide) (by simp[Tryz.ntmps94]) rfl rfl ?_;intro J hJ;simp only[Tryz.ntmps94,Tryz.results94];refine gW ?_;refine a4o (List.cons_ne_nil _ _) a2g rfl (by decide) rfl rfl rfl (by decide+kernel) (by decide+kernel) fun K hK=>?_;simp only[List.dropLast];simp -dsimp [hlast,wl,tl,l1,l2,l3,hne];refine s7 last.cells (fun _=>by rw[List.getElem?_map,hlast];rfl) ?_;simp -dsimp [hlast,wl,tl,l1,l2,l3,hne];refine cM [1] [4,5] (hfo) ?_;simp -dsimp [hlast,wl,tl,l1,l2,l3,hne];refine hK _ _ _ (by decide+kernel) (x3 [] [] [none,none,none,none,none,none,none,none,none,none] (J7 1 0) rfl (by simp[a3i]) rfl (by simp) (by simp) rfl (by simp) (by simp) (by simp) ?_);clear hK K;exact⟨rfl,[some 0,some 1,some 2,some 3,some 8,some 9],rfl,by simp,by simp,by simp⟩
end
end Go.Tram.Lk
end
section
namespace Go.Tram.Lk
open Go.AM Go.Proofs
abbrev stC (s:l5) (fo si up:Kvs) (ps:List Int) (nx:l7):List AV:=[.iptr (e8 s fo si up (.mpc true a1H (nxK s nx)) .any), .any, .lst 1 (ps.map j4)]
theorem a5G (F:FuncId) (a b d:List AV) (x:Car) (n:Move) (q:Bool) (h:a6 Tryz.prog F [x.av,n.av, .iptr a, .iptr b, .iptr d] (Bo q)):a6 Tryz.prog 176 (.agg n.cells::J4 [[.clo F [.iptr a, .iptr b, .iptr d]],x.cells]) (Bo q):=by
 show a6 Tryz.prog 176 [.agg n.cells, .iptr [.clo F [.iptr a, .iptr b, .iptr d]], .iptr x.cells] (Bo q);refine oB Tryz.func176 Tryz.ntmps176 Tryz.results176 ?_;refine aW ?_;refine aW ?_ fun K hK=>by simp -dsimp;refine cI (h) ?_;simp -dsimp;exact hK
 exact a9 (by simp)
theorem a5m (F:FuncId) (a b:List AV) (x:Car) (n:Move) (q:Bool) (h:a6 Tryz.prog F [x.av,n.av, .iptr a, .iptr b] (Bo q)):a6 Tryz.prog 176 (.agg n.cells::J4 [[.clo F [.iptr a, .iptr b]],x.cells]) (Bo q):=by
 show a6 Tryz.prog 176 [.agg n.cells, .iptr [.clo F [.iptr a, .iptr b]], .iptr x.cells] (Bo q);refine oB Tryz.func176 Tryz.ntmps176 Tryz.results176 ?_;refine aW ?_;refine aW ?_ fun K hK=>by simp -dsimp;refine cI (h) ?_;simp -dsimp;exact hK
 exact a9 (by simp)
theorem a8o {l:List Car} {c:Car} {f:Car→Move→Bool} {k:Int} (h:a4C l c f=some k):∃(i:Nat) (x:Car),l[i]?=some x∧x.Name=k∧x.Name≠c.Name∧x.Way.any (f x)=true∧∀(j:Nat) (y:Car),j<i→l[j]?=some y→y.Name≠c.Name→y.Way.any (f y)=false:=by
 unfold a4C at h;rw[Option.map_eq_some_iff]at h;obtain⟨x,hx,rfl⟩:=h;rw[List.find?_eq_some_iff_getElem]at hx;obtain⟨h1,i,hi,he,hj⟩:=hx;simp only[Bool.and_eq_true,decide_eq_true_eq]at h1;refine⟨i,x,by rw[List.getElem?_eq_getElem hi,he],rfl,h1.1,h1.2,fun j y hji hy hne=>?_⟩;have:=hj j hji;obtain⟨hjl,hye⟩:=List.getElem?_eq_some_iff.1 hy;rw[hye]at this;simpa [hne]using this
section
variable (X:Value) (s:l5) (fo si up:Kvs) (cs:List Car) (ps:List Int) (nx nd:l7) (c:Car) (m:Move) (kd:Int) (F:FuncId) (h:Car→Move→Bool)
theorem b6g (hs:Srt cs) (hl:cs.length≤1000) (hb:∀x∈cs,(0≤x.Name∧x.Name≤1000000)∧x.Way.length≤1000) (hF:∀x∈cs,∀n∈x.Way,a6 Tryz.prog F [x.av,n.av, .iptr [.iptr (stC s fo si up ps nx)], .iptr c.cells, .iptr m.cells] (Bo (h x n))) (hn:a4C cs c h=none):
  c6 Tryz.prog 134 [.ptr 0 0 0,c.av,I kd, .clo F [.ptr 6 0 0, .ptr 7 0 0, .ptr 8 0 0]] (stK X s fo si up ps.length) (stD s cs ps nx nd++[some (.els 1 [[.ptr 0 0 0]]),some (.els 4 [c.cells]),some (.els 2 [m.cells])]) (.tup []) (stK X s fo si up ps.length) (stD s cs ps nx nd):=by
 have hnm:=R4 cs hs hl (fun x hx=>(hb x hx).1) (.fptr X 1 0 0) (.row 3 0 ps.length) (ruR s fo si up 4 5) (ptR ps) (nxR s nx) (ndR s nd);have hcont:∀x∈cs,a6 Tryz.prog 102 [a6b x.Way, .clo 176 (J4 [[.clo F [.iptr [.iptr (stC s fo si up ps nx)], .iptr c.cells, .iptr m.cells]],x.cells])] (Bo (x.Way.any (h x))):=
  fun x hx=>a0h x.Way _ _ (h x) (fun n hn=>a5G F _ _ _ x n (h x n) (hF x hx n hn)) (by have:=(hb x hx).2;omega)
 have htp:List.take ps.length (ps.map j4)=ps.map j4:=List.take_of_length_le (by simp);refine B2 ?_;refine oG [0] Tryz.func134 Tryz.ntmps134 Tryz.results134 ?_;intro J hJ;refine gW ?_;refine gW ?_ fun K hK=>by simp -dsimp;refine cM [0,1] [2,3,4,5] (hnm) ?_;simp -dsimp;exact hK
 refine c8 ?_;refine gP [0,2,5,7,12,13,14] ?_;refine i6 [0,2,5,7,12,13] (α:=Nat) (fun k=>[(14,I k)]) (fun k=>[some (.els 3 [[.fptr X 1 0 0, .mp 11, .row 12 0 ps.length]]),ruR s fo si up 13 14,none,none,none,none,some (.els 1 [[.ptr 0 0 0]]),some (.els 4 [c.cells]),some (.els 2 [m.cells]),some (.els 4 [c.cells]),some (.els 1 [[.clo F [.ptr 6 0 0, .ptr 7 0 0, .ptr 8 0 0]]]),caR cs,ptR ps,nxR s nx,ndR s nd,some (.els 1 (nmL cs))]) (fun k=>k≤cs.length) (fun k=>cs.length-k) 0 ?_ ?_ ?_
 ·exact Nat.zero_le _
 ·exact M9 (c9 (by simp)) (by simp)
 rintro k k1;refine zN ?_;refine gW ?_;refine a7 fun K1 hK1=>?_;refine c3 rfl (fun hc0=>?_) (fun hc0=>?_)
 ·skip
  try simp at hc0
  obtain⟨x,hx⟩:=gx (l:=cs) (i:=k) (by simpa using hc0);have hxm:=List.mem_of_getElem? hx;have wk:=zW k (by omega);obtain⟨hkl,hxe⟩:=List.getElem?_eq_some_iff.1 hx;have g6:(A9 (n7 cs) (kOf x.Name)).getD (.agg [I 0,I 0, .v (.slice none 0 0),I 0])=x.av:=by rw[k8,F5 hs hxm];rfl
  have hct:=hcont x hxm;have hany:x.Name≠c.Name→x.Way.any (h x)=false:=fun hne=>List.any_eq_false.2 fun n hnm=>by simp[a1c.1 hn x hxm hne n hnm]
  simp only[J4,List.map_cons,List.map_nil]at hct;generalize x.Way.any (h x)=an at hct hany;obtain⟨hnl,hng⟩:=List.getElem?_eq_some_iff.1 (l8 hx);have hsel:(x.Name !=c.Name&&an)=false:=by by_cases he:x.Name=c.Name;simp[he];simp[hany he]
  refine c5 ?_;refine zQ (hK1 _ _ ?_);refine gP [0,2,5,7,12,13,14] ?_;refine a7 fun K2 hK2=>?_;refine c8 ?_;refine gW ?_ fun K hK=>by simp -dsimp [l8 hx,hkl,hng];exact hK
  refine gW ?_ fun K hK=>by simp -dsimp;refine d6 (x.av) (fun hm=>g6) ?_;simp -dsimp;exact hK
  refine gV ?_ fun K hK=>by simp -dsimp [htp,hsel];refine cY (fun hm=>hct) ?_;simp -dsimp [htp,hsel];refine cI (r4 kd x.Name) ?_;simp -dsimp [htp,hsel];exact hK
  refine zQ (hK2 _ _ ?_);refine gP [0,2,5,7,12,13,14] ?_;refine gV ?_ fun K hK=>by simp -dsimp [wk];exact hK
  refine zQ ?_;exact⟨k+1,by omega,by omega,gB [some 0,some 1,none,none,none,none,some 6,some 7,some 8,some 9,some 10,some 11,some 12,some 13,some 14,some 15]⟩
 ·skip
  try simp at hc0
  have hke:k=cs.length:=by have:¬k<cs.length:=(by simpa using hc0);omega
  subst hke;refine p7 ?_
  try simp only[zT,reduceIte,Nat.reduceEqDiff]
  exact⟨[some 0,some 1,some 11,some 12,some 13,some 14],rfl,by simp,by simp,by simp,by simp[R3,v7]⟩
end
section
variable (X:Value) (s:l5) (fo si up:Kvs) (cs:List Car) (ps:List Int) (nx nd:l7) (c:Car) (m:Move) (kd:Int) (F:FuncId) (h:Car→Move→Bool)
theorem b6t (hs:Srt cs) (hl:cs.length≤1000) (hb:∀x∈cs,(0≤x.Name∧x.Name≤1000000)∧x.Way.length≤1000) (hF:∀x∈cs,∀n∈x.Way,a6 Tryz.prog F [x.av,n.av, .iptr [.iptr (stC s fo si up ps nx)], .iptr m.cells] (Bo (h x n))) (hn:a4C cs c h=none):
  c6 Tryz.prog 134 [.ptr 0 0 0,c.av,I kd, .clo F [.ptr 6 0 0, .ptr 7 0 0]] (stK X s fo si up ps.length) (stD s cs ps nx nd++[some (.els 1 [[.ptr 0 0 0]]),some (.els 2 [m.cells])]) (.tup []) (stK X s fo si up ps.length) (stD s cs ps nx nd):=by
 have hnm:=R4 cs hs hl (fun x hx=>(hb x hx).1) (.fptr X 1 0 0) (.row 3 0 ps.length) (ruR s fo si up 4 5) (ptR ps) (nxR s nx) (ndR s nd);have hcont:∀x∈cs,a6 Tryz.prog 102 [a6b x.Way, .clo 176 (J4 [[.clo F [.iptr [.iptr (stC s fo si up ps nx)], .iptr m.cells]],x.cells])] (Bo (x.Way.any (h x))):=
  fun x hx=>a0h x.Way _ _ (h x) (fun n hn=>a5m F _ _ x n (h x n) (hF x hx n hn)) (by have:=(hb x hx).2;omega)
 have htp:List.take ps.length (ps.map j4)=ps.map j4:=List.take_of_length_le (by simp);refine B2 ?_;refine oG [0] Tryz.func134 Tryz.ntmps134 Tryz.results134 ?_;intro J hJ;refine gW ?_;refine gW ?_ fun K hK=>by simp -dsimp;refine cM [0,1] [2,3,4,5] (hnm) ?_;simp -dsimp;exact hK
 refine c8 ?_;refine gP [0,2,5,7,12,13,14] ?_;refine i6 [0,2,5,7,12,13] (α:=Nat) (fun k=>[(14,I k)]) (fun k=>[some (.els 3 [[.fptr X 1 0 0, .mp 10, .row 11 0 ps.length]]),ruR s fo si up 12 13,none,none,none,none,some (.els 1 [[.ptr 0 0 0]]),some (.els 2 [m.cells]),some (.els 4 [c.cells]),some (.els 1 [[.clo F [.ptr 6 0 0, .ptr 7 0 0]]]),caR cs,ptR ps,nxR s nx,ndR s nd,some (.els 1 (nmL cs))]) (fun k=>k≤cs.length) (fun k=>cs.length-k) 0 ?_ ?_ ?_
 ·exact Nat.zero_le _
 ·exact M9 (c9 (by simp)) (by simp)
 rintro k k1;refine zN ?_;refine gW ?_;refine a7 fun K1 hK1=>?_;refine c3 rfl (fun hc0=>?_) (fun hc0=>?_)
 ·skip
  try simp at hc0
  obtain⟨x,hx⟩:=gx (l:=cs) (i:=k) (by simpa using hc0);have hxm:=List.mem_of_getElem? hx;have wk:=zW k (by omega);obtain⟨hkl,hxe⟩:=List.getElem?_eq_some_iff.1 hx;have g6:(A9 (n7 cs) (kOf x.Name)).getD (.agg [I 0,I 0, .v (.slice none 0 0),I 0])=x.av:=by rw[k8,F5 hs hxm];rfl
  have hct:=hcont x hxm;have hany:x.Name≠c.Name→x.Way.any (h x)=false:=fun hne=>List.any_eq_false.2 fun n hnm=>by simp[a1c.1 hn x hxm hne n hnm]
  simp only[J4,List.map_cons,List.map_nil]at hct;generalize x.Way.any (h x)=an at hct hany;obtain⟨hnl,hng⟩:=List.getElem?_eq_some_iff.1 (l8 hx);have hsel:(x.Name !=c.Name&&an)=false:=by by_cases he:x.Name=c.Name;simp[he];simp[hany he]
  refine c5 ?_;refine zQ (hK1 _ _ ?_);refine gP [0,2,5,7,12,13,14] ?_;refine a7 fun K2 hK2=>?_;refine c8 ?_;refine gW ?_ fun K hK=>by simp -dsimp [l8 hx,hkl,hng];exact hK
  refine gW ?_ fun K hK=>by simp -dsimp;refine d6 (x.av) (fun hm=>g6) ?_;simp -dsimp;exact hK
  refine gV ?_ fun K hK=>by simp -dsimp [htp,hsel];refine cY (fun hm=>hct) ?_;simp -dsimp [htp,hsel];refine cI (r4 kd x.Name) ?_;simp -dsimp [htp,hsel];exact hK
  refine zQ (hK2 _ _ ?_);refine gP [0,2,5,7,12,13,14] ?_;refine gV ?_ fun K hK=>by simp -dsimp [wk];exact hK
  refine zQ ?_;exact⟨k+1,by omega,by omega,gB [some 0,some 1,none,none,none,none,some 6,some 7,some 8,some 9,some 10,some 11,some 12,some 13,some 14]⟩
 ·skip
  try simp at hc0
  have hke:k=cs.length:=by have:¬k<cs.length:=(by simpa using hc0);omega
  subst hke;refine p7 ?_
  try simp only[zT,reduceIte,Nat.reduceEqDiff]
  exact⟨[some 0,some 1,some 10,some 11,some 12,some 13],rfl,by simp,by simp,by simp,by simp[R3,v7]⟩
end
section
variable (X:Value) (s:l5) (fo si up:Kvs) (cs:List Car) (ps:List Int) (nx nd:l7) (c:Car) (m:Move) (kd:Int) (F:FuncId) (h:Car→Move→Bool)
theorem b7G {k0:Int} (hs:Srt cs) (hl:cs.length≤1000) (hb:∀x∈cs,(0≤x.Name∧x.Name≤1000000)∧x.Way.length≤1000) (hF:∀x∈cs,∀n∈x.Way,a6 Tryz.prog F [x.av,n.av, .iptr [.iptr (stC s fo si up ps nx)], .iptr c.cells, .iptr m.cells] (Bo (h x n))) (hn:a4C cs c h=some k0):
  k9 Tryz.prog 134 [.ptr 0 0 0,c.av,I kd, .clo F [.ptr 6 0 0, .ptr 7 0 0, .ptr 8 0 0]] (stK X s fo si up ps.length) (stD s cs ps nx nd++[some (.els 1 [[.ptr 0 0 0]]),some (.els 4 [c.cells]),some (.els 2 [m.cells])]) (b1j kd k0) (stK X s fo si up ps.length) (stD s cs ps nx nd):=by
 have hnm:=R4 cs hs hl (fun x hx=>(hb x hx).1) (.fptr X 1 0 0) (.row 3 0 ps.length) (ruR s fo si up 4 5) (ptR ps) (nxR s nx) (ndR s nd);have hcont:∀x∈cs,a6 Tryz.prog 102 [a6b x.Way, .clo 176 (J4 [[.clo F [.iptr [.iptr (stC s fo si up ps nx)], .iptr c.cells, .iptr m.cells]],x.cells])] (Bo (x.Way.any (h x))):=
  fun x hx=>a0h x.Way _ _ (h x) (fun n hn=>a5G F _ _ _ x n (h x n) (hF x hx n hn)) (by have:=(hb x hx).2;omega)
 obtain⟨i,xi,hxi,rfl,hine,hiany,hibef⟩:=a8o hn;have hil:=(List.getElem?_eq_some_iff.1 hxi).1;have hci:=hcont xi (List.mem_of_getElem? hxi);simp only[J4,List.map_cons,List.map_nil]at hci;have htp:List.take ps.length (ps.map j4)=ps.map j4:=List.take_of_length_le (by simp);refine R5 ?_;refine k9.of_bodyG [0] Tryz.func134 rfl (by decide) (by simp[Tryz.ntmps134]) rfl rfl ?_;intro J hJ;simp only[Tryz.ntmps134,Tryz.results134];refine gW ?_;refine gW ?_ fun K hK=>by simp -dsimp;refine cM [0,1] [2,3,4,5] (hnm) ?_;simp -dsimp;exact hK
 refine c8 ?_;refine gP [0,2,5,7,12,13,14] ?_;refine i6 [0,2,5,7,12,13] (α:=Nat) (fun k=>[(14,I k)]) (fun k=>[some (.els 3 [[.fptr X 1 0 0, .mp 11, .row 12 0 ps.length]]),ruR s fo si up 13 14,none,none,none,none,some (.els 1 [[.ptr 0 0 0]]),some (.els 4 [c.cells]),some (.els 2 [m.cells]),some (.els 4 [c.cells]),some (.els 1 [[.clo F [.ptr 6 0 0, .ptr 7 0 0, .ptr 8 0 0]]]),caR cs,ptR ps,nxR s nx,ndR s nd,some (.els 1 (nmL cs))]) (fun k=>k≤i) (fun k=>cs.length-k) 0 ?_ ?_ ?_
 ·exact Nat.zero_le _
 ·exact M9 (c9 (by simp)) (by simp)
 rintro k k1
 rcases Nat.lt_or_eq_of_le k1 with hlt|rfl
 ·refine zN ?_;refine gW ?_;refine a7 fun K1 hK1=>?_;refine c3 rfl (fun hc0=>?_) (fun hc0=>?_)
  ·skip
   try simp at hc0
   obtain⟨x,hx⟩:=gx (l:=cs) (i:=k) (by simpa using hc0);have hxm:=List.mem_of_getElem? hx;have wk:=zW k (by omega);obtain⟨hkl,hxe⟩:=List.getElem?_eq_some_iff.1 hx;have g6:(A9 (n7 cs) (kOf x.Name)).getD (.agg [I 0,I 0, .v (.slice none 0 0),I 0])=x.av:=by rw[k8,F5 hs hxm];rfl
   have hct:=hcont x hxm;simp only[J4,List.map_cons,List.map_nil]at hct;obtain⟨hnl,hng⟩:=List.getElem?_eq_some_iff.1 (l8 hx);refine c5 ?_;refine zQ (hK1 _ _ ?_);refine gP [0,2,5,7,12,13,14] ?_;refine a7 fun K2 hK2=>?_;refine c8 ?_;refine gW ?_ fun K hK=>by simp -dsimp [l8 hx,hkl,hng];exact hK
   refine gW ?_ fun K hK=>by simp -dsimp;refine d6 (x.av) (fun hm=>g6) ?_;simp -dsimp;exact hK
   refine gV ?_ fun K hK=>by simp -dsimp [htp,(show(x.Name !=c.Name&&x.Way.any (h x))=false by by_cases he:x.Name=c.Name;simp[he];rw[hibef k x hlt hx he];simp)];refine cY (fun hm=>hct) ?_;simp -dsimp [htp,(show(x.Name !=c.Name&&x.Way.any (h x))=false by by_cases he:x.Name=c.Name;simp[he];rw[hibef k x hlt hx he];simp)];refine cI (r4 kd x.Name) ?_;simp -dsimp [htp,(show(x.Name !=c.Name&&x.Way.any (h x))=false by by_cases he:x.Name=c.Name;simp[he];rw[hibef k x hlt hx he];simp)];exact hK
   refine zQ (hK2 _ _ ?_);refine gP [0,2,5,7,12,13,14] ?_;refine gV ?_ fun K hK=>by simp -dsimp [wk];exact hK
   refine zQ ?_;exact⟨k+1,by omega,by omega,gB [some 0,some 1,none,none,none,none,some 6,some 7,some 8,some 9,some 10,some 11,some 12,some 13,some 14,some 15]⟩
  ·skip
   try simp at hc0
   exfalso;have:¬k<cs.length:=(by simpa using hc0);omega
 ·refine zN ?_;refine gW ?_;refine a7 fun K3 hK3=>?_;refine c3 rfl (fun hc0=>?_) (fun hc0=>?_)
  ·skip
   try simp at hc0
   obtain⟨x,hx⟩:=gx (l:=cs) (i:=k) (by simpa using hc0);have hxm:=List.mem_of_getElem? hx;have wk:=zW k (by omega);obtain⟨hkl,hxe⟩:=List.getElem?_eq_some_iff.1 hx;have g6:(A9 (n7 cs) (kOf x.Name)).getD (.agg [I 0,I 0, .v (.slice none 0 0),I 0])=x.av:=by rw[k8,F5 hs hxm];rfl
   have hct:=hcont x hxm;simp only[J4,List.map_cons,List.map_nil]at hct;obtain⟨hnl,hng⟩:=List.getElem?_eq_some_iff.1 (l8 hx);refine c5 ?_;refine zQ (hK3 _ _ ?_);refine gP [0,2,5,7,12,13,14] ?_;refine a7 fun K4 hK4=>?_;refine c8 ?_;refine gW ?_ fun K hK=>by simp -dsimp [l8 hx,hkl,hng];exact hK
   refine gW ?_ fun K hK=>by simp -dsimp;refine d6 (x.av) (fun hm=>g6) ?_;simp -dsimp;exact hK
   refine a2K (List.cons_ne_nil _ _) rfl (by decide) rfl rfl rfl fun K hK=>?_;simp only[List.dropLast];simp -dsimp [htp,(show(xi.Name !=c.Name&&xi.Way.any (h xi))=true by simp[hine,hiany]),(show x=xi by rw[hx]at hxi;exact Option.some.inj hxi)];refine cY (fun hm=>hci) ?_;simp -dsimp [htp,(show(xi.Name !=c.Name&&xi.Way.any (h xi))=true by simp[hine,hiany]),(show x=xi by rw[hx]at hxi;exact Option.some.inj hxi)];refine hK _ _ (x3 [] [] [none,none,none,none,none,none,none,none,none,none,none,none,none,none,none,none,none] (J7 kd xi.Name) rfl (by simp[a3i]) rfl (by simp) (by simp) rfl (by simp) (by simp) (by simp) ?_);clear hK K;exact⟨rfl,[some 0,some 1,some 11,some 12,some 13,some 14],rfl,by simp,by simp,by simp⟩
  ·skip
   try simp at hc0
   exfalso;have:¬k<cs.length:=(by simpa using hc0);omega
end
section
variable (X:Value) (s:l5) (fo si up:Kvs) (cs:List Car) (ps:List Int) (nx nd:l7) (c:Car) (m:Move) (kd:Int) (F:FuncId) (h:Car→Move→Bool)
theorem b5P {k0:Int} (hs:Srt cs) (hl:cs.length≤1000) (hb:∀x∈cs,(0≤x.Name∧x.Name≤1000000)∧x.Way.length≤1000) (hF:∀x∈cs,∀n∈x.Way,a6 Tryz.prog F [x.av,n.av, .iptr [.iptr (stC s fo si up ps nx)], .iptr m.cells] (Bo (h x n))) (hn:a4C cs c h=some k0):
  k9 Tryz.prog 134 [.ptr 0 0 0,c.av,I kd, .clo F [.ptr 6 0 0, .ptr 7 0 0]] (stK X s fo si up ps.length) (stD s cs ps nx nd++[some (.els 1 [[.ptr 0 0 0]]),some (.els 2 [m.cells])]) (b1j kd k0) (stK X s fo si up ps.length) (stD s cs ps nx nd):=by
 have hnm:=R4 cs hs hl (fun x hx=>(hb x hx).1) (.fptr X 1 0 0) (.row 3 0 ps.length) (ruR s fo si up 4 5) (ptR ps) (nxR s nx) (ndR s nd);have hcont:∀x∈cs,a6 Tryz.prog 102 [a6b x.Way, .clo 176 (J4 [[.clo F [.iptr [.iptr (stC s fo si up ps nx)], .iptr m.cells]],x.cells])] (Bo (x.Way.any (h x))):=
  fun x hx=>a0h x.Way _ _ (h x) (fun n hn=>a5m F _ _ x n (h x n) (hF x hx n hn)) (by have:=(hb x hx).2;omega)
 obtain⟨i,xi,hxi,rfl,hine,hiany,hibef⟩:=a8o hn;have hil:=(List.getElem?_eq_some_iff.1 hxi).1;have hci:=hcont xi (List.mem_of_getElem? hxi);simp only[J4,List.map_cons,List.map_nil]at hci;have htp:List.take ps.length (ps.map j4)=ps.map j4:=List.take_of_length_le (by simp);refine R5 ?_;refine k9.of_bodyG [0] Tryz.func134 rfl (by decide) (by simp[Tryz.ntmps134]) rfl rfl ?_;intro J hJ;simp only[Tryz.ntmps134,Tryz.results134];refine gW ?_;refine gW ?_ fun K hK=>by simp -dsimp;refine cM [0,1] [2,3,4,5] (hnm) ?_;simp -dsimp;exact hK
 refine c8 ?_;refine gP [0,2,5,7,12,13,14] ?_;refine i6 [0,2,5,7,12,13] (α:=Nat) (fun k=>[(14,I k)]) (fun k=>[some (.els 3 [[.fptr X 1 0 0, .mp 10, .row 11 0 ps.length]]),ruR s fo si up 12 13,none,none,none,none,some (.els 1 [[.ptr 0 0 0]]),some (.els 2 [m.cells]),some (.els 4 [c.cells]),some (.els 1 [[.clo F [.ptr 6 0 0, .ptr 7 0 0]]]),caR cs,ptR ps,nxR s nx,ndR s nd,some (.els 1 (nmL cs))]) (fun k=>k≤i) (fun k=>cs.length-k) 0 ?_ ?_ ?_
 ·exact Nat.zero_le _
 ·exact M9 (c9 (by simp)) (by simp)
 rintro k k1
 rcases Nat.lt_or_eq_of_le k1 with hlt|rfl
 ·refine zN ?_;refine gW ?_;refine a7 fun K1 hK1=>?_;refine c3 rfl (fun hc0=>?_) (fun hc0=>?_)
  ·skip
   try simp at hc0
   obtain⟨x,hx⟩:=gx (l:=cs) (i:=k) (by simpa using hc0);have hxm:=List.mem_of_getElem? hx;have wk:=zW k (by omega);obtain⟨hkl,hxe⟩:=List.getElem?_eq_some_iff.1 hx;have g6:(A9 (n7 cs) (kOf x.Name)).getD (.agg [I 0,I 0, .v (.slice none 0 0),I 0])=x.av:=by rw[k8,F5 hs hxm];rfl
   have hct:=hcont x hxm;simp only[J4,List.map_cons,List.map_nil]at hct;obtain⟨hnl,hng⟩:=List.getElem?_eq_some_iff.1 (l8 hx);refine c5 ?_;refine zQ (hK1 _ _ ?_);refine gP [0,2,5,7,12,13,14] ?_;refine a7 fun K2 hK2=>?_;refine c8 ?_;refine gW ?_ fun K hK=>by simp -dsimp [l8 hx,hkl,hng];exact hK
   refine gW ?_ fun K hK=>by simp -dsimp;refine d6 (x.av) (fun hm=>g6) ?_;simp -dsimp;exact hK
   refine gV ?_ fun K hK=>by simp -dsimp [htp,(show(x.Name !=c.Name&&x.Way.any (h x))=false by by_cases he:x.Name=c.Name;simp[he];rw[hibef k x hlt hx he];simp)];refine cY (fun hm=>hct) ?_;simp -dsimp [htp,(show(x.Name !=c.Name&&x.Way.any (h x))=false by by_cases he:x.Name=c.Name;simp[he];rw[hibef k x hlt hx he];simp)];refine cI (r4 kd x.Name) ?_;simp -dsimp [htp,(show(x.Name !=c.Name&&x.Way.any (h x))=false by by_cases he:x.Name=c.Name;simp[he];rw[hibef k x hlt hx he];simp)];exact hK
   refine zQ (hK2 _ _ ?_);refine gP [0,2,5,7,12,13,14] ?_;refine gV ?_ fun K hK=>by simp -dsimp [wk];exact hK
   refine zQ ?_;exact⟨k+1,by omega,by omega,gB [some 0,some 1,none,none,none,none,some 6,some 7,some 8,some 9,some 10,some 11,some 12,some 13,some 14]⟩
  ·skip
   try simp at hc0
   exfalso;have:¬k<cs.length:=(by simpa using hc0);omega
 ·refine zN ?_;refine gW ?_;refine a7 fun K3 hK3=>?_;refine c3 rfl (fun hc0=>?_) (fun hc0=>?_)
  ·skip
   try simp at hc0
   obtain⟨x,hx⟩:=gx (l:=cs) (i:=k) (by simpa using hc0);have hxm:=List.mem_of_getElem? hx;have wk:=zW k (by omega);obtain⟨hkl,hxe⟩:=List.getElem?_eq_some_iff.1 hx;have g6:(A9 (n7 cs) (kOf x.Name)).getD (.agg [I 0,I 0, .v (.slice none 0 0),I 0])=x.av:=by rw[k8,F5 hs hxm];rfl
   have hct:=hcont x hxm;simp only[J4,List.map_cons,List.map_nil]at hct;obtain⟨hnl,hng⟩:=List.getElem?_eq_some_iff.1 (l8 hx);refine c5 ?_;refine zQ (hK3 _ _ ?_);refine gP [0,2,5,7,12,13,14] ?_;refine a7 fun K4 hK4=>?_;refine c8 ?_;refine gW ?_ fun K hK=>by simp -dsimp [l8 hx,hkl,hng];exact hK
   refine gW ?_ fun K hK=>by simp -dsimp;refine d6 (x.av) (fun hm=>g6) ?_;simp -dsimp;exact hK
   refine a2K (List.cons_ne_nil _ _) rfl (by decide) rfl rfl rfl fun K hK=>?_;simp only[List.dropLast];simp -dsimp [htp,(show(xi.Name !=c.Name&&xi.Way.any (h xi))=true by simp[hine,hiany]),(show x=xi by rw[hx]at hxi;exact Option.some.inj hxi)];refine cY (fun hm=>hci) ?_;simp -dsimp [htp,(show(xi.Name !=c.Name&&xi.Way.any (h xi))=true by simp[hine,hiany]),(show x=xi by rw[hx]at hxi;exact Option.some.inj hxi)];refine hK _ _ (x3 [] [] [none,none,none,none,none,none,none,none,none,none,none,none,none,none,none,none] (J7 kd xi.Name) rfl (by simp[a3i]) rfl (by simp) (by simp) rfl (by simp) (by simp) (by simp) ?_);clear hK K;exact⟨rfl,[some 0,some 1,some 10,some 11,some 12,some 13],rfl,by simp,by simp,by simp⟩
  ·skip
   try simp at hc0
   exfalso;have:¬k<cs.length:=(by simpa using hc0);omega
end
end Go.Tram.Lk
end
section
namespace Go.Tram.Lk
open Go.AM Go.Proofs
structure b5f (s:l5) (cs:List Car):Prop where
 srt:Srt cs
 len:cs.length≤1000
 car:∀x∈cs,a8p s x=true
theorem b5f.bd {s:l5} {cs:List Car} (h:b5f s cs):∀x∈cs,(0≤x.Name∧x.Name≤1000000)∧x.Way.length≤1000:=by
 intro x hx;obtain⟨h1,_,⟨_,h3,_⟩,_⟩:=o6 (h.car x hx);exact⟨⟨by omega,by omega⟩,by omega⟩
section
variable {s:l5} {fo si up:Kvs} (hru:b2J s fo si up)
include hru
theorem a7C (ps:List Int) (nx:l7) (c x:Car) (m n:Move):a6 Tryz.prog 135 [x.av,n.av, .iptr [.iptr (stC s fo si up ps nx)], .iptr c.cells, .iptr m.cells] (Bo (P3 s m.Rail c.Profile n.Rail x.Profile)):=by
 have h:=b8K hru (.mpc true a1H (nxK s nx)) .any c x m n;unfold e8 at h;refine oB Tryz.func135 Tryz.ntmps135 Tryz.results135 ?_;refine aW ?_ fun K hK=>by simp -dsimp [e8];exact hK
 refine aD ?_ fun K hK=>by simp -dsimp [e8];refine cI (h) ?_;simp -dsimp [e8];exact hK
 exact a9 (by simp)
theorem a2u (ps:List Int) (nx:l7) (x:Car) (m n:Move):a6 Tryz.prog 138 [x.av,n.av, .iptr [.iptr (stC s fo si up ps nx)], .iptr m.cells] (Bo (V9 s m n)):=by
 have h:=c0P hru (.mpc true a1H (nxK s nx)) .any m n;unfold e8 at h;refine oB Tryz.func138 Tryz.ntmps138 Tryz.results138 ?_;refine aW ?_ fun K hK=>by simp -dsimp [e8];exact hK
 refine aD ?_ fun K hK=>by simp -dsimp [e8];refine cI (h) ?_;simp -dsimp [e8];exact hK
 exact a9 (by simp)
variable (X:Value) {cs:List Car} (hcs:b5f s cs) (ps:List Int) (nx nd:l7) (c:Car) (m:Move)
include hcs
theorem b6Y (hn:a4C cs c (fun o n=>P3 s m.Rail c.Profile n.Rail o.Profile)=none):c6 Tryz.prog 96 [.ptr 0 0 0,c.av,m.av] (stK X s fo si up ps.length) (stD s cs ps nx nd) (.tup []) (stK X s fo si up ps.length) (stD s cs ps nx nd):=by
 have ho:=b6g X s fo si up cs ps nx nd c m 3 135 (fun o n=>P3 s m.Rail c.Profile n.Rail o.Profile) hcs.srt hcs.len hcs.bd (fun x _ n _=>a7C hru ps nx c x m n) hn;refine B2 ?_;refine oG [0] Tryz.func96 Tryz.ntmps96 Tryz.results96 ?_;intro J hJ;refine gW ?_;refine gV ?_ fun K hK=>by simp -dsimp;refine cM [0,1] [2,3,4,5,6,7,8] (ho) ?_;simp -dsimp;exact hK
 try simp only[zT,reduceIte,Nat.reduceEqDiff]
 exact⟨[some 0,some 1,some 9,some 10,some 11,some 12],rfl,by simp,by simp,by simp,by simp[R3,v7]⟩
theorem b7v {k:Int} (hn:a4C cs c (fun o n=>P3 s m.Rail c.Profile n.Rail o.Profile)=some k):k9 Tryz.prog 96 [.ptr 0 0 0,c.av,m.av] (stK X s fo si up ps.length) (stD s cs ps nx nd) (b1j 3 k) (stK X s fo si up ps.length) (stD s cs ps nx nd):=by
 have ho:=b7G X s fo si up cs ps nx nd c m 3 135 (fun o n=>P3 s m.Rail c.Profile n.Rail o.Profile) hcs.srt hcs.len hcs.bd (fun x _ n _=>a7C hru ps nx c x m n) hn;refine R5 ?_;refine k9.of_bodyG [0] Tryz.func96 rfl (by decide) (by simp[Tryz.ntmps96]) rfl rfl ?_;intro J hJ;simp only[Tryz.ntmps96,Tryz.results96];refine gW ?_;refine a2K (List.cons_ne_nil _ _) rfl (by decide) rfl rfl rfl fun K hK=>?_;simp only[List.dropLast];simp -dsimp;refine hK _ _ (x3 [0,1] [2,3,4,5,6,7,8] [some 0,some 1,none,none,none,none,none,none,none,some 2,some 3,some 4,some 5] (ho) rfl (by simp[a3i]) rfl (by simp) (by simp) rfl (by simp) (by simp) (by simp) ?_);clear hK K;exact⟨rfl,[some 0,some 1,some 9,some 10,some 11,some 12],rfl,by simp,by simp,by simp⟩
theorem a9F (hn:a4C cs c (fun _ n=>V9 s m n)=none):c6 Tryz.prog 98 [.ptr 0 0 0,c.av,m.av] (stK X s fo si up ps.length) (stD s cs ps nx nd) (.tup []) (stK X s fo si up ps.length) (stD s cs ps nx nd):=by
 have ho:=b6t X s fo si up cs ps nx nd c m 5 138 (fun _ n=>V9 s m n) hcs.srt hcs.len hcs.bd (fun x _ n _=>a2u hru ps nx x m n) hn;refine B2 ?_;refine oG [0] Tryz.func98 Tryz.ntmps98 Tryz.results98 ?_;intro J hJ;refine gW ?_;refine gV ?_ fun K hK=>by simp -dsimp;refine cM [0,1] [2,3,4,5,6,8] (ho) ?_;simp -dsimp;exact hK
 try simp only[zT,reduceIte,Nat.reduceEqDiff]
 exact⟨[some 0,some 1,some 9,some 10,some 11,some 12],rfl,by simp,by simp,by simp,by simp[R3,v7]⟩
theorem a9A {k:Int} (hn:a4C cs c (fun _ n=>V9 s m n)=some k):k9 Tryz.prog 98 [.ptr 0 0 0,c.av,m.av] (stK X s fo si up ps.length) (stD s cs ps nx nd) (b1j 5 k) (stK X s fo si up ps.length) (stD s cs ps nx nd):=by
 have ho:=b5P X s fo si up cs ps nx nd c m 5 138 (fun _ n=>V9 s m n) hcs.srt hcs.len hcs.bd (fun x _ n _=>a2u hru ps nx x m n) hn;refine R5 ?_;refine k9.of_bodyG [0] Tryz.func98 rfl (by decide) (by simp[Tryz.ntmps98]) rfl rfl ?_;intro J hJ;simp only[Tryz.ntmps98,Tryz.results98];refine gW ?_;refine a2K (List.cons_ne_nil _ _) rfl (by decide) rfl rfl rfl fun K hK=>?_;simp only[List.dropLast];simp -dsimp;refine hK _ _ (x3 [0,1] [2,3,4,5,6,8] [some 0,some 1,none,none,none,none,none,none,none,some 2,some 3,some 4,some 5] (ho) rfl (by simp[a3i]) rfl (by simp) (by simp) rfl (by simp) (by simp) (by simp) ?_);clear hK K;exact⟨rfl,[some 0,some 1,some 9,some 10,some 11,some 12],rfl,by simp,by simp,by simp⟩
end
end Go.Tram.Lk
end
section
namespace Go.Tram.Lk
open Go.AM Go.Proofs
theorem b0P:∀{l:List Car} {c:Car},Srt l→c∈l→l.Perm (c::b2d l c.Name)
 |x::l,c,h,hc=>by
  obtain⟨h1,h2⟩:=U3.1 h;rw[a4k]
  rcases List.mem_cons.1 hc with e|hc'
  ·rw[if_pos (by rw[e]),Y2 fun y hy=>by have:=h1 y hy;rw[e];omega,e]
  ·have:=h1 c hc';rw[if_neg (by omega)];exact((b0P h2 hc').cons x).trans (List.Perm.swap _ _ _)
theorem a7w {l:List Car} {c:Car} (h:Srt l):((B4 l c).map (·.Name)).Perm (c.Name::(b2d l c.Name).map (·.Name)):=(W3 c h).map _
theorem a9i {l:List Car} {c c':Car} (h:Srt l) (hc:Y6 l c.Name=some c'):(B4 l c).map (·.Name)=l.map (·.Name):=by
 obtain⟨hm,he⟩:=T5 hc;have hp:(l.map (·.Name)).Perm ((B4 l c).map (·.Name)):=by
  refine((b0P h hm).map _).trans ?_;rw[List.map_cons,he];exact(a7w h).symm
 have h1:=Z8 (O7 c h) hp;have h2:=Z8 h (List.Perm.refl _);rw[←h1,h2]
theorem c0t {l:List Car} {c:Car} (h:Srt l) (hc:Y6 l c.Name=none):c1g (l.map (·.Name)++[c.Name])=(B4 l c).map (·.Name):=by
 refine Z8 (O7 c h) ?_;have:=Y2 (a3X.1 hc);refine List.Perm.trans ?_ (a7w h).symm;rw[this];exact List.perm_append_comm
theorem c1V (y w:Y7):a6 Tryz.prog 137 (.agg y.cells::J4 [w.cells]) (Bo (decide (y.Node=w.Node)&&decide (y.Leg≠w.Leg))):=by
 show a6 Tryz.prog 137 [.agg y.cells, .iptr w.cells] _;refine oB Tryz.func137 Tryz.ntmps137 Tryz.results137 ?_;refine aW ?_;refine aW ?_;exact a9 (by simp[Bool.beq_eq_decide_eq,bne])
theorem b4A (l:List Y7) (f:FuncId) (cl:List (List AV)) (q:Y7→Bool) (h:∀x∈l,a6 Tryz.prog f (.agg x.cells::J4 cl) (Bo (q x))) (hn:l.length≤100000):
  a6 Tryz.prog 177 [.lst 2 (l.map Y7.cells), .clo f (J4 cl)] (I (U7 l q)):=by
 refine oB Tryz.func177 Tryz.ntmps177 Tryz.results177 ?_;refine aW ?_;refine a5 fun K1 hK1=>?_;refine aW ?_;refine b9 ?_;refine aP [0,1,7,8] ?_;refine c7 [0,1,7] (α:=Nat) (fun k=>[(8,I k)]) (fun _=>[]) (fun k=>k≤l.length∧(l.take k).any q=false) (fun k=>l.length-k) 0 ?_ ?_ ?_
 ·simp
 ·exact c9 (by simp)
 rintro k ⟨k1,k2⟩;refine zN ?_;refine aW ?_;refine a5 fun K2 hK2=>?_;refine a8 rfl (fun hc0=>?_) (fun hc0=>?_)
 ·skip
  try simp at hc0
  obtain⟨x,hx⟩:=gx (l:=l) (i:=k) hc0;have wk:=zW k (by omega);refine b8 ?_;refine zQ (hK2 _ _ ?_);refine aP [0,1,7,8] ?_;refine a5 fun K3 hK3=>?_;refine b9 ?_;refine aW ?_;refine aW ?_ fun K hK=>by simp -dsimp [hx];refine cI (h x (List.mem_of_getElem? hx)) ?_;simp -dsimp [hx];exact hK
  refine a8 rfl (fun hc1=>?_) (fun hc1=>?_)
  ·skip
   try simp at hc1
   refine aW ?_;exact a9 (by simp[L8 hx hc1 k2])
  ·skip
   try simp at hc1
   refine b8 ?_;refine zQ (hK3 _ _ ?_);refine aP [0,1,7,8] ?_;refine aV ?_ fun K hK=>by simp -dsimp [wk];exact hK
   refine zQ ?_;exact⟨k+1,⟨by omega,by rw[C4 hx,k2,hc1];rfl⟩,by omega,c9 (by simp)⟩
 ·skip
  try simp at hc0
  have hall:=r9 (by omega) k2;refine d4 ?_;refine zQ (hK1 _ _ ?_);refine aP [] ?_;refine aW ?_;exact a9 (by simp[D9 hall])
theorem b5I (l:List Y7) (f:FuncId) (cl:List (List AV)) (q:Y7→Bool) (h:∀x∈l,a6 Tryz.prog f (.agg x.cells::J4 cl) (Bo (q x))) (hn:l.length≤100000):
  a6 Tryz.prog 136 [.lst 2 (l.map Y7.cells), .clo f (J4 cl)] (Bo (l.any q)):=by
 refine oB Tryz.func136 Tryz.ntmps136 Tryz.results136 ?_;refine aW ?_;refine aW ?_ fun K hK=>by simp -dsimp;refine cI (b4A l f cl q h hn) ?_;simp -dsimp;exact hK
 exact a9 (by simp[Q6])
theorem U5 {s:l5} (y:Car) (w:Y7) (hw:wayB s.Plan y.Way=true):a6 Tryz.prog 136 [.lst 2 ((a0k s y).map Y7.cells), .clo 137 [.iptr w.cells]] (Bo (r6 s y w)):=by
 have hl:=I5 hw;have:=b5I (a0k s y) 137 [w.cells] (fun z=>decide (z.Node=w.Node)&&decide (z.Leg≠w.Leg)) (fun z _=>c1V z w) (by rw[a0z hw];have:=b0b s.Plan y.Way (y.Way.length-1);omega);simpa [J4,r6]using this
end Go.Tram.Lk
end
section
namespace Go.Tram.Lk
open Go.AM Go.Proofs
theorem a8u (p:Plan) (l:List Move) (hv:d7 p=true) (hw:wayB p l=true):c6 Tryz.prog 87 [p.av,a6b l] [] [] (.tup [.row 0 0 (a0Y p l (l.length-1)).length,I 0]) [] [some (.els 2 ((a0Y p l (l.length-1)).map Y7.cells))]:=by
 have hl:=I5 hw;have hop:=a0c p hv;have hh:=b9O p l hv (by omega);rw[hw]at hh;have hbe:∀i,i+1<l.length→a6 Tryz.prog 130 [.iptr (net p),(V0 l i).av,(V0 l (i+1)).av] (.tup [.agg (if a0B p (V0 l i)then V7 p (V0 l i) (V0 l (i+1))else⟨0,0⟩).cells,Bo (a0B p (V0 l i))]):=by
  intro i hi;exact a5E p _ _ hv (R8 hw i (by omega))
 generalize net p=sh at hop hh hbe;refine oG [] Tryz.func87 Tryz.ntmps87 Tryz.results87 ?_;intro J hJ;refine gW ?_;refine gW ?_ fun K hK=>by simp -dsimp;refine cI (hop) ?_;simp -dsimp;exact hK
 refine a7 fun K1 hK1=>?_;refine gW ?_ fun K hK=>by simp -dsimp;refine cY (fun hm=>hh) ?_;simp -dsimp;exact hK
 refine c3 rfl (fun hc0=>?_) (fun hc0=>?_)
 ·simp at hc0
 ·refine c5 ?_;refine zQ (hK1 _ _ ?_);refine gP [1,6] ?_;refine gW ?_;refine a7 fun K2 hK2=>?_;refine gW ?_;refine c8 ?_;refine gP [1,6,8,9] ?_;refine i6 [1,6] (α:=Nat) (fun i=>[(9,I ((i:Int)+1)),(8, .row 1 0 (a0Y p l i).length)]) (fun i=>[some (.els 2 [p.cells]),some (.els 2 ((a0Y p l i).map Y7.cells))]) (fun i=>i≤l.length-1) (fun i=>l.length-i) 0 ?_ ?_ ?_
  ·exact Nat.zero_le _
  ·exact M9 ((W5 8 2 (by simp)).trans (d9 [some 0,some 1] rfl (by simp) (by simp))) (by simp)
  rintro i i1;refine zN ?_;refine a7 fun K3 hK3=>?_;refine gW ?_;refine c3 rfl (fun hc1=>?_) (fun hc1=>?_)
  ·have hi:i+1<l.length:=by simp at hc1;omega
   have hsj:=a4g p l i;have hlj:=b0b p l i;have hb:=hbe i hi;have g0:l[i]?=some (V0 l i):=by unfold V0;rw[List.getElem?_eq_getElem (by omega)];rfl
   have g1:l[i+1]?=some (V0 l (i+1)):=by unfold V0;rw[List.getElem?_eq_getElem (by omega)];rfl
   unfold a0Z at hsj;generalize V0 l i=m at*
   generalize V0 l (i+1)=k at*
   have wi:IntKind.i64.wrap ((i:Int)+1+1)=(i:Int)+1+1:=c4 (by omega) (by omega);have wj:IntKind.i64.wrap (i:Int)=i:=c4 (by omega) (by omega);have tj:((i:Int)+1).toNat=i+1:=by omega
   have t0:0≤(i:Int)+1:=by omega
   generalize hA:a0Y p l i=A at hsj hlj ⊢;have f1:P4 (A.length+1) 17:=l9 (by omega) (by omega);refine c5 ?_;refine zQ (hK3 _ _ ?_);refine gP [1,6,8,9] ?_;refine a7 fun K4 hK4=>?_;refine c8 ?_;refine gD ?_ fun K hK=>by simp -dsimp [g0,g1,wj,tj,t0];refine cI (hb) ?_;simp -dsimp [g0,g1,wj,tj,t0];exact hK
   refine gW ?_;refine c3 rfl (fun hc2=>?_) (fun hc2=>?_)
   ·skip
    try simp only at hc2
    rw[hc2,if_pos rfl]at hsj;refine gV ?_ fun K hK=>by simp -dsimp [f1];exact hK
    refine zQ (hK4 _ _ ?_);refine gP [1,6,8,9] ?_;refine gV ?_ fun K hK=>by simp -dsimp [wi];exact hK
    refine zQ ?_;exact⟨i+1,by omega,by omega,M9 (d9 [some 0,some 3] rfl (by simp[hsj]) (by simp[hsj,hc2])) (by simp)⟩
   ·skip
    try simp only at hc2
    rw[hc2,if_neg (by simp)]at hsj;refine c5 ?_;refine zQ (hK4 _ _ ?_);refine gP [1,6,8,9] ?_;refine gV ?_ fun K hK=>by simp -dsimp [wi];exact hK
    refine zQ ?_;exact⟨i+1,by omega,by omega,M9 (d9 [some 0,some 1] rfl (by simp[hsj]) (by simp[hsj])) (by simp)⟩
  ·have hie:i=l.length-1:=by simp at hc1;omega
   subst hie;refine p7 ?_;refine zQ (hK2 _ _ ?_);refine gP [8] ?_;refine gW ?_;exact g7 (gT [some 1])
theorem U6 {s:l5} (hv:d7 s.Plan=true) (fo si up:Kvs) (nx nd:l7) (c:Car) (hw:wayB s.Plan c.Way=true):c6 Tryz.prog 45 [.ptr 0 0 0,c.av] [ruR s fo si up 1 2] [nxR s nx,ndR s nd] (.row 3 0 (a0k s c).length) [ruR s fo si up 1 2] [nxR s nx,ndR s nd,some (.els 2 ((a0k s c).map Y7.cells))]:=by
 have h:=a8u s.Plan c.Way hv hw;rw[←a0z (c:=c) hw]at h;refine oG [0] Tryz.func45 Tryz.ntmps45 Tryz.results45 ?_;intro J hJ;refine gW ?_;refine gD ?_ fun K hK=>by simp -dsimp;refine cM [] [] (h) ?_;simp -dsimp;exact hK
 refine gW ?_;exact g7 (gT [some 0,some 1,some 2,some 4])
end Go.Tram.Lk
end
section
namespace Go.Tram.Lk
open Go.AM Go.Proofs
theorem b0a {cs:List Car} (c:Car) (h:Srt cs) (hl:cs.length≤1000) (hc:Y6 cs c.Name=none):c6 Tryz.prog 124 [.row 0 0 (cs.length+1)] [some (.els 1 (nmL cs++[[I c.Name]]))] [] (.tup []) [some (.els 1 (nmL (B4 cs c)))] []:=by
 have:=b9B (cs.map (·.Name)++[c.Name]) (by simp) (by simp;omega)
 rw[c0t h hc]at this;have e:(cs.map (·.Name)++[c.Name]).map j4=nmL cs++[[I c.Name]]:=by simp[nmL,j4]
 rw[e]at this;simpa [nmL]using this
theorem a3V {cs:List Car} {c:Car} (h:Srt cs) (hc:Y6 cs c.Name=none):(B4 cs c).length=cs.length+1:=by
 rw[(W3 c h).length_eq,Y2 (a3X.1 hc)];rfl
theorem a3B {cs:List Car} {c c':Car} (h:Srt cs) (hc:Y6 cs c.Name=some c'):(B4 cs c).length=cs.length:=by
 have:=congrArg List.length (a9i (c:=c) h hc);simpa using this
theorem a5M {α:Type} {p:α→Bool} {l:List α} {x:α} (h:l.find? p=some x):∃i:Nat,l[i]?=some x∧p x=true∧∀(j:Nat) y,j<i→l[j]?=some y→p y=false:=by
 rw[List.find?_eq_some_iff_getElem]at h;obtain⟨h1,i,hi,he,hj⟩:=h;refine⟨i,by rw[List.getElem?_eq_getElem hi,he],h1,fun j y hji hy=>?_⟩;obtain⟨hjl,hye⟩:=List.getElem?_eq_some_iff.1 hy;have:=hj j hji;rw[hye]at this;simpa using this
section
variable {s:l5} {fo si up:Kvs} (X:Value) {cs:List Car} (hcs:b5f s cs) (ps:List Int) (nx nd:l7) {c:Car} {m:Move} (hv:d7 s.Plan=true) (hne:c.Way≠[]) (hw:wayB s.Plan c.Way=true) (hm:E3 s.Plan m=true) (hb:I7 s c m=true)
include hcs hv hne hw hm hb
theorem b5g {c':Car} (hmt:Y6 cs c.Name=some c') (hh:∀y∈B4 cs c,r6 s y (D1 s c m)=false):c6 Tryz.prog 97 [.ptr 0 0 0,c.av,m.av] (stK X s fo si up ps.length) (stD s cs ps nx nd) (.tup []) (stK X s fo si up ps.length) (stD s cs ps nx (a4A nd c m)):=by
 have p6:=Q5 X s fo si up cs ps nx nd c m hv hne hw hm;rw[hb]at p6;have hsrt:=hcs.srt;have hcl:=hcs.len;have hwy:∀y∈B4 cs c,wayB s.Plan y.Way=true:=fun y hy=>by
  rcases(y9 hsrt).1 hy with rfl|⟨h,_⟩
  ·exact hw
  ·exact(o6 (hcs.car y h)).2.2.1.2.2.2
 have hcc:A9 (n7 cs) (kOf c.Name)=some c'.av:=by rw[k8,hmt];rfl
 have hil:(B4 cs c).length=cs.length:=a3B hsrt hmt;have hnl:nmL cs=nmL (B4 cs c):=by unfold nmL;rw[a9i hsrt hmt]
 have hci:c∈B4 cs c:=Q0 hsrt;have hsi:=O7 c hsrt;generalize D1 s c m=B at p6 hh;generalize a4A nd c m=nd2 at p6 ⊢;have hnm:=R4 cs hsrt hcl (fun x hx=>(hcs.bd x hx).1) (.fptr X 1 0 0) (.row 3 0 ps.length) (ruR s fo si up 4 5) (ptR ps) (nxR s nx) (ndR s nd2);have htp:List.take ps.length (ps.map j4)=ps.map j4:=List.take_of_length_le (by simp);refine B2 ?_;refine oG [0] Tryz.func97 Tryz.ntmps97 Tryz.results97 ?_;intro J hJ;refine gW ?_;refine gW ?_ fun K hK=>by simp -dsimp;refine cM [0,1] [2,3,4,5] (p6) ?_;simp -dsimp;exact hK
 refine a7 fun K1 hK1=>?_;refine gW ?_;refine c3 rfl (fun hc0=>?_) (fun hc0=>?_)
 ·simp at hc0
 ·refine c5 ?_;refine zQ (hK1 _ _ ?_);refine gP [0,4,6] ?_;refine gW ?_ fun K hK=>by simp -dsimp;refine cM [0,1] [8,9,10,11] (hnm) ?_;simp -dsimp;exact hK
  refine a7 fun K2 hK2=>?_;refine gD ?_ fun K hK=>by simp -dsimp;refine d6 (.tup [c'.av,Bo true]) (fun hm=>by rw[hcc];rfl) ?_;simp -dsimp;exact hK
  refine gW ?_;refine c3 rfl (fun hc1=>?_) (fun hc1=>?_)
  ·simp at hc1
  ·refine c5 ?_;refine zQ (hK2 _ _ ?_);refine gP [0,4,6,8] ?_;refine gW ?_;refine c8 ?_;refine gP [0,4,6,44,45,46] ?_;refine i6 [0,4,6,44,45] (α:=Nat) (fun k=>[(46,I k)]) (fun k=>[some (.els 3 [[.fptr X 1 0 0, .mp 13, .row 14 0 ps.length]]),ruR s fo si up 15 16,none,none,none,none,some (.els 4 [c.cells]),none,none,none,none,none,some (.els 2 [B.cells]),caR cs,ptR ps,nxR s nx,ndR s nd2,some (.els 1 (nmL (B4 cs c)))]) (fun k=>k≤(B4 cs c).length) (fun k=>cs.length-k) 0 ?_ ?_ ?_
   ·exact Nat.zero_le _
   ·exact gB [some 0,some 1,none,none,none,none,some 6,none,none,none,none,none,some 12,some 13,some 14,some 15,some 16,some 17] (hH:=by simp[hnl])
   rintro k k1
   by_cases hq:(B4 cs c)[k]?=some c
   ·refine zN ?_;refine gW ?_;refine a7 fun K3 hK3=>?_;refine c3 rfl (fun hc2=>?_) (fun hc2=>?_)
    ·skip
     try simp at hc2
     have hkn:k<cs.length:=by first|omega|(simp at hc2;omega)
     obtain⟨y,hy⟩:∃y,(B4 cs c)[k]?=some y:=⟨_,List.getElem?_eq_getElem (by omega)⟩;have hym:=List.mem_of_getElem? hy;have hwyy:=hwy y hym;have wk:=zW k (by omega);obtain⟨hnl2,hng⟩:=List.getElem?_eq_some_iff.1 (l8 hy);have hkl:=(List.getElem?_eq_some_iff.1 hy).1;have hyc:y=c:=by rw[hy]at hq;exact Option.some.inj hq
     subst hyc;refine c5 ?_;refine zQ (hK3 _ _ ?_);refine gP [0,4,6,44,45,46] ?_;refine a7 fun K4 hK4=>?_;refine c8 ?_;refine gW ?_ fun K hK=>by simp -dsimp [l8 hy,hkl,hkn,hng];exact hK
     refine gW ?_ fun K hK=>by simp -dsimp;refine d6 (c'.av) (fun hm=>by rw[hcc];rfl) ?_;simp -dsimp;exact hK
     refine a7 fun K5 hK5=>?_;refine gW ?_;refine c3 rfl (fun hc3=>?_) (fun hc3=>?_)
     ·refine gV ?_;refine zQ (hK5 _ _ ?_);refine gP [0,4,6,12,13,44,45,46] ?_;refine gE ?_ fun K hK=>by simp -dsimp [htp,(show r6 s y B=false from hh y hym)];refine cM [1] [15,16] (a1d (X:=X) (U6 hv fo si up nx nd2 y hwyy)) ?_;simp -dsimp [htp,(show r6 s y B=false from hh y hym)];refine cI (U5 y B hwyy) ?_;simp -dsimp [htp,(show r6 s y B=false from hh y hym)];refine cI (r4 4 y.Name) ?_;simp -dsimp [htp,(show r6 s y B=false from hh y hym)];exact hK
      refine zQ (hK4 _ _ ?_);refine gP [0,4,6,44,45,46] ?_;refine gV ?_ fun K hK=>by simp -dsimp [wk];exact hK
      refine zQ ?_;exact⟨k+1,by omega,by omega,gB [some 0,some 1,none,none,none,none,some 6,none,none,none,none,none,some 12,some 13,some 14,some 19,some 20,some 17]⟩
     ·simp at hc3
    ·skip
     try simp at hc2
     have hke:k=cs.length:=by first|omega|(simp at hc2;omega)
     subst hke;refine p7 ?_
     try simp only[zT,reduceIte,Nat.reduceEqDiff]
     exact⟨[some 0,some 1,some 13,some 14,some 15,some 16],rfl,by simp,by simp,by simp,by simp[R3,v7]⟩
   ·refine zN ?_;refine gW ?_;refine a7 fun K6 hK6=>?_;refine c3 rfl (fun hc2=>?_) (fun hc2=>?_)
    ·skip
     try simp at hc2
     have hkn:k<cs.length:=by first|omega|(simp at hc2;omega)
     obtain⟨y,hy⟩:∃y,(B4 cs c)[k]?=some y:=⟨_,List.getElem?_eq_getElem (by omega)⟩;have hym:=List.mem_of_getElem? hy;have hwyy:=hwy y hym;have wk:=zW k (by omega);obtain⟨hnl2,hng⟩:=List.getElem?_eq_some_iff.1 (l8 hy);have hkl:=(List.getElem?_eq_some_iff.1 hy).1;have hyc:y∈cs∧y.Name≠c.Name:=((y9 hsrt).1 hym).resolve_left (fun e=>hq (by rw[hy,e]));refine c5 ?_;refine zQ (hK6 _ _ ?_);refine gP [0,4,6,44,45,46] ?_;refine a7 fun K7 hK7=>?_;refine c8 ?_;refine gW ?_ fun K hK=>by simp -dsimp [l8 hy,hkl,hkn,hng];exact hK
     refine gW ?_ fun K hK=>by simp -dsimp;refine d6 (y.av) (fun hm=>by rw[k8,F5 hsrt hyc.1];rfl) ?_;simp -dsimp;exact hK
     refine a7 fun K8 hK8=>?_;refine gW ?_;refine c3 rfl (fun hc3=>?_) (fun hc3=>?_)
     ·exact absurd (by simpa using hc3) hyc.2
     ·refine c5 ?_;refine zQ (hK8 _ _ ?_);refine gP [0,4,6,12,13,44,45,46] ?_;refine gE ?_ fun K hK=>by simp -dsimp [htp,(show r6 s y B=false from hh y hym)];refine cM [1] [15,16] (a1d (X:=X) (U6 hv fo si up nx nd2 y hwyy)) ?_;simp -dsimp [htp,(show r6 s y B=false from hh y hym)];refine cI (U5 y B hwyy) ?_;simp -dsimp [htp,(show r6 s y B=false from hh y hym)];refine cI (r4 4 y.Name) ?_;simp -dsimp [htp,(show r6 s y B=false from hh y hym)];exact hK
      refine zQ (hK7 _ _ ?_);refine gP [0,4,6,44,45,46] ?_;refine gV ?_ fun K hK=>by simp -dsimp [wk];exact hK
      refine zQ ?_;exact⟨k+1,by omega,by omega,gB [some 0,some 1,none,none,none,none,some 6,none,none,none,none,none,some 12,some 13,some 14,some 19,some 20,some 17]⟩
    ·skip
     try simp at hc2
     have hke:k=cs.length:=by first|omega|(simp at hc2;omega)
     subst hke;refine p7 ?_
     try simp only[zT,reduceIte,Nat.reduceEqDiff]
     exact⟨[some 0,some 1,some 13,some 14,some 15,some 16],rfl,by simp,by simp,by simp,by simp[R3,v7]⟩
theorem b4q (hmt:Y6 cs c.Name=none) (hh:∀y∈B4 cs c,r6 s y (D1 s c m)=false):c6 Tryz.prog 97 [.ptr 0 0 0,c.av,m.av] (stK X s fo si up ps.length) (stD s cs ps nx nd) (.tup []) (stK X s fo si up ps.length) (stD s cs ps nx (a4A nd c m)):=by
 have p6:=Q5 X s fo si up cs ps nx nd c m hv hne hw hm;rw[hb]at p6;have hsrt:=hcs.srt;have hcl:=hcs.len;have hwy:∀y∈B4 cs c,wayB s.Plan y.Way=true:=fun y hy=>by
  rcases(y9 hsrt).1 hy with rfl|⟨h,_⟩
  ·exact hw
  ·exact(o6 (hcs.car y h)).2.2.1.2.2.2
 have hcc:A9 (n7 cs) (kOf c.Name)=none:=by rw[k8,hmt];rfl
 have hil:(B4 cs c).length=(cs.length+1):=a3V hsrt hmt;have hci:c∈B4 cs c:=Q0 hsrt;have hsi:=O7 c hsrt;generalize D1 s c m=B at p6 hh;generalize a4A nd c m=nd2 at p6 ⊢;have hnm:=R4 cs hsrt hcl (fun x hx=>(hcs.bd x hx).1) (.fptr X 1 0 0) (.row 3 0 ps.length) (ruR s fo si up 4 5) (ptR ps) (nxR s nx) (ndR s nd2);have hso:=b0a c hsrt hcl hmt;have f1:P4 (cs.length+1) 9:=l9 (by omega) (by omega);have htp:List.take ps.length (ps.map j4)=ps.map j4:=List.take_of_length_le (by simp);refine B2 ?_;refine oG [0] Tryz.func97 Tryz.ntmps97 Tryz.results97 ?_;intro J hJ;refine gW ?_;refine gW ?_ fun K hK=>by simp -dsimp;refine cM [0,1] [2,3,4,5] (p6) ?_;simp -dsimp;exact hK
 refine a7 fun K1 hK1=>?_;refine gW ?_;refine c3 rfl (fun hc0=>?_) (fun hc0=>?_)
 ·simp at hc0
 ·refine c5 ?_;refine zQ (hK1 _ _ ?_);refine gP [0,4,6] ?_;refine gW ?_ fun K hK=>by simp -dsimp;refine cM [0,1] [8,9,10,11] (hnm) ?_;simp -dsimp;exact hK
  refine a7 fun K2 hK2=>?_;refine gD ?_ fun K hK=>by simp -dsimp;refine d6 (.tup [.agg [I 0,I 0, .v (.slice none 0 0),I 0],Bo false]) (fun hm=>by rw[hcc];rfl) ?_;simp -dsimp;exact hK
  refine gW ?_;refine c3 rfl (fun hc1=>?_) (fun hc1=>?_)
  ·refine gW ?_ fun K hK=>by simp -dsimp [f1,(List.take_of_length_le (by simp):List.take cs.length (nmL cs)=nmL cs)];exact hK
   refine gV ?_ fun K hK=>by simp -dsimp;refine cM [19] [] (hso) ?_;simp -dsimp;exact hK
   refine zQ (hK2 _ _ ?_);refine gP [0,4,6,8] ?_;refine gW ?_;refine c8 ?_;refine gP [0,4,6,44,45,46] ?_;refine i6 [0,4,6,44,45] (α:=Nat) (fun k=>[(46,I k)]) (fun k=>[some (.els 3 [[.fptr X 1 0 0, .mp 13, .row 14 0 ps.length]]),ruR s fo si up 15 16,none,none,none,none,some (.els 4 [c.cells]),none,none,none,none,none,some (.els 2 [B.cells]),caR cs,ptR ps,nxR s nx,ndR s nd2,none,none,some (.els 1 (nmL (B4 cs c)))]) (fun k=>k≤(B4 cs c).length) (fun k=>(cs.length+1)-k) 0 ?_ ?_ ?_
   ·exact Nat.zero_le _
   ·exact gB [some 0,some 1,none,none,none,none,some 6,none,none,none,none,none,some 12,some 13,some 14,some 15,some 16,none,none,some 19]
   rintro k k1
   by_cases hq:(B4 cs c)[k]?=some c
   ·refine zN ?_;refine gW ?_;refine a7 fun K3 hK3=>?_;refine c3 rfl (fun hc2=>?_) (fun hc2=>?_)
    ·skip
     try simp at hc2
     have hkn:k<(cs.length+1):=by first|omega|(simp at hc2;omega)
     obtain⟨y,hy⟩:∃y,(B4 cs c)[k]?=some y:=⟨_,List.getElem?_eq_getElem (by omega)⟩;have hym:=List.mem_of_getElem? hy;have hwyy:=hwy y hym;have wk:=zW k (by omega);obtain⟨hnl2,hng⟩:=List.getElem?_eq_some_iff.1 (l8 hy);have hkl:=(List.getElem?_eq_some_iff.1 hy).1;have hyc:y=c:=by rw[hy]at hq;exact Option.some.inj hq
     subst hyc;refine c5 ?_;refine zQ (hK3 _ _ ?_);refine gP [0,4,6,44,45,46] ?_;refine a7 fun K4 hK4=>?_;refine c8 ?_;refine gW ?_ fun K hK=>by simp -dsimp [l8 hy,hkl,hkn,hng];exact hK
     refine gW ?_ fun K hK=>by simp -dsimp;refine d6 (.agg [I 0,I 0, .v (.slice none 0 0),I 0]) (fun hm=>by rw[hcc];rfl) ?_;simp -dsimp;exact hK
     refine a7 fun K5 hK5=>?_;refine gW ?_;refine c3 rfl (fun hc3=>?_) (fun hc3=>?_)
     ·refine gV ?_;refine zQ (hK5 _ _ ?_);refine gP [0,4,6,12,13,44,45,46] ?_;refine gE ?_ fun K hK=>by simp -dsimp [htp,(show r6 s y B=false from hh y hym)];refine cM [1] [15,16] (a1d (X:=X) (U6 hv fo si up nx nd2 y hwyy)) ?_;simp -dsimp [htp,(show r6 s y B=false from hh y hym)];refine cI (U5 y B hwyy) ?_;simp -dsimp [htp,(show r6 s y B=false from hh y hym)];refine cI (r4 4 y.Name) ?_;simp -dsimp [htp,(show r6 s y B=false from hh y hym)];exact hK
      refine zQ (hK4 _ _ ?_);refine gP [0,4,6,44,45,46] ?_;refine gV ?_ fun K hK=>by simp -dsimp [wk];exact hK
      refine zQ ?_;exact⟨k+1,by omega,by omega,gB [some 0,some 1,none,none,none,none,some 6,none,none,none,none,none,some 12,some 13,some 14,some 21,some 22,none,none,some 19]⟩
     ·simp at hc3
    ·skip
     try simp at hc2
     have hke:k=(cs.length+1):=by first|omega|(simp at hc2;omega)
     subst hke;refine p7 ?_
     try simp only[zT,reduceIte,Nat.reduceEqDiff]
     exact⟨[some 0,some 1,some 13,some 14,some 15,some 16],rfl,by simp,by simp,by simp,by simp[R3,v7]⟩
   ·refine zN ?_;refine gW ?_;refine a7 fun K6 hK6=>?_;refine c3 rfl (fun hc2=>?_) (fun hc2=>?_)
    ·skip
     try simp at hc2
     have hkn:k<(cs.length+1):=by first|omega|(simp at hc2;omega)
     obtain⟨y,hy⟩:∃y,(B4 cs c)[k]?=some y:=⟨_,List.getElem?_eq_getElem (by omega)⟩;have hym:=List.mem_of_getElem? hy;have hwyy:=hwy y hym;have wk:=zW k (by omega);obtain⟨hnl2,hng⟩:=List.getElem?_eq_some_iff.1 (l8 hy);have hkl:=(List.getElem?_eq_some_iff.1 hy).1;have hyc:y∈cs∧y.Name≠c.Name:=((y9 hsrt).1 hym).resolve_left (fun e=>hq (by rw[hy,e]));refine c5 ?_;refine zQ (hK6 _ _ ?_);refine gP [0,4,6,44,45,46] ?_;refine a7 fun K7 hK7=>?_;refine c8 ?_;refine gW ?_ fun K hK=>by simp -dsimp [l8 hy,hkl,hkn,hng];exact hK
     refine gW ?_ fun K hK=>by simp -dsimp;refine d6 (y.av) (fun hm=>by rw[k8,F5 hsrt hyc.1];rfl) ?_;simp -dsimp;exact hK
     refine a7 fun K8 hK8=>?_;refine gW ?_;refine c3 rfl (fun hc3=>?_) (fun hc3=>?_)
     ·exact absurd (by simpa using hc3) hyc.2
     ·refine c5 ?_;refine zQ (hK8 _ _ ?_);refine gP [0,4,6,12,13,44,45,46] ?_;refine gE ?_ fun K hK=>by simp -dsimp [htp,(show r6 s y B=false from hh y hym)];refine cM [1] [15,16] (a1d (X:=X) (U6 hv fo si up nx nd2 y hwyy)) ?_;simp -dsimp [htp,(show r6 s y B=false from hh y hym)];refine cI (U5 y B hwyy) ?_;simp -dsimp [htp,(show r6 s y B=false from hh y hym)];refine cI (r4 4 y.Name) ?_;simp -dsimp [htp,(show r6 s y B=false from hh y hym)];exact hK
      refine zQ (hK7 _ _ ?_);refine gP [0,4,6,44,45,46] ?_;refine gV ?_ fun K hK=>by simp -dsimp [wk];exact hK
      refine zQ ?_;exact⟨k+1,by omega,by omega,gB [some 0,some 1,none,none,none,none,some 6,none,none,none,none,none,some 12,some 13,some 14,some 21,some 22,none,none,some 19]⟩
    ·skip
     try simp at hc2
     have hke:k=(cs.length+1):=by first|omega|(simp at hc2;omega)
     subst hke;refine p7 ?_
     try simp only[zT,reduceIte,Nat.reduceEqDiff]
     exact⟨[some 0,some 1,some 13,some 14,some 15,some 16],rfl,by simp,by simp,by simp,by simp[R3,v7]⟩
  ·simp at hc1
theorem b3q {c':Car} (hmt:Y6 cs c.Name=some c') {yi:Car} (hh:(B4 cs c).find? (fun y=>r6 s y (D1 s c m))=some yi):k9 Tryz.prog 97 [.ptr 0 0 0,c.av,m.av] (stK X s fo si up ps.length) (stD s cs ps nx nd) (b1j 4 yi.Name) (stK X s fo si up ps.length) (stD s cs ps nx (a4A nd c m)):=by
 have p6:=Q5 X s fo si up cs ps nx nd c m hv hne hw hm;rw[hb]at p6;have hsrt:=hcs.srt;have hcl:=hcs.len;have hwy:∀y∈B4 cs c,wayB s.Plan y.Way=true:=fun y hy=>by
  rcases(y9 hsrt).1 hy with rfl|⟨h,_⟩
  ·exact hw
  ·exact(o6 (hcs.car y h)).2.2.1.2.2.2
 have hcc:A9 (n7 cs) (kOf c.Name)=some c'.av:=by rw[k8,hmt];rfl
 have hil:(B4 cs c).length=cs.length:=a3B hsrt hmt;have hnl:nmL cs=nmL (B4 cs c):=by unfold nmL;rw[a9i hsrt hmt]
 have hci:c∈B4 cs c:=Q0 hsrt;have hsi:=O7 c hsrt;generalize D1 s c m=B at p6 hh;generalize a4A nd c m=nd2 at p6 ⊢;have hnm:=R4 cs hsrt hcl (fun x hx=>(hcs.bd x hx).1) (.fptr X 1 0 0) (.row 3 0 ps.length) (ruR s fo si up 4 5) (ptR ps) (nxR s nx) (ndR s nd2);have htp:List.take ps.length (ps.map j4)=ps.map j4:=List.take_of_length_le (by simp);obtain⟨i,hyi,hhi,hbef⟩:=a5M hh;have hilt:=(List.getElem?_eq_some_iff.1 hyi).1;refine R5 ?_;refine k9.of_bodyG [0] Tryz.func97 rfl (by decide) (by simp[Tryz.ntmps97]) rfl rfl ?_;intro J hJ;simp only[Tryz.ntmps97,Tryz.results97];refine gW ?_;refine gW ?_ fun K hK=>by simp -dsimp;refine cM [0,1] [2,3,4,5] (p6) ?_;simp -dsimp;exact hK
 refine a7 fun K1 hK1=>?_;refine gW ?_;refine c3 rfl (fun hc0=>?_) (fun hc0=>?_)
 ·simp at hc0
 ·refine c5 ?_;refine zQ (hK1 _ _ ?_);refine gP [0,4,6] ?_;refine gW ?_ fun K hK=>by simp -dsimp;refine cM [0,1] [8,9,10,11] (hnm) ?_;simp -dsimp;exact hK
  refine a7 fun K2 hK2=>?_;refine gD ?_ fun K hK=>by simp -dsimp;refine d6 (.tup [c'.av,Bo true]) (fun hm=>by rw[hcc];rfl) ?_;simp -dsimp;exact hK
  refine gW ?_;refine c3 rfl (fun hc1=>?_) (fun hc1=>?_)
  ·simp at hc1
  ·refine c5 ?_;refine zQ (hK2 _ _ ?_);refine gP [0,4,6,8] ?_;refine gW ?_;refine c8 ?_;refine gP [0,4,6,44,45,46] ?_;refine i6 [0,4,6,44,45] (α:=Nat) (fun k=>[(46,I k)]) (fun k=>[some (.els 3 [[.fptr X 1 0 0, .mp 13, .row 14 0 ps.length]]),ruR s fo si up 15 16,none,none,none,none,some (.els 4 [c.cells]),none,none,none,none,none,some (.els 2 [B.cells]),caR cs,ptR ps,nxR s nx,ndR s nd2,some (.els 1 (nmL (B4 cs c)))]) (fun k=>k≤i) (fun k=>cs.length-k) 0 ?_ ?_ ?_
   ·exact Nat.zero_le _
   ·exact gB [some 0,some 1,none,none,none,none,some 6,none,none,none,none,none,some 12,some 13,some 14,some 15,some 16,some 17] (hH:=by simp[hnl])
   rintro k k1
   rcases Nat.lt_or_eq_of_le k1 with hlt|rfl
   all_goals by_cases hq:(B4 cs c)[k]?=some c
   ·refine zN ?_;refine gW ?_;refine a7 fun K3 hK3=>?_;refine c3 rfl (fun hc2=>?_) (fun hc2=>?_)
    ·skip
     try simp at hc2
     have hkn:k<cs.length:=by first|omega|(simp at hc2;omega)
     obtain⟨y,hy⟩:∃y,(B4 cs c)[k]?=some y:=⟨_,List.getElem?_eq_getElem (by omega)⟩;have hym:=List.mem_of_getElem? hy;have hwyy:=hwy y hym;have wk:=zW k (by omega);obtain⟨hnl2,hng⟩:=List.getElem?_eq_some_iff.1 (l8 hy);have hkl:=(List.getElem?_eq_some_iff.1 hy).1;have hyc:y=c:=by rw[hy]at hq;exact Option.some.inj hq
     subst hyc;refine c5 ?_;refine zQ (hK3 _ _ ?_);refine gP [0,4,6,44,45,46] ?_;refine a7 fun K4 hK4=>?_;refine c8 ?_;refine gW ?_ fun K hK=>by simp -dsimp [l8 hy,hkl,hkn,hng];exact hK
     refine gW ?_ fun K hK=>by simp -dsimp;refine d6 (c'.av) (fun hm=>by rw[hcc];rfl) ?_;simp -dsimp;exact hK
     refine a7 fun K5 hK5=>?_;refine gW ?_;refine c3 rfl (fun hc3=>?_) (fun hc3=>?_)
     ·refine gV ?_;refine zQ (hK5 _ _ ?_);refine gP [0,4,6,12,13,44,45,46] ?_;refine gE ?_ fun K hK=>by simp -dsimp [htp,(show r6 s y B=false from hbef k y hlt hy)];refine cM [1] [15,16] (a1d (X:=X) (U6 hv fo si up nx nd2 y hwyy)) ?_;simp -dsimp [htp,(show r6 s y B=false from hbef k y hlt hy)];refine cI (U5 y B hwyy) ?_;simp -dsimp [htp,(show r6 s y B=false from hbef k y hlt hy)];refine cI (r4 4 y.Name) ?_;simp -dsimp [htp,(show r6 s y B=false from hbef k y hlt hy)];exact hK
      refine zQ (hK4 _ _ ?_);refine gP [0,4,6,44,45,46] ?_;refine gV ?_ fun K hK=>by simp -dsimp [wk];exact hK
      refine zQ ?_;exact⟨k+1,by omega,by omega,gB [some 0,some 1,none,none,none,none,some 6,none,none,none,none,none,some 12,some 13,some 14,some 19,some 20,some 17]⟩
     ·simp at hc3
    ·skip
     try simp at hc2
     exfalso;first|omega|(simp at hc2;omega)
   ·refine zN ?_;refine gW ?_;refine a7 fun K6 hK6=>?_;refine c3 rfl (fun hc2=>?_) (fun hc2=>?_)
    ·skip
     try simp at hc2
     have hkn:k<cs.length:=by first|omega|(simp at hc2;omega)
     obtain⟨y,hy⟩:∃y,(B4 cs c)[k]?=some y:=⟨_,List.getElem?_eq_getElem (by omega)⟩;have hym:=List.mem_of_getElem? hy;have hwyy:=hwy y hym;have wk:=zW k (by omega);obtain⟨hnl2,hng⟩:=List.getElem?_eq_some_iff.1 (l8 hy);have hkl:=(List.getElem?_eq_some_iff.1 hy).1;have hyc:y∈cs∧y.Name≠c.Name:=((y9 hsrt).1 hym).resolve_left (fun e=>hq (by rw[hy,e]));refine c5 ?_;refine zQ (hK6 _ _ ?_);refine gP [0,4,6,44,45,46] ?_;refine a7 fun K7 hK7=>?_;refine c8 ?_;refine gW ?_ fun K hK=>by simp -dsimp [l8 hy,hkl,hkn,hng];exact hK
     refine gW ?_ fun K hK=>by simp -dsimp;refine d6 (y.av) (fun hm=>by rw[k8,F5 hsrt hyc.1];rfl) ?_;simp -dsimp;exact hK
     refine a7 fun K8 hK8=>?_;refine gW ?_;refine c3 rfl (fun hc3=>?_) (fun hc3=>?_)
     ·exact absurd (by simpa using hc3) hyc.2
     ·refine c5 ?_;refine zQ (hK8 _ _ ?_);refine gP [0,4,6,12,13,44,45,46] ?_;refine gE ?_ fun K hK=>by simp -dsimp [htp,(show r6 s y B=false from hbef k y hlt hy)];refine cM [1] [15,16] (a1d (X:=X) (U6 hv fo si up nx nd2 y hwyy)) ?_;simp -dsimp [htp,(show r6 s y B=false from hbef k y hlt hy)];refine cI (U5 y B hwyy) ?_;simp -dsimp [htp,(show r6 s y B=false from hbef k y hlt hy)];refine cI (r4 4 y.Name) ?_;simp -dsimp [htp,(show r6 s y B=false from hbef k y hlt hy)];exact hK
      refine zQ (hK7 _ _ ?_);refine gP [0,4,6,44,45,46] ?_;refine gV ?_ fun K hK=>by simp -dsimp [wk];exact hK
      refine zQ ?_;exact⟨k+1,by omega,by omega,gB [some 0,some 1,none,none,none,none,some 6,none,none,none,none,none,some 12,some 13,some 14,some 19,some 20,some 17]⟩
    ·skip
     try simp at hc2
     exfalso;first|omega|(simp at hc2;omega)
   ·refine zN ?_;refine gW ?_;refine a7 fun K9 hK9=>?_;refine c3 rfl (fun hc2=>?_) (fun hc2=>?_)
    ·skip
     try simp at hc2
     have hkn:k<cs.length:=by first|omega|(simp at hc2;omega)
     obtain⟨y,hy⟩:∃y,(B4 cs c)[k]?=some y:=⟨_,List.getElem?_eq_getElem (by omega)⟩;have hym:=List.mem_of_getElem? hy;have hwyy:=hwy y hym;have wk:=zW k (by omega);obtain⟨hnl2,hng⟩:=List.getElem?_eq_some_iff.1 (l8 hy);have hkl:=(List.getElem?_eq_some_iff.1 hy).1;have hyc:y=c:=by rw[hy]at hq;exact Option.some.inj hq
     subst hyc;have hyi2:y=yi:=by rw[hy]at hyi;exact Option.some.inj hyi
     refine c5 ?_;refine zQ (hK9 _ _ ?_);refine gP [0,4,6,44,45,46] ?_;refine a7 fun K10 hK10=>?_;refine c8 ?_;refine gW ?_ fun K hK=>by simp -dsimp [l8 hy,hkl,hkn,hng];exact hK
     refine gW ?_ fun K hK=>by simp -dsimp;refine d6 (c'.av) (fun hm=>by rw[hcc];rfl) ?_;simp -dsimp;exact hK
     refine a7 fun K11 hK11=>?_;refine gW ?_;refine c3 rfl (fun hc3=>?_) (fun hc3=>?_)
     ·refine gV ?_;refine zQ (hK11 _ _ ?_);refine gP [0,4,6,12,13,44,45,46] ?_;refine a4o (List.cons_ne_nil _ _) a2g rfl (by decide) rfl rfl rfl (by decide+kernel) (by decide+kernel) fun K hK=>?_;simp only[List.dropLast];simp -dsimp [htp,(show r6 s y B=true by rw[hyi2];exact hhi)];refine cM [1] [15,16] (a1d (X:=X) (U6 hv fo si up nx nd2 y hwyy)) ?_;simp -dsimp [htp,(show r6 s y B=true by rw[hyi2];exact hhi)];refine cI (U5 y B hwyy) ?_;simp -dsimp [htp,(show r6 s y B=true by rw[hyi2];exact hhi)];refine hK _ _ _ (by decide+kernel) (x3 [] [] [none,none,none,none,none,none,none,none,none,none,none,none,none,none,none,none,none,none,none,none,none,none] (J7 4 y.Name) rfl (by simp[a3i]) rfl (by simp) (by simp) rfl (by simp) (by simp) (by simp) ?_);clear hK K;rw[←hyi2];exact⟨rfl,[some 0,some 1,some 13,some 14,some 19,some 20],rfl,by simp,by simp,by simp⟩
     ·simp at hc3
    ·skip
     try simp at hc2
     exfalso;first|omega|(simp at hc2;omega)
   ·refine zN ?_;refine gW ?_;refine a7 fun K12 hK12=>?_;refine c3 rfl (fun hc2=>?_) (fun hc2=>?_)
    ·skip
     try simp at hc2
     have hkn:k<cs.length:=by first|omega|(simp at hc2;omega)
     obtain⟨y,hy⟩:∃y,(B4 cs c)[k]?=some y:=⟨_,List.getElem?_eq_getElem (by omega)⟩;have hym:=List.mem_of_getElem? hy;have hwyy:=hwy y hym;have wk:=zW k (by omega);obtain⟨hnl2,hng⟩:=List.getElem?_eq_some_iff.1 (l8 hy);have hkl:=(List.getElem?_eq_some_iff.1 hy).1;have hyc:y∈cs∧y.Name≠c.Name:=((y9 hsrt).1 hym).resolve_left (fun e=>hq (by rw[hy,e]));have hyi2:y=yi:=by rw[hy]at hyi;exact Option.some.inj hyi
     refine c5 ?_;refine zQ (hK12 _ _ ?_);refine gP [0,4,6,44,45,46] ?_;refine a7 fun K13 hK13=>?_;refine c8 ?_;refine gW ?_ fun K hK=>by simp -dsimp [l8 hy,hkl,hkn,hng];exact hK
     refine gW ?_ fun K hK=>by simp -dsimp;refine d6 (y.av) (fun hm=>by rw[k8,F5 hsrt hyc.1];rfl) ?_;simp -dsimp;exact hK
     refine a7 fun K14 hK14=>?_;refine gW ?_;refine c3 rfl (fun hc3=>?_) (fun hc3=>?_)
     ·exact absurd (by simpa using hc3) hyc.2
     ·refine c5 ?_;refine zQ (hK14 _ _ ?_);refine gP [0,4,6,12,13,44,45,46] ?_;refine a4o (List.cons_ne_nil _ _) a2g rfl (by decide) rfl rfl rfl (by decide+kernel) (by decide+kernel) fun K hK=>?_;simp only[List.dropLast];simp -dsimp [htp,(show r6 s y B=true by rw[hyi2];exact hhi)];refine cM [1] [15,16] (a1d (X:=X) (U6 hv fo si up nx nd2 y hwyy)) ?_;simp -dsimp [htp,(show r6 s y B=true by rw[hyi2];exact hhi)];refine cI (U5 y B hwyy) ?_;simp -dsimp [htp,(show r6 s y B=true by rw[hyi2];exact hhi)];refine hK _ _ _ (by decide+kernel) (x3 [] [] [none,none,none,none,none,none,none,none,none,none,none,none,none,none,none,none,none,none,none,none,none,none] (J7 4 y.Name) rfl (by simp[a3i]) rfl (by simp) (by simp) rfl (by simp) (by simp) (by simp) ?_);clear hK K;rw[←hyi2];exact⟨rfl,[some 0,some 1,some 13,some 14,some 19,some 20],rfl,by simp,by simp,by simp⟩
    ·skip
     try simp at hc2
     exfalso;first|omega|(simp at hc2;omega)
theorem b4E (hmt:Y6 cs c.Name=none) {yi:Car} (hh:(B4 cs c).find? (fun y=>r6 s y (D1 s c m))=some yi):k9 Tryz.prog 97 [.ptr 0 0 0,c.av,m.av] (stK X s fo si up ps.length) (stD s cs ps nx nd) (b1j 4 yi.Name) (stK X s fo si up ps.length) (stD s cs ps nx (a4A nd c m)):=by
 have p6:=Q5 X s fo si up cs ps nx nd c m hv hne hw hm;rw[hb]at p6;have hsrt:=hcs.srt;have hcl:=hcs.len;have hwy:∀y∈B4 cs c,wayB s.Plan y.Way=true:=fun y hy=>by
  rcases(y9 hsrt).1 hy with rfl|⟨h,_⟩
  ·exact hw
  ·exact(o6 (hcs.car y h)).2.2.1.2.2.2
 have hcc:A9 (n7 cs) (kOf c.Name)=none:=by rw[k8,hmt];rfl
 have hil:(B4 cs c).length=(cs.length+1):=a3V hsrt hmt;have hci:c∈B4 cs c:=Q0 hsrt;have hsi:=O7 c hsrt;generalize D1 s c m=B at p6 hh;generalize a4A nd c m=nd2 at p6 ⊢;have hnm:=R4 cs hsrt hcl (fun x hx=>(hcs.bd x hx).1) (.fptr X 1 0 0) (.row 3 0 ps.length) (ruR s fo si up 4 5) (ptR ps) (nxR s nx) (ndR s nd2);have hso:=b0a c hsrt hcl hmt;have f1:P4 (cs.length+1) 9:=l9 (by omega) (by omega);have htp:List.take ps.length (ps.map j4)=ps.map j4:=List.take_of_length_le (by simp);obtain⟨i,hyi,hhi,hbef⟩:=a5M hh;have hilt:=(List.getElem?_eq_some_iff.1 hyi).1;refine R5 ?_;refine k9.of_bodyG [0] Tryz.func97 rfl (by decide) (by simp[Tryz.ntmps97]) rfl rfl ?_;intro J hJ;simp only[Tryz.ntmps97,Tryz.results97];refine gW ?_;refine gW ?_ fun K hK=>by simp -dsimp;refine cM [0,1] [2,3,4,5] (p6) ?_;simp -dsimp;exact hK
 refine a7 fun K1 hK1=>?_;refine gW ?_;refine c3 rfl (fun hc0=>?_) (fun hc0=>?_)
 ·simp at hc0
 ·refine c5 ?_;refine zQ (hK1 _ _ ?_);refine gP [0,4,6] ?_;refine gW ?_ fun K hK=>by simp -dsimp;refine cM [0,1] [8,9,10,11] (hnm) ?_;simp -dsimp;exact hK
  refine a7 fun K2 hK2=>?_;refine gD ?_ fun K hK=>by simp -dsimp;refine d6 (.tup [.agg [I 0,I 0, .v (.slice none 0 0),I 0],Bo false]) (fun hm=>by rw[hcc];rfl) ?_;simp -dsimp;exact hK
  refine gW ?_;refine c3 rfl (fun hc1=>?_) (fun hc1=>?_)
  ·refine gW ?_ fun K hK=>by simp -dsimp [f1,(List.take_of_length_le (by simp):List.take cs.length (nmL cs)=nmL cs)];exact hK
   refine gV ?_ fun K hK=>by simp -dsimp;refine cM [19] [] (hso) ?_;simp -dsimp;exact hK
   refine zQ (hK2 _ _ ?_);refine gP [0,4,6,8] ?_;refine gW ?_;refine c8 ?_;refine gP [0,4,6,44,45,46] ?_;refine i6 [0,4,6,44,45] (α:=Nat) (fun k=>[(46,I k)]) (fun k=>[some (.els 3 [[.fptr X 1 0 0, .mp 13, .row 14 0 ps.length]]),ruR s fo si up 15 16,none,none,none,none,some (.els 4 [c.cells]),none,none,none,none,none,some (.els 2 [B.cells]),caR cs,ptR ps,nxR s nx,ndR s nd2,none,none,some (.els 1 (nmL (B4 cs c)))]) (fun k=>k≤i) (fun k=>(cs.length+1)-k) 0 ?_ ?_ ?_
   ·exact Nat.zero_le _
   ·exact gB [some 0,some 1,none,none,none,none,some 6,none,none,none,none,none,some 12,some 13,some 14,some 15,some 16,none,none,some 19]
   rintro k k1
   rcases Nat.lt_or_eq_of_le k1 with hlt|rfl
   all_goals by_cases hq:(B4 cs c)[k]?=some c
   ·refine zN ?_;refine gW ?_;refine a7 fun K3 hK3=>?_;refine c3 rfl (fun hc2=>?_) (fun hc2=>?_)
    ·skip
     try simp at hc2
     have hkn:k<(cs.length+1):=by first|omega|(simp at hc2;omega)
     obtain⟨y,hy⟩:∃y,(B4 cs c)[k]?=some y:=⟨_,List.getElem?_eq_getElem (by omega)⟩;have hym:=List.mem_of_getElem? hy;have hwyy:=hwy y hym;have wk:=zW k (by omega);obtain⟨hnl2,hng⟩:=List.getElem?_eq_some_iff.1 (l8 hy);have hkl:=(List.getElem?_eq_some_iff.1 hy).1;have hyc:y=c:=by rw[hy]at hq;exact Option.some.inj hq
     subst hyc;refine c5 ?_;refine zQ (hK3 _ _ ?_);refine gP [0,4,6,44,45,46] ?_;refine a7 fun K4 hK4=>?_;refine c8 ?_;refine gW ?_ fun K hK=>by simp -dsimp [l8 hy,hkl,hkn,hng];exact hK
     refine gW ?_ fun K hK=>by simp -dsimp;refine d6 (.agg [I 0,I 0, .v (.slice none 0 0),I 0]) (fun hm=>by rw[hcc];rfl) ?_;simp -dsimp;exact hK
     refine a7 fun K5 hK5=>?_;refine gW ?_;refine c3 rfl (fun hc3=>?_) (fun hc3=>?_)
     ·refine gV ?_;refine zQ (hK5 _ _ ?_);refine gP [0,4,6,12,13,44,45,46] ?_;refine gE ?_ fun K hK=>by simp -dsimp [htp,(show r6 s y B=false from hbef k y hlt hy)];refine cM [1] [15,16] (a1d (X:=X) (U6 hv fo si up nx nd2 y hwyy)) ?_;simp -dsimp [htp,(show r6 s y B=false from hbef k y hlt hy)];refine cI (U5 y B hwyy) ?_;simp -dsimp [htp,(show r6 s y B=false from hbef k y hlt hy)];refine cI (r4 4 y.Name) ?_;simp -dsimp [htp,(show r6 s y B=false from hbef k y hlt hy)];exact hK
      refine zQ (hK4 _ _ ?_);refine gP [0,4,6,44,45,46] ?_;refine gV ?_ fun K hK=>by simp -dsimp [wk];exact hK
      refine zQ ?_;exact⟨k+1,by omega,by omega,gB [some 0,some 1,none,none,none,none,some 6,none,none,none,none,none,some 12,some 13,some 14,some 21,some 22,none,none,some 19]⟩
     ·simp at hc3
    ·skip
     try simp at hc2
     exfalso;first|omega|(simp at hc2;omega)
   ·refine zN ?_;refine gW ?_;refine a7 fun K6 hK6=>?_;refine c3 rfl (fun hc2=>?_) (fun hc2=>?_)
    ·skip
     try simp at hc2
     have hkn:k<(cs.length+1):=by first|omega|(simp at hc2;omega)
     obtain⟨y,hy⟩:∃y,(B4 cs c)[k]?=some y:=⟨_,List.getElem?_eq_getElem (by omega)⟩;have hym:=List.mem_of_getElem? hy;have hwyy:=hwy y hym;have wk:=zW k (by omega);obtain⟨hnl2,hng⟩:=List.getElem?_eq_some_iff.1 (l8 hy);have hkl:=(List.getElem?_eq_some_iff.1 hy).1;have hyc:y∈cs∧y.Name≠c.Name:=((y9 hsrt).1 hym).resolve_left (fun e=>hq (by rw[hy,e]));refine c5 ?_;refine zQ (hK6 _ _ ?_);refine gP [0,4,6,44,45,46] ?_;refine a7 fun K7 hK7=>?_;refine c8 ?_;refine gW ?_ fun K hK=>by simp -dsimp [l8 hy,hkl,hkn,hng];exact hK
     refine gW ?_ fun K hK=>by simp -dsimp;refine d6 (y.av) (fun hm=>by rw[k8,F5 hsrt hyc.1];rfl) ?_;simp -dsimp;exact hK
     refine a7 fun K8 hK8=>?_;refine gW ?_;refine c3 rfl (fun hc3=>?_) (fun hc3=>?_)
     ·exact absurd (by simpa using hc3) hyc.2
     ·refine c5 ?_;refine zQ (hK8 _ _ ?_);refine gP [0,4,6,12,13,44,45,46] ?_;refine gE ?_ fun K hK=>by simp -dsimp [htp,(show r6 s y B=false from hbef k y hlt hy)];refine cM [1] [15,16] (a1d (X:=X) (U6 hv fo si up nx nd2 y hwyy)) ?_;simp -dsimp [htp,(show r6 s y B=false from hbef k y hlt hy)];refine cI (U5 y B hwyy) ?_;simp -dsimp [htp,(show r6 s y B=false from hbef k y hlt hy)];refine cI (r4 4 y.Name) ?_;simp -dsimp [htp,(show r6 s y B=false from hbef k y hlt hy)];exact hK
      refine zQ (hK7 _ _ ?_);refine gP [0,4,6,44,45,46] ?_;refine gV ?_ fun K hK=>by simp -dsimp [wk];exact hK
      refine zQ ?_;exact⟨k+1,by omega,by omega,gB [some 0,some 1,none,none,none,none,some 6,none,none,none,none,none,some 12,some 13,some 14,some 21,some 22,none,none,some 19]⟩
    ·skip
     try simp at hc2
     exfalso;first|omega|(simp at hc2;omega)
   ·refine zN ?_;refine gW ?_;refine a7 fun K9 hK9=>?_;refine c3 rfl (fun hc2=>?_) (fun hc2=>?_)
    ·skip
     try simp at hc2
     have hkn:k<(cs.length+1):=by first|omega|(simp at hc2;omega)
     obtain⟨y,hy⟩:∃y,(B4 cs c)[k]?=some y:=⟨_,List.getElem?_eq_getElem (by omega)⟩;have hym:=List.mem_of_getElem? hy;have hwyy:=hwy y hym;have wk:=zW k (by omega);obtain⟨hnl2,hng⟩:=List.getElem?_eq_some_iff.1 (l8 hy);have hkl:=(List.getElem?_eq_some_iff.1 hy).1;have hyc:y=c:=by rw[hy]at hq;exact Option.some.inj hq
     subst hyc;have hyi2:y=yi:=by rw[hy]at hyi;exact Option.some.inj hyi
     refine c5 ?_;refine zQ (hK9 _ _ ?_);refine gP [0,4,6,44,45,46] ?_;refine a7 fun K10 hK10=>?_;refine c8 ?_;refine gW ?_ fun K hK=>by simp -dsimp [l8 hy,hkl,hkn,hng];exact hK
     refine gW ?_ fun K hK=>by simp -dsimp;refine d6 (.agg [I 0,I 0, .v (.slice none 0 0),I 0]) (fun hm=>by rw[hcc];rfl) ?_;simp -dsimp;exact hK
     refine a7 fun K11 hK11=>?_;refine gW ?_;refine c3 rfl (fun hc3=>?_) (fun hc3=>?_)
     ·refine gV ?_;refine zQ (hK11 _ _ ?_);refine gP [0,4,6,12,13,44,45,46] ?_;refine a4o (List.cons_ne_nil _ _) a2g rfl (by decide) rfl rfl rfl (by decide+kernel) (by decide+kernel) fun K hK=>?_;simp only[List.dropLast];simp -dsimp [htp,(show r6 s y B=true by rw[hyi2];exact hhi)];refine cM [1] [15,16] (a1d (X:=X) (U6 hv fo si up nx nd2 y hwyy)) ?_;simp -dsimp [htp,(show r6 s y B=true by rw[hyi2];exact hhi)];refine cI (U5 y B hwyy) ?_;simp -dsimp [htp,(show r6 s y B=true by rw[hyi2];exact hhi)];refine hK _ _ _ (by decide+kernel) (x3 [] [] [none,none,none,none,none,none,none,none,none,none,none,none,none,none,none,none,none,none,none,none,none,none,none,none] (J7 4 y.Name) rfl (by simp[a3i]) rfl (by simp) (by simp) rfl (by simp) (by simp) (by simp) ?_);clear hK K;rw[←hyi2];exact⟨rfl,[some 0,some 1,some 13,some 14,some 21,some 22],rfl,by simp,by simp,by simp⟩
     ·simp at hc3
    ·skip
     try simp at hc2
     exfalso;first|omega|(simp at hc2;omega)
   ·refine zN ?_;refine gW ?_;refine a7 fun K12 hK12=>?_;refine c3 rfl (fun hc2=>?_) (fun hc2=>?_)
    ·skip
     try simp at hc2
     have hkn:k<(cs.length+1):=by first|omega|(simp at hc2;omega)
     obtain⟨y,hy⟩:∃y,(B4 cs c)[k]?=some y:=⟨_,List.getElem?_eq_getElem (by omega)⟩;have hym:=List.mem_of_getElem? hy;have hwyy:=hwy y hym;have wk:=zW k (by omega);obtain⟨hnl2,hng⟩:=List.getElem?_eq_some_iff.1 (l8 hy);have hkl:=(List.getElem?_eq_some_iff.1 hy).1;have hyc:y∈cs∧y.Name≠c.Name:=((y9 hsrt).1 hym).resolve_left (fun e=>hq (by rw[hy,e]));have hyi2:y=yi:=by rw[hy]at hyi;exact Option.some.inj hyi
     refine c5 ?_;refine zQ (hK12 _ _ ?_);refine gP [0,4,6,44,45,46] ?_;refine a7 fun K13 hK13=>?_;refine c8 ?_;refine gW ?_ fun K hK=>by simp -dsimp [l8 hy,hkl,hkn,hng];exact hK
     refine gW ?_ fun K hK=>by simp -dsimp;refine d6 (y.av) (fun hm=>by rw[k8,F5 hsrt hyc.1];rfl) ?_;simp -dsimp;exact hK
     refine a7 fun K14 hK14=>?_;refine gW ?_;refine c3 rfl (fun hc3=>?_) (fun hc3=>?_)
     ·exact absurd (by simpa using hc3) hyc.2
     ·refine c5 ?_;refine zQ (hK14 _ _ ?_);refine gP [0,4,6,12,13,44,45,46] ?_;refine a4o (List.cons_ne_nil _ _) a2g rfl (by decide) rfl rfl rfl (by decide+kernel) (by decide+kernel) fun K hK=>?_;simp only[List.dropLast];simp -dsimp [htp,(show r6 s y B=true by rw[hyi2];exact hhi)];refine cM [1] [15,16] (a1d (X:=X) (U6 hv fo si up nx nd2 y hwyy)) ?_;simp -dsimp [htp,(show r6 s y B=true by rw[hyi2];exact hhi)];refine cI (U5 y B hwyy) ?_;simp -dsimp [htp,(show r6 s y B=true by rw[hyi2];exact hhi)];refine hK _ _ _ (by decide+kernel) (x3 [] [] [none,none,none,none,none,none,none,none,none,none,none,none,none,none,none,none,none,none,none,none,none,none,none,none] (J7 4 y.Name) rfl (by simp[a3i]) rfl (by simp) (by simp) rfl (by simp) (by simp) (by simp) ?_);clear hK K;rw[←hyi2];exact⟨rfl,[some 0,some 1,some 13,some 14,some 21,some 22],rfl,by simp,by simp,by simp⟩
    ·skip
     try simp at hc2
     exfalso;first|omega|(simp at hc2;omega)
  ·simp at hc1
end
end Go.Tram.Lk
end
section
namespace Go.Tram.Lk
open Go.AM Go.Proofs
def RF (k:Nat):FuncId:=[94,95,96,97,98,99].getD k 0
def a7p:List (List AV):=[[.bnd 94 [.ptr 0 0 0]],[.bnd 95 [.ptr 0 0 0]],[.bnd 96 [.ptr 0 0 0]],[.bnd 97 [.ptr 0 0 0]],[.bnd 98 [.ptr 0 0 0]],[.bnd 99 [.ptr 0 0 0]]]
theorem a3c {k:Nat} (h:k<6):a7p[k]?=some [.bnd (RF k) [.ptr 0 0 0]]:=by
 match k,h with
 |0,_=>rfl
 |1,_=>rfl
 |2,_=>rfl
 |3,_=>rfl
 |4,_=>rfl
 |5,_=>rfl
theorem a3n:a7p.length=6:=rfl
theorem a2W (l:List (Option Nat)):a7p.map (fun e=>e.map (o4 (some 0::l) 3))=a7p:=by
 simp[a7p]
@[simp] def c0C (c:Car):List AV:=[I c.Name,I c.Profile,H7,I c.Front]
@[simp] def c0A (c:Car):AV:= .agg [I c.Name,I c.Profile,H7,I c.Front]
def nxF (nx:l7) (c:Car) (m:Move) (k:Nat):l7:=if k=0 then nx else a4A nx c m
def ndF (nd:l7) (c:Car) (m:Move) (k:Nat):l7:=if k≤3 then nd else a4A nd c m
section
variable (X:Value) (s:l5) (fo si up:Kvs) (cs:List Car) (ps:List Int) (nx nd:l7) (c:Car) (m:Move)
theorem b2b {i:Nat} {kd kc:Int} (hi:i<6)
  (hp:∀k<i,c6 Tryz.prog (RF k) [.ptr 0 0 0,c.av,m.av] (stK X s fo si up ps.length) (stD s cs ps (nxF nx c m k) (ndF nd c m k)) (.tup []) (stK X s fo si up ps.length) (stD s cs ps (nxF nx c m (k+1)) (ndF nd c m (k+1))))
  (hq:k9 Tryz.prog (RF i) [.ptr 0 0 0,c.av,m.av] (stK X s fo si up ps.length) (stD s cs ps (nxF nx c m i) (ndF nd c m i)) (b1j kd kc) (stK X s fo si up ps.length) (stD s cs ps (nxF nx c m (i+1)) (ndF nd c m (i+1)))):
  c6 Tryz.prog 51 [.ptr 0 0 0,c.av,m.av] (stK X s fo si up ps.length) (stD s cs ps nx nd) (.tup [.agg [I 0,I 0,H7,I 0], .agg [I kd,I kc]]) (stK X s fo si up ps.length) (stD s cs ps (nxF nx c m (i+1)) (ndF nd c m (i+1))++[some (.els 4 [[I 0,I 0,H7,I 0]]),some (.els 2 [[I kd,I kc]])]):=by
 refine B2 ?_;have e0:nxF nx c m 0=nx:=rfl;have e1:ndF nd c m 0=nd:=rfl;generalize hN:nxF nx c m=N at*
 generalize hD:ndF nd c m=D at*
 refine c6.of_bodyD 7 [0] Tryz.func51 rfl (by decide) (by simp[Tryz.ntmps51]) (by simp[Tryz.ntmps51]) rfl rfl a3g rfl (by decide) rfl rfl rfl rfl fun K hK=>?_;simp only[Tryz.ntmps51,Tryz.results51];simp -dsimp;apply hK;clear hK K;intro J hJ;refine a7 fun K1 hK1=>?_;refine a1h (by decide) ?_;refine gW ?_;refine c8 ?_;refine gP [0,4,5,6,7,24,25,26] ?_;refine i6 [0,4,5,6,7,24,25] (α:=Nat) (fun k=>[(26,I k)]) (fun k=>[some (.els 3 [[.fptr X 1 0 0, .mp 2, .row 3 0 ps.length]]),ruR s fo si up 4 5,caR cs,ptR ps,nxR s (N k),ndR s (D k),some (.els 4 [c.cells]),some (.els 2 [m.cells]),some (.els 4 [[I 0,I 0,H7,I 0]]),some (.els 2 [[I 0,I 0]]),some (.els 1 a7p)]) (fun k=>k≤i) (fun k=>6-k) 0 ?_ ?_ ?_
 ·exact Nat.zero_le _
 ·exact gB [some 0,some 1,some 2,some 3,some 4,some 5,some 6,some 7,some 8,some 9,some 10] (hH:=by simp[a7p,e0,e1])
 rintro k k1;have hb:=a3c (k:=k) (by omega);have hbl:k<a7p.length:=by rw[a3n];omega
 have hb6:k<6:=by omega
 obtain⟨hbl2,hbg⟩:=List.getElem?_eq_some_iff.1 hb;have wk:=zW k (by omega)
 rcases Nat.lt_or_eq_of_le k1 with hlt|rfl
 ·refine zN ?_;refine gW ?_;refine a7 fun K2 hK2=>?_;refine c3 rfl (fun hc0=>?_) (fun hc0=>?_)
  ·refine c5 ?_;refine zQ (hK2 _ _ ?_);refine gP [0,4,5,6,7,24,25,26] ?_;refine a7 fun K3 hK3=>?_;refine c8 ?_;refine gW ?_ fun K hK=>by simp -dsimp [hb,hbl,hb6,hbg];exact hK
   refine gV ?_ fun K hK=>by simp -dsimp;refine cM [0,1] [2,3,4,5] (hp k hlt) ?_;simp -dsimp;exact hK
   refine zQ (hK3 _ _ ?_);refine gP [0,4,5,6,7,24,25,26] ?_;refine gV ?_ fun K hK=>by simp -dsimp [wk];exact hK
   refine zQ ?_;exact⟨k+1,by omega,by omega,gB [some 0,some 1,some 11,some 12,some 13,some 14,some 6,some 7,some 8,some 9,some 10] (hH:=by simp[a2W])⟩
  ·exfalso;have h9:=hc0;simp at h9;omega
 ·refine zN ?_;refine gW ?_;refine a7 fun K4 hK4=>?_;refine c3 rfl (fun hc0=>?_) (fun hc0=>?_)
  ·refine c5 ?_;refine zQ (hK4 _ _ ?_);refine gP [0,4,5,6,7,24,25,26] ?_;refine a7 fun K5 hK5=>?_;refine c8 ?_;refine gW ?_ fun K hK=>by simp -dsimp [hb,hbl,hb6,hbg];exact hK
   refine a2K (List.cons_ne_nil _ _) rfl (by decide) rfl rfl rfl fun K hK=>?_;simp only[List.dropLast];simp -dsimp;refine hK _ _ (x3 [0,1] [2,3,4,5] [some 0,some 1,none,none,none,none,none,none,none,none,none,some 2,some 3,some 4,some 5] (hq) rfl (by simp[a3i]) rfl (by simp) (by simp) rfl (by simp) (by simp) (by simp) ?_);clear hK K;refine⟨9,[I 0,I 0], .int .i64 kd, .int .i64 kc,rfl,rfl,by simp,rfl,rfl,rfl,?_⟩;exact⟨[some 0,some 1,some 11,some 12,some 13,some 14,some 8,some 9],rfl,by simp,by simp,by simp,by simp[R3,v7]⟩
  ·exfalso;have h9:=hc0;simp at h9;omega
theorem b2r {i:Nat} {kd kc:Int} (hi:i<6)
  (hp:∀k<i,c6 Tryz.prog (RF k) [.ptr 0 0 0,(c0A c),m.av] (stK X s fo si up ps.length) (stD s cs ps (nxF nx c m k) (ndF nd c m k)) (.tup []) (stK X s fo si up ps.length) (stD s cs ps (nxF nx c m (k+1)) (ndF nd c m (k+1))))
  (hq:k9 Tryz.prog (RF i) [.ptr 0 0 0,(c0A c),m.av] (stK X s fo si up ps.length) (stD s cs ps (nxF nx c m i) (ndF nd c m i)) (b1j kd kc) (stK X s fo si up ps.length) (stD s cs ps (nxF nx c m (i+1)) (ndF nd c m (i+1)))):
  c6 Tryz.prog 51 [.ptr 0 0 0,(c0A c),m.av] (stK X s fo si up ps.length) (stD s cs ps nx nd) (.tup [.agg [I 0,I 0,H7,I 0], .agg [I kd,I kc]]) (stK X s fo si up ps.length) (stD s cs ps (nxF nx c m (i+1)) (ndF nd c m (i+1))++[some (.els 4 [[I 0,I 0,H7,I 0]]),some (.els 2 [[I kd,I kc]])]):=by
 refine B2 ?_;have e0:nxF nx c m 0=nx:=rfl;have e1:ndF nd c m 0=nd:=rfl;generalize hN:nxF nx c m=N at*
 generalize hD:ndF nd c m=D at*
 refine c6.of_bodyD 7 [0] Tryz.func51 rfl (by decide) (by simp[Tryz.ntmps51]) (by simp[Tryz.ntmps51]) rfl rfl a3g rfl (by decide) rfl rfl rfl rfl fun K hK=>?_;simp only[Tryz.ntmps51,Tryz.results51];simp -dsimp;apply hK;clear hK K;intro J hJ;refine a7 fun K1 hK1=>?_;refine a1h (by decide) ?_;refine gW ?_;refine c8 ?_;refine gP [0,4,5,6,7,24,25,26] ?_;refine i6 [0,4,5,6,7,24,25] (α:=Nat) (fun k=>[(26,I k)]) (fun k=>[some (.els 3 [[.fptr X 1 0 0, .mp 2, .row 3 0 ps.length]]),ruR s fo si up 4 5,caR cs,ptR ps,nxR s (N k),ndR s (D k),some (.els 4 [(c0C c)]),some (.els 2 [m.cells]),some (.els 4 [[I 0,I 0,H7,I 0]]),some (.els 2 [[I 0,I 0]]),some (.els 1 a7p)]) (fun k=>k≤i) (fun k=>6-k) 0 ?_ ?_ ?_
 ·exact Nat.zero_le _
 ·exact gB [some 0,some 1,some 2,some 3,some 4,some 5,some 6,some 7,some 8,some 9,some 10] (hH:=by simp[a7p,e0,e1])
 rintro k k1;have hb:=a3c (k:=k) (by omega);have hbl:k<a7p.length:=by rw[a3n];omega
 have hb6:k<6:=by omega
 obtain⟨hbl2,hbg⟩:=List.getElem?_eq_some_iff.1 hb;have wk:=zW k (by omega)
 rcases Nat.lt_or_eq_of_le k1 with hlt|rfl
 ·refine zN ?_;refine gW ?_;refine a7 fun K2 hK2=>?_;refine c3 rfl (fun hc0=>?_) (fun hc0=>?_)
  ·refine c5 ?_;refine zQ (hK2 _ _ ?_);refine gP [0,4,5,6,7,24,25,26] ?_;refine a7 fun K3 hK3=>?_;refine c8 ?_;refine gW ?_ fun K hK=>by simp -dsimp [hb,hbl,hb6,hbg];exact hK
   refine gV ?_ fun K hK=>by simp -dsimp;refine cM [0,1] [2,3,4,5] (hp k hlt) ?_;simp -dsimp;exact hK
   refine zQ (hK3 _ _ ?_);refine gP [0,4,5,6,7,24,25,26] ?_;refine gV ?_ fun K hK=>by simp -dsimp [wk];exact hK
   refine zQ ?_;exact⟨k+1,by omega,by omega,gB [some 0,some 1,some 11,some 12,some 13,some 14,some 6,some 7,some 8,some 9,some 10] (hH:=by simp[a2W])⟩
  ·exfalso;have h9:=hc0;simp at h9;omega
 ·refine zN ?_;refine gW ?_;refine a7 fun K4 hK4=>?_;refine c3 rfl (fun hc0=>?_) (fun hc0=>?_)
  ·refine c5 ?_;refine zQ (hK4 _ _ ?_);refine gP [0,4,5,6,7,24,25,26] ?_;refine a7 fun K5 hK5=>?_;refine c8 ?_;refine gW ?_ fun K hK=>by simp -dsimp [hb,hbl,hb6,hbg];exact hK
   refine a2K (List.cons_ne_nil _ _) rfl (by decide) rfl rfl rfl fun K hK=>?_;simp only[List.dropLast];simp -dsimp;refine hK _ _ (x3 [0,1] [2,3,4,5] [some 0,some 1,none,none,none,none,none,none,none,none,none,some 2,some 3,some 4,some 5] (hq) rfl (by simp[a3i]) rfl (by simp) (by simp) rfl (by simp) (by simp) (by simp) ?_);clear hK K;refine⟨9,[I 0,I 0], .int .i64 kd, .int .i64 kc,rfl,rfl,by simp,rfl,rfl,rfl,?_⟩;exact⟨[some 0,some 1,some 11,some 12,some 13,some 14,some 8,some 9],rfl,by simp,by simp,by simp,by simp[R3,v7]⟩
  ·exfalso;have h9:=hc0;simp at h9;omega
theorem a3f (t:List Move) (hne:t≠[]) (hn:t.length≤1000):c6 Tryz.prog 40 [a6b t] [] [] (.row 0 0 t.length) [] [some (.els 2 (t.map Move.cells))]:=by
 have f1:P4 t.length 17:=l9 (by omega) (by omega);refine oG [] Tryz.func40 Tryz.ntmps40 Tryz.results40 ?_;intro J hJ;refine gW ?_;refine a7 fun K1 hK1=>?_;refine gW ?_ fun K hK=>by simp -dsimp [hne];exact hK
 refine c3 rfl (fun hc0=>?_) (fun hc0=>?_)
 ·simp at hc0
 ·refine c5 ?_;refine zQ (hK1 _ _ ?_);refine gP [0] ?_;refine gW ?_ fun K hK=>by simp -dsimp [hne,f1];exact hK
  exact g7 (gT [some 0])
theorem b2x {B:Y7} {b:Bool} {nd2:l7} (hne:c.Way≠[]) (hlen:c.Way.length≤1000)
  (hp:∀k<6,c6 Tryz.prog (RF k) [.ptr 0 0 0,c.av,m.av] (stK X s fo si up ps.length) (stD s cs ps (nxF nx c m k) (ndF nd c m k)) (.tup []) (stK X s fo si up ps.length) (stD s cs ps (nxF nx c m (k+1)) (ndF nd c m (k+1))))
  (p6:c6 Tryz.prog 100 [.ptr 0 0 0,c.av,m.av] (stK X s fo si up ps.length) (stD s cs ps (nxF nx c m 6) (ndF nd c m 6)) (.tup [.agg B.cells,Bo b]) (stK X s fo si up ps.length) (stD s cs ps (nxF nx c m 6) nd2))
  (hB:b=true→0≤B.Node∧B.Node.toNat<ps.length):
  c6 Tryz.prog 51 [.ptr 0 0 0,c.av,m.av] (stK X s fo si up ps.length) (stD s cs ps nx nd) (.tup [(o9 c m).av, .agg [I 0,I 0]]) (stK X s fo si up ps.length) (stD s cs (if b then ps.set B.Node.toNat B.Leg else ps) (nxF nx c m 6) nd2++[some (.els 4 [(o9 c m).cells]),some (.els 2 [[I 0,I 0]])]):=by
 have hcl:=a3f c.Way hne hlen;have htk:List.take (c.Way.length+1) (List.map Move.cells c.Way++[[I m.Rail,Bo m.Back]])=List.map Move.cells c.Way++[[I m.Rail,Bo m.Back]]:=List.take_of_length_le (by simp);have f1:P4 (c.Way.length+1) 17:=l9 (by omega) (by omega);refine B2 ?_;have e0:nxF nx c m 0=nx:=rfl;have e1:ndF nd c m 0=nd:=rfl;generalize hN:nxF nx c m=N at*
 generalize hD:ndF nd c m=D at*
 refine c6.of_bodyD 7 [0] Tryz.func51 rfl (by decide) (by simp[Tryz.ntmps51]) (by simp[Tryz.ntmps51]) rfl rfl a3g rfl (by decide) rfl rfl rfl rfl fun K hK=>?_;simp only[Tryz.ntmps51,Tryz.results51];simp -dsimp;apply hK;clear hK K;intro J hJ;refine a7 fun K1 hK1=>?_;refine a1h (by decide) ?_;refine gW ?_;refine c8 ?_;refine gP [0,4,5,6,7,24,25,26] ?_;refine i6 [0,4,5,6,7,24,25] (α:=Nat) (fun k=>[(26,I k)]) (fun k=>[some (.els 3 [[.fptr X 1 0 0, .mp 2, .row 3 0 ps.length]]),ruR s fo si up 4 5,caR cs,ptR ps,nxR s (N k),ndR s (D k),some (.els 4 [c.cells]),some (.els 2 [m.cells]),some (.els 4 [[I 0,I 0,H7,I 0]]),some (.els 2 [[I 0,I 0]]),some (.els 1 a7p)]) (fun k=>k≤6) (fun k=>6-k) 0 ?_ ?_ ?_
 ·exact Nat.zero_le _
 ·exact gB [some 0,some 1,some 2,some 3,some 4,some 5,some 6,some 7,some 8,some 9,some 10] (hH:=by simp[a7p,e0,e1])
 rintro k k1;refine zN ?_;refine gW ?_;refine a7 fun K2 hK2=>?_;refine c3 rfl (fun hc0=>?_) (fun hc0=>?_)
 ·have hb6:k<6:=by first|omega|(simp at hc0;omega)
  have hb:=a3c hb6;have hbl:k<a7p.length:=by rw[a3n];omega
  obtain⟨hbl2,hbg⟩:=List.getElem?_eq_some_iff.1 hb;have wk:=zW k (by omega);refine c5 ?_;refine zQ (hK2 _ _ ?_);refine gP [0,4,5,6,7,24,25,26] ?_;refine a7 fun K3 hK3=>?_;refine c8 ?_;refine gW ?_ fun K hK=>by simp -dsimp [hb,hbl,hb6,hbg];exact hK
  refine gV ?_ fun K hK=>by simp -dsimp;refine cM [0,1] [2,3,4,5] (hp k hb6) ?_;simp -dsimp;exact hK
  refine zQ (hK3 _ _ ?_);refine gP [0,4,5,6,7,24,25,26] ?_;refine gV ?_ fun K hK=>by simp -dsimp [wk];exact hK
  refine zQ ?_;exact⟨k+1,by omega,by omega,gB [some 0,some 1,some 11,some 12,some 13,some 14,some 6,some 7,some 8,some 9,some 10] (hH:=by simp[a2W])⟩
 ·have hke:k=6:=by first|omega|(simp at hc0;omega)
  subst hke;refine p7 ?_;refine zQ (hK1 _ _ ?_);refine gP [0,4,5,6,7] ?_;refine a7 fun K4 hK4=>?_;refine gW ?_ fun K hK=>by simp -dsimp;refine cM [0,1] [2,3,4,5] (p6) ?_;simp -dsimp;exact hK
  refine gW ?_;refine c3 rfl (fun hc1=>?_) (fun hc1=>?_)
  ·have hbb:b=true:=by simpa using hc1
   subst hbb;obtain⟨hB0,hB1⟩:=hB rfl;refine gE ?_ fun K hK=>by simp -dsimp [hB0,hB1];exact hK
   refine zQ (hK4 _ _ ?_);refine gP [0,4,5,6,7] ?_;refine gD ?_ fun K hK=>by simp -dsimp [f1];refine cM [] [] (hcl) ?_;simp -dsimp [f1];exact hK
   refine gW ?_;refine gU (T':=[(0, .ptr 0 0 0),(6, .ptr 6 0 0),(7, .ptr 7 0 0)]) (H':=stR X ps.length::ruR s fo si up 4 5::(stD s cs (ps.set B.Node.toNat B.Leg) (N 6) nd2++[some (.els 4 [(o9 c m).cells]),some (.els 2 [[I 0,I 0]])])) [some 0,some 1,some 11,some 12,some 13,some 14,some 8,some 9] ?_ (hH:=by simp[o9,htk]);exact g7 ⟨[some 0,some 1,some 2,some 3,some 4,some 5,some 6,some 7],rfl,by simp,by simp,by simp,by simp[R3,v7,o9]⟩
  ·have hbb:b=false:=by simpa using hc1
   subst hbb;refine c5 ?_;refine zQ (hK4 _ _ ?_);refine gP [0,4,5,6,7] ?_;refine gD ?_ fun K hK=>by simp -dsimp [f1];refine cM [] [] (hcl) ?_;simp -dsimp [f1];exact hK
   refine gW ?_;refine gU (T':=[(0, .ptr 0 0 0),(6, .ptr 6 0 0),(7, .ptr 7 0 0)]) (H':=stR X ps.length::ruR s fo si up 4 5::(stD s cs ps (N 6) nd2++[some (.els 4 [(o9 c m).cells]),some (.els 2 [[I 0,I 0]])])) [some 0,some 1,some 11,some 12,some 13,some 14,some 8,some 9] ?_ (hH:=by simp[o9,htk]);exact g7 ⟨[some 0,some 1,some 2,some 3,some 4,some 5,some 6,some 7],rfl,by simp,by simp,by simp,by simp[R3,v7,o9]⟩
theorem a9o:a6 Tryz.prog 40 [H7] H7:=by
 refine oB Tryz.func40 Tryz.ntmps40 Tryz.results40 ?_;refine aW ?_;refine a5 fun K1 hK1=>?_;refine aW ?_;refine a8 rfl (fun hc0=>?_) (fun hc0=>?_)
 ·refine aW ?_;exact a9 (by simp)
 ·simp at hc0
theorem b2p {B:Y7} {b:Bool} {nd2:l7} (hne:c.Way=[])
  (hp:∀k<6,c6 Tryz.prog (RF k) [.ptr 0 0 0,(c0A c),m.av] (stK X s fo si up ps.length) (stD s cs ps (nxF nx c m k) (ndF nd c m k)) (.tup []) (stK X s fo si up ps.length) (stD s cs ps (nxF nx c m (k+1)) (ndF nd c m (k+1))))
  (p6:c6 Tryz.prog 100 [.ptr 0 0 0,(c0A c),m.av] (stK X s fo si up ps.length) (stD s cs ps (nxF nx c m 6) (ndF nd c m 6)) (.tup [.agg B.cells,Bo b]) (stK X s fo si up ps.length) (stD s cs ps (nxF nx c m 6) nd2))
  (hB:b=true→0≤B.Node∧B.Node.toNat<ps.length):
  c6 Tryz.prog 51 [.ptr 0 0 0,(c0A c),m.av] (stK X s fo si up ps.length) (stD s cs ps nx nd) (.tup [(o9 c m).av, .agg [I 0,I 0]]) (stK X s fo si up ps.length) (stD s cs (if b then ps.set B.Node.toNat B.Leg else ps) (nxF nx c m 6) nd2++[some (.els 4 [(o9 c m).cells]),some (.els 2 [[I 0,I 0]])]):=by
 have hcl:=a9o;have f1:P4 1 17:=l9 (by omega) (by omega);refine B2 ?_;have e0:nxF nx c m 0=nx:=rfl;have e1:ndF nd c m 0=nd:=rfl;generalize hN:nxF nx c m=N at*
 generalize hD:ndF nd c m=D at*
 refine c6.of_bodyD 7 [0] Tryz.func51 rfl (by decide) (by simp[Tryz.ntmps51]) (by simp[Tryz.ntmps51]) rfl rfl a3g rfl (by decide) rfl rfl rfl rfl fun K hK=>?_;simp only[Tryz.ntmps51,Tryz.results51];simp -dsimp;apply hK;clear hK K;intro J hJ;refine a7 fun K1 hK1=>?_;refine a1h (by decide) ?_;refine gW ?_;refine c8 ?_;refine gP [0,4,5,6,7,24,25,26] ?_;refine i6 [0,4,5,6,7,24,25] (α:=Nat) (fun k=>[(26,I k)]) (fun k=>[some (.els 3 [[.fptr X 1 0 0, .mp 2, .row 3 0 ps.length]]),ruR s fo si up 4 5,caR cs,ptR ps,nxR s (N k),ndR s (D k),some (.els 4 [c0C c]),some (.els 2 [m.cells]),some (.els 4 [[I 0,I 0,H7,I 0]]),some (.els 2 [[I 0,I 0]]),some (.els 1 a7p)]) (fun k=>k≤6) (fun k=>6-k) 0 ?_ ?_ ?_
 ·exact Nat.zero_le _
 ·exact gB [some 0,some 1,some 2,some 3,some 4,some 5,some 6,some 7,some 8,some 9,some 10] (hH:=by simp[a7p,e0,e1])
 rintro k k1;refine zN ?_;refine gW ?_;refine a7 fun K2 hK2=>?_;refine c3 rfl (fun hc0=>?_) (fun hc0=>?_)
 ·have hb6:k<6:=by first|omega|(simp at hc0;omega)
  have hb:=a3c hb6;have hbl:k<a7p.length:=by rw[a3n];omega
  obtain⟨hbl2,hbg⟩:=List.getElem?_eq_some_iff.1 hb;have wk:=zW k (by omega);refine c5 ?_;refine zQ (hK2 _ _ ?_);refine gP [0,4,5,6,7,24,25,26] ?_;refine a7 fun K3 hK3=>?_;refine c8 ?_;refine gW ?_ fun K hK=>by simp -dsimp [hb,hbl,hb6,hbg];exact hK
  refine gV ?_ fun K hK=>by simp -dsimp;refine cM [0,1] [2,3,4,5] (hp k hb6) ?_;simp -dsimp;exact hK
  refine zQ (hK3 _ _ ?_);refine gP [0,4,5,6,7,24,25,26] ?_;refine gV ?_ fun K hK=>by simp -dsimp [wk];exact hK
  refine zQ ?_;exact⟨k+1,by omega,by omega,gB [some 0,some 1,some 11,some 12,some 13,some 14,some 6,some 7,some 8,some 9,some 10] (hH:=by simp[a2W])⟩
 ·have hke:k=6:=by first|omega|(simp at hc0;omega)
  subst hke;refine p7 ?_;refine zQ (hK1 _ _ ?_);refine gP [0,4,5,6,7] ?_;refine a7 fun K4 hK4=>?_;refine gW ?_ fun K hK=>by simp -dsimp;refine cM [0,1] [2,3,4,5] (p6) ?_;simp -dsimp;exact hK
  refine gW ?_;refine c3 rfl (fun hc1=>?_) (fun hc1=>?_)
  ·have hbb:b=true:=by simpa using hc1
   subst hbb;obtain⟨hB0,hB1⟩:=hB rfl;refine gE ?_ fun K hK=>by simp -dsimp [hB0,hB1];exact hK
   refine zQ (hK4 _ _ ?_);refine gP [0,4,5,6,7] ?_;refine gD ?_ fun K hK=>by simp -dsimp [f1];refine cI (hcl) ?_;simp -dsimp [f1];exact hK
   refine gW ?_;refine gU (T':=[(0, .ptr 0 0 0),(6, .ptr 6 0 0),(7, .ptr 7 0 0)]) (H':=stR X ps.length::ruR s fo si up 4 5::(stD s cs (ps.set B.Node.toNat B.Leg) (N 6) nd2++[some (.els 4 [(o9 c m).cells]),some (.els 2 [[I 0,I 0]])])) [some 0,some 1,some 11,some 12,some 13,some 14,some 8,some 9] ?_ (hH:=by simp[o9,hne]);exact g7 ⟨[some 0,some 1,some 2,some 3,some 4,some 5,some 6,some 7],rfl,by simp,by simp,by simp,by simp[R3,v7,o9,hne]⟩
  ·have hbb:b=false:=by simpa using hc1
   subst hbb;refine c5 ?_;refine zQ (hK4 _ _ ?_);refine gP [0,4,5,6,7] ?_;refine gD ?_ fun K hK=>by simp -dsimp [f1];refine cI (hcl) ?_;simp -dsimp [f1];exact hK
   refine gW ?_;refine gU (T':=[(0, .ptr 0 0 0),(6, .ptr 6 0 0),(7, .ptr 7 0 0)]) (H':=stR X ps.length::ruR s fo si up 4 5::(stD s cs ps (N 6) nd2++[some (.els 4 [(o9 c m).cells]),some (.els 2 [[I 0,I 0]])])) [some 0,some 1,some 11,some 12,some 13,some 14,some 8,some 9] ?_ (hH:=by simp[o9,hne]);exact g7 ⟨[some 0,some 1,some 2,some 3,some 4,some 5,some 6,some 7],rfl,by simp,by simp,by simp,by simp[R3,v7,o9,hne]⟩
end
end Go.Tram.Lk
end
section
namespace Go.Tram.Lk
open Go.AM Go.Proofs
section
variable (X:Value) (s:l5) (fo si up:Kvs) (cs:List Car) (ps:List Int) (nx nd:l7) (c:Car) (m:Move)
theorem c3l (hn:c.Way.length≤1000) (h:b3o c m=false):c6 Tryz.prog 95 [.ptr 0 0 0,c.av,m.av] (stK X s fo si up ps.length) (stD s cs ps nx nd) (.tup []) (stK X s fo si up ps.length) (stD s cs ps nx nd):=by
 have hc:=a0h c.Way 133 [m.cells] (fun x=>decide (x.Rail=m.Rail)) (fun x _=>b8e m x) (by omega);rw[b3T,h]at hc;have hr:=r4 2 0;refine B2 ?_;refine oG [0] Tryz.func95 Tryz.ntmps95 Tryz.results95 ?_;intro J hJ;refine gW ?_;refine gV ?_ fun K hK=>by simp -dsimp;refine cI (hc) ?_;simp -dsimp;refine cI (hr) ?_;simp -dsimp;exact hK
 try simp only[zT,reduceIte,Nat.reduceEqDiff]
 exact⟨[some 0,some 1,some 2,some 3,some 4,some 5],rfl,by simp,by simp,by simp,by simp[R3,v7]⟩
theorem c1y (hn:c.Way.length≤1000) (h:b3o c m=true):k9 Tryz.prog 95 [.ptr 0 0 0,c.av,m.av] (stK X s fo si up ps.length) (stD s cs ps nx nd) (b1j 2 0) (stK X s fo si up ps.length) (stD s cs ps nx nd):=by
 have hc:=a0h c.Way 133 [m.cells] (fun x=>decide (x.Rail=m.Rail)) (fun x _=>b8e m x) (by omega);rw[b3T,h]at hc;refine R5 ?_;refine k9.of_bodyG [0] Tryz.func95 rfl (by decide) (by simp[Tryz.ntmps95]) rfl rfl ?_;intro J hJ;simp only[Tryz.ntmps95,Tryz.results95];refine gW ?_;refine a2K (List.cons_ne_nil _ _) rfl (by decide) rfl rfl rfl fun K hK=>?_;simp only[List.dropLast];simp -dsimp;refine cI (hc) ?_;simp -dsimp;refine hK _ _ (x3 [] [] [none,none,none,none,none,none,none,none] (J7 2 0) rfl (by simp[a3i]) rfl (by simp) (by simp) rfl (by simp) (by simp) (by simp) ?_);clear hK K;exact⟨rfl,[some 0,some 1,some 2,some 3,some 4,some 5],rfl,by simp,by simp,by simp⟩
theorem c1W (h:c.Way.length<20):c6 Tryz.prog 99 [.ptr 0 0 0,c.av,m.av] (stK X s fo si up ps.length) (stD s cs ps nx nd) (.tup []) (stK X s fo si up ps.length) (stD s cs ps nx nd):=by
 have hd:decide ((20:Int)≤(c.Way.length:Int))=false:=decide_eq_false (by omega);have hr:=r4 6 0;refine B2 ?_;refine oG [0] Tryz.func99 Tryz.ntmps99 Tryz.results99 ?_;intro J hJ;refine gW ?_;refine gV ?_ fun K hK=>by simp -dsimp [hd];refine cI (hr) ?_;simp -dsimp [hd];exact hK
 try simp only[zT,reduceIte,Nat.reduceEqDiff]
 exact⟨[some 0,some 1,some 2,some 3,some 4,some 5],rfl,by simp,by simp,by simp,by simp[R3,v7]⟩
theorem b9v (h:20≤c.Way.length):k9 Tryz.prog 99 [.ptr 0 0 0,c.av,m.av] (stK X s fo si up ps.length) (stD s cs ps nx nd) (b1j 6 0) (stK X s fo si up ps.length) (stD s cs ps nx nd):=by
 have hd:decide ((20:Int)≤(c.Way.length:Int))=true:=decide_eq_true (by omega);refine R5 ?_;refine k9.of_bodyG [0] Tryz.func99 rfl (by decide) (by simp[Tryz.ntmps99]) rfl rfl ?_;intro J hJ;simp only[Tryz.ntmps99,Tryz.results99];refine gW ?_;refine a2K (List.cons_ne_nil _ _) rfl (by decide) rfl rfl rfl fun K hK=>?_;simp only[List.dropLast];simp -dsimp [hd];refine hK _ _ (x3 [] [] [none,none,none,none,none,none,none,none] (J7 6 0) rfl (by simp[a3i]) rfl (by simp) (by simp) rfl (by simp) (by simp) (by simp) ?_);clear hK K;exact⟨rfl,[some 0,some 1,some 2,some 3,some 4,some 5],rfl,by simp,by simp,by simp⟩
theorem b9r {B:Y7} {nd2:l7} (p6:c6 Tryz.prog 100 [.ptr 0 0 0,c.av,m.av] (stK X s fo si up ps.length) (stD s cs ps nx nd) (.tup [.agg B.cells,Bo false]) (stK X s fo si up ps.length) (stD s cs ps nx nd2)):
  c6 Tryz.prog 97 [.ptr 0 0 0,c.av,m.av] (stK X s fo si up ps.length) (stD s cs ps nx nd) (.tup []) (stK X s fo si up ps.length) (stD s cs ps nx nd2):=by
 refine B2 ?_;refine oG [0] Tryz.func97 Tryz.ntmps97 Tryz.results97 ?_;intro J hJ;refine gW ?_;refine gW ?_ fun K hK=>by simp -dsimp;refine cM [0,1] [2,3,4,5] (p6) ?_;simp -dsimp;exact hK
 refine a7 fun K1 hK1=>?_;refine gW ?_;refine c3 rfl (fun hc0=>?_) (fun hc0=>?_)
 ·exact g7 (gT [some 0,some 1,some 8,some 9,some 10,some 11])
 ·simp at hc0
end
def a4E (s:l5) (cs:List Car) (c:Car) (m:Move):Nat→Prop
 |0=>endB s c m=false
 |1=>b3o c m=false
 |2=>a4C cs c (fun o n=>P3 s m.Rail c.Profile n.Rail o.Profile)=none
 |3=>I7 s c m=true→(B4 cs c).find? (fun y=>r6 s y (D1 s c m))=none
 |4=>a4C cs c (fun _ n=>V9 s m n)=none
 |_=>c.Way.length<20
def a8B (s:l5) (cs:List Car) (c:Car) (m:Move) (kd kc:Int):Nat→Prop
 |0=>endB s c m=true∧kd=1∧kc=0
 |1=>b3o c m=true∧kd=2∧kc=0
 |2=>a4C cs c (fun o n=>P3 s m.Rail c.Profile n.Rail o.Profile)=some kc∧kd=3
 |3=>I7 s c m=true∧∃y,(B4 cs c).find? (fun y=>r6 s y (D1 s c m))=some y∧kc=y.Name∧kd=4
 |4=>a4C cs c (fun _ n=>V9 s m n)=some kc∧kd=5
 |_=>20≤c.Way.length∧kd=6∧kc=0
theorem O6 (s:l5) (x:Sta) (c:Car) (m:Move):
  ((r7 s x c m).Kind=0∧r7 s x c m=⟨0,0⟩∧∀k<6,a4E s x.Cars c m k)∨∃i<6,(r7 s x c m).Kind≠0∧(∀k<i,a4E s x.Cars c m k)∧a8B s x.Cars c m (r7 s x c m).Kind (r7 s x c m).Car i:=by
 unfold r7
 by_cases h0:endB s c m=true
 ·exact Or.inr ⟨0,by omega,by simp[h0],fun k hk=>by omega,by simp[a8B,h0]⟩
 have p0:a4E s x.Cars c m 0:=by simpa [a4E]using h0
 rw[if_neg h0]
 by_cases h1:b3o c m=true
 ·refine Or.inr ⟨1,by omega,by simp[h1],fun k hk=>?_,by simp[a8B,h1]⟩;have:k=0:=by omega
  rw[this];exact p0
 have p1:a4E s x.Cars c m 1:=by simpa [a4E]using h1
 rw[if_neg h1]
 cases h2:a4C x.Cars c (fun o n=>P3 s m.Rail c.Profile n.Rail o.Profile)with
 |some k2=>
  refine Or.inr ⟨2,by omega,by simp,fun k hk=>?_,by simp[a8B,h2]⟩
  match k,hk with
  |0,_=>exact p0
  |1,_=>exact p1
 |none=>
 have p2:a4E s x.Cars c m 2:=h2
 cases h3:(if I7 s c m=true then((B4 x.Cars c).find? fun o=>r6 s o (D1 s c m)).map (·.Name)else none)with
 | some k3=>
  refine Or.inr ⟨3,by omega,by simp,fun k hk=>?_,?_⟩
  ·match k,hk with
   |0,_=>exact p0
   |1,_=>exact p1
   |2,_=>exact p2
  ·by_cases hb:I7 s c m=true
   ·rw[if_pos hb,Option.map_eq_some_iff]at h3;obtain⟨y,hy,hn⟩:=h3;exact⟨hb,y,hy,by simpa using hn.symm,by simp⟩
   ·rw[if_neg hb]at h3;cases h3
 |none=>
 have p3:a4E s x.Cars c m 3:=by
  intro hb;rw[if_pos hb,Option.map_eq_none_iff]at h3;exact h3
 cases h4:a4C x.Cars c (fun _ n=>V9 s m n)with
 |some k4=>
  refine Or.inr ⟨4,by omega,by simp,fun k hk=>?_,by simp[a8B,h4]⟩
  match k,hk with
  |0,_=>exact p0
  |1,_=>exact p1
  |2,_=>exact p2
  |3,_=>exact p3
 |none=>
 have p4:a4E s x.Cars c m 4:=h4
 by_cases h5:20≤c.Way.length
 ·refine Or.inr ⟨5,by omega,by simp[h5],fun k hk=>?_,by simp[a8B,h5]⟩
  match k,hk with
  |0,_=>exact p0
  |1,_=>exact p1
  |2,_=>exact p2
  |3,_=>exact p3
  |4,_=>exact p4
 refine Or.inl ⟨by simp[h5],by simp[h5],fun k hk=>?_⟩
 match k,hk with
 |0,_=>exact p0
 |1,_=>exact p1
 |2,_=>exact p2
 |3,_=>exact p3
 |4,_=>exact p4
 |5,_=>show c.Way.length<20;omega
section
variable {s:l5} {fo si up:Kvs} (hru:b2J s fo si up) (X:Value) {cs:List Car} (hcs:b5f s cs) (ps:List Int) (nx nd:l7) {c:Car} {m:Move} (hv:d7 s.Plan=true) (hw:c.Way≠[]→wayB s.Plan c.Way=true) (hm:E3 s.Plan m=true) (hl:c.Way.length≤1000)
include hru hcs hv hw hm hl
theorem a1X (nx nd:l7):c6 Tryz.prog 100 [.ptr 0 0 0,c.av,m.av] (stK X s fo si up ps.length) (stD s cs ps nx nd) (.tup [.agg (D1 s c m).cells,Bo (I7 s c m)]) (stK X s fo si up ps.length) (stD s cs ps nx (a4A nd c m)):=by
 have _:=And.intro hru (And.intro hcs hl)
 by_cases hne:c.Way=[]
 ·exact b2g X s fo si up cs ps nx nd c m hne
 ·exact Q5 X s fo si up cs ps nx nd c m hv hne (hw hne) hm
theorem b0d (k:Nat) (hk:k<6) (h:a4E s cs c m k):c6 Tryz.prog (RF k) [.ptr 0 0 0,c.av,m.av] (stK X s fo si up ps.length) (stD s cs ps (nxF nx c m k) (ndF nd c m k)) (.tup []) (stK X s fo si up ps.length) (stD s cs ps (nxF nx c m (k+1)) (ndF nd c m (k+1))):=by
 match k,hk,h with
 |0,_,h=>
  by_cases hne:c.Way=[]
  ·exact c2f X s fo si up cs ps nx nd c m hne
  ·exact c2F X s fo si up cs ps nx nd c m hv hne (hw hne) hm h
 |1,_,h=>exact c3l X s fo si up cs ps _ _ c m hl h
 |2,_,h=>exact b6Y hru X hcs ps _ _ c m h
 | 3,_,h=>
  have p6:=a1X hru X hcs ps hv hw hm hl (a4A nx c m) nd
  by_cases hb:I7 s c m=true
  ·have hne:c.Way≠[]:=by intro e;simp[I7,e]at hb
   have hh:∀y∈B4 cs c,r6 s y (D1 s c m)=false:=by simpa using h hb
   cases hk:Y6 cs c.Name with
   |some c'=>exact b5g X hcs ps _ _ hv hne (hw hne) hm hb hk hh
   |none=>exact b4q X hcs ps _ _ hv hne (hw hne) hm hb hk hh
  ·have hb':I7 s c m=false:=by simpa using hb
   rw[hb']at p6;exact b9r X s fo si up cs ps _ _ c m p6
 |4,_,h=>exact a9F hru X hcs ps _ _ c m h
 |5,_,h=>exact c1W X s fo si up cs ps _ _ c m h
theorem b7H (k:Nat) (hk:k<6) {kd kc:Int} (h:a8B s cs c m kd kc k):k9 Tryz.prog (RF k) [.ptr 0 0 0,c.av,m.av] (stK X s fo si up ps.length) (stD s cs ps (nxF nx c m k) (ndF nd c m k)) (b1j kd kc) (stK X s fo si up ps.length) (stD s cs ps (nxF nx c m (k+1)) (ndF nd c m (k+1))):=by
 match k,hk,h with
 |0,_,⟨g0,g1,g2⟩=>subst g1 g2;exact c2L X s fo si up cs ps nx nd c m hv hw hm g0
 |1,_,⟨g0,g1,g2⟩=>subst g1 g2;exact c1y X s fo si up cs ps _ _ c m hl g0
 |2,_,⟨g0,g1⟩=>subst g1;exact b7v hru X hcs ps _ _ c m g0
 |3,_,⟨hb,y,hy,h1,h2⟩=>
  subst h1 h2;have hne:c.Way≠[]:=by intro e;simp[I7,e]at hb
  cases hk:Y6 cs c.Name with
  |some c'=>exact b3q X hcs ps _ _ hv hne (hw hne) hm hb hk hy
  |none=>exact b4E X hcs ps _ _ hv hne (hw hne) hm hb hk hy
 |4,_,⟨g0,g1⟩=>subst g1;exact a9A hru X hcs ps _ _ c m g0
 |5,_,⟨g0,g1,g2⟩=>subst g1 g2;exact b9v X s fo si up cs ps _ _ c m g0
end
end Go.Tram.Lk
end
section
namespace Go.Tram.Lk
open Go.AM Go.Proofs
theorem b2P {P:Program} {f:FuncId} {args args':List AV} {Hk Hd Hk' Hn:Hp} {res:AV} (h:c6 P f args' Hk Hd res Hk' Hn) (hl:args.length=args'.length)
  (hr:∀(i:Nat) c c',args[i]?=some c→args'[i]?=some c'→c=c'∨(c.noRef 2=true∧∀(w:World) (S:Nat→Prop) (y:Value),p9 w S c y→p9 w S c' y)):c6 P f args Hk Hd res Hk' Hn:=by
 obtain⟨h1,h2,h3⟩:=h;refine⟨h1,h2,fun S0 w ρ vs hh hlen hrep=>h3 S0 w ρ vs hh (by rw[←hl];exact hlen) fun i c x hc hx=>?_⟩;have hil:i<args.length:=by rw[hl];exact(List.getElem?_eq_some_iff.1 hc).1
 have h0:=List.getElem?_eq_getElem hil
 rcases hr i _ c h0 hc with e|⟨e1,e2⟩
 ·rw[←e];exact hrep i _ x h0 hx
 ·exact .pure _ _ (e2 _ _ _ (A6 2 _ _ e1 (hrep i _ x h0 hx)))
def D4:l5:=⟨j6,[⟨100,0⟩],[]⟩
theorem b0S:R1 D4=true:=by
 have hv:=b0M;unfold R1;rw[show D4.Plan=j6 from rfl,hv]
 decide+kernel
abbrev b4m:AV:= .agg [.lst 5 (j6.Nodes.map Node.cells), .lst 5 (j6.Rails.map Rail.cells), .full 2 [[I 100,I 0]],H7]
theorem b7c:c6 Tryz.prog 10 [b4m] [] [] (.tup [.ptr 0 0 0,I 0]) [] (b1r D4 [] [] ⟨[],u9 j6⟩):=by
 have h:=b4F D4 b0S (by decide+kernel);refine b2P h rfl fun i c c' h1 h2=>?_
 match i,h1,h2 with
 |0,h1,h2=>
  simp only[List.getElem?_cons_zero,Option.some.injEq]at h1 h2;subst h1 h2;refine Or.inr ⟨by rfl,fun w S y hy=>?_⟩;have e:wkN 1 6 b4m=D4.av:=by rfl
  rw[←e];exact a8Z 1 6 _ _ hy
theorem b8A (s:l5) (h:R1 s=false) (hN:s.Plan.Rails.length≤20) (hp:s.Profiles.length≤100000) (hm:∀x∈s.Singles,x.length≤100000):a6 Tryz.prog 10 [s.av] (.tup [.v (.pointer none),I 2]):=by
 have ho:=c_open_f s h hN hp hm;refine oB Tryz.func10 Tryz.ntmps10 Tryz.results10 ?_;refine aW ?_;refine aW ?_ fun K hK=>by simp -dsimp;refine cI (ho) ?_;simp -dsimp;exact hK
 refine a5 fun K1 hK1=>?_;refine aW ?_;refine a8 rfl (fun hc0=>?_) (fun hc0=>?_)
 ·refine aW ?_;exact a9 (by simp)
 ·simp at hc0
@[simp] theorem c6B:b2H Tryz.prog 32=true:=by kernel_rfl
@[simp] theorem c6N:b2H Tryz.prog 99=true:=by kernel_rfl
theorem c4z (op:BinOp) (t:TypeId) (x y:Operand) (a b:Option Addr) (w:World):(eqGuard op t x y (.pointer a) (.pointer b)).run Tryz.prog w= .ok () w:=by
 cases op<;>simp[eqGuard]
theorem c5q (t e:TypeId) (hu:(Tryz.prog).underlying t=some (.pointer e)) (w:World):(binOp .eql t (.pointer none) (.pointer none)).run Tryz.prog w= .ok (.bool true) w:=by
 have hq:(Op.equal t (.pointer none) (.pointer none)).run Tryz.prog w= .ok true w:=by
  show(Op.equalIn (Op.maxDepth-1+1) t _ _).run _ w=_;simp[Op.equalIn,run_underlying hu]
 simp[binOp,hq]
theorem c4B:(Tryz.prog).underlying 32=some (.pointer 104):=by kernel_rfl
theorem G8 (x:List AV):a6 Tryz.prog 38 [.iptr [.iptr x]] (Bo true):=by
 refine oB Tryz.func38 Tryz.ntmps38 Tryz.results38 ?_;refine aW ?_;refine aW ?_;exact a9 (by simp)
end Go.Tram.Lk
end
section
namespace Go.Tram.Lk
open Go.AM Go.Proofs
theorem b9c {c:Car} (h:c.Way=[]):(c0A c).noRef 2=true∧∀(w:World) (S:Nat→Prop) (y:Value),p9 w S (c0A c) y→p9 w S c.av y:=by
 refine⟨by rfl,fun w S y hy=>?_⟩;have e:wkN 2 6 (c0A c)=c.av:=by
  obtain⟨n,p,l,f⟩:=c;simp only at h;subst h
  rfl
 rw[←e];exact a8Z 2 6 _ _ hy
theorem b8u {c:Car} {m:Move} (h:c.Way=[]):∀(i:Nat) (a a':AV),[AV.ptr 0 0 0,c0A c,m.av][i]?=some a→[AV.ptr 0 0 0,c.av,m.av][i]?=some a'→a=a'∨(a.noRef 2=true∧∀(w:World) (S:Nat→Prop) (y:Value),p9 w S a y→p9 w S a' y)
 |0,a,a',h1,h2=>Or.inl (by simp only[List.getElem?_cons_zero,Option.some.injEq]at h1 h2;rw[←h1,←h2])
 |1,a,a',h1,h2=>by
  simp only[List.getElem?_cons_succ,List.getElem?_cons_zero,Option.some.injEq]at h1 h2;subst h1 h2;exact Or.inr (b9c h)
 |2,a,a',h1,h2=>Or.inl (by simp only[List.getElem?_cons_succ,List.getElem?_cons_zero,Option.some.injEq]at h1 h2;rw[←h1,←h2])
 |n+3,a,a',h1,h2=>by simp at h1
theorem a6D {P:Program} {f:FuncId} {c:Car} {m:Move} {K D K' D':Hp} {res:AV} (h:c.Way=[]) (h1:c6 P f [.ptr 0 0 0,c.av,m.av] K D res K' D'):c6 P f [.ptr 0 0 0,c0A c,m.av] K D res K' D':=
 b2P h1 rfl (b8u h)
theorem b8H {P:Program} {f:FuncId} {c:Car} {m:Move} {K D K' D':Hp} {pv:Value} (h:c.Way=[]) (h1:k9 P f [.ptr 0 0 0,c.av,m.av] K D pv K' D'):k9 P f [.ptr 0 0 0,c0A c,m.av] K D pv K' D':=by
 obtain⟨g1,g2,g3⟩:=h1;refine⟨g1,g2,fun S0 w ρ vs hh hlen hrep=>g3 S0 w ρ vs hh hlen fun i a' x hc hx=>?_⟩;have hil:i<[AV.ptr 0 0 0,c0A c,m.av].length:=(List.getElem?_eq_some_iff.1 hc).1;have h0:=List.getElem?_eq_getElem hil
 rcases b8u h i _ a' h0 hc with e|⟨e1,e2⟩
 ·rw[←e];exact hrep i _ x h0 hx
 ·exact .pure _ _ (e2 _ _ _ (A6 2 _ _ e1 (hrep i _ x h0 hx)))
abbrev P5 (r:b2I):AV:= .agg [I r.Kind,I r.Car]
abbrev grR (cl:List AV) (r:b2I):Hp:=[some (.els 4 [cl]),some (.els 2 [[I r.Kind,I r.Car]])]
abbrev a4K:List AV:=[I 0,I 0,H7,I 0]
section
variable {s:l5} {fo si up:Kvs} (hru:b2J s fo si up) {cs:List Car} (hcs:b5f s cs) {ps:List Int} (nx nd:l7) {c:Car} {m:Move} (hs:R1 s=true) (hpl:ps.length=s.Plan.Nodes.length) (hw:c.Way≠[]→wayB s.Plan c.Way=true) (hm:E3 s.Plan m=true) (hl:c.Way.length≤1000)
include hru hcs hs hpl hw hm hl
theorem a4n (hne:c.Way≠[]) (hr:(r7 s ⟨cs,ps⟩ c m).Kind=0):∃nx' nd',∀X:Value,c6 Tryz.prog 51 [.ptr 0 0 0,c.av,m.av] (stK X s fo si up ps.length) (stD s cs ps nx nd) (.tup [(o9 c m).av,P5 ⟨0,0⟩]) (stK X s fo si up ps.length) (stD s cs (a2U s c m ps) nx' nd'++grR (o9 c m).cells ⟨0,0⟩):=by
 have hv:=(r5 hs).1
 rcases O6 s ⟨cs,ps⟩ c m with⟨_,_,h⟩|⟨i,_,h,_⟩
 ·refine⟨_,_,fun X=>b2x X s fo si up cs ps nx nd c m hne hl (fun k hk=>id (b0d hru X hcs ps nx nd hv hw hm hl k hk (h k hk))) (id (a1X hru X hcs ps hv hw hm hl _ _)) fun hb=>?_⟩;have:=a3J hs hw hm hb;exact⟨this.1,by have:=this.2.1;omega⟩
 ·exact absurd hr h
theorem a4y (hne:c.Way≠[]) (hr:(r7 s ⟨cs,ps⟩ c m).Kind≠0):∃nx' nd',∀X:Value,c6 Tryz.prog 51 [.ptr 0 0 0,c.av,m.av] (stK X s fo si up ps.length) (stD s cs ps nx nd) (.tup [.agg a4K,P5 (r7 s ⟨cs,ps⟩ c m)]) (stK X s fo si up ps.length) (stD s cs ps nx' nd'++grR a4K (r7 s ⟨cs,ps⟩ c m)):=by
 have _:=hpl;have hv:=(r5 hs).1
 rcases O6 s ⟨cs,ps⟩ c m with⟨h,_⟩|⟨i,hi,_,hp,hf⟩
 ·exact absurd h hr
 ·exact⟨_,_,fun X=>b2b X s fo si up cs ps nx nd c m hi (fun k hk=>id (b0d hru X hcs ps nx nd hv hw hm hl k (by omega) (hp k hk))) (id (b7H hru X hcs ps nx nd hv hw hm hl i hi hf))⟩
theorem a9v (hne:c.Way=[]) (hr:(r7 s ⟨cs,ps⟩ c m).Kind=0):∃nx' nd',∀X:Value,c6 Tryz.prog 51 [.ptr 0 0 0,(c0A c),m.av] (stK X s fo si up ps.length) (stD s cs ps nx nd) (.tup [(o9 c m).av,P5 ⟨0,0⟩]) (stK X s fo si up ps.length) (stD s cs (a2U s c m ps) nx' nd'++grR (o9 c m).cells ⟨0,0⟩):=by
 have hv:=(r5 hs).1
 rcases O6 s ⟨cs,ps⟩ c m with⟨_,_,h⟩|⟨i,_,h,_⟩
 ·refine⟨_,_,fun X=>b2p X s fo si up cs ps nx nd c m hne (fun k hk=>a6D hne (b0d hru X hcs ps nx nd hv hw hm hl k hk (h k hk))) (a6D hne (a1X hru X hcs ps hv hw hm hl _ _)) fun hb=>?_⟩;have:=a3J hs hw hm hb;exact⟨this.1,by have:=this.2.1;omega⟩
 ·exact absurd hr h
theorem a8H (hne:c.Way=[]) (hr:(r7 s ⟨cs,ps⟩ c m).Kind≠0):∃nx' nd',∀X:Value,c6 Tryz.prog 51 [.ptr 0 0 0,(c0A c),m.av] (stK X s fo si up ps.length) (stD s cs ps nx nd) (.tup [.agg a4K,P5 (r7 s ⟨cs,ps⟩ c m)]) (stK X s fo si up ps.length) (stD s cs ps nx' nd'++grR a4K (r7 s ⟨cs,ps⟩ c m)):=by
 have _:=hpl;have hv:=(r5 hs).1
 rcases O6 s ⟨cs,ps⟩ c m with⟨h,_⟩|⟨i,hi,_,hp,hf⟩
 ·exact absurd h hr
 ·exact⟨_,_,fun X=>b2r X s fo si up cs ps nx nd c m hi (fun k hk=>a6D hne (b0d hru X hcs ps nx nd hv hw hm hl k (by omega) (hp k hk))) (b8H hne (b7H hru X hcs ps nx nd hv hw hm hl i hi hf))⟩
end
end Go.Tram.Lk
end
section
namespace Go.Tram.Lk
open Go.AM Go.Proofs
abbrev lkK:Hp:=[some (.els 1 [[.ptr 1 0 0]])]
abbrev lkD (s:l5) (fo si up:Kvs) (nx nd:l7) (cs:List Car) (ps:List Int):Hp:=[some (.els 3 [[.ptr 2 0 0, .mp 3, .row 4 0 ps.length]]),ruR s fo si up 5 6,caR cs,ptR ps,nxR s nx,ndR s nd]
theorem b2R (s:l5) (nx nd:l7) (x:Sta):b1r s (nxK s nx) (ndK s nd) x=lkK++lkD s (a4Q s) (U9 (A4 s)) (a0r (A4 s)) nx nd x.Cars x.Points:=rfl
section
variable (s:l5) (fo si up:Kvs) (nx nd:l7) (cs:List Car) (ps:List Int)
theorem a2f (name:Int) (hn:inr name 1 1000000=false):c6 Tryz.prog 50 [.ptr 0 0 0,I name] lkK (lkD s fo si up nx nd cs ps) (.tup [.agg a4K,I 2]) lkK (lkD s fo si up nx nd cs ps):=by
 have hw:=u0 name 1 1000000;rw[hn]at hw;refine oG [0] Tryz.func50 Tryz.ntmps50 Tryz.results50 ?_;intro J hJ;refine gW ?_;refine a7 fun K1 hK1=>?_;refine gW ?_ fun K hK=>by simp -dsimp;refine cI (G8 _) ?_;simp -dsimp;exact hK
 refine c3 rfl (fun hc0=>?_) (fun hc0=>?_)
 ·simp at hc0
 ·refine c5 ?_;refine zQ (hK1 _ _ ?_);refine gP [0,1,4] ?_;refine a7 fun K2 hK2=>?_;refine gW ?_ fun K hK=>by simp -dsimp;refine cI (hw) ?_;simp -dsimp;exact hK
  refine c3 rfl (fun hc1=>?_) (fun hc1=>?_)
  ·refine gW ?_;refine gU (T':=[(0, .ptr 0 0 0),(4, .iptr a4K),(5,I 2)]) (H':=lkK++lkD s fo si up nx nd cs ps) [some 0,some 1,some 2,some 3,some 4,some 5,some 6] ?_;exact g7 (gT [some 0,some 1,some 2,some 3,some 4,some 5,some 6])
  ·simp at hc1
theorem S9 (name:Int) (hn:inr name 1 1000000=true) (hc:Y6 cs name=none):c6 Tryz.prog 50 [.ptr 0 0 0,I name] lkK (lkD s fo si up nx nd cs ps) (.tup [.agg a4K,I 4]) lkK (lkD s fo si up nx nd cs ps):=by
 have hw:=u0 name 1 1000000;rw[hn]at hw;have hcc:A9 (n7 cs) (kOf name)=none:=by rw[k8,hc];rfl
 refine oG [0] Tryz.func50 Tryz.ntmps50 Tryz.results50 ?_;intro J hJ;refine gW ?_;refine a7 fun K1 hK1=>?_;refine gW ?_ fun K hK=>by simp -dsimp;refine cI (G8 _) ?_;simp -dsimp;exact hK
 refine c3 rfl (fun hc0=>?_) (fun hc0=>?_)
 ·simp at hc0
 ·refine c5 ?_;refine zQ (hK1 _ _ ?_);refine gP [0,1,4] ?_;refine a7 fun K2 hK2=>?_;refine gW ?_ fun K hK=>by simp -dsimp;refine cI (hw) ?_;simp -dsimp;exact hK
  refine c3 rfl (fun hc1=>?_) (fun hc1=>?_)
  ·simp at hc1
  ·refine c5 ?_;refine zQ (hK2 _ _ ?_);refine gP [0,1,4] ?_;refine gW ?_ fun K hK=>by simp -dsimp;refine d6 (.tup [.agg a4K,Bo false]) (fun hm=>by rw[hcc];rfl) ?_;simp -dsimp;exact hK
   refine a7 fun K3 hK3=>?_;refine gW ?_;refine c3 rfl (fun hc2=>?_) (fun hc2=>?_)
   ·refine gW ?_;refine gU (T':=[(0, .ptr 0 0 0),(4, .iptr a4K),(5,I 4)]) (H':=lkK++lkD s fo si up nx nd cs ps) [some 0,some 1,some 2,some 3,some 4,some 5,some 6] ?_;exact g7 (gT [some 0,some 1,some 2,some 3,some 4,some 5,some 6])
   ·simp at hc2
theorem a1y (name:Int) (hn:inr name 1 1000000=true) {c:Car} (hc:Y6 cs name=some c):c6 Tryz.prog 50 [.ptr 0 0 0,I name] lkK (lkD s fo si up nx nd cs ps) (.tup [c.av,I 0]) lkK (lkD s fo si up nx nd cs ps):=by
 have hw:=u0 name 1 1000000;rw[hn]at hw;have hcc:A9 (n7 cs) (kOf name)=some c.av:=by rw[k8,hc];rfl
 refine oG [0] Tryz.func50 Tryz.ntmps50 Tryz.results50 ?_;intro J hJ;refine gW ?_;refine a7 fun K1 hK1=>?_;refine gW ?_ fun K hK=>by simp -dsimp;refine cI (G8 _) ?_;simp -dsimp;exact hK
 refine c3 rfl (fun hc0=>?_) (fun hc0=>?_)
 ·simp at hc0
 ·refine c5 ?_;refine zQ (hK1 _ _ ?_);refine gP [0,1,4] ?_;refine a7 fun K2 hK2=>?_;refine gW ?_ fun K hK=>by simp -dsimp;refine cI (hw) ?_;simp -dsimp;exact hK
  refine c3 rfl (fun hc1=>?_) (fun hc1=>?_)
  ·simp at hc1
  ·refine c5 ?_;refine zQ (hK2 _ _ ?_);refine gP [0,1,4] ?_;refine gW ?_ fun K hK=>by simp -dsimp;refine d6 (.tup [c.av,Bo true]) (fun hm=>by rw[hcc];rfl) ?_;simp -dsimp;exact hK
   refine a7 fun K3 hK3=>?_;refine gW ?_;refine c3 rfl (fun hc2=>?_) (fun hc2=>?_)
   ·simp at hc2
   ·refine c5 ?_;refine zQ (hK3 _ _ ?_);refine gP [0,4,6] ?_;refine gW ?_;refine gU (T':=[(0, .ptr 0 0 0),(4, .iptr c.cells),(5,I 0)]) (H':=lkK++lkD s fo si up nx nd cs ps) [some 0,some 1,some 2,some 3,some 4,some 5,some 6] ?_;exact g7 (gT [some 0,some 1,some 2,some 3,some 4,some 5,some 6])
end
end Go.Tram.Lk
end
section
namespace Go.Tram.Lk
open Go.AM Go.Proofs
theorem a3M {nt:Nat} {T:Tm} {H:Hp} (q:Nat) {ag:Bool} {kts:List KT} {kvs kvs':List (List KC×AV)} (hr:g6 H q=some (.mpa ag kts kvs)) (hp:kvs.Perm kvs'):Sub nt T H T (p6 H q (some (.mpa ag kts kvs'))):=by
 rintro w0 B S0 a w ⟨⟨ρ,L,hc,hL⟩,hext⟩;have hql:=T7 hr;refine⟨⟨ρ,L,⟨hc.wf,hc.size,hc.defers,hc.tmps,fun r' row hr'=>?_,fun r' hr'=>?_⟩,fun r' hr'=>by rw[J6 _ _ _ hql];exact hL r' hr'⟩,hext⟩
 ·rw[x5 _ _ _ _ (by omega)]at hr'
  split at hr'
  ·rename_i e';subst e';simp only[Option.some.injEq]at hr';subst hr';obtain⟨l,hl,j9⟩:=hc.rows r' _ hr;exact⟨l,hl,b6y hp j9⟩
  ·exact hc.rows r' row hr'
 ·rw[x5 _ _ _ _ (by omega)]at hr'
  split at hr'
  ·cases hr'
  ·exact hc.dead r' hr'
section
variable (s:l5) (fo si up:Kvs) (nx nd:l7) (cs:List Car) (ps:List Int)
theorem b7S {name e:Int} (he:e≠0) (hf:c6 Tryz.prog 50 [.ptr 0 0 0,I name] lkK (lkD s fo si up nx nd cs ps) (.tup [.agg a4K,I e]) lkK (lkD s fo si up nx nd cs ps)):
  c6 Tryz.prog 29 [.ptr 0 0 0,I name] lkK (lkD s fo si up nx nd cs ps) (I e) lkK (lkD s fo si up nx nd cs ps):=by
 refine oG [0] Tryz.func29 Tryz.ntmps29 Tryz.results29 ?_;intro J hJ;refine gW ?_;refine gW ?_ fun K hK=>by simp -dsimp;refine cM [0] [1,2,3,4,5,6] (hf) ?_;simp -dsimp;exact hK
 refine a7 fun K1 hK1=>?_;refine gW ?_;refine c3 rfl (fun hc0=>?_) (fun hc0=>?_)
 ·refine gW ?_;exact g7 (gT [some 0,some 7,some 8,some 9,some 10,some 11,some 12])
 ·simp[he]at hc0
theorem a6Q {name e:Int} (he:e≠0) (hf:c6 Tryz.prog 50 [.ptr 0 0 0,I name] lkK (lkD s fo si up nx nd cs ps) (.tup [.agg a4K,I e]) lkK (lkD s fo si up nx nd cs ps)):
  c6 Tryz.prog 30 [.ptr 0 0 0,I name] lkK (lkD s fo si up nx nd cs ps) (I e) lkK (lkD s fo si up nx nd cs ps):=by
 refine oG [0] Tryz.func30 Tryz.ntmps30 Tryz.results30 ?_;intro J hJ;refine gW ?_;refine gW ?_ fun K hK=>by simp -dsimp;refine cM [0] [1,2,3,4,5,6] (hf) ?_;simp -dsimp;exact hK
 refine a7 fun K1 hK1=>?_;refine gW ?_;refine c3 rfl (fun hc0=>?_) (fun hc0=>?_)
 ·refine gW ?_;exact g7 (gT [some 0,some 7,some 8,some 9,some 10,some 11,some 12])
 ·simp[he]at hc0
theorem c2u {name:Int} {c:Car} (hl:c.Way.length≤1000) (hl0:1≤c.Way.length) (h:c.Front=(c.Way.length:Int)-1) (hf:c6 Tryz.prog 50 [.ptr 0 0 0,I name] lkK (lkD s fo si up nx nd cs ps) (.tup [c.av,I 0]) lkK (lkD s fo si up nx nd cs ps)):
  c6 Tryz.prog 29 [.ptr 0 0 0,I name] lkK (lkD s fo si up nx nd cs ps) (I 5) lkK (lkD s fo si up nx nd cs ps):=by
 have wl:IntKind.i64.wrap ((c.Way.length:Int)-1)=(c.Way.length:Int)-1:=c4 (by omega) (by omega);refine oG [0] Tryz.func29 Tryz.ntmps29 Tryz.results29 ?_;intro J hJ;refine gW ?_;refine gW ?_ fun K hK=>by simp -dsimp;refine cM [0] [1,2,3,4,5,6] (hf) ?_;simp -dsimp;exact hK
 refine a7 fun K1 hK1=>?_;refine gW ?_;refine c3 rfl (fun hc0=>?_) (fun hc0=>?_)
 ·simp at hc0
 ·refine c5 ?_;refine zQ (hK1 _ _ ?_);refine gP [0,1,5] ?_;refine a7 fun K2 hK2=>?_;refine gW ?_ fun K hK=>by simp -dsimp [wl];exact hK
  refine c3 rfl (fun hc1=>?_) (fun hc1=>?_)
  ·refine gW ?_;exact g7 (gT [some 0,some 7,some 8,some 9,some 10,some 11,some 12])
  ·simp[h]at hc1
theorem b8M {name:Int} {c:Car} (hl:c.Way.length≤1000) (hl0:1≤c.Way.length) (hb:0≤c.Front∧c.Front<c.Way.length) (h:c.Front≠(c.Way.length:Int)-1) (hn:c.Name=name) (hs:Srt cs) (hf:c6 Tryz.prog 50 [.ptr 0 0 0,I name] lkK (lkD s fo si up nx nd cs ps) (.tup [c.av,I 0]) lkK (lkD s fo si up nx nd cs ps)):
  c6 Tryz.prog 29 [.ptr 0 0 0,I name] lkK (lkD s fo si up nx nd cs ps) (I 0) lkK (lkD s fo si up nx nd (B4 cs {c with Front:=c.Front+1}) ps):=by
 have wl:IntKind.i64.wrap ((c.Way.length:Int)-1)=(c.Way.length:Int)-1:=c4 (by omega) (by omega);have wf:IntKind.i64.wrap (c.Front+1)=c.Front+1:=c4 (by omega) (by omega);subst hn;have p6:(O0 (n7 cs) (kOf c.Name) {c with Front:=c.Front+1}.av).Perm _:=Z6 {c with Front:=c.Front+1} hs;refine oG [0] Tryz.func29 Tryz.ntmps29 Tryz.results29 ?_;intro J hJ;refine gW ?_;refine gW ?_ fun K hK=>by simp -dsimp;refine cM [0] [1,2,3,4,5,6] (hf) ?_;simp -dsimp;exact hK
 refine a7 fun K1 hK1=>?_;refine gW ?_;refine c3 rfl (fun hc0=>?_) (fun hc0=>?_)
 ·simp at hc0
 ·refine c5 ?_;refine zQ (hK1 _ _ ?_);refine gP [0,1,5] ?_;refine a7 fun K2 hK2=>?_;refine gW ?_ fun K hK=>by simp -dsimp [wl];exact hK
  refine c3 rfl (fun hc1=>?_) (fun hc1=>?_)
  ·simp[h]at hc1
  ·refine c5 ?_;refine zQ (hK2 _ _ ?_);refine gP [0,1,5] ?_;refine gW ?_ fun K hK=>by simp -dsimp [wf];exact hK
   refine gD ?_;refine gW ?_;refine s9 (M9 (a3M 9 rfl p6) (by simp)) ?_;exact g7 (gT [some 0,some 7,some 8,some 9,some 10,some 11,some 12])
theorem b4U {name:Int} {c:Car} (h:c.Front=0) (hf:c6 Tryz.prog 50 [.ptr 0 0 0,I name] lkK (lkD s fo si up nx nd cs ps) (.tup [c.av,I 0]) lkK (lkD s fo si up nx nd cs ps)):
  c6 Tryz.prog 30 [.ptr 0 0 0,I name] lkK (lkD s fo si up nx nd cs ps) (I 5) lkK (lkD s fo si up nx nd cs ps):=by
 refine oG [0] Tryz.func30 Tryz.ntmps30 Tryz.results30 ?_;intro J hJ;refine gW ?_;refine gW ?_ fun K hK=>by simp -dsimp;refine cM [0] [1,2,3,4,5,6] (hf) ?_;simp -dsimp;exact hK
 refine a7 fun K1 hK1=>?_;refine gW ?_;refine c3 rfl (fun hc0=>?_) (fun hc0=>?_)
 ·simp at hc0
 ·refine c5 ?_;refine zQ (hK1 _ _ ?_);refine gP [0,1,5] ?_;refine a7 fun K2 hK2=>?_;refine gW ?_;refine c3 rfl (fun hc1=>?_) (fun hc1=>?_)
  ·refine gW ?_;exact g7 (gT [some 0,some 7,some 8,some 9,some 10,some 11,some 12])
  ·simp[h]at hc1
end
end Go.Tram.Lk
end
section
namespace Go.Tram.Lk
open Go.AM Go.Proofs
section
variable (s:l5) (fo si up:Kvs) (nx nd:l7) (cs:List Car) (ps:List Int)
theorem b2c {name:Int} {c:Car} (hl:c.Way.length≤1000) (hb:0≤c.Front∧c.Front<c.Way.length) (h:c.Front≠0) (hn:c.Name=name) (hs:Srt cs) (hf:c6 Tryz.prog 50 [.ptr 0 0 0,I name] lkK (lkD s fo si up nx nd cs ps) (.tup [c.av,I 0]) lkK (lkD s fo si up nx nd cs ps)):
  c6 Tryz.prog 30 [.ptr 0 0 0,I name] lkK (lkD s fo si up nx nd cs ps) (I 0) lkK (lkD s fo si up nx nd (B4 cs {c with Way:=c.Way.drop 1,Front:=c.Front-1}) ps):=by
 subst hn;have wf:IntKind.i64.wrap (c.Front-1)=c.Front-1:=c4 (by omega) (by omega);have l2:1≤c.Way.length:=by omega
 have htl:(c.Way.drop 1).length=c.Way.length-1:=by simp
 have hcl:=a3f (c.Way.drop 1) (by intro e;rw[e]at htl;simp at htl;omega) (by omega);rw[htl]at hcl;have p6:(O0 (n7 cs) (kOf c.Name) {c with Way:=c.Way.drop 1,Front:=c.Front-1}.av).Perm _:=Z6 {c with Way:=c.Way.drop 1,Front:=c.Front-1} hs;have hmt:List.drop 1 (List.map Move.cells c.Way)=List.map Move.cells (c.Way.drop 1):=by rw[List.map_drop]
 generalize c.Way.drop 1=W at*
 have htk:List.take (c.Way.length-1) (List.map Move.cells W)=List.map Move.cells W:=List.take_of_length_le (by simp;omega);refine oG [0] Tryz.func30 Tryz.ntmps30 Tryz.results30 ?_;intro J hJ;refine gW ?_;refine gW ?_ fun K hK=>by simp -dsimp;refine cM [0] [1,2,3,4,5,6] (hf) ?_;simp -dsimp;exact hK
 refine a7 fun K1 hK1=>?_;refine gW ?_;refine c3 rfl (fun hc0=>?_) (fun hc0=>?_)
 ·simp at hc0
 ·refine c5 ?_;refine zQ (hK1 _ _ ?_);refine gP [0,1,5] ?_;refine a7 fun K2 hK2=>?_;refine gW ?_;refine c3 rfl (fun hc1=>?_) (fun hc1=>?_)
  ·simp[h]at hc1
  ·refine c5 ?_;refine zQ (hK2 _ _ ?_);refine gP [0,1,5] ?_;refine gD ?_ fun K hK=>by simp -dsimp [wf,l2,hmt];refine cM [] [] (hcl) ?_;simp -dsimp [wf,l2,hmt];exact hK
   refine gU (T':=[(0, .ptr 0 0 0),(1,I c.Name),(5, .ptr 7 0 0)]) (H':=lkK++(lkD s fo si up nx nd cs ps++[some (.els 4 [{c with Way:=W,Front:=c.Front-1}.cells])])) [some 0,some 7,some 8,some 9,some 10,some 11,some 12,some 13] ?_ (hH:=by simp[htk,htl])
   ·refine gD ?_ fun K hK=>by simp -dsimp [p6];exact hK
    refine gW ?_;refine s9 (M9 (a3M 3 rfl p6) (by simp)) ?_;exact g7 (gT [some 0,some 1,some 2,some 3,some 4,some 5,some 6])
theorem b9S {name e:Int} (m:Move) (he:e=1∨e=2) (hf:c6 Tryz.prog 50 [.ptr 0 0 0,I name] lkK (lkD s fo si up nx nd cs ps) (.tup [.agg a4K,I e]) lkK (lkD s fo si up nx nd cs ps)):
  c6 Tryz.prog 21 [.ptr 0 0 0,I name,m.av] lkK (lkD s fo si up nx nd cs ps) (.tup [P5 ⟨0,0⟩,I e]) lkK (lkD s fo si up nx nd cs ps):=by
 have h1:((e==1)||(e==2))=true:=by rcases he with rfl|rfl<;>rfl
 have h2:e=1∨e=2:=he
 rcases he with rfl|rfl
 all_goals skip
 ·refine oG [0] Tryz.func21 Tryz.ntmps21 Tryz.results21 ?_;intro J hJ;refine gW ?_;refine gW ?_ fun K hK=>by simp -dsimp;refine cM [0] [1,2,3,4,5,6] (hf) ?_;simp -dsimp;exact hK
  refine a7 fun K1 hK1=>?_;refine gW ?_;refine c3 rfl (fun hc0=>?_) (fun hc0=>?_)
  ·refine gW ?_;refine gU (T':=[(0, .ptr 0 0 0),(6, .iptr [I 0,I 0]),(7,I 1)]) (H':=lkK++lkD s fo si up nx nd cs ps) [some 0,some 9,some 10,some 11,some 12,some 13,some 14] ?_;exact g7 (gT [some 0,some 1,some 2,some 3,some 4,some 5,some 6])
  ·simp at hc0
 ·refine oG [0] Tryz.func21 Tryz.ntmps21 Tryz.results21 ?_;intro J hJ;refine gW ?_;refine gW ?_ fun K hK=>by simp -dsimp;refine cM [0] [1,2,3,4,5,6] (hf) ?_;simp -dsimp;exact hK
  refine a7 fun K1 hK1=>?_;refine gW ?_;refine c3 rfl (fun hc0=>?_) (fun hc0=>?_)
  ·refine gW ?_;refine gU (T':=[(0, .ptr 0 0 0),(6, .iptr [I 0,I 0]),(7,I 2)]) (H':=lkK++lkD s fo si up nx nd cs ps) [some 0,some 9,some 10,some 11,some 12,some 13,some 14] ?_;exact g7 (gT [some 0,some 1,some 2,some 3,some 4,some 5,some 6])
  ·simp at hc0
theorem b6e {name:Int} (c:Car) (m:Move) (hN:s.Plan.Rails.length≤1000) (hr:inr m.Rail 0 ((s.Plan.Rails.length:Int)-1)=false) (hf:c6 Tryz.prog 50 [.ptr 0 0 0,I name] lkK (lkD s fo si up nx nd cs ps) (.tup [c.av,I 0]) lkK (lkD s fo si up nx nd cs ps)):
  c6 Tryz.prog 21 [.ptr 0 0 0,I name,m.av] lkK (lkD s fo si up nx nd cs ps) (.tup [P5 ⟨0,0⟩,I 2]) lkK (lkD s fo si up nx nd cs ps):=by
 have wl:IntKind.i64.wrap ((s.Plan.Rails.length:Int)-1)=(s.Plan.Rails.length:Int)-1:=c4 (by omega) (by omega);have hw:=u0 m.Rail 0 ((s.Plan.Rails.length:Int)-1);rw[hr]at hw;refine oG [0] Tryz.func21 Tryz.ntmps21 Tryz.results21 ?_;intro J hJ;refine gW ?_;refine gW ?_ fun K hK=>by simp -dsimp;refine cM [0] [1,2,3,4,5,6] (hf) ?_;simp -dsimp;exact hK
 refine a7 fun K1 hK1=>?_;refine gW ?_;refine c3 rfl (fun hc0=>?_) (fun hc0=>?_)
 ·simp at hc0
 ·refine c5 ?_;refine zQ (hK1 _ _ ?_);refine gP [0,1,5,6,8,9] ?_;refine a7 fun K2 hK2=>?_;refine gD ?_ fun K hK=>by simp -dsimp [wl];refine cI (hw) ?_;simp -dsimp [wl];exact hK
  refine c3 rfl (fun hc1=>?_) (fun hc1=>?_)
  ·refine gW ?_;refine gU (T':=[(0, .ptr 0 0 0),(6, .iptr [I 0,I 0]),(7,I 2)]) (H':=lkK++lkD s fo si up nx nd cs ps) [some 0,some 9,some 10,some 11,some 12,some 13,some 14] ?_;exact g7 (gT [some 0,some 1,some 2,some 3,some 4,some 5,some 6])
  ·simp at hc1
theorem b6D {name:Int} (c:Car) (m:Move) (hN:s.Plan.Rails.length≤1000) (hr:inr m.Rail 0 ((s.Plan.Rails.length:Int)-1)=false) (hf:c6 Tryz.prog 50 [.ptr 0 0 0,I name] lkK (lkD s fo si up nx nd cs ps) (.tup [(.agg a4K),I 4]) lkK (lkD s fo si up nx nd cs ps)):
  c6 Tryz.prog 21 [.ptr 0 0 0,I name,m.av] lkK (lkD s fo si up nx nd cs ps) (.tup [P5 ⟨0,0⟩,I 2]) lkK (lkD s fo si up nx nd cs ps):=by
 have wl:IntKind.i64.wrap ((s.Plan.Rails.length:Int)-1)=(s.Plan.Rails.length:Int)-1:=c4 (by omega) (by omega);have hw:=u0 m.Rail 0 ((s.Plan.Rails.length:Int)-1);rw[hr]at hw;refine oG [0] Tryz.func21 Tryz.ntmps21 Tryz.results21 ?_;intro J hJ;refine gW ?_;refine gW ?_ fun K hK=>by simp -dsimp;refine cM [0] [1,2,3,4,5,6] (hf) ?_;simp -dsimp;exact hK
 refine a7 fun K1 hK1=>?_;refine gW ?_;refine c3 rfl (fun hc0=>?_) (fun hc0=>?_)
 ·simp at hc0
 ·refine c5 ?_;refine zQ (hK1 _ _ ?_);refine gP [0,1,5,6,8,9] ?_;refine a7 fun K2 hK2=>?_;refine gD ?_ fun K hK=>by simp -dsimp [wl];refine cI (hw) ?_;simp -dsimp [wl];exact hK
  refine c3 rfl (fun hc1=>?_) (fun hc1=>?_)
  ·refine gW ?_;refine gU (T':=[(0, .ptr 0 0 0),(6, .iptr [I 0,I 0]),(7,I 2)]) (H':=lkK++lkD s fo si up nx nd cs ps) [some 0,some 9,some 10,some 11,some 12,some 13,some 14] ?_;exact g7 (gT [some 0,some 1,some 2,some 3,some 4,some 5,some 6])
  ·simp at hc1
theorem b9M {name:Int} (m:Move) (hN:s.Plan.Rails.length≤1000) (hr:inr m.Rail 0 ((s.Plan.Rails.length:Int)-1)=true) (hf:c6 Tryz.prog 50 [.ptr 0 0 0,I name] lkK (lkD s fo si up nx nd cs ps) (.tup [.agg a4K,I 4]) lkK (lkD s fo si up nx nd cs ps)):
  c6 Tryz.prog 21 [.ptr 0 0 0,I name,m.av] lkK (lkD s fo si up nx nd cs ps) (.tup [P5 ⟨0,0⟩,I 4]) lkK (lkD s fo si up nx nd cs ps):=by
 have wl:IntKind.i64.wrap ((s.Plan.Rails.length:Int)-1)=(s.Plan.Rails.length:Int)-1:=c4 (by omega) (by omega);have hw:=u0 m.Rail 0 ((s.Plan.Rails.length:Int)-1);rw[hr]at hw;refine oG [0] Tryz.func21 Tryz.ntmps21 Tryz.results21 ?_;intro J hJ;refine gW ?_;refine gW ?_ fun K hK=>by simp -dsimp;refine cM [0] [1,2,3,4,5,6] (hf) ?_;simp -dsimp;exact hK
 refine a7 fun K1 hK1=>?_;refine gW ?_;refine c3 rfl (fun hc0=>?_) (fun hc0=>?_)
 ·simp at hc0
 ·refine c5 ?_;refine zQ (hK1 _ _ ?_);refine gP [0,1,5,6,8,9] ?_;refine a7 fun K2 hK2=>?_;refine gD ?_ fun K hK=>by simp -dsimp [wl];refine cI (hw) ?_;simp -dsimp [wl];exact hK
  refine c3 rfl (fun hc1=>?_) (fun hc1=>?_)
  ·simp at hc1
  ·refine c5 ?_;refine zQ (hK2 _ _ ?_);refine gP [0,1,5,6,8,9] ?_;refine a7 fun K3 hK3=>?_;refine gW ?_;refine c3 rfl (fun hc2=>?_) (fun hc2=>?_)
   ·refine gW ?_;refine gU (T':=[(0, .ptr 0 0 0),(6, .iptr [I 0,I 0]),(7,I 4)]) (H':=lkK++lkD s fo si up nx nd cs ps) [some 0,some 9,some 10,some 11,some 12,some 13,some 14] ?_;exact g7 (gT [some 0,some 1,some 2,some 3,some 4,some 5,some 6])
   ·simp at hc2
theorem b6v {name:Int} {c:Car} {m:Move} {nx2 nd2:l7} (hn:c.Name=name) (hs:Srt cs) (hN:s.Plan.Rails.length≤1000) (hr:inr m.Rail 0 ((s.Plan.Rails.length:Int)-1)=true) (hf:c6 Tryz.prog 50 [.ptr 0 0 0,I name] lkK (lkD s fo si up nx nd cs ps) (.tup [c.av,I 0]) lkK (lkD s fo si up nx nd cs ps))
  (hg:∀X:Value,c6 Tryz.prog 51 [.ptr 0 0 0,c.av,m.av] (stK X s fo si up ps.length) (stD s cs ps nx nd) (.tup [(o9 c m).av,P5 ⟨0,0⟩]) (stK X s fo si up ps.length) (stD s cs (a2U s c m ps) nx2 nd2++grR (o9 c m).cells ⟨0,0⟩)):
  c6 Tryz.prog 21 [.ptr 0 0 0,I name,m.av] lkK (lkD s fo si up nx nd cs ps) (.tup [P5 ⟨0,0⟩,I 0]) lkK (lkD s fo si up nx2 nd2 (B4 cs (o9 c m)) (a2U s c m ps)):=by
 subst hn;have wl:IntKind.i64.wrap ((s.Plan.Rails.length:Int)-1)=(s.Plan.Rails.length:Int)-1:=c4 (by omega) (by omega);have hw:=u0 m.Rail 0 ((s.Plan.Rails.length:Int)-1);rw[hr]at hw;have hpl:(a2U s c m ps).length=ps.length:=by unfold a2U;split<;>simp
 have p6:(O0 (n7 cs) (kOf c.Name) (o9 c m).av).Perm _:=Z6 (o9 c m) hs;generalize a2U s c m ps=ps2 at*
 generalize B4 cs (o9 c m)=cs2 at*
 refine oG [0] Tryz.func21 Tryz.ntmps21 Tryz.results21 ?_;intro J hJ;refine gW ?_;refine gW ?_ fun K hK=>by simp -dsimp;refine cM [0] [1,2,3,4,5,6] (hf) ?_;simp -dsimp;exact hK
 refine a7 fun K1 hK1=>?_;refine gW ?_;refine c3 rfl (fun hc0=>?_) (fun hc0=>?_)
 ·simp at hc0
 ·refine c5 ?_;refine zQ (hK1 _ _ ?_);refine gP [0,1,5,6,8,9] ?_;refine a7 fun K2 hK2=>?_;refine gD ?_ fun K hK=>by simp -dsimp [wl];refine cI (hw) ?_;simp -dsimp [wl];exact hK
  refine c3 rfl (fun hc1=>?_) (fun hc1=>?_)
  ·simp at hc1
  ·refine c5 ?_;refine zQ (hK2 _ _ ?_);refine gP [0,1,5,6,8,9] ?_;refine a7 fun K3 hK3=>?_;refine gW ?_;refine c3 rfl (fun hc2=>?_) (fun hc2=>?_)
   ·simp at hc2
   ·refine c5 ?_;refine zQ (hK3 _ _ ?_);refine gP [0,1,5,6,8] ?_;refine a2j 9 0 rfl rfl fun X=>?_;simp only[p6,List.set_cons_zero]
    ·refine gD ?_ fun K hK=>by simp -dsimp;refine cM [9,10] [11,12,13,14] (hg X) ?_;simp -dsimp;exact hK
     refine a7 fun K4 hK4=>?_;refine gW ?_;refine c8 ?_;refine gW ?_;refine c3 rfl (fun hc3=>?_) (fun hc3=>?_)
     ·refine gD ?_ fun K hK=>by simp -dsimp [p6];exact hK
      refine gW ?_;refine s9 (M9 (a3M 16 rfl p6) (by simp)) ?_;refine s9 (M9 (E8 9 0 rfl rfl) (by simp)) ?_;refine gU (T':=[(0, .ptr 0 0 0),(6, .iptr [I 0,I 0]),(7,I 0)]) (H':=lkK++lkD s fo si up nx2 nd2 cs2 ps2) [some 0,some 9,some 10,some 16,some 17,some 18,some 19] ?_ (hH:=by simp[hpl]);exact g7 (gT [some 0,some 1,some 2,some 3,some 4,some 5,some 6])
     ·simp at hc3
theorem b9z {name:Int} {c:Car} {m:Move} {nx2 nd2:l7} {r:b2I} (hk:r.Kind=1) (hN:s.Plan.Rails.length≤1000) (hr:inr m.Rail 0 ((s.Plan.Rails.length:Int)-1)=true) (hf:c6 Tryz.prog 50 [.ptr 0 0 0,I name] lkK (lkD s fo si up nx nd cs ps) (.tup [c.av,I 0]) lkK (lkD s fo si up nx nd cs ps))
  (hg:∀X:Value,c6 Tryz.prog 51 [.ptr 0 0 0,c.av,m.av] (stK X s fo si up ps.length) (stD s cs ps nx nd) (.tup [.agg a4K,P5 r]) (stK X s fo si up ps.length) (stD s cs ps nx2 nd2++grR a4K r)):
  c6 Tryz.prog 21 [.ptr 0 0 0,I name,m.av] lkK (lkD s fo si up nx nd cs ps) (.tup [P5 r,I 7]) lkK (lkD s fo si up nx2 nd2 cs ps):=by
 obtain⟨k,v⟩:=r;simp only at hk;have wl:IntKind.i64.wrap ((s.Plan.Rails.length:Int)-1)=(s.Plan.Rails.length:Int)-1:=c4 (by omega) (by omega);have hw:=u0 m.Rail 0 ((s.Plan.Rails.length:Int)-1);rw[hr]at hw;refine oG [0] Tryz.func21 Tryz.ntmps21 Tryz.results21 ?_;intro J hJ;refine gW ?_;refine gW ?_ fun K hK=>by simp -dsimp;refine cM [0] [1,2,3,4,5,6] (hf) ?_;simp -dsimp;exact hK
 refine a7 fun K1 hK1=>?_;refine gW ?_;refine c3 rfl (fun hc0=>?_) (fun hc0=>?_)
 ·simp at hc0
 ·refine c5 ?_;refine zQ (hK1 _ _ ?_);refine gP [0,1,5,6,8,9] ?_;refine a7 fun K2 hK2=>?_;refine gD ?_ fun K hK=>by simp -dsimp [wl];refine cI (hw) ?_;simp -dsimp [wl];exact hK
  refine c3 rfl (fun hc1=>?_) (fun hc1=>?_)
  ·simp at hc1
  ·refine c5 ?_;refine zQ (hK2 _ _ ?_);refine gP [0,1,5,6,8,9] ?_;refine a7 fun K3 hK3=>?_;refine gW ?_;refine c3 rfl (fun hc2=>?_) (fun hc2=>?_)
   ·simp at hc2
   ·refine c5 ?_;refine zQ (hK3 _ _ ?_);refine gP [0,1,5,6,8] ?_;refine a2j 9 0 rfl rfl fun X=>?_;simp only[p6,List.set_cons_zero]
    ·refine gD ?_ fun K hK=>by simp -dsimp;refine cM [9,10] [11,12,13,14] (hg X) ?_;simp -dsimp;exact hK
     refine a7 fun K4 hK4=>?_;refine gW ?_;refine c8 ?_;refine gW ?_;refine c3 rfl (fun hc3=>?_) (fun hc3=>?_)
     ·simp[hk]at hc3
     ·refine gW ?_;refine c3 rfl (fun hc4=>?_) (fun hc4=>?_)
      ·refine gW ?_;refine s9 (M9 (E8 9 0 rfl rfl) (by simp)) ?_;refine gU (T':=[(0, .ptr 0 0 0),(6, .iptr [I k,I v]),(7,I 7)]) (H':=lkK++lkD s fo si up nx2 nd2 cs ps) [some 0,some 9,some 10,some 16,some 17,some 18,some 19] ?_;exact g7 (gT [some 0,some 1,some 2,some 3,some 4,some 5,some 6])
      ·simp[hk]at hc4
theorem c0d {name:Int} {c:Car} {m:Move} {nx2 nd2:l7} {r:b2I} (hk:r.Kind≠0∧r.Kind≠1) (hN:s.Plan.Rails.length≤1000) (hr:inr m.Rail 0 ((s.Plan.Rails.length:Int)-1)=true) (hf:c6 Tryz.prog 50 [.ptr 0 0 0,I name] lkK (lkD s fo si up nx nd cs ps) (.tup [c.av,I 0]) lkK (lkD s fo si up nx nd cs ps))
  (hg:∀X:Value,c6 Tryz.prog 51 [.ptr 0 0 0,c.av,m.av] (stK X s fo si up ps.length) (stD s cs ps nx nd) (.tup [.agg a4K,P5 r]) (stK X s fo si up ps.length) (stD s cs ps nx2 nd2++grR a4K r)):
  c6 Tryz.prog 21 [.ptr 0 0 0,I name,m.av] lkK (lkD s fo si up nx nd cs ps) (.tup [P5 r,I 6]) lkK (lkD s fo si up nx2 nd2 cs ps):=by
 obtain⟨k,v⟩:=r;simp only at hk;have wl:IntKind.i64.wrap ((s.Plan.Rails.length:Int)-1)=(s.Plan.Rails.length:Int)-1:=c4 (by omega) (by omega);have hw:=u0 m.Rail 0 ((s.Plan.Rails.length:Int)-1);rw[hr]at hw;refine oG [0] Tryz.func21 Tryz.ntmps21 Tryz.results21 ?_;intro J hJ;refine gW ?_;refine gW ?_ fun K hK=>by simp -dsimp;refine cM [0] [1,2,3,4,5,6] (hf) ?_;simp -dsimp;exact hK
 refine a7 fun K1 hK1=>?_;refine gW ?_;refine c3 rfl (fun hc0=>?_) (fun hc0=>?_)
 ·simp at hc0
 ·refine c5 ?_;refine zQ (hK1 _ _ ?_);refine gP [0,1,5,6,8,9] ?_;refine a7 fun K2 hK2=>?_;refine gD ?_ fun K hK=>by simp -dsimp [wl];refine cI (hw) ?_;simp -dsimp [wl];exact hK
  refine c3 rfl (fun hc1=>?_) (fun hc1=>?_)
  ·simp at hc1
  ·refine c5 ?_;refine zQ (hK2 _ _ ?_);refine gP [0,1,5,6,8,9] ?_;refine a7 fun K3 hK3=>?_;refine gW ?_;refine c3 rfl (fun hc2=>?_) (fun hc2=>?_)
   ·simp at hc2
   ·refine c5 ?_;refine zQ (hK3 _ _ ?_);refine gP [0,1,5,6,8] ?_;refine a2j 9 0 rfl rfl fun X=>?_;simp only[p6,List.set_cons_zero]
    ·refine gD ?_ fun K hK=>by simp -dsimp;refine cM [9,10] [11,12,13,14] (hg X) ?_;simp -dsimp;exact hK
     refine a7 fun K4 hK4=>?_;refine gW ?_;refine c8 ?_;refine gW ?_;refine c3 rfl (fun hc3=>?_) (fun hc3=>?_)
     ·simp[hk]at hc3
     ·refine gW ?_;refine c3 rfl (fun hc4=>?_) (fun hc4=>?_)
      ·simp[hk]at hc4
      ·refine c5 ?_;refine zQ (hK4 _ _ ?_);refine gP [0,6,10] ?_;refine gW ?_;refine s9 (M9 (E8 9 0 rfl rfl) (by simp)) ?_;refine gU (T':=[(0, .ptr 0 0 0),(6, .iptr [I k,I v]),(7,I 6)]) (H':=lkK++lkD s fo si up nx2 nd2 cs ps) [some 0,some 9,some 10,some 16,some 17,some 18,some 19] ?_;exact g7 (gT [some 0,some 1,some 2,some 3,some 4,some 5,some 6])
end
end Go.Tram.Lk
end
section
namespace Go.Tram.Lk
open Go.AM Go.Proofs
theorem a4G (p:Plan) (l:List Move) (hv:d7 p=true) (hlen:l.length≤1000) (h:wayB p l=false):a6 Tryz.prog 126 [p.av,a6b l] (.tup [I 0,I 2]):=by
 have hop:=a0c p hv;have hh:=b9O p l hv (by omega);rw[h]at hh;generalize net p=sh at hop hh;refine oB Tryz.func126 Tryz.ntmps126 Tryz.results126 ?_;refine aW ?_;refine aW ?_ fun K hK=>by simp -dsimp;refine cI (hop) ?_;simp -dsimp;exact hK
 refine a5 fun K1 hK1=>?_;refine aW ?_ fun K hK=>by simp -dsimp;refine cY (fun hm=>hh) ?_;simp -dsimp;exact hK
 refine a8 rfl (fun hc0=>?_) (fun hc0=>?_)
 ·refine aW ?_;exact a9 (by simp)
 ·simp at hc0
def a9y (l:List Move) (n:Nat):Kvs:=(l.take n).foldl (fun kv m=>I9 kv (kI m.Rail) tB) []
theorem a5j {l:List Move} {n:Nat} {x:Move} (h:l[n]?=some x):a9y l (n+1)=I9 (a9y l n) (kI x.Rail) tB:=by
 unfold a9y;rw[List.take_add_one,h];simp
theorem a1V {l:List Move} {n:Nat} {x:Move} (h:l[n]?=some x):E4 (l.take (n+1))=E4 (l.take n)++[x.Rail]:=by
 unfold E4;rw[List.take_add_one,h];simp
theorem b0C (l:List Move) (r:Int):∀n≤l.length,o7 (a9y l n) (kI r)=if r∈E4 (l.take n)then some tB else none
 |0,_=>by simp[a9y,E4,o7]
 | n+1,h=>by
  obtain⟨x,hx⟩:=gx (l:=l) (i:=n) h;rw[a5j hx,a1V hx,D3,b0C l r n (by omega)]
  by_cases e:r=x.Rail
  ·rw[if_pos (by rw[e]),if_pos (by rw[e];simp)]
  ·rw[if_neg (fun h=>e (by simpa [kI]using h))]
   by_cases e2:r∈E4 (l.take n)
   ·rw[if_pos e2,if_pos (List.mem_append_left _ e2)]
   ·rw[if_neg e2,if_neg (by simp[e2,e])]
theorem b6d {l:List Move} {n:Nat} {x:Move} (hx:l[n]?=some x) (h:(E4 (l.take n)).Nodup) (hn:x.Rail∉E4 (l.take n)):(E4 (l.take (n+1))).Nodup:=by
 rw[a1V hx,List.nodup_append];refine⟨h,by simp,fun a ha b hb e=>hn ?_⟩;simp only[List.mem_singleton]at hb;rw[←hb,←e];exact ha
theorem b9E {l:List Move} {n:Nat} {x:Move} (hx:l[n]?=some x) (hn:x.Rail∈E4 (l.take n)):¬(E4 l).Nodup:=by
 intro h;have h1:(E4 (l.take (n+1))).Nodup:=by
  have e:E4 (l.take (n+1))=(E4 l).take (n+1):=by unfold E4;rw[List.map_take]
  rw[e];exact h.sublist (List.take_sublist _ _)
 rw[a1V hx,List.nodup_append]at h1;exact h1.2.2 _ hn _ (by simp) rfl
theorem c2C (s:l5) (fo si up:Kvs) (x y:AV) (l:List Move) (hv:d7 s.Plan=true) (hl:l.length≤1000):a6 Tryz.prog 84 [.iptr (e8 s fo si up x y),a6b l] (Bo (b0J s l)):=by
 have hw:=u0 l.length 1 20;obtain⟨q,hwl⟩:∃q,a6 Tryz.prog 126 [s.Plan.av,a6b l] (.tup [I q,I (if wayB s.Plan l then 0 else 2)]):=by
  cases h:wayB s.Plan l with
  |true=>exact⟨_,by simpa using a4O s.Plan l hv h⟩
  |false=>exact⟨_,by simpa using a4G s.Plan l hv hl h⟩
 refine oB Tryz.func84 Tryz.ntmps84 Tryz.results84 ?_;refine aW ?_ fun K hK=>by simp -dsimp [e8];exact hK
 refine a5 fun K1 hK1=>?_;refine aW ?_ fun K hK=>by simp -dsimp [e8];refine cI (hw) ?_;simp -dsimp [e8];exact hK
 refine a8 rfl (fun hc0=>?_) (fun hc0=>?_)
 ·have hin:inr (l.length:Int) 1 20=false:=by simpa using hc0
  have hf:b0J s l=false:=by unfold b0J inr at*;by_cases h1:1≤l.length<;>by_cases h2:l.length≤20<;>simp_all<;>omega
  refine aW ?_ fun K hK=>by simp -dsimp [e8];exact hK
  exact a9 (by simp[hf])
 ·have hin:inr (l.length:Int) 1 20=true:=by simpa using hc0
  have hin2:1≤l.length∧l.length≤20:=by unfold inr at hin;simp at hin;omega
  refine b8 ?_;refine zQ (hK1 _ _ ?_);refine aP [0,1] ?_;refine aW ?_ fun K hK=>by simp -dsimp [e8];exact hK
  refine a5 fun K2 hK2=>?_;refine aW ?_ fun K hK=>by simp -dsimp [e8];exact hK
  refine b9 ?_;refine aP [0,1,5,15,16,17] ?_;refine c7 [0,1,5,15,16] (α:=Nat) (fun k=>[(17,I k)]) (fun k=>[some (.map false [.i .i64] (a9y l k))]) (fun k=>k≤l.length∧(E4 (l.take k)).Nodup) (fun k=>l.length-k) 0 ?_ ?_ ?_
  ·exact⟨Nat.zero_le _,by simp[E4]⟩
  ·exact d9 [some 0] rfl (by simp) (by simp[a9y])
  rintro k ⟨k1,k2⟩;refine zN ?_;refine aW ?_ fun K hK=>by simp -dsimp [e8];exact hK
  refine a5 fun K3 hK3=>?_;refine a8 rfl (fun hc1=>?_) (fun hc1=>?_)
  ·have hk:k<l.length:=by first|omega|(simp at hc1;omega)
   obtain⟨m,hm⟩:=gx (l:=l) (i:=k) hk;have wk:=zW k (by omega);have hg:=b0C l m.Rail k k1;have hsu:=a5j hm;refine b8 ?_;refine zQ (hK3 _ _ ?_);refine aP [0,1,5,15,16,17] ?_;refine a5 fun K4 hK4=>?_;refine b9 ?_;refine aW ?_ fun K hK=>by simp -dsimp [e8,hm];exact hK
   refine a5 fun K5 hK5=>?_;refine aW ?_ fun K hK=>by simp -dsimp [e8];refine d6 (Bo (decide (m.Rail∈E4 (l.take k)))) (fun hm=>by rw[hg];by_cases hq:m.Rail∈E4 (l.take k)<;>simp[hq]) ?_;simp -dsimp [e8];exact hK
   refine a8 rfl (fun hc2=>?_) (fun hc2=>?_)
   ·have hq:m.Rail∈E4 (l.take k):=by simpa using hc2
    have hf:b0J s l=false:=by simp[b0J,b9E hm hq]
    refine aW ?_ fun K hK=>by simp -dsimp [e8];exact hK
    exact a9 (by simp[hf])
   ·have hq:m.Rail∉E4 (l.take k):=by simpa using hc2
    refine b8 ?_;refine zQ (hK5 _ _ ?_);refine aP [0,1,5,7,15,16,17] ?_;refine aV ?_ fun K hK=>by simp -dsimp [e8];exact hK
    refine zQ (hK4 _ _ ?_);refine aP [0,1,5,15,16,17] ?_;refine aV ?_ fun K hK=>by simp -dsimp [e8,wk];exact hK
    refine zQ ?_;exact⟨k+1,⟨by omega,b6d hm k2 hq⟩,by omega,d9 [some 0] rfl (by simp) (by simp[hsu])⟩
  ·have hk:k=l.length:=by first|omega|(simp at hc1;omega)
   subst hk;rw[List.take_length]at k2;have hf:b0J s l=wayB s.Plan l:=by simp[b0J,k2,hin2]
   refine d4 ?_;refine zQ (hK2 _ _ ?_);refine aP [0,1] ?_;refine aW ?_ fun K hK=>by simp -dsimp [e8];refine cI (hwl) ?_;simp -dsimp [e8];exact hK
   refine aW ?_ fun K hK=>by simp -dsimp [e8];exact hK
   exact a9 (by rw[hf];cases wayB s.Plan l<;>simp)
end Go.Tram.Lk
end
section
namespace Go.Tram.Lk
open Go.AM Go.Proofs
theorem b4i (s:l5) (fo si up:Kvs) (x y:AV) (c:Car) (hv:d7 s.Plan=true) (hp:s.Profiles.length≤100000) (hl:c.Way.length≤1000):a6 Tryz.prog 43 [.iptr (e8 s fo si up x y),c.av] (Bo (a8p s c)):=by
 have wp:IntKind.i64.wrap ((s.Profiles.length:Int)-1)=(s.Profiles.length:Int)-1:=c4 (by omega) (by omega);have wl:IntKind.i64.wrap ((c.Way.length:Int)-1)=(c.Way.length:Int)-1:=c4 (by omega) (by omega);have h1:=u0 c.Name 1 1000000;have h2:=u0 c.Profile 0 ((s.Profiles.length:Int)-1);have h3:=c2C s fo si up x y c.Way hv hl;have h4:=u0 c.Front 0 ((c.Way.length:Int)-1);unfold e8 at h3;have hc:a8p s c=(inr c.Name 1 1000000&&(inr c.Profile 0 (s.Profiles.length-1)&&(b0J s c.Way&&inr c.Front 0 (c.Way.length-1)))):=rfl;generalize inr c.Name 1 1000000=b1 at*
 generalize inr c.Profile 0 ((s.Profiles.length:Int)-1)=b2 at*
 generalize b0J s c.Way=b3 at*
 generalize inr c.Front 0 ((c.Way.length:Int)-1)=b4 at*
 rw[hc];refine oB Tryz.func43 Tryz.ntmps43 Tryz.results43 ?_;refine aW ?_ fun K hK=>by simp -dsimp [e8];exact hK
 refine aD ?_ fun K hK=>by simp -dsimp [e8,wp,wl];refine cI (h1) ?_;simp -dsimp [e8,wp,wl];refine cY (fun hm=>h2) ?_;simp -dsimp [e8,wp,wl];refine cY (fun hm=>h3) ?_;simp -dsimp [e8,wp,wl];refine cY (fun hm=>h4) ?_;simp -dsimp [e8,wp,wl];exact hK
 exact a9 (by cases b1<;>cases b2<;>cases b3<;>cases b4<;>simp)
theorem J5 {α:Type} {l:List α} {p:α→Bool} {k:Nat} {x:α} (hx:l[k]?=some x) (h:(l.take k).all p=true) (hp:p x=true):(l.take (k+1)).all p=true:=by
 rw[List.take_add_one,hx,List.all_append,h];simp[hp]
theorem a6J {α:Type} {l:List α} {p:α→Bool} {k:Nat} {x:α} (hx:l[k]?=some x) (hp:p x=false):l.all p=false:=by
 rw[List.all_eq_false];exact⟨x,List.mem_of_getElem? hx,by simp[hp]⟩
end Go.Tram.Lk
end
section
namespace Go.Tram.Lk
open Go.AM Go.Proofs
theorem b0U (t:List Int) (hne:t≠[]) (hn:t.length≤1000):c6 Tryz.prog 41 [.lst 1 (t.map j4)] [] [] (.row 0 0 t.length) [] [some (.els 1 (t.map j4))]:=by
 have f1:P4 t.length 9:=l9 (by omega) (by omega);refine oG [] Tryz.func41 Tryz.ntmps41 Tryz.results41 ?_;intro J hJ;refine gW ?_;refine a7 fun K1 hK1=>?_;refine gW ?_ fun K hK=>by simp -dsimp [hne];exact hK
 refine c3 rfl (fun hc0=>?_) (fun hc0=>?_)
 ·simp at hc0
 ·refine c5 ?_;refine zQ (hK1 _ _ ?_);refine gP [0] ?_;refine gW ?_ fun K hK=>by simp -dsimp [hne,f1];exact hK
  exact g7 (gT [some 0])
section
variable (s:l5) (fo si up:Kvs) (nx nd:l7) (cs:List Car) (ps:List Int)
theorem b0V (hne:ps≠[]) (hn:ps.length≤1000):c6 Tryz.prog 16 [.ptr 0 0 0] lkK (lkD s fo si up nx nd cs ps) (.row 7 0 ps.length) lkK (lkD s fo si up nx nd cs ps++[some (.els 1 (ps.map j4))]):=by
 have htp:List.take ps.length (ps.map j4)=ps.map j4:=List.take_of_length_le (by simp);have hcl:=b0U ps hne hn;refine oG [0] Tryz.func16 Tryz.ntmps16 Tryz.results16 ?_;intro J hJ;refine gW ?_;refine a7 fun K1 hK1=>?_;refine gW ?_ fun K hK=>by simp -dsimp;refine cI (G8 _) ?_;simp -dsimp;exact hK
 refine c3 rfl (fun hc0=>?_) (fun hc0=>?_)
 ·simp at hc0
 ·refine c5 ?_;refine zQ (hK1 _ _ ?_);refine gP [0] ?_;refine gW ?_ fun K hK=>by simp -dsimp [htp];refine a2h [] [] [none,none,none,none,none,none,none,some 0] (hcl) (by decide) rfl (by simp[htp]) (by simp) rfl (by simp) (by simp) (by simp) ?_;simp -dsimp [htp];exact hK
  exact g7 (gT [some 0,some 1,some 2,some 3,some 4,some 5,some 6,some 7])
end
end Go.Tram.Lk
end
