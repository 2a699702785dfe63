import Derived.Test.YtlgdbddegopphaaGreatO1
import Derived.ChangeKeysEq
import Derived.Laws.Externs
import Derived.Laws.MakeOwn
import Derived.Laws.StructEq
import Derived.Lib.AppendZeros
import Derived.MapKept
set_option maxRecDepth 100000
set_option maxHeartbeats 8000000
set_option linter.unusedVariables false
set_option linter.unusedSimpArgs false
section
namespace Go.AM
def J5 (es:List (List AV)):Bool:=es.all fun e=>e.all (AV.noRef 2)
def frz (H:Nat->Option n9):Nat->AV->AV
 |n+1, .row r i k=>match H r with
  |some (.els sz es)=>if i+k<=es.length/\sz≠0 then(if J5 es=true then .lst sz ((es.drop i).take k)else .lst sz (((es.drop i).take k).map fun e=>e.map (frz H n)))else .any
  |_=> .any
 | n+1, .ptr r i o=>match H r with
  |some (.els sz es)=>match es[i]? with
   |some e=>if o<=e.length then(if e.all (AV.noRef 2)=true then .iptr (e.drop o)else .iptr ((e.drop o).map (frz H n)))else .any
   |none=> .any
  |_=> .any
 | n+1, .fptr _ r i o=>match H r with
  |some (.els sz es)=>match es[i]? with
   |some e=>if o<=e.length then(if e.all (AV.noRef 2)=true then .iptr (e.drop o)else .iptr ((e.drop o).map (frz H n)))else .any
   |none=> .any
  |_=> .any
 |n+1, .mp r=>match H r with
  |some (.map ag kts kvs)=> .mpc ag kts kvs
  |_=> .any
 |n+1, .vptr cs=> .iptr (cs.map (frz H n))
 |n+1, .bnd f cs=> .bnd f (cs.map (frz H n))
 |n+1, .agg cs=> .agg (cs.map (frz H n))
 |n+1, .tup cs=> .tup (cs.map (frz H n))
 |n+1, .clo f cs=> .clo f (cs.map (frz H n))
 |n+1, .ifc t x=> .ifc t (frz H n x)
 |_, .v x=> .v x
 |_, .lst sz els=> .lst sz els
 |_, .full sz els=> .full sz els
 |_, .iptr cs=> .iptr cs
 |_, .mpc ag kts kvs=> .mpc ag kts kvs
 |_,_=> .any
def B8 (H:Nat->Option n9):Nat->AV->List Nat
 |n+1, .row r _ _=>r::(match H r with
  |some (.els _ es)=>if J5 es=true then []else es.flatten.flatMap (B8 H n)
  |_=>[])
 | n+1, .ptr r i _=>r::(match H r with
  |some (.els _ es)=>(match es[i]? with
   |some e=>if e.all (AV.noRef 2)=true then []else e.flatMap (B8 H n)
   |none=>[])
  |_=>[])
 | n+1, .fptr _ r i _=>r::(match H r with
  |some (.els _ es)=>(match es[i]? with
   |some e=>if e.all (AV.noRef 2)=true then []else e.flatMap (B8 H n)
   |none=>[])
  |_=>[])
 |n+1, .mp r=>[r]
 |n+1, .vptr cs=>cs.flatMap (B8 H n)
 |n+1, .bnd _ cs=>cs.flatMap (B8 H n)
 |n+1, .agg cs=>cs.flatMap (B8 H n)
 |n+1, .tup cs=>cs.flatMap (B8 H n)
 |n+1, .clo _ cs=>cs.flatMap (B8 H n)
 |n+1, .ifc _ x=>B8 H n x
 |_,_=>[]
theorem a4b {w:World} {S0 S':Nat->Prop} {B:Nat->Prop} {ρ:Nat->Option Loc} {L:Nat->Prop} {H:Nat->Option n9} (hw:WF B S0 w ρ L) (hS:∀b,¬Sx S0 ρ b->¬S' b) (hX:∀r l b row,H r=some row->ρ r=some l->l.b=some b->¬S' b):
  ∀(n:Nat) (x:AV) (y:Value),(∀r∈B8 H n x,∀row,H r=some row->∃l,ρ r=some l/\i7 w (Sx S0 ρ) ρ L l row)->e8 w (Sx S0 ρ) ρ L x y->r8 w S' (frz H n x) y:=by
 have hP:∀{x y},r8 w (Sx S0 ρ) x y->r8 w S' x y:=fun h=>h.ext (qo _) (fun b _ hn=>⟨rfl,hS b hn⟩);intro n
 induction n with
 |zero=>
  intro x y _ h
  cases x with
  |v x=>cases h with|pure _ _ h=>exact hP h
  |lst sz els=>cases h with|pure _ _ h=>exact hP h
  |full sz els=>cases h with|pure _ _ h=>exact hP h
  |iptr cs=>cases h with|pure _ _ h=>exact hP h
  |mpc ag kts kvs=>cases h with|pure _ _ h=>exact hP h
  |_=>exact .any _
 | succ n ih=>
  suffices key:∀(x:AV) (y:Value),(∀c r i o,x≠AV.fptr c r i o)->(∀r∈B8 H (n+1) x,∀row,H r=some row->∃l,ρ r=some l/\i7 w (Sx S0 ρ) ρ L l row)->e8 w (Sx S0 ρ) ρ L x y->r8 w S' (frz H (n+1) x) y by
   intro x y hrows h
   cases x with
   |fptr c r i o=>
    cases h with
    |pure _ _ h=>cases h
    |fptr _ _ _ _ h=>exact key (.ptr r i o) _ (by intro _ _ _ _ e;cases e) hrows h
   |_=>exact key _ y (by intro _ _ _ _ e;cases e) hrows h
  intro x y hne hrows h
  cases x with
  |fptr c r i o=>exact absurd rfl (hne c r i o)
  |v x=>cases h with|pure _ _ h=>exact hP h
  |lst sz els=>cases h with|pure _ _ h=>exact hP h
  |full sz els=>cases h with|pure _ _ h=>exact hP h
  |iptr cs=>cases h with|pure _ _ h=>exact hP h
  |mpc ag kts kvs=>cases h with|pure _ _ h=>exact hP h
  |any=>exact .any _
  | mp r=>
   simp only[frz]
   split
   ·rename_i ag kts kvs hH;obtain⟨l,hl,b,hb,hm⟩:=hrows r (by simp[B8]) _ hH
    cases h with
    |pure _ _ h=>cases h
    |mp _ _ h1 h2 h3=>
     obtain⟨b',hb',rfl⟩:=h3 l hl;rw[hb]at hb';simp only[qb]at hb';subst hb';exact .mpc _ _ _ b (hX r l b _ hH hl hb) (hw.own r l b hl hb).1 hm
   ·exact .any _
  |may l x=>exact .any _
  |vptr cs=>
   obtain⟨b,off,vs,rfl,hSb,hb,hl,hv,hc⟩:=y9 h;refine .iptr _ b off vs (hS b hSb) hb (by simpa using hl) hv (fun i c u h1 h2=>?_);simp only[qe,qf]at h1;obtain⟨c',h1,rfl⟩:=h1;exact ih c' u (fun r hr=>hrows r (by simp only[B8,List.mem_flatMap];exact⟨c',qd h1,hr⟩)) (hc i c' u h1 h2)
  |bnd f cs=>
   obtain⟨vs,rfl,hl,hc⟩:=P6 h;refine .bnd f _ vs (by simpa using hl) (fun i c u h1 h2=>?_);simp only[qe,qf]at h1;obtain⟨c',h1,rfl⟩:=h1;exact ih c' u (fun r hr=>hrows r (by simp only[B8,List.mem_flatMap];exact⟨c',qd h1,hr⟩)) (hc i c' u h1 h2)
  | row r i k=>
   simp only[frz]
   split
   ·rename_i sz es hH
    split
    ·rename_i hc;obtain⟨hin,hsz⟩:=hc;obtain⟨f,hf,hfel⟩:∃f:AV->AV,(if J5 es=true then AV.lst sz ((es.drop i).take k)else AV.lst sz (((es.drop i).take k).map fun e=>e.map (frz H n)))=AV.lst sz (((es.drop i).take k).map fun e=>e.map f)/\∀c u,(∃el∈es,c∈el)->e8 w (Sx S0 ρ) ρ L c u->r8 w S' (f c) u:=by
      by_cases hpl:J5 es=true
      ·rw[if_pos hpl];refine⟨id,by simp,fun c u ⟨el,hel,hc⟩ hr=>?_⟩;simp only[J5,qn]at hpl;exact hP (B7 2 c u (hpl el hel c hc) hr)
      ·rw[if_neg hpl];refine⟨frz H n,rfl,fun c u ⟨el,hel,hc⟩ hr=>ih c u (fun q hq=>hrows q ?_) hr⟩;simp only[B8,hH,List.mem_cons]
       right
       rw[if_neg hpl,List.mem_flatMap];exact⟨c,List.mem_flatten.2 ⟨el,hel,hc⟩,hq⟩
     rw[hf];obtain⟨l,hl,n8⟩:=hrows r (by simp[B8]) _ hH;have hz:=n8.1;subst hz;have hlen:((es.drop i).take k).length=k:=by rw[qm,qx,Nat.min_eq_left];omega
     cases h with
     |pure _ _ h=>cases h
     | row _ _ _ _ h1 h2 h3=>
      obtain⟨h4,h5⟩:=h3 l hl
      cases hb:l.b with
      |none=>
       obtain⟨rfl,rfl,rfl⟩:=h4 hb;simp only[List.drop_zero,List.take_zero,List.map_nil];exact .lstNil _ _ _
      | some b=>
       obtain⟨off,cap,rfl,hcap,hoff⟩:=h5 b hb
       by_cases hk0:k=0
       ·subst hk0;simp only[List.take_zero,List.map_nil];exact .lstNil _ _ _
       ·obtain⟨rfl,_⟩:=hoff.resolve_left (by omega);have hlies:=a3N n8 hsz hin hb;obtain⟨g1,g2⟩:=hlies
        rcases g2 with g2|⟨b',off',vs,g2,g3,g4,g5⟩
        ·rw[g2]at hlen;simp at hlen;omega
        ·simp only[qb,Addr.mk.injEq]at g2;obtain⟨rfl,rfl,_⟩:=g2;have hlen':(((es.drop i).take k).map fun e=>e.map f).length=k:=by rw[List.length_map];exact hlen
         have:=r8.lst (w:=w) (S:=S') l.sz (((es.drop i).take k).map fun e=>e.map f) b (l.o+i*l.sz) cap vs (hX r l b _ hH hl hb) (hw.own r l b hl hb).1 (by omega) (by
          intro e he;simp only[List.mem_map]at he;obtain⟨e',he',rfl⟩:=he;simpa using g1 e' he') (by rw[<-List.map_flatten,List.length_map,j4 g1,g3]) g4 (by
          intro j c u hj hu;rw[<-List.map_flatten]at hj;simp only[qe,qf]at hj;obtain⟨c',hj,rfl⟩:=hj;have hmem:=qd hj;rw[List.mem_flatten]at hmem;obtain⟨el,hel,hcel⟩:=hmem;exact hfel c' u ⟨el,List.mem_of_mem_drop (List.mem_of_mem_take hel),hcel⟩ (g5 j c' u hj hu))
         rw[hlen']at this;exact this
    ·exact .any _
   ·exact .any _
  | ptr r i o=>
   simp only[frz]
   split
   ·rename_i sz es hH
    split
    ·rename_i e he
     split
     ·rename_i ho;obtain⟨f,hf,hfel⟩:∃f:AV->AV,(if e.all (AV.noRef 2)=true then AV.iptr (e.drop o)else AV.iptr ((e.drop o).map (frz H n)))=AV.iptr ((e.drop o).map f)/\∀c u,c∈e->e8 w (Sx S0 ρ) ρ L c u->r8 w S' (f c) u:=by
       by_cases hpl:e.all (AV.noRef 2)=true
       ·rw[if_pos hpl];refine⟨id,by simp,fun c u hc hr=>?_⟩;simp only[qn]at hpl;exact hP (B7 2 c u (hpl c hc) hr)
       ·rw[if_neg hpl];refine⟨frz H n,rfl,fun c u hc hr=>ih c u (fun q hq=>hrows q ?_) hr⟩;simp only[B8,hH,he,List.mem_cons]
        right
        rw[if_neg hpl,List.mem_flatMap];exact⟨c,hc,hq⟩
      rw[hf];obtain⟨l,hl,n8⟩:=hrows r (by simp[B8]) _ hH;obtain⟨b,hb⟩:=a0O n8 he;obtain⟨c,t,k1,k2,k3,k4⟩:=a0l n8 he hb
      cases h with
      |pure _ _ h=>cases h
      | ptr _ _ _ _ h1 h2 h3=>
       obtain⟨b',hb',rfl⟩:=h3 l hl;rw[hb]at hb';simp only[qb]at hb';subst hb';have hsz:(i+1)*sz=i*sz+sz:=Nat.succ_mul _ _;refine .iptr _ b (l.o+i*l.sz+o) ((c.toList.drop (l.o+i*sz+o)).take (e.length-o)) (hX r l b _ hH hl hb) (hw.own r l b hl hb).1 ?_ ?_ ?_
       ·have hcl:(c.toList.drop (l.o+i*sz+o)).length=c.size-(l.o+i*sz+o):=by rw[qx,Array.length_toList]
        have hel:(e.drop o).length=e.length-o:=qx ..;rw[List.length_map,hel,qm,hcl,Nat.min_eq_left];omega
       ·intro j u hj;rw[qk]at hj
        split at hj
        ·rename_i hjl;rw[ql]at hj;obtain⟨x,p1,p2,p3,p4⟩:=k4 (o+j) _ (qc (by omega));have hju:c[l.o+i*sz+o+j]?=some u:=by simpa using hj
         rw[<-Nat.add_assoc]at p1;rw[hju]at p1;simp only[qb]at p1;subst p1;refine⟨?_,p3⟩;rw[n8.1];rw[<-Nat.add_assoc]at p2;exact p2
        ·cases hj
       ·intro j cc u hj hu;simp only[qe,qf]at hj;obtain⟨c',hj,rfl⟩:=hj;rw[ql]at hj;rw[qk]at hu
        split at hu
        ·rw[ql]at hu;obtain⟨x,p1,p2,p3,p4⟩:=k4 (o+j) c' hj;have hju:c[l.o+i*sz+o+j]?=some u:=by simpa using hu
         rw[<-Nat.add_assoc]at p1;rw[hju]at p1;simp only[qb]at p1;subst p1;exact hfel c' u (qd hj) p4
        ·cases hu
     ·exact .any _
    ·exact .any _
   ·exact .any _
  |agg cs=>
   obtain⟨vs,rfl,hl,hc⟩:=A2 h;refine .agg _ vs (by simpa using hl) (fun u hu=>?_) (fun i c u h1 h2=>?_)
   ·obtain⟨i,hi,rfl⟩:=List.getElem_of_mem hu;exact(hc i _ _ (qc (by omega)) (qc hi)).1
   ·simp only[qe,qf]at h1;obtain⟨c',h1,rfl⟩:=h1;exact ih c' u (fun r hr=>hrows r (by simp only[B8,List.mem_flatMap];exact⟨c',qd h1,hr⟩)) (hc i c' u h1 h2).2
  |tup cs=>
   obtain⟨vs,rfl,hl,hc⟩:=L5 h;refine .tup _ vs (by simpa using hl) (fun i c u h1 h2=>?_);simp only[qe,qf]at h1;obtain⟨c',h1,rfl⟩:=h1;exact ih c' u (fun r hr=>hrows r (by simp only[B8,List.mem_flatMap];exact⟨c',qd h1,hr⟩)) (hc i c' u h1 h2)
  |clo f cs=>
   obtain⟨vs,rfl,hl,hc⟩:=E8 h;refine .clo f _ vs (by simpa using hl) (fun i c u h1 h2=>?_);simp only[qe,qf]at h1;obtain⟨c',h1,rfl⟩:=h1;exact ih c' u (fun r hr=>hrows r (by simp only[B8,List.mem_flatMap];exact⟨c',qd h1,hr⟩)) (hc i c' u h1 h2)
  |ifc t x=>
   obtain⟨v,rfl,h'⟩:=B6 h;exact .ifc t _ _ (ih x v (fun r hr=>hrows r (by simpa only[B8]using hr)) h')
theorem b5R {w:World} {S0:Nat->Prop} {B:Nat->Prop} {ρ:Nat->Option Loc} {L:Nat->Prop} {H:Nat->Option n9} (hw:WF B S0 w ρ L)
  (n:Nat) (x:AV) (y:Value) (hrd:∀r∈B8 H n x,∀row,H r=some row->∃l,ρ r=some l/\i7 w (Sx S0 ρ) ρ L l row) (h:e8 w (Sx S0 ρ) ρ L x y):r8 w S0 (frz H n x) y:=
 a4b hw (fun b hn k=>hn (Or.inl k)) (fun r l b row _ hl hb=>(hw.own r l b hl hb).2.1) n x y hrd h
theorem a9o {w:World} {S:Nat->Prop} {ρ:Nat->Option Loc} {L:Nat->Prop} {H:Nat->Option n9} (hlow:∀b,S b->b<w.heap.size) {x:AV} {y:Value} (hnr:x.noRef 2=true) (h:e8 w S ρ L x y):r8 w S (frz H 9 x) y:=by
 have hr:=B7 (ρ:=ρ) (L:=L) 2 x y hnr h;have gen:∀(n m:Nat) (z:AV),m<=n->z.noRef m=true->∀k,B8 H k z=[]:=by
  intro n
  induction n with
  |zero=>
   intro m z hm hz k;have:m=0:=by omega
   subst this
   cases z<;>simp[AV.noRef]at hz<;>cases k<;>simp[B8]
  | succ n ih=>
   intro m z hm hz k
   cases m with
   |zero=>cases z<;>simp[AV.noRef]at hz<;>cases k<;>simp[B8]
   | succ m=>
    cases z<;>simp only[AV.noRef,qn,Bool.false_eq_true]at hz<;>cases k<;>simp only[B8]
    all_goals first
     |(rw[List.flatMap_eq_nil_iff];intro c hc;exact ih m c (by omega) (hz c hc) _)
     |exact ih m _ (by omega) hz _
 refine b5R (S0:=S) (B:=fun _=>True) (ρ:=fun _=>none) (L:=L) (H:=H) (w:=w) ⟨(by intro r r' l l' b h;cases h),(by intro r l b h;cases h),(by intro r l h;cases h),hlow,fun _ _=>trivial⟩ 9 x y (by
  intro r hr' row _;exfalso;rw[gen 2 2 x (qo _) hnr 9]at hr'
  cases hr') (.pure _ _ (hr.ext (qo _) (fun b _ hnb=>⟨rfl,by
   rintro(h|⟨r,l,h,_⟩)
   ·exact hnb h
   ·cases h⟩)))
def AV.flat:Nat->AV->Bool
 |_, .v _=>true
 |_, .any=>true
 |n+1, .agg cs=>cs.all (AV.flat n)
 |n+1, .tup cs=>cs.all (AV.flat n)
 |_,_=>false
theorem b7J {w:World} {S S':Nat->Prop}:∀(n:Nat) (x:AV) (y:Value),x.flat n=true->r8 w S x y->r8 w S' x y:=by
 intro n
 induction n with
 |zero=>
  intro x y h1 h2
  cases h2<;>first|(exact .v _)|(exact .any _)|simp[AV.flat]at h1
 | succ n ih=>
  intro x y h1 h2
  cases h2 with
  |v x=>exact .v _
  |any x=>exact .any _
  |agg cs vs hl hc h=>
   simp only[AV.flat,qn]at h1;exact .agg cs vs hl hc (fun i c x k1 k2=>ih c x (h1 c (qd k1)) (h i c x k1 k2))
  |tup cs vs hl h=>
   simp only[AV.flat,qn]at h1;exact .tup cs vs hl (fun i c x k1 k2=>ih c x (h1 c (qd k1)) (h i c x k1 k2))
  |_=>simp[AV.flat]at h1
section
variable {P:Program} {o:Oper} {ev:Operand->AV} {H:Nat->Option n9} {N:Nat}
def U6 (P:Program) (o:Oper) (ev:Operand->AV) (H:Nat->Option n9) (f:FuncId) (raw:List AV) (rd:List Nat):Prop:=
 ∀(B S0:Nat->Prop) (a:Act) (w:World) (ρ:Nat->Option Loc) (L:Nat->Prop),WF B S0 w ρ L->(∀x∈o.op.operands,e8 w (Sx S0 ρ) ρ L (ev x) (a.eval x))->
  (∀r∈rd,∀row,H r=some row->∃l,ρ r=some l/\i7 w (Sx S0 ρ) ρ L l row)->
  ∃vs:List Value,raw.length=vs.length/\(∀(i:Nat) c y,raw[i]?=some c->vs[i]?=some y->e8 w (Sx S0 ρ) ρ L c y)/\(execOp a.eval o).run P w=(callFunc f vs.toArray).run P w
theorem a3Q {w:World} {S:Nat->Prop} {ρ:Nat->Option Loc} {L:Nat->Prop} {a:Act} {args:Array Operand} (h:∀x∈args,e8 w S ρ L (ev x) (a.eval x)):∀(i:Nat) c y,(args.toList.map ev)[i]?=some c->(args.toList.map a.eval)[i]?=some y->e8 w S ρ L c y:=by
 intro i c y h1 h2;simp only[qe,qf]at h1 h2;obtain⟨q,h1,rfl⟩:=h1;obtain⟨q',h2,rfl⟩:=h2;rw[h1]at h2;simp only[qb]at h2;subst h2;exact h q (Array.mem_toList_iff.1 (qd h1))
theorem a3t {x:Operand} {args:Array Operand} {ts:Array TypeId} {f:FuncId} {caps:List AV} (ho:o.op= .call {callee:= .value x,args:=args,argTypes:=ts}) (hx:ev x= .clo f caps):U6 P o ev H f (args.toList.map ev++caps) []:=by
 intro B S0 a w ρ L hw hops hrd;have hrx:=hops x (by simp[ho,Op.operands,Call.operands]);rw[hx]at hrx;obtain⟨cv,hy,hl,hcap⟩:=E8 hrx;have hargs:=a3Q (ev:=ev) (a:=a) (args:=args) fun q hq=>hops q (by rw[ho];simp only[Op.operands,Call.operands,Array.mem_append];exact Or.inr hq);have harr:args.map a.eval++cv.toArray=(args.toList.map a.eval++cv).toArray:=by apply Array.ext';simp
 refine⟨args.toList.map a.eval++cv,by simp[hl],fun i c y h1 h2=>?_,?_⟩
 ·rw[List.getElem?_append]at h1 h2;simp only[List.length_map]at h1 h2
  split at h1
  ·rename_i hi;rw[if_pos hi]at h2;exact hargs i c y h1 h2
  ·rename_i hi;rw[if_neg hi]at h2;exact hcap _ c y h1 h2
 ·simp only[execOp,ho,resolve,hy,Deferred.ofValue,invoke];rw[<-harr];simp[invoke]
def a4r:Nat->AV->AV
 |n+1, .vptr cs=> .iptr (cs.map (a4r n))
 |n+1, .agg cs=> .agg (cs.map (a4r n))
 |n+1, .tup cs=> .tup (cs.map (a4r n))
 |n+1, .clo f cs=> .clo f (cs.map (a4r n))
 |n+1, .bnd f cs=> .bnd f (cs.map (a4r n))
 |n+1, .ifc t x=> .ifc t (a4r n x)
 |_, .v x=> .v x
 |_, .lst sz els=> .lst sz els
 |_, .full sz els=> .full sz els
 |_, .iptr cs=> .iptr cs
 |_, .mpc ag kts kvs=> .mpc ag kts kvs
 |_,_=> .any
theorem b6X {w:World} {S:Nat->Prop} {ρ:Nat->Option Loc} {L:Nat->Prop}:∀(n:Nat) (x:AV) (y:Value),e8 w S ρ L x y->r8 w S (a4r n x) y:=by
 intro n
 induction n with
 |zero=>
  intro x y h
  cases x with
  |v x=>cases h with|pure _ _ h=>exact h
  |lst sz els=>cases h with|pure _ _ h=>exact h
  |full sz els=>cases h with|pure _ _ h=>exact h
  |iptr cs=>cases h with|pure _ _ h=>exact h
  |mpc ag kts kvs=>cases h with|pure _ _ h=>exact h
  |_=>exact .any _
 | succ n ih=>
  intro x y h
  cases x with
  |v x=>cases h with|pure _ _ h=>exact h
  |lst sz els=>cases h with|pure _ _ h=>exact h
  |full sz els=>cases h with|pure _ _ h=>exact h
  |iptr cs=>cases h with|pure _ _ h=>exact h
  |mpc ag kts kvs=>cases h with|pure _ _ h=>exact h
  |any=>exact .any _
  |mp r=>exact .any _
  |may l x=>exact .any _
  |row r i k=>exact .any _
  |ptr r i k=>exact .any _
  |fptr c r i k=>exact .any _
  |vptr cs=>
   obtain⟨b,off,vs,rfl,hSb,hb,hl,hv,hc⟩:=y9 h;refine .iptr _ b off vs hSb hb (by simpa using hl) hv (fun i c u h1 h2=>?_);simp only[qe,qf]at h1;obtain⟨c',h1,rfl⟩:=h1;exact ih c' u (hc i c' u h1 h2)
  |agg cs=>
   obtain⟨vs,rfl,hl,hc⟩:=A2 h;refine .agg _ vs (by simpa using hl) (fun u hu=>?_) (fun i c u h1 h2=>?_)
   ·obtain⟨i,hi,rfl⟩:=List.getElem_of_mem hu;exact(hc i _ _ (qc (by omega)) (qc hi)).1
   ·simp only[qe,qf]at h1;obtain⟨c',h1,rfl⟩:=h1;exact ih c' u (hc i c' u h1 h2).2
  |tup cs=>
   obtain⟨vs,rfl,hl,hc⟩:=L5 h;refine .tup _ vs (by simpa using hl) (fun i c u h1 h2=>?_);simp only[qe,qf]at h1;obtain⟨c',h1,rfl⟩:=h1;exact ih c' u (hc i c' u h1 h2)
  |clo f cs=>
   obtain⟨vs,rfl,hl,hc⟩:=E8 h;refine .clo f _ vs (by simpa using hl) (fun i c u h1 h2=>?_);simp only[qe,qf]at h1;obtain⟨c',h1,rfl⟩:=h1;exact ih c' u (hc i c' u h1 h2)
  |bnd f cs=>
   obtain⟨vs,rfl,hl,hc⟩:=P6 h;refine .bnd f _ vs (by simpa using hl) (fun i c u h1 h2=>?_);simp only[qe,qf]at h1;obtain⟨c',h1,rfl⟩:=h1;exact ih c' u (hc i c' u h1 h2)
  |ifc t x=>
   obtain⟨v,rfl,h'⟩:=B6 h;exact .ifc t _ _ (ih x v h')
theorem a5V {x:Operand} {args:Array Operand} {ts:Array TypeId} {f:FuncId} {bs:List AV} (ho:o.op= .call {callee:= .value x,args:=args,argTypes:=ts}) (hx:ev x= .bnd f bs):U6 P o ev H f (bs++args.toList.map ev) []:=by
 intro B S0 a w ρ L hw hops hrd;have hrx:=hops x (by simp[ho,Op.operands,Call.operands]);rw[hx]at hrx;obtain⟨cv,hy,hl,hcap⟩:=P6 hrx;have hargs:=a3Q (ev:=ev) (a:=a) (args:=args) fun q hq=>hops q (by rw[ho];simp only[Op.operands,Call.operands,Array.mem_append];exact Or.inr hq);have harr:cv.toArray++args.map a.eval=(cv++args.toList.map a.eval).toArray:=by apply Array.ext';simp
 refine⟨cv++args.toList.map a.eval,by simp[hl],fun i c y h1 h2=>?_,?_⟩
 ·rw[List.getElem?_append]at h1 h2;rw[<-hl]at h2
  split at h1
  ·rename_i hi;rw[if_pos hi]at h2;exact hcap i c y h1 h2
  ·rename_i hi;rw[if_neg hi]at h2;exact hargs _ c y h1 h2
 ·simp only[execOp,ho,resolve,hy,Deferred.ofValue,invoke];rw[<-harr];simp[invoke]
theorem b8i {f:FuncId} {raw:List AV} {rd:List Nat} {res:AV} (hop:U6 P o ev H f raw rd) (h:a9 P f (raw.map (a4r 4)) res):
  p6 P o ev H N ⟨res,[],rd⟩:=by
 intro B S0 a w ρ L hw hN hops hrd K Q hK;have hlow:∀b,Sx S0 ρ b->b<w.heap.size:=by
  rintro b (h1|⟨r,l,h1,h2⟩)
  ·exact hw.low b h1
  ·exact(hw.own r l b h1 h2).1
 obtain⟨vs,hl,hreps,hrun⟩:=hop B S0 a w ρ L hw hops hrd;have fin:∀w' v,r8 w' (Sx S0 ρ) res v->Ext (fun _=>False) w w'->K (a.put o.dst v) w':=fun w' v hrep hext=>
  hK v w' ρ {wf:=⟨hw.inj,fun r l b h1 h2=>⟨qq (hw.own r l b h1 h2).1 hext.size,(hw.own r l b h1 h2).2⟩,fun r l h1=>Or.inl (hw.given r l h1),fun b h=>qq (hw.low b h) hext.size,fun b h=>hw.new b (Nat.le_trans hext.size h)⟩,rep:= .pure _ _ hrep,ups:=(by intro r o hm;cases hm),others:=fun r _=>rfl,only:=fun r l hl=>Or.inl hl,ext:=hext.mono (fun _ _ h=>h.elim)}
 have hrep1:∀(i:Nat) c x,(raw.map (a4r 4))[i]?=some c->vs[i]?=some x->r8 w (Sx S0 ρ) c x:=by
  intro i c y h1 h2;simp only[qe,qf]at h1;obtain⟨c',h1,rfl⟩:=h1;exact b6X 4 c' y (hreps i c' y h1 h2)
 unfold Oper.wp;rw[hrun]
 rcases h with⟨hcf,hcall⟩|hext
 ·rw[hcf,Oper.upon_enter];refine(hcall (Sx S0 ρ) w vs hlow (by simp[hl]) hrep1).mono fun e w' he=>?_;obtain⟨v,rfl,hrep,hext⟩:=he;exact fin w' v hrep hext
 ·obtain⟨v,hv,hrep⟩:=hext (Sx S0 ρ) w vs (by simp[hl]) hrep1;rw[hv];exact fin w v hrep (Ext.refl _ _)
theorem b9y {f:FuncId} {raw:List AV} {rd:List Nat} {res:AV} (hop:U6 P o ev H f raw rd) (h:a9 P f (raw.map (frz H 9)) res) (hn:raw.all (AV.noRef 2)=true∨res.flat 3=true):
  p6 P o ev H N ⟨res,[],rd++raw.flatMap (B8 H 9)⟩:=by
 intro B S0 a w ρ L hw hN hops hrd K Q hK;have hlow:∀b,Sx S0 ρ b->b<w.heap.size:=by
  rintro b (h1|⟨r,l,h1,h2⟩)
  ·exact hw.low b h1
  ·exact(hw.own r l b h1 h2).1
 obtain⟨vs,hl,hreps,hrun⟩:=hop B S0 a w ρ L hw hops (fun r hr=>hrd r (List.mem_append_left _ hr));have fin:∀w' v,r8 w' (Sx S0 ρ) res v->Ext (fun _=>False) w w'->K (a.put o.dst v) w':=fun w' v hrep hext=>
  hK v w' ρ {wf:=⟨hw.inj,fun r l b h1 h2=>⟨qq (hw.own r l b h1 h2).1 hext.size,(hw.own r l b h1 h2).2⟩,fun r l h1=>Or.inl (hw.given r l h1),fun b h=>qq (hw.low b h) hext.size,fun b h=>hw.new b (Nat.le_trans hext.size h)⟩,rep:= .pure _ _ hrep,ups:=(by intro r o hm;cases hm),others:=fun r _=>rfl,only:=fun r l hl=>Or.inl hl,ext:=hext.mono (fun _ _ h=>h.elim)}
 obtain⟨S1,hS1,hrep1,hback⟩:∃S1:Nat->Prop,(∀b,S1 b->b<w.heap.size)/\(∀(i:Nat) c x,(raw.map (frz H 9))[i]?=some c->vs[i]?=some x->r8 w S1 c x)/\
   ∀w' v,r8 w' S1 res v->r8 w' (Sx S0 ρ) res v:=by
  rcases hn with hn|hn
  ·refine⟨Sx S0 ρ,hlow,(by
   intro i c y h1 h2;simp only[qe,qf]at h1;obtain⟨c',h1,rfl⟩:=h1;exact a9o hlow (qn.1 hn c' (qd h1)) (hreps i c' y h1 h2)),fun w' v h=>h⟩
  ·refine⟨S0,hw.low,(by
   intro i c y h1 h2;simp only[qe,qf]at h1;obtain⟨c',h1,rfl⟩:=h1;exact b5R hw 9 c' y (fun r hr=>hrd r (List.mem_append_right _ (by simp only[List.mem_flatMap];exact⟨c',qd h1,hr⟩))) (hreps i c' y h1 h2)),fun w' v h=>b7J 3 _ _ hn h⟩
 unfold Oper.wp;rw[hrun]
 rcases h with⟨hcf,hcall⟩|hext
 ·rw[hcf,Oper.upon_enter];refine(hcall S1 w vs hS1 (by simp[hl]) hrep1).mono fun e w' he=>?_;obtain⟨v,rfl,hrep,hext⟩:=he;exact fin w' v (hback w' v hrep) hext
 ·obtain⟨v,hv,hrep⟩:=hext S1 w vs (by simp[hl]) hrep1;rw[hv];exact fin w v (hback w v hrep) (Ext.refl _ _)
theorem a9.of_ext {f : FuncId} {fn : Func} {e : Array Value -> Sem Value} {us : List Value} {v : Value} (hf : P.funcs[f]? = some fn) (hname : (fn.name == "runtime.NumGoroutine") = false) (hb : fn.body.isNone = true) (hn : Extern.findNext fn = none) (he : Extern.find fn = some e)
  (hrun:∀w:World,(e us.toArray).run P w= .ok v w):a9 P f (us.map AV.v) (.v v):=by
 right
 intro S0 w vs hl hr;have:vs=us:=by
  apply List.ext_getElem (by simpa using hl.symm);intro i h1 h2;have:=hr i (.v us[i]) vs[i] (by simp[h2]) (by simp[h1]);exact j5 (ρ:=fun _=>none) (L:=fun _=>True) (.pure _ _ this)
 subst this;exact⟨v,by rw[run_callFunc_extern hf hname hb hn he,hrun];rfl, .v v⟩
end
end Go.AM
namespace Go.AM
def a3y (P:Program) (t:TypeId):Option KT:=
 match P.underlying t,d6 P t with
 |some (.int k), .cell _=>some (.i k)
 |some .bool, .cell _=>some .b
 |_,_=>none
def X1 (P:Program):Nat->List Field->Option (List KT)
 |_,[]=>some []
 | j, f :: fs => if f.name ≠ "_" /\ f.offset = j then
   match a3y P f.type,X1 P (j+1) fs with
   |some k,some ks=>some (k::ks)
   |_,_=>none
  else none
def b7a (P:Program) (t:TypeId):Option (List KT):=
 match P.underlying t with
 |some (.struct fs)=>if P.stoodInHeld t=false/\P.eqGuardType P.depth t=false then X1 P 0 fs.toList else none
 |_=>none
def c3o (P:Program):Nat->List Field->Option (List KT)
 |_,[]=>some []
 | j, f :: fs => if f.name ≠ "_" /\ f.offset = j then
   match a3y P f.type with
   |some k=>match c3o P (j+1) fs with
    |some ks=>some (k::ks)
    |none=>none
   | none=>match b7a P f.type with
    | some ks1=>if (d6 P f.type).isAgg=true/\(d6 P f.type).size=ks1.length then
      match c3o P (j+ks1.length) fs with
      |some ks=>some (ks1++ks)
      |none=>none
     else none
    |none=>none
  else none
def a5v (P:Program) (t:TypeId):Option (List KT):=
 match P.underlying t with
 |some (.struct fs)=>if P.stoodInHeld t=false/\P.eqGuardType P.depth t=false then c3o P 0 fs.toList else none
 |_=>none
def KC.ofAV:AV->Option KC
 | .v (.int k n)=>some (.i k n)
 | .v (.bool x)=>some (.b x)
 |_=>none
def kcs:List AV->Option (List KC)
 |[]=>some []
 |c::cs=>match KC.ofAV c,kcs cs with
  |some k,some ks=>some (k::ks)
  |_,_=>none
section
variable {P:Program} {w:World}
theorem G5 {t:TypeId} {k:KT} (h:a3y P t=some k):d6 P t≠ .bad/\(d6 P t).isAgg=false/\(d6 P t).size=1/\P.underlying t=some (match k with| .i k=> .int k| .b=> .bool):=by
 unfold a3y at h
 split at h
 ·rename_i h1 h2;simp only[qb]at h;subst h;simp[h1,h2,TD.isAgg,TD.size]
 ·rename_i h1 h2;simp only[qb]at h;subst h;simp[h1,h2,TD.isAgg,TD.size]
 ·cases h
theorem C1 {t:TypeId} {k:KT} (h:a3y P t=some k) (d:Nat) {a b:KC} (ha:a.fits k=true) (hb:b.fits k=true):(Op.equalIn (d+1) t a.val b.val).run P w= .ok (decide (a=b)) w:=by
 obtain⟨_,_,_,hu⟩:=G5 h
 cases k with
 | i k=>
  cases a with
  | i k1 m=>
   cases b with
   |i k2 n=>
    simp only[KC.fits,decide_eq_true_eq]at ha hb;subst ha hb;simp only[KC.val];rw[run_equalIn_int w d t _ _ m n hu];simp;exact qj.2 (by simp)
   |b y=>simp[KC.fits]at hb
  |b x=>simp[KC.fits]at ha
 | b=>
  cases a with
  |i k1 m=>simp[KC.fits]at ha
  | b x=>
   cases b with
   |i k2 n=>simp[KC.fits]at hb
   |b y=>
    simp only[KC.val];rw[run_equalIn_bool' w d t x y hu];simp;exact qj.2 (by simp)
theorem a2z {t:TypeId} {k:KT} (h:a3y P t=some k) {ks:List KC} {j:Nat} (hj:j<ks.length):(part t (ks.map KC.val).toArray j).run P w= .ok (ks[j]).val w:=by
 obtain⟨h1,h2,h3,_⟩:=G5 h;rw[a0N h1 (by rw[h3,List.length_map];omega),h2,h3];simp only[Bool.false_eq_true,if_false];rw[List.drop_eq_getElem_cons (by simpa using hj)];simp
theorem a0r (d:Nat) {ks ls:List KC}:∀(fs:List Field) (kts:List KT) (j:Nat),X1 P j fs=some kts->j<=ks.length->j<=ls.length->o1 kts (ks.drop j)=true->o1 kts (ls.drop j)=true->
  (Op.eqFields (d+1) (ks.map KC.val).toArray (ls.map KC.val).toArray fs).run P w= .ok (decide (ks.drop j=ls.drop j)) w
 |[],kts,j,h,_,_,h1,h2=>by
  simp only[X1,qb]at h;subst h;have e1:ks.drop j=[]:=by cases hk:ks.drop j with|nil=>rfl|cons a l=>rw[hk]at h1;simp[o1]at h1
  have e2:ls.drop j=[]:=by cases hk:ls.drop j with|nil=>rfl|cons a l=>rw[hk]at h2;simp[o1]at h2
  simp[Op.eqFields,e1,e2]
 | f ::fs,kts,j,h,l1,l2,h1,h2=>by
  simp only[X1]at h
  split at h
  ·rename_i hc;obtain⟨hn,ho⟩:=hc
   split at h
   ·rename_i k ks' hk hrest;simp only[qb]at h;subst h;have hj1:j<ks.length:=by
     rcases Nat.lt_or_ge j ks.length with h|h
     ·exact h
     ·rw[List.drop_eq_nil_of_le h]at h1;simp[o1]at h1
    have hj2:j<ls.length:=by
     rcases Nat.lt_or_ge j ls.length with h|h
     ·exact h
     ·rw[List.drop_eq_nil_of_le h]at h2;simp[o1]at h2
    rw[List.drop_eq_getElem_cons hj1]at h1;rw[List.drop_eq_getElem_cons hj2]at h2;simp only[o1,qh]at h1 h2;have ih:=a0r d fs ks' (j+1) hrest hj1 hj2 h1.2 h2.2;simp only[Op.eqFields,hn,ne_eq,not_false_eq_true,if_true,ho,Sem.run_bind,a2z hk hj1,a2z hk hj2,Result.andThen_ok,C1 hk d h1.1 h2.1];rw[List.drop_eq_getElem_cons hj1,List.drop_eq_getElem_cons hj2]
    by_cases e:ks[j]=ls[j]
    ·simp only[e,decide_true,Bool.not_true,Bool.false_eq_true,if_false,ih,List.cons.injEq,true_and]
    ·simp only[e,decide_false,Bool.not_false,if_true,Sem.run_pure,List.cons.injEq,false_and]
   ·cases h
  ·cases h
theorem J8 {kt:KT} {ks:List KC} (h:o1 [kt] ks=true):∃c,ks=[c]/\c.fits kt=true:=by
 match ks,h with
 |[],h=>simp[o1]at h
 |[c],h=>exact⟨c,rfl,by simpa [o1]using h⟩
 |c::d::l,h=>simp[o1]at h
theorem M5 {t:TypeId} {kts:List KT} (h:b7a P t=some kts) {ks ls:List KC} (h1:o1 kts ks=true) (h2:o1 kts ls=true) (d:Nat):
  (Op.equalIn (d+2) t (.agg (ks.map KC.val).toArray) (.agg (ls.map KC.val).toArray)).run P w= .ok (decide (ks=ls)) w:=by
 unfold b7a at h
 split at h
 ·rename_i fs hu
  split at h
  ·rename_i hc;have hf:P.fieldsOf t=fs:=by simp[Program.fieldsOf,hu]
   rw[run_equalIn_struct w (d+1) t _ _ (by rw[hf];exact hu) hc.1,hf];have:=a0r (P:=P) (w:=w) d fs.toList kts 0 h (qp _) (qp _) (by simpa using h1) (by simpa using h2);simpa using this
  ·cases h
 ·cases h
theorem I2:∀{a b:List KT} {ks:List KC},o1 (a++b) ks=true->o1 a (ks.take a.length)=true/\o1 b (ks.drop a.length)=true/\a.length<=ks.length
 |[],b,ks,h=>⟨by simp[o1],by simpa using h,qp _⟩
 |k::a,b,[],h=>by simp[o1]at h
 |k::a,b,c::ks,h=>by
  simp only[List.cons_append,o1,qh]at h;have ih:=I2 (a:=a) h.2;simp only[List.length_cons,List.take_succ_cons,List.drop_succ_cons,o1,qh];exact⟨⟨h.1,ih.1⟩,ih.2.1,by omega⟩
theorem a3n {α:Type} [DecidableEq α] {a b:List α} {n:Nat}:decide (a=b)=(decide (a.take n=b.take n)&&decide (a.drop n=b.drop n)):=by
 rw[<-Bool.decide_and];refine decide_eq_decide.2 ⟨fun h=>by rw[h];exact⟨rfl,rfl⟩,fun h=>?_⟩;rw[<-List.take_append_drop n a,<-List.take_append_drop n b,h.1,h.2]
theorem a7c (d:Nat) {ks ls:List KC}:∀(fs:List Field) (kts:List KT) (j:Nat),c3o P j fs=some kts->j<=ks.length->j<=ls.length->o1 kts (ks.drop j)=true->o1 kts (ls.drop j)=true->
  (Op.eqFields (d+2) (ks.map KC.val).toArray (ls.map KC.val).toArray fs).run P w= .ok (decide (ks.drop j=ls.drop j)) w
 |[],kts,j,h,_,_,h1,h2=>by
  simp only[c3o,qb]at h;subst h;have e1:ks.drop j=[]:=by cases hk:ks.drop j with|nil=>rfl|cons a l=>rw[hk]at h1;simp[o1]at h1
  have e2:ls.drop j=[]:=by cases hk:ls.drop j with|nil=>rfl|cons a l=>rw[hk]at h2;simp[o1]at h2
  simp[Op.eqFields,e1,e2]
 | f :: fs,kts,j,h,l1,l2,h1,h2=>by
  simp only[c3o]at h
  split at h
  ·rename_i hc;obtain⟨hn,ho⟩:=hc
   split at h
   ·rename_i k hk
    split at h
    ·rename_i ks' hrest;simp only[qb]at h;subst h;have hj1:j<ks.length:=by
      rcases Nat.lt_or_ge j ks.length with h|h
      ·exact h
      ·rw[List.drop_eq_nil_of_le h]at h1;simp[o1]at h1
     have hj2:j<ls.length:=by
      rcases Nat.lt_or_ge j ls.length with h|h
      ·exact h
      ·rw[List.drop_eq_nil_of_le h]at h2;simp[o1]at h2
     rw[List.drop_eq_getElem_cons hj1]at h1;rw[List.drop_eq_getElem_cons hj2]at h2;simp only[o1,qh]at h1 h2;have ih:=a7c d fs ks' (j+1) hrest hj1 hj2 h1.2 h2.2;simp only[Op.eqFields,hn,ne_eq,not_false_eq_true,if_true,ho,Sem.run_bind,a2z hk hj1,a2z hk hj2,Result.andThen_ok,C1 hk (d+1) h1.1 h2.1];rw[List.drop_eq_getElem_cons hj1,List.drop_eq_getElem_cons hj2]
     by_cases e:ks[j]=ls[j]
     ·simp only[e,decide_true,Bool.not_true,Bool.false_eq_true,if_false,ih,List.cons.injEq,true_and]
     ·simp only[e,decide_false,Bool.not_false,if_true,Sem.run_pure,List.cons.injEq,false_and]
    ·cases h
   ·rename_i hk0
    split at h
    ·rename_i ks1 hs1
     split at h
     ·rename_i ht;obtain⟨t2,t3⟩:=ht;have t1:d6 P f.type≠ .bad:=by intro e;rw[e]at t2;cases t2
      split at h
      ·rename_i ks' hrest;simp only[qb]at h;subst h;obtain⟨a1,a2,a3⟩:=I2 h1;obtain⟨b1,b2,b3⟩:=I2 h2;rw[List.drop_drop]at a2 b2;rw[qx]at a3 b3;have ih:=a7c d fs ks' (j+ks1.length) hrest (by omega) (by omega) a2 b2;have p1:(part f.type (ks.map KC.val).toArray j).run P w= .ok (.agg (((ks.drop j).take ks1.length).map KC.val).toArray) w:=by
        rw[a0N t1 (by rw[t3,List.length_map];omega),t2,t3,if_pos rfl,<-List.map_drop,<-List.map_take]
       have p2:(part f.type (ls.map KC.val).toArray j).run P w= .ok (.agg (((ls.drop j).take ks1.length).map KC.val).toArray) w:=by
        rw[a0N t1 (by rw[t3,List.length_map];omega),t2,t3,if_pos rfl,<-List.map_drop,<-List.map_take]
       have hq:=M5 (w:=w) hs1 a1 b1 d;simp only[Op.eqFields,hn,ne_eq,not_false_eq_true,if_true,ho,Sem.run_bind,p1,p2,Result.andThen_ok,hq];rw[a3n (a:=ks.drop j) (n:=ks1.length),List.drop_drop,List.drop_drop]
       by_cases e:(ks.drop j).take ks1.length=(ls.drop j).take ks1.length
       ·simp only[e,decide_true,Bool.not_true,Bool.false_eq_true,if_false,ih,Bool.true_and]
       ·simp only[e,decide_false,Bool.not_false,if_true,Sem.run_pure,Bool.false_and]
      ·cases h
     ·cases h
    ·cases h
  ·cases h
theorem a3d {t:TypeId} {kts:List KT} (h:a5v P t=some kts) {ks ls:List KC} (h1:o1 kts ks=true) (h2:o1 kts ls=true) (d:Nat):
  (Op.equalIn (d+3) t (.agg (ks.map KC.val).toArray) (.agg (ls.map KC.val).toArray)).run P w= .ok (decide (ks=ls)) w:=by
 unfold a5v at h
 split at h
 ·rename_i fs hu
  split at h
  ·rename_i hc;have hf:P.fieldsOf t=fs:=by simp[Program.fieldsOf,hu]
   rw[run_equalIn_struct w (d+2) t _ _ (by rw[hf];exact hu) hc.1,hf];have:=a7c (P:=P) (w:=w) d fs.toList kts 0 h (qp _) (qp _) (by simpa using h1) (by simpa using h2);simpa using this
  ·cases h
 ·cases h
theorem b5a {S:Nat->Prop} {ρ:Nat->Option Loc} {L:Nat->Prop}:∀(cs:List AV) (ks:List KC) (vs:List Value),kcs cs=some ks->cs.length=vs.length->(∀(i:Nat) c x,cs[i]?=some c->vs[i]?=some x->e8 w S ρ L c x)->vs=ks.map KC.val
 |[],ks,vs,h,hl,_=>by simp[kcs]at h;subst h;exact List.eq_nil_of_length_eq_zero hl.symm
 | c ::cs,ks,vs,h,hl,hr=>by
  match vs,hl with
  | v::vs,hl=>
   simp only[kcs]at h
   split at h
   ·rename_i k ks' hk hks;simp only[qb]at h;subst h;have h0:=hr 0 c v rfl rfl;have hv:v=k.val:=by
     unfold KC.ofAV at hk
     split at hk
     ·simp only[qb]at hk;subst hk;exact j5 h0
     ·simp only[qb]at hk;subst hk;exact j5 h0
     ·cases hk
    rw[hv,List.map_cons,<-b5a cs ks' vs hks (by simpa using hl) (fun i c x h1 h2=>hr (i+1) c x h1 h2)]
   ·cases h
theorem a9x {S:Nat->Prop} {ρ:Nat->Option Loc} {L:Nat->Prop} {cs:List AV} {ks:List KC} {y:Value} (h:kcs cs=some ks) (hr:e8 w S ρ L (.agg cs) y):y= .agg (ks.map KC.val).toArray:=by
 obtain⟨vs,rfl,hl,hc⟩:=A2 hr;rw[b5a cs ks vs h hl (fun i c x h1 h2=>(hc i c x h1 h2).2)]
end
section
variable {P:Program} {o:Oper} {ev:Operand->AV} {H:Nat->Option n9} {N:Nat}
theorem a3p {op:BinOp} {t ty:TypeId} {x y:Operand} {cs ds:List AV} {kts:List KT} {ks ls:List KC} (ho:o.op= .binOp op t x y ty) (hop:op= .eql∨op= .neq) (hx:ev x= .agg cs) (hy:ev y= .agg ds) (ht:a5v P t=some kts)
  (hk:kcs cs=some ks) (hl:kcs ds=some ls) (f1:o1 kts ks=true) (f2:o1 kts ls=true):p6 P o ev H N ⟨.v (.bool (if op= .eql then decide (ks=ls)else !decide (ks=ls))),[],[]⟩:=by
 refine p6.of_pure fun B S0 a w ρ L hw hops hrd=>⟨_,Or.inl ?_, .pure _ _ (.v _)⟩;have h1:=hops x (by simp[ho,Op.operands]);have h2:=hops y (by simp[ho,Op.operands]);rw[hx]at h1;rw[hy]at h2;have e1:=a9x hk h1;have e2:=a9x hl h2;have hg:P.eqGuardType P.depth t=false:=by
  unfold a5v at ht
  split at ht
  ·split at ht
   ·rename_i hc;exact hc.2
   ·cases ht
  ·cases ht
 have hrun:=a3d (w:=w) ht f1 f2 9997
 rcases hop with rfl|rfl
 ·simp only[execOp,ho,e1,e2,Sem.run_bind,run_eqGuard_agg w _ t x y _ _ hg,Result.andThen_ok,run_eql_struct,hrun];simp
 ·simp only[execOp,ho,e1,e2,Sem.run_bind,run_eqGuard_agg w _ t x y _ _ hg,Result.andThen_ok,run_neq_struct,hrun];simp
theorem b9x {t:TypeId} {x i:Operand} {z:List Value} {n:Nat} {e:TypeId} {cs:List AV} {k:IntKind} {j:Int} (ho:o.op= .index t x i) (ht:d6 P t= .arr z n e) (he:d6 P e≠ .bad) (hx:ev x= .agg cs) (hi:ev i= .v (.int k j))
  (h0:0<=j) (hn:j<n) (hin:j.toNat*(d6 P e).size+(d6 P e).size<=cs.length):p6 P o ev H N ⟨mk (d6 P e) ((cs.drop (j.toNat*(d6 P e).size)).take (d6 P e).size),[],[]⟩:=by
 obtain⟨info,h1,h2,h3,h4,h5⟩:=X9 ht;refine p6.of_pure fun B S0 a w ρ L hw hops hrd=>?_;have hr:=hops x (by simp[ho,Op.operands]);have hri:=hops i (by simp[ho,Op.operands]);rw[hx]at hr;rw[hi]at hri;have hiv:=j5 hri;obtain⟨vs,hy,hl,h⟩:=A2 hr;refine⟨_,Or.inl ?_,b1T he hl h hin⟩;simp only[execOp,ho,hy,hiv,Instr.index,asIntOf,Sem.run_bind,Sem.run_pure,Result.andThen_ok,run_underlying h2,h0,hn,and_self,if_true,y3 he,a0N he (hl▸hin)]
end
structure a8d (P:Program) (e:TypeId) (k1:List KT) (ag:Bool):Prop where
 info:∃i,P.info? e=some i/\i.size=k1.length
 size:∀w,(sizeOf e).run P w= .ok k1.length w
 part:∀(ks:List KC) (j:Nat) (w:World),j+k1.length<=ks.length->(Go.part e (ks.map KC.val).toArray j).run P w= .ok (g9 ag ((ks.drop j).take k1.length)) w
 check:∀(E:Bool) (n:Nat) (w:World) (ks:List KC),o1 k1 ks=true->(Instr.checkKey E (n+2) e (g9 ag ks)).run P w= .ok () w
 eq:∀(d:Nat) (w:World) (ks ls:List KC),o1 k1 ks=true->o1 k1 ls=true->(Op.equalIn (d+2) e (g9 ag ks) (g9 ag ls)).run P w= .ok (decide (ks=ls)) w
section
variable {P:Program} {w:World}
theorem a0o {E:Bool} {ks:List KC} (n:Nat):∀(fs:List Field) (kts:List KT) (j:Nat),X1 P j fs=some kts->o1 kts (ks.drop j)=true->
  (forIn fs PUnit.unit fun (f : Field) (_ : PUnit) => (if f.name ≠ "_" then do Instr.checkKey E (n + 1) f.type (<- part f.type (ks.map KC.val).toArray f.offset); pure (ForInStep.yield PUnit.unit) else pure (ForInStep.yield PUnit.unit) : Sem (ForInStep PUnit))).run P w = .ok PUnit.unit w
 |[],kts,j,h,h1=>by simp
 | f ::fs,kts,j,h,h1=>by
  simp only[X1]at h
  split at h
  ·rename_i hc;obtain⟨hn,ho⟩:=hc
   split at h
   ·rename_i k ks' hk hrest;simp only[qb]at h;subst h;have hj1:j<ks.length:=by
     rcases Nat.lt_or_ge j ks.length with h|h
     ·exact h
     ·rw[List.drop_eq_nil_of_le h]at h1;simp[o1]at h1
    rw[List.drop_eq_getElem_cons hj1]at h1;simp only[o1,qh]at h1;have ih:=a0o (E:=E) (ks:=ks) n fs ks' (j+1) hrest h1.2;obtain⟨_,_,_,hu⟩:=G5 hk;have hch:(Instr.checkKey E (n+1) f.type (ks[j]).val).run P w= .ok () w:=by
     unfold Instr.checkKey;simp only[Sem.run_bind,run_underlying hu,Result.andThen]
     cases k<;>cases ks[j]<;>simp[KC.val]
    simp only[List.forIn_cons,hn,ne_eq,not_false_eq_true,if_true,ho,Sem.run_bind,a2z hk hj1,Result.andThen_ok,hch,Sem.run_pure];exact ih
   ·cases h
  ·cases h
theorem a9K {e:TypeId} {k:KT} (h:a3y P e=some k):a8d P e [k] false:=by
 obtain⟨h1,h2,h3,hu⟩:=G5 h;refine⟨?_,fun w=>by rw[y3 h1,h3];rfl,fun ks j w hj=>?_,fun E n w ks hf=>?_,fun d w ks ls g1 g2=>?_⟩
 ·obtain⟨i,i1,i2,_⟩:=X5 (w:=default) h1;exact⟨i,i1,by rw[i2,h3];rfl⟩
 ·have hj':j<ks.length:=Nat.lt_of_succ_le (by simpa using hj);rw[a2z h hj'];simp only[g9,Bool.false_eq_true,if_false,List.length_cons,List.length_nil,Nat.zero_add];rw[List.drop_eq_getElem_cons hj',List.take_succ_cons]
  rfl
 ·obtain⟨c,rfl,hc⟩:=J8 hf;unfold Instr.checkKey;simp only[Sem.run_bind,run_underlying hu,Result.andThen,g9,Bool.false_eq_true,if_false,List.headD_cons]
  cases k<;>cases c<;>simp[KC.val]
 ·obtain⟨a,rfl,ga⟩:=J8 g1;obtain⟨b,rfl,gb⟩:=J8 g2;simp only[g9,Bool.false_eq_true,if_false,List.headD_cons];have:=C1 (w:=w) h (d+1) ga gb;simp only[this,List.cons.injEq,and_true]
theorem a0i {E:Bool} {w:World} {k:TypeId} {kts:List KT} (hsk:b7a P k=some kts) {ks:List KC} (hf:o1 kts ks=true) (n:Nat):(Instr.checkKey E (n+2) k (.agg (ks.map KC.val).toArray)).run P w= .ok () w:=by
 unfold b7a at hsk
 split at hsk
 ·rename_i fs hu
  split at hsk
  ·have:=a0o (P:=P) (w:=w) (E:=E) (ks:=ks) n fs.toList kts 0 hsk (by simpa using hf);unfold Instr.checkKey;simp only[Sem.run_bind,run_underlying hu,Result.andThen_ok];rw[<-Array.forIn_toList];simp only[ne_eq,ite_not,bind_pure_comp,Array.forIn_toList]at this;simp[this]
  ·cases hsk
 ·cases hsk
theorem a7r {e:TypeId} {k1:List KT} (h:b7a P e=some k1) (ht:(d6 P e).isAgg=true/\(d6 P e).size=k1.length):a8d P e k1 true:=by
 have t1:d6 P e≠ .bad:=by intro e';rw[e']at ht;cases ht.1
 refine⟨?_,fun w=>by rw[y3 t1,ht.2],fun ks j w hj=>?_,fun E n w ks hf=>a0i h hf n,fun d w ks ls g1 g2=>M5 h g1 g2 d⟩
 ·obtain⟨i,i1,i2,_⟩:=X5 (w:=default) t1;exact⟨i,i1,by rw[i2,ht.2]⟩
 ·rw[a0N t1 (by rw[ht.2,List.length_map];omega),ht.1,ht.2,if_pos rfl,<-List.map_drop,<-List.map_take]
  rfl
theorem a7X {ks:List KC} (h:o1 [] ks=true):ks=[]:=by cases ks with|nil=>rfl|cons a l=>simp[o1]at h
theorem a3i {e:TypeId} {k1:List KT} {ag:Bool} (h:a8d P e k1 ag) {ks ls:List KC} (d:Nat) {w:World}:∀(m j:Nat),o1 (List.replicate m k1).flatten (ks.drop (j*k1.length))=true->o1 (List.replicate m k1).flatten (ls.drop (j*k1.length))=true->
  (Op.eqItems (d+2) e k1.length (ks.map KC.val).toArray (ls.map KC.val).toArray (List.range' j m)).run P w= .ok (decide (ks.drop (j*k1.length)=ls.drop (j*k1.length))) w
 |0,j,h1,h2=>by
  have e1:=a7X (by simpa using h1);have e2:=a7X (by simpa using h2);simp[Op.eqItems,e1,e2]
 | m+1,j,h1,h2=>by
  rw[List.replicate_succ,List.flatten_cons]at h1 h2;obtain⟨a1,a2,a3⟩:=I2 h1;obtain⟨b1,b2,b3⟩:=I2 h2;rw[List.drop_drop,<-Nat.succ_mul]at a2 b2;rw[qx]at a3 b3;have hle:∀n:Nat,k1.length<=n-j*k1.length->j*k1.length+k1.length<=n:=by
   intro n hn
   rcases Nat.eq_zero_or_pos k1.length with h0|h0
   ·rw[h0];simp
   ·omega
  have ih:=a3i h (ks:=ks) (ls:=ls) d (w:=w) m (j+1) a2 b2;simp only[List.range'_succ,Op.eqItems,Sem.run_bind,h.part ks _ w (hle _ a3),h.part ls _ w (hle _ b3),Result.andThen_ok,h.eq d w _ _ a1 b1];rw[a3n (a:=ks.drop (j*k1.length)) (n:=k1.length),List.drop_drop,List.drop_drop,<-Nat.succ_mul]
  by_cases e:(ks.drop (j*k1.length)).take k1.length=(ls.drop (j*k1.length)).take k1.length
  ·simp only[e,decide_true,Bool.not_true,Bool.false_eq_true,if_false,ih,Bool.true_and]
  ·simp only[e,decide_false,Bool.not_false,if_true,Sem.run_pure,Bool.false_and]
theorem a0U {E:Bool} {e:TypeId} {k1:List KT} {ag:Bool} (h:a8d P e k1 ag) {ks:List KC} (n:Nat) {w:World}:∀(m j:Nat),o1 (List.replicate m k1).flatten (ks.drop (j*k1.length))=true->
  (forIn (List.range' j m) PUnit.unit fun(i:Nat) (_:PUnit)=>(do let s <-sizeOf e;let v <-Go.part e (ks.map KC.val).toArray (i*s);Instr.checkKey E (n+2) e v;pure (ForInStep.yield PUnit.unit):Sem (ForInStep PUnit))).run P w= .ok PUnit.unit w
 |0,j,h1=>by simp
 | m+1,j,h1=>by
  rw[List.replicate_succ,List.flatten_cons]at h1;obtain⟨a1,a2,a3⟩:=I2 h1;rw[List.drop_drop,<-Nat.succ_mul]at a2;rw[qx]at a3;have hle:j*k1.length+k1.length<=ks.length:=by
   rcases Nat.eq_zero_or_pos k1.length with h0|h0
   ·rw[h0];simp
   ·omega
  have ih:=a0U (E:=E) h (ks:=ks) n (w:=w) m (j+1) a2;simp only[List.range'_succ,List.forIn_cons,Sem.run_bind,h.size,Result.andThen_ok,h.part ks _ w hle,h.check E n w _ a1,Sem.run_pure];simpa using ih
structure c2D (P:Program) (k:TypeId) (kts:List KT):Prop where
 und:∃d,P.underlying k=some d
 check:∀(E:Bool) (w:World) (ks:List KC),o1 kts ks=true->(Instr.checkKey E 10000 k (.agg (ks.map KC.val).toArray)).run P w= .ok () w
 eq:∀(w:World) (ks ls:List KC),o1 kts ks=true->o1 kts ls=true->(Op.equal k (.agg (ks.map KC.val).toArray) (.agg (ls.map KC.val).toArray)).run P w= .ok (decide (ks=ls)) w
theorem a4i {k e:TypeId} {n:Nat} {k1:List KT} {ag:Bool} (hu:P.underlying k=some (.array n e)) (h:a8d P e k1 ag):c2D P k (List.replicate n k1).flatten:=by
 refine⟨⟨_,hu⟩,fun E w ks hf=>?_,fun w ks ls g1 g2=>?_⟩
 ·have:=a0U (E:=E) h (ks:=ks) 9997 (w:=w) n 0 (by simpa using hf);unfold Instr.checkKey;simp only[Sem.run_bind,run_underlying hu,Result.andThen_ok];simp only[Std.Legacy.Range.forIn_eq_forIn_range',Std.Legacy.Range.size,Nat.sub_zero,Nat.add_one_sub_one,Nat.div_one];exact(congrArg (fun(r:Result PUnit)=>r.andThen fun _ w'=>Sem.run P (pure ():Sem Unit) w') this).trans (by simp)
 ·obtain⟨i,i1,i2⟩:=h.info;have hc:P.cellsOf e=k1.length:=by simp[Program.cellsOf,i1,i2]
  have:=a3i h (ks:=ks) (ls:=ls) 9997 (w:=w) n 0 (by simpa using g1) (by simpa using g2);simp only[Op.equal,Op.maxDepth];rw[run_equalIn_array w 9999 _ _ hu i1,hc,List.range_eq_range'];simpa using this
def c5Y (P:Program) (t:TypeId):Option (List KT):=
 match P.underlying t with
 | some (.array n e)=>match a3y P e with
  |some k=>some (List.replicate n [k]).flatten
  |none=>match b7a P e with
   |some ks=>if (d6 P e).isAgg=true/\(d6 P e).size=ks.length then some (List.replicate n ks).flatten else none
   |none=>none
 |_=>none
theorem c2g {k:TypeId} {kts:List KT} (h:c5Y P k=some kts):c2D P k kts:=by
 unfold c5Y at h
 split at h
 ·rename_i n e hu
  split at h
  ·rename_i kt hk;simp only[qb]at h;subst h;exact a4i hu (a9K hk)
  ·split at h
   ·rename_i ks hs
    split at h
    ·rename_i ht;simp only[qb]at h;subst h;exact a4i hu (a7r hs ht)
    ·cases h
   ·cases h
 ·cases h
end
def c6k:TD->Option Value
 | .cell z=>some z
 | .agg z _=>some (.agg z.toArray)
 |_=>none
def a2r (P:Program) (t:TypeId):Option (Bool×List KT×Value):=
 match P.underlying t with
 | some (.map k e)=>match c6k (d6 P e)with
  | some z=>match a3y P k with
   |some kt=>some (false,[kt],z)
   | none=>match b7a P k with
    |some kts=>some (true,kts,z)
    |none=>match c5Y P k with
     |some kts=>some (true,kts,z)
     |none=>none
  |none=>none
 |_=>none
def s8:List (List KC×Value)->List KC->Option Value
 |[],_=>none
 |(k,v)::r,q=>if q=k then some v else s8 r q
def M9:List (List KC×Value)->List KC->Value->List (List KC×Value)
 |[],q,u=>[(q,u)]
 |(k,v)::r,q,u=>if q=k then(k,u)::r else(k,v)::M9 r q u
def b6M:AV->Option (Bool×List KC)
 | .v (.int k n)=>some (false,[.i k n])
 | .v (.bool b)=>some (false,[.b b])
 | .agg cs=>match kcs cs with
  |some ks=>some (true,ks)
  |none=>none
 |_=>none
section
variable {P:Program} {w:World}
theorem a1Z {S:Nat->Prop} {ρ:Nat->Option Loc} {L:Nat->Prop} {x:AV} {y:Value} {ag:Bool} {ks:List KC} (h:b6M x=some (ag,ks)) (hr:e8 w S ρ L x y):y=g9 ag ks:=by
 unfold b6M at h
 split at h
 ·simp only[qb,qr]at h;obtain⟨rfl,rfl⟩:=h;exact j5 hr
 ·simp only[qb,qr]at h;obtain⟨rfl,rfl⟩:=h;exact j5 hr
 ·split at h
  ·rename_i hk;simp only[qb,qr]at h;obtain⟨rfl,rfl⟩:=h;exact a9x hk hr
  ·cases h
 ·cases h
structure b7Q (P:Program) (t k e:TypeId) (ag:Bool) (kts:List KT) (z:Value):Prop where
 und:P.underlying t=some (.map k e)
 zero:∀w,(zeroValue e).run P w= .ok z w
 key:(ag=false/\∃kt,kts=[kt]/\a3y P k=some kt)∨(ag=true/\b7a P k=some kts)∨(ag=true/\c2D P k kts)
theorem J7 {t:TypeId} {ag:Bool} {kts:List KT} {z:Value} (h:a2r P t=some (ag,kts,z)):∃k e,b7Q P t k e ag kts z:=by
 unfold a2r at h
 split at h
 ·rename_i k e hu
  split at h
  ·rename_i z' htd;have hz:∀w,(zeroValue e).run P w= .ok z' w:=by
    intro w;unfold c6k at htd
    split at htd
    ·rename_i z0 htd0;simp only[qb]at htd;subst htd;obtain⟨i,d,h1,h2,_,_,_,h4,_,h6⟩:=a2j htd0;simp[zeroValue,typeInfo,h1,h4]
    ·rename_i z0 fs0 htd0;simp only[qb]at htd;subst htd;obtain⟨i,fa,h1,h2,h3,_⟩:=G9 htd0;simp[zeroValue,typeInfo,h1,h3]
    ·cases htd
   split at h
   ·rename_i kt hkt;simp only[qb,qr]at h;obtain⟨rfl,rfl,rfl⟩:=h;exact⟨k,e,hu,hz,Or.inl ⟨rfl,kt,rfl,hkt⟩⟩
   ·split at h
    ·rename_i kts' hsk;simp only[qb,qr]at h;obtain⟨rfl,rfl,rfl⟩:=h;exact⟨k,e,hu,hz,Or.inr (Or.inl ⟨rfl,hsk⟩)⟩
    ·split at h
     ·rename_i kts' hak;simp only[qb,qr]at h;obtain⟨rfl,rfl,rfl⟩:=h;exact⟨k,e,hu,hz,Or.inr (Or.inr ⟨rfl,c2g hak⟩)⟩
     ·cases h
  ·cases h
 ·cases h
theorem Q8 {t k e:TypeId} {ag:Bool} {kts:List KT} {z:Value} (hm:b7Q P t k e ag kts z) {ks:List KC} (hf:o1 kts ks=true) (E:Bool):(Instr.checkKey E 10000 k (g9 ag ks)).run P w= .ok () w:=by
 rcases hm.key with⟨rfl,kt,rfl,hkt⟩|⟨rfl,hsk⟩|⟨rfl,hak⟩
 ·obtain⟨_,_,_,hu⟩:=G5 hkt;obtain⟨c,rfl,hc⟩:=J8 hf;unfold Instr.checkKey;simp only[Sem.run_bind,run_underlying hu,Result.andThen,g9,Bool.false_eq_true,if_false,List.headD_cons]
  cases kt<;>cases c<;>simp[KC.val]
 ·simp only[g9,if_true];exact a0i hsk hf 9998
 ·simp only[g9,if_true];exact hak.check E w ks hf
theorem a6V {t k e:TypeId} {ag:Bool} {kts:List KT} {z:Value} (hm:b7Q P t k e ag kts z) {ks ls:List KC} (h1:o1 kts ks=true) (h2:o1 kts ls=true):(Op.equal k (g9 ag ks) (g9 ag ls)).run P w= .ok (decide (ks=ls)) w:=by
 rcases hm.key with⟨rfl,kt,rfl,hkt⟩|⟨rfl,hsk⟩|⟨rfl,hak⟩
 ·obtain⟨a,rfl,g1⟩:=J8 h1;obtain⟨b,rfl,g2⟩:=J8 h2;simp only[g9,Bool.false_eq_true,if_false,List.headD_cons];have:=C1 (w:=w) hkt 9999 g1 g2;simp only[Op.equal,Op.maxDepth,this,List.cons.injEq,and_true]
 ·simp only[g9,if_true];exact M5 (w:=w) hsk h1 h2 9998
 ·simp only[g9,if_true];exact hak.eq w ks ls h1 h2
def a4n:List (List KC×Value)->List KC->Nat->Option (Nat×Value)
 |[],_,_=>none
 |(k,v)::r,q,i=>if q=k then some (i,v)else a4n r q (i+1)
theorem b0W:∀(kvs:List (List KC×Value)) (q:List KC) (i:Nat),(a4n kvs q i).map (·.2)=s8 kvs q
 |[],_,_=>rfl
 |(k,v)::r,q,i=>by
  simp only[a4n,s8]
  split
  ·rfl
  ·exact b0W r q (i+1)
theorem a6x {t k e:TypeId} {ag:Bool} {kts:List KT} {z:Value} (hm:b7Q P t k e ag kts z) {ks:List KC} (h1:o1 kts ks=true):∀(es:List MapEntry) (kvs:List (List KC×Value)) (i:Nat),es.map (fun e=>(e.key,e.val))=kvs.map (fun p=>(g9 ag p.1,p.2))->(∀p∈kvs,o1 kts p.1=true)->
  (Instr.findAsking k (g9 ag ks) es i).run P w= .ok (a4n kvs ks i) w
 |[],kvs,i,h,_=>by
  have:kvs=[]:=by simpa using h.symm
  subst this;simp[Instr.findAsking,a4n]
 | x::es,kvs,i,h,hf=>by
  match kvs,h with
  |(q,v)::kvs,h=>
   simp only[List.map_cons,List.cons.injEq,qr]at h;obtain⟨⟨e1,e2⟩,h⟩:=h;simp only[Instr.findAsking,Sem.run_bind,e1,a6V hm h1 (hf (q,v) (by simp)),Result.andThen_ok,a4n]
   by_cases e:ks=q
   ·simp[e,e2]
   ·simp only[e,decide_false,Bool.false_eq_true,if_false];exact a6x hm h1 es kvs (i+1) h (fun p hp=>hf p (by simp[hp]))
theorem b0U {t k e:TypeId} {ag:Bool} {kts:List KT} {z:Value} (hm:b7Q P t k e ag kts z) {d:TypeDesc} (hd:P.underlying k=some d) {ks:List KC} (h1:o1 kts ks=true):∀(es:List MapEntry) (kvs:List (List KC×Value)) (i:Nat),es.map (fun e=>(e.key,e.val))=kvs.map (fun p=>(g9 ag p.1,p.2))->(∀p∈kvs,o1 kts p.1=true)->
  ∀r,Instr.findNow d (g9 ag ks) es i=some r->r=a4n kvs ks i
 |[],kvs,i,h,_=>by
  have:kvs=[]:=by simpa using h.symm
  subst this;intro r hr;simp only[Instr.findNow,qb]at hr;exact hr.symm
 | x :: es,kvs,i,h,hf=>by
  match kvs,h with
  | (q, v)::kvs,h=>
   simp only[List.map_cons,List.cons.injEq,qr]at h;obtain⟨⟨e1,e2⟩,h⟩:=h;intro r hr;have hq:=hf (q,v) (by simp);have hsame:∀b,Instr.sameNow d (g9 ag ks) (g9 ag q)=some b->b=decide (ks=q):=by
    intro b hb
    rcases hm.key with⟨rfl,kt,rfl,hkt⟩|⟨rfl,hsk⟩|⟨rfl,hak⟩
    ·obtain⟨_,_,_,hu⟩:=G5 hkt;rw[hd]at hu;simp only[qb]at hu;subst hu;obtain⟨a,rfl,g1⟩:=J8 h1;obtain⟨c,rfl,gq⟩:=J8 hq;simp only[g9,Bool.false_eq_true,if_false,List.headD_cons]at hb
     cases kt with
     | i kk=>
      cases a with
      | i k1 m=>
       cases c with
       |i k2 n=>
        simp only[KC.fits,decide_eq_true_eq]at g1 gq;subst g1 gq;simp only[KC.val,Instr.sameNow,if_true,qb]at hb;subst hb;simp only[List.cons.injEq,KC.i.injEq,true_and,and_true];exact qj.2 (by simp)
       |b y=>simp[KC.fits]at gq
      |b y=>simp[KC.fits]at g1
     | b=>
      cases a with
      |i k1 m=>simp[KC.fits]at g1
      | b x=>
       cases c with
       |i k2 n=>simp[KC.fits]at gq
       |b y=>
        simp only[KC.val,Instr.sameNow,qb]at hb;subst hb;simp only[List.cons.injEq,KC.b.injEq,and_true];exact qj.2 (by simp)
    ·simp only[g9,if_true]at hb
     cases d<;>simp[Instr.sameNow]at hb
    ·simp only[g9,if_true]at hb
     cases d<;>simp[Instr.sameNow]at hb
   simp only[Instr.findNow,e1]at hr;simp only[a4n]
   split at hr
   ·rename_i hs;have:=hsame _ hs;rw[if_pos (by simpa using this.symm)];simp only[qb]at hr;rw[<-hr,e2]
   ·rename_i hs;have:=hsame _ hs;rw[if_neg (by simpa using this.symm)];exact b0U hm hd h1 es kvs (i+1) h (fun p hp=>hf p (by simp[hp])) r hr
   ·cases hr
theorem a3T {t k e:TypeId} {ag:Bool} {kts:List KT} {z:Value} (hm:b7Q P t k e ag kts z) {ks:List KC} (h1:o1 kts ks=true) {es:List MapEntry} {kvs:List (List KC×Value)} (h:es.map (fun e=>(e.key,e.val))=kvs.map (fun p=>(g9 ag p.1,p.2))) (hf:∀p∈kvs,o1 kts p.1=true):
  (Instr.findKey k (g9 ag ks) es).run P w= .ok (a4n kvs ks 0) w:=by
 obtain⟨d,hd⟩:∃d,P.underlying k=some d:=by
  rcases hm.key with⟨_,kt,_,hkt⟩|⟨_,hsk⟩|⟨_,hak⟩
  ·exact⟨_,(G5 hkt).2.2.2⟩
  ·unfold b7a at hsk
   split at hsk
   ·rename_i fs hu;exact⟨_,hu⟩
   ·cases hsk
  ·exact hak.und
 unfold Instr.findKey;simp only[Sem.run_bind,run_underlying hd,Result.andThen_ok]
 cases hn:Instr.findNow d (g9 ag ks) es 0 with
 |some r=>simp only[Sem.run_pure];rw[b0U hm hd h1 es kvs 0 h hf r hn]
 |none=>exact a6x hm h1 es kvs 0 h hf
theorem a6f {t k e:TypeId} {ag:Bool} {kts:List KT} {z:Value} (hm:b7Q P t k e ag kts z) {ks:List KC} (h1:o1 kts ks=true) {b:Nat} {kvs:List (List KC×Value)} (hr:J6 w b ag kts kvs) (ok:Bool):
  (Instr.lookup t (.map (some b)) (g9 ag ks) ok).run P w= .ok (if ok then .tuple #[(s8 kvs ks).getD z, .bool (s8 kvs ks).isSome]else(s8 kvs ks).getD z) w:=by
 obtain⟨es,clock,hb,hes,hf,_⟩:=hr;have hfind:=a3T (w:=w) hm h1 hes hf;have hg:=b0W kvs ks 0;simp only[Instr.lookup,Sem.run_bind,run_underlying hm.und,Result.andThen_ok,MapKept.run_getObj_map hb,Sem.run_pure,Q8 hm h1,hfind]
 cases hk:a4n kvs ks 0 with
 |none=>
  rw[hk]at hg;simp only[Option.map_none]at hg;rw[<-hg]
  cases ok<;>simp[hm.zero]
 |some p=>
  rw[hk]at hg;simp only[Option.map_some]at hg;rw[<-hg]
  cases ok<;>simp
end
section
variable {P:Program} {o:Oper} {ev:Operand->AV} {H:Nat->Option n9} {N:Nat}
theorem p6.of_updB {r:Nat} {row:n9} {reads:List Nat}
  (h:∀(B S0:Nat->Prop) (a:Act) (w:World) (ρ:Nat->Option Loc) (L:Nat->Prop),WF B S0 w ρ L->
   (∀x∈o.op.operands,e8 w (Sx S0 ρ) ρ L (ev x) (a.eval x))->
   (∀r∈reads,∀row,H r=some row->∃l,ρ r=some l/\i7 w (Sx S0 ρ) ρ L l row)->
   ∃(l:Loc) (b:Nat) (ob:Obj),ρ r=some l/\l.b=some b/\(execOp a.eval o).run P w= .ok .skip {w with heap:=w.heap.setIfInBounds b ob}/\(∀c t s,w.heap[b]?≠some (Obj.cells c t s))/\
    i7 {w with heap:=w.heap.setIfInBounds b ob} (Sx S0 ρ) ρ L l row):
  p6 P o ev H N ⟨.any,[(r,some row)],reads⟩:=by
 intro B S0 a w ρ L hw hN hops hrd K Q hK;obtain⟨l,b,ob,hl,hb,hrun,hnc,n8⟩:=h B S0 a w ρ L hw hops hrd;have hsize:({w with heap:=w.heap.setIfInBounds b ob}:World).heap.size=w.heap.size:=by simp
 have hother:∀k,k≠b->({w with heap:=w.heap.setIfInBounds b ob}:World).heap[k]?=w.heap[k]?:=by
  intro k hk;simp[Ne.symm hk]
 have hp:a3D B S0 w ρ L N ⟨.any,[(r,some row)],reads⟩ {w with heap:=w.heap.setIfInBounds b ob} ρ undef:=
  {wf:=⟨hw.inj,fun r l b h1 h2=>by rw[hsize];exact hw.own r l b h1 h2,fun r l h1=>Or.inl (hw.given r l h1),fun b h=>by rw[hsize];exact hw.low b h,fun b h=>hw.new b (by rw[hsize]at h;exact h)⟩
   rep:= .pure _ _ (.any _)
   ups:=by
    intro r' o' hm;simp only[List.mem_singleton,qr]at hm;obtain⟨rfl,rfl⟩:=hm;exact⟨l,hl,n8.ext (qo _) (fun b _ hn=>⟨rfl,hn⟩) (fun r=>Or.inl) (fun r l _ hl=>hl) (fun _ _=>rfl)⟩
   others:=fun r _=>rfl
   only:=fun r l hl=>Or.inl hl
   ext:=⟨rfl,rfl,rfl,by omega,fun k hk hm=>hother k (by rintro rfl;exact hm ⟨r,l,some row,by simp,hl,hb⟩),fun k c t s hc=>by
    by_cases e:k=b
    ·subst e;exact absurd hc (hnc c t s)
    ·exact⟨c,t,s,(hother k e).trans hc,rfl⟩⟩}
 unfold Oper.wp;rw[hrun];exact hK _ _ _ hp
theorem b2T {t:TypeId} {ag:Bool} {kts:List KT} {z:Value} (ho:o.op= .makeMap t none) (hm:a2r P t=some (ag,kts,z)):p6 P o ev H N ⟨.mp N,[(N,some (.map ag kts []))],[]⟩:=by
 refine p6.of_new fun B S0 a w ρ L hw hN hops hrd=>?_;refine⟨.map (some w.heap.size), .map #[] 0,w,⟨some w.heap.size,0,0,0⟩,?_,rfl,rfl,rfl,rfl,fun b h=>by simpa using h.symm,?_⟩
 ·simp only[execOp,ho,Option.map_none,Instr.makeMap,Sem.run_bind]
  rfl
 ·rintro w' ρ' rfl rfl hk;refine⟨.mp _ _ (Or.inr rfl) rfl (fun l hl=>?_),?_⟩
  ·simp only[Loc.fresh,if_true,qb]at hl;subst hl;exact⟨_,rfl,rfl⟩
  ·exact⟨_,rfl, #[],0,x8 w _,rfl,by simp,by simp,by simp⟩
theorem b9O {w:World} {S:Nat->Prop} {ρ:Nat->Option Loc} {L:Nat->Prop} {r:Nat} {y:Value} {ag:Bool} {kts:List KT} {kvs:List (List KC×Value)} (h:e8 w S ρ L (.mp r) y) {l:Loc} (hl:ρ r=some l) (n8:i7 w S ρ L l (.map ag kts kvs)):
  ∃b,l.b=some b/\y= .map (some b)/\J6 w b ag kts kvs:=by
 obtain⟨b,hb,hm⟩:=n8
 cases h with
 |pure _ _ h=>cases h
 |mp _ _ h1 h2 h3=>
  obtain⟨b',hb',rfl⟩:=h3 l hl;rw[hb]at hb';simp only[qb]at hb';subst hb';exact⟨b,hb,rfl,hm⟩
theorem c3H {w:World} {S:Nat->Prop} {ρ:Nat->Option Loc} {L:Nat->Prop} {y:Value} {ag:Bool} {kts:List KT} {kvs:List (List KC×Value)} (h:e8 w S ρ L (.mpc ag kts kvs) y):∃b,y= .map (some b)/\J6 w b ag kts kvs:=by
 cases h with
 |pure _ _ h=>cases h with
  |mpc _ _ _ b hS hb h=>exact⟨b,rfl,h⟩
def b0g (H:Nat->Option n9):AV->Option (Bool×List KT×List (List KC×Value)×List Nat)
 | .mp r=>match H r with
  |some (.map ag kts kvs)=>some (ag,kts,kvs,[r])
  |_=>none
 | .mpc ag kts kvs=>some (ag,kts,kvs,[])
 |_=>none
theorem a9e {w:World} {S:Nat->Prop} {ρ:Nat->Option Loc} {L:Nat->Prop} {x:AV} {y:Value} {ag:Bool} {kts:List KT} {kvs:List (List KC×Value)} {rd:List Nat} (h:b0g H x=some (ag,kts,kvs,rd)) (hr:e8 w S ρ L x y)
  (hrd:∀r∈rd,∀row,H r=some row->∃l,ρ r=some l/\i7 w S ρ L l row):∃b,y= .map (some b)/\J6 w b ag kts kvs:=by
 unfold b0g at h
 split at h
 ·rename_i r
  split at h
  ·rename_i hH;simp only[qb,qr]at h;obtain⟨rfl,rfl,rfl,rfl⟩:=h;obtain⟨l,hl,n8⟩:=hrd r (by simp) _ hH;obtain⟨b,_,hy,hm⟩:=b9O hr hl n8;exact⟨b,hy,hm⟩
  ·cases h
 ·simp only[qb,qr]at h;obtain⟨rfl,rfl,rfl,rfl⟩:=h;exact c3H hr
 ·cases h
theorem b4n {t:TypeId} {x q:Operand} {ok:Bool} {ag:Bool} {kts:List KT} {kvs:List (List KC×Value)} {ks:List KC} {z:Value} {rd:List Nat} (ho:o.op= .lookup t x q ok) (hm:a2r P t=some (ag,kts,z)) (hx:b0g H (ev x)=some (ag,kts,kvs,rd)) (hq:b6M (ev q)=some (ag,ks)) (hf:o1 kts ks=true):
  p6 P o ev H N ⟨if ok then .tup [.v ((s8 kvs ks).getD z), .v (.bool (s8 kvs ks).isSome)]else .v ((s8 kvs ks).getD z),[],rd⟩:=by
 obtain⟨k,e,hmk⟩:=J7 hm;refine p6.of_pure fun B S0 a w ρ L hw hops hrd=>?_;have hrx:=hops x (by simp[ho,Op.operands]);have hrq:=hops q (by simp[ho,Op.operands]);obtain⟨b,hy,hrep⟩:=a9e hx hrx hrd;have hkq:=a1Z hq hrq;refine⟨if ok then .tuple #[(s8 kvs ks).getD z, .bool (s8 kvs ks).isSome]else(s8 kvs ks).getD z,Or.inl (by simp only[execOp,ho,hy,hkq,Sem.run_bind,a6f hmk hf hrep ok,Result.andThen_ok,Sem.run_pure]),?_⟩
 cases ok with
 | true=>exact .tup [_,_] [_,_] rfl (by
   intro i c y h1 h2
   match i with
   |0=>simp at h1 h2;subst h1 h2;exact .pure _ _ (.v _)
   |1=>simp at h1 h2;subst h1 h2;exact .pure _ _ (.v _)
   |i+2=>simp at h1)
 |false=>exact .pure _ _ (.v _)
theorem a5L {t:TypeId} {x:Operand} {ag:Bool} {kts:List KT} {kvs:List (List KC×Value)} {rd:List Nat} (ho:o.op= .call {callee:= .builtin .len,args:= #[x],argTypes:= #[t]}) (hm:(a2r P t).isSome=true) (hx:b0g H (ev x)=some (ag,kts,kvs,rd)):
  p6 P o ev H N ⟨.v (.int .i64 kvs.length),[],rd⟩:=by
 obtain⟨q,hq⟩:=Option.isSome_iff_exists.1 hm;obtain⟨k,e,hmk⟩:=J7 (ag:=q.1) (kts:=q.2.1) (z:=q.2.2) hq;refine p6.of_pure fun B S0 a w ρ L hw hops hrd=>?_;have hrx:=hops x (by simp[ho,Op.operands,Call.operands]);obtain⟨b,hy,es,clock,hb,hes,_⟩:=a9e hx hrx hrd;have hlen:es.size=kvs.length:=by have:=congrArg List.length hes;simpa using this
 refine⟨_,Or.inl ?_, .pure _ _ (.v _)⟩;simp only[execOp,ho,resolve,invoke,builtin,hy];simp[invoke,builtin,Builtin.len_,hy,run_underlying hmk.und,MapKept.run_getObj_map hb,hlen,goInt]
theorem a7u:∀(kvs:List (List KC×Value)) (q:List KC) (i:Nat) (u:Value),M9 kvs q u=match a4n kvs q i with
  |some (j,_)=>kvs.modify (j-i) fun p=>(q,u)
  |none=>kvs++[(q,u)]
 |[],q,i,u=>rfl
 | (k,v)::r,q,i,u=>by
  simp only[M9,a4n]
  split
  ·rename_i e;subst e;simp
  ·have ih:=a7u r q (i+1) u;have hge:∀(r:List (List KC×Value)) (i:Nat) j v,a4n r q i=some (j,v)->i<=j:=by
    intro r
    induction r with
    |nil=>intro i j v h;cases h
    |cons p r ih=>
     intro i j v h;simp only[a4n]at h
     split at h
     ·simp only[qb,qr]at h;omega
     ·have:=ih (i+1) j v h;omega
   cases hk:a4n r q (i+1)with
   |none=>rw[hk]at ih;simp[ih]
   |some p=>
    obtain⟨j,v'⟩:=p;rw[hk]at ih;have:=hge r (i+1) j v' hk;simp only[ih];rw[show j-i=(j-(i+1))+1 by omega]
    rfl
theorem a1O:∀(kvs:List (List KC×Value)) (q:List KC) (i j:Nat) (v:Value),a4n kvs q i=some (j,v)->i<=j/\kvs[j-i]?=some (q,v)
 |[],q,i,j,v,h=>by cases h
 |(k,u)::r,q,i,j,v,h=>by
  simp only[a4n]at h
  split at h
  ·rename_i e;simp only[qb,qr]at h;obtain⟨rfl,rfl⟩:=h;subst e;simp
  ·obtain⟨h1,h2⟩:=a1O r q (i+1) j v h;refine⟨by omega,?_⟩;rw[show j-i=(j-(i+1))+1 by omega,List.getElem?_cons_succ];exact h2
theorem a5g (ks:List KC) (ag:Bool):Instr.sameBits 10000 (g9 ag ks) (g9 ag ks)=true:=by
 have hv:∀n (c:KC),Instr.sameBits n c.val c.val=true:=by
  intro n c
  cases c<;>cases n<;>simp[KC.val,Instr.sameBits]
 cases ag with
 | true=>
  simp only[g9,if_true,Instr.sameBits];simp only[beq_self_eq_true,Bool.true_and,qn];intro p hp;have hz:∀(l:List Value) p,p∈l.zip l->p.1=p.2/\p.1∈l:=by
   intro l
   induction l with
   |nil=>intro p h;simp at h
   |cons a l ih=>
    intro p h;simp only[List.zip_cons_cons,List.mem_cons]at h
    rcases h with rfl|h
    ·simp
    ·obtain⟨h1,h2⟩:=ih p h;exact⟨h1,by simp[h2]⟩
  obtain⟨h1,h2⟩:=hz _ p (by simpa using hp);simp only[List.mem_map]at h2;obtain⟨c,_,h2⟩:=h2;obtain⟨p1,p2⟩:=p;simp only at h1 h2;subst h1 h2;exact hv 9999 c
 |false=>exact hv 10000 _
theorem a3f {t:TypeId} {x q v:Operand} {ag:Bool} {kts:List KT} {kvs:List (List KC×Value)} {ks:List KC} {z u:Value} {r:Nat} (ho:o.op= .mapUpdate t x q v∨o.op= .insert t x q v) (hm:a2r P t=some (ag,kts,z)) (hx:ev x= .mp r) (hH:H r=some (.map ag kts kvs)) (hq:b6M (ev q)=some (ag,ks)) (hf:o1 kts ks=true) (hv:ev v= .v u):
  p6 P o ev H N ⟨.any,[(r,some (.map ag kts (M9 kvs ks u)))],[r]⟩:=by
 obtain⟨k,e,hmk⟩:=J7 hm;refine p6.of_updB fun B S0 a w ρ L hw hops hrd=>?_;have hrx:=hops x (by rcases ho with ho|ho<;>simp[ho,Op.operands]);have hrq:=hops q (by rcases ho with ho|ho<;>simp[ho,Op.operands]);have hrv:=hops v (by rcases ho with ho|ho<;>simp[ho,Op.operands]);rw[hx]at hrx;rw[hv]at hrv;have hu:=j5 hrv;have hkq:=a1Z hq hrq;obtain⟨l,hl,n8⟩:=hrd r (by simp) _ hH;obtain⟨b,hb,hy,es,clock,hbl,hes,hfit,hbn,hbc⟩:=b9O hrx hl n8;have hfind:=a3T (w:=w) hmk hf hes hfit;have hlt:b<w.heap.size:=(Array.getElem?_eq_some_iff.1 hbl).1;have hlen:es.size=kvs.length:=by have:=congrArg List.length hes;simpa using this
 have p9:=a7u kvs ks 0 u
 cases hk:a4n kvs ks 0 with
 | none=>
  rw[hk]at p9 hfind;simp only at p9;refine⟨l,b, .map (es.push {key:=g9 ag ks,val:=u,born:=clock}) (clock+1),hl,hb,?_,(by intro c t s h;rw[hbl]at h;simp at h),b,hb,es.push {key:=g9 ag ks,val:=u,born:=clock},clock+1,by simp[hlt],?_,?_,?_,?_⟩
  ·rcases ho with ho|ho<;>simp only[execOp,ho,hy,hkq,hu,Instr.mapUpdate,Sem.run_bind,run_underlying hmk.und,Result.andThen_ok,MapKept.run_getObj_map hbl,Q8 hmk hf,hfind,MapKept.run_setObj_map _ hbl,Sem.run_pure]
  ·rw[p9];simp only[Array.toList_push,List.map_append,hes,List.map_cons,List.map_nil]
  ·rw[p9];intro p hp;simp only[List.mem_append,List.mem_singleton]at hp
   rcases hp with hp|rfl
   ·exact hfit p hp
   ·exact hf
  ·simp only[Array.toList_push,List.map_append,List.map_cons,List.map_nil];rw[List.nodup_append];refine⟨hbn,by simp,fun x hx y hy'=>?_⟩;simp only[List.mem_singleton]at hy';subst hy';obtain⟨e,he,rfl⟩:=List.mem_map.1 hx;have:=hbc e he;omega
  ·intro e he;simp only[Array.toList_push,List.mem_append,List.mem_singleton]at he
   rcases he with he|rfl
   ·have:=hbc e he;omega
   ·simp
 | some jv=>
  obtain⟨j,v0⟩:=jv;rw[hk]at p9 hfind;simp only[Nat.sub_zero]at p9;obtain⟨_,hjk⟩:=a1O kvs ks 0 j v0 hk;simp only[Nat.sub_zero]at hjk;have hje:∃e0,es[j]?=some e0/\e0.key=g9 ag ks:=by
   have h1:(es.toList.map (fun e=>(e.key,e.val)))[j]?=some (g9 ag ks,v0):=by rw[hes];simp[hjk]
   simp only[qe,qf,qr]at h1;obtain⟨e0,h1,h2,_⟩:=h1;exact⟨e0,by simpa using h1,h2⟩
  obtain⟨e0,he0,hke⟩:=hje;refine⟨l,b, .map (es.modify j fun e=>{e with key:=g9 ag ks,val:=u}) clock,hl,hb,?_,(by intro c t s h;rw[hbl]at h;simp at h),b,hb,es.modify j fun e=>{e with key:=g9 ag ks,val:=u},clock,by simp[hlt],?_,?_,?_,?_⟩
  ·have hstay:(Instr.keyThatStays (g9 ag ks) (g9 ag ks)).run P w= .ok (g9 ag ks) w:=by simp[Instr.keyThatStays,a5g]
   rcases ho with ho|ho<;>simp only[execOp,ho,hy,hkq,hu,Instr.mapUpdate,Sem.run_bind,run_underlying hmk.und,Result.andThen_ok,MapKept.run_getObj_map hbl,Q8 hmk hf,hfind,he0,Option.map_some,Option.getD_some,hke,hstay,MapKept.run_setObj_map _ hbl,Sem.run_pure]
  ·rw[p9];apply List.ext_getElem?;intro i;have hi:=congrArg (fun l=>l[i]?) hes;simp only[qe]at hi ⊢;simp only[Array.toList_modify,List.getElem?_modify]
   by_cases hij:j=i
   ·subst hij;simp only[if_true,Option.map_map];have h1:es.toList[j]?=some e0:=by simpa using he0
    rw[h1,hjk];simp
   ·simp only[hij,if_false];simpa using hi
  ·rw[p9];intro p hp;obtain⟨i,hi⟩:=List.getElem?_of_mem hp;rw[List.getElem?_modify]at hi
   cases hki:kvs[i]? with
   |none=>rw[hki]at hi;cases hi
   |some p0=>
    rw[hki]at hi;have hi':(if j=i then(ks,u)else p0)=p:=by simpa using hi
    rw[<-hi']
    split
    ·exact hf
    ·exact hfit p0 (qd hki)
  ·have:(es.modify j fun e=>{e with key:=g9 ag ks,val:=u}).toList.map (·.born)=es.toList.map (·.born):=by
    apply List.ext_getElem?;intro i;simp only[Array.toList_modify,qe,List.getElem?_modify]
    split<;>cases es.toList[i]?<;>rfl
   rw[this];exact hbn
  ·intro e he;simp only[Array.toList_modify]at he;obtain⟨i,hi⟩:=List.getElem?_of_mem he;rw[List.getElem?_modify]at hi
   cases hki:es.toList[i]? with
   |none=>rw[hki]at hi;cases hi
   |some e1=>
    rw[hki]at hi;have hb1:=hbc e1 (qd hki);have hi':(if j=i then {e1 with key:=g9 ag ks,val:=u}else e1)=e:=by simpa using hi
    rw[<-hi']
    split<;>exact hb1
theorem b9k {t:TypeId} {x:Operand} {ag:Bool} {kts:List KT} {kvs:List (List KC×Value)} {z:Value} (ho:o.op= .range t x) (hm:a2r P t=some (ag,kts,z)) (hx:ev x= .mpc ag kts kvs):p6 P o ev H N ⟨.ptr N 0 0,[(N,some (.itr ag kts kvs none))],[]⟩:=by
 obtain⟨k,e,hmk⟩:=J7 hm;refine p6.of_new fun B S0 a w ρ L hw hN hops hrd=>?_;have hrx:=hops x (by simp[ho,Op.operands]);rw[hx]at hrx;have key:∀y,e8 w (Sx S0 ρ) ρ L (.mpc ag kts kvs) y->∃mb,y= .map (some mb)/\¬Sx S0 ρ mb/\mb<w.heap.size/\J6 w mb ag kts kvs:=by
  intro y h
  cases h with
  |pure _ _ h=>cases h with
   |mpc _ _ _ b hS hb h=>exact⟨b,rfl,hS,hb,h⟩
 obtain⟨mb,hy,hS,hmb,es,clock,hb,hes,hfit,hbn,hbc⟩:=key _ hrx;refine⟨.pointer (some ⟨w.heap.size,0,none⟩), .mapIter (some mb) clock #[] clock,w,⟨some w.heap.size,0,0,0⟩,?_,rfl,rfl,rfl,rfl,fun b h=>by simpa using h.symm,?_⟩
 ·simp only[execOp,ho,hy,Sem.run_bind,run_range_map w t k e mb es clock hmk.und hb,Result.andThen_ok,Sem.run_pure]
 ·rintro w' ρ' rfl rfl hk;refine⟨.ptr _ _ _ _ (Or.inr rfl) rfl (fun l hl=>?_),?_⟩
  ·simp only[Loc.fresh,if_true,qb]at hl;subst hl;exact⟨_,rfl,rfl⟩
  ·refine⟨_,rfl,rfl,mb,clock, #[],clock,es,clock,x8 w _,?_,by simp;omega,?_,⟨qo _,qo _⟩,hbn,hbc,?_,hfit,by simp⟩
   ·rintro(h|⟨r,l,h1,h2⟩)
    ·exact hS (Or.inl h)
    ·simp only[Loc.fresh]at h1
     split at h1
     ·simp only[qb]at h1;subst h1;simp only[qb]at h2;omega
     ·exact hS (Or.inr ⟨r,l,h1,h2⟩)
   ·show(w.heap.push _)[mb]?=_;rw[Array.getElem?_push,if_neg (by omega)];exact hb
   ·rw[<-hes];have:leftOf es #[]=es:=by
     unfold leftOf;exact Array.filter_eq_self.2 (by simp)
    rw[this]
theorem b8g {x:Operand} {r:Nat} {ag:Bool} {kts:List KT} {left:List (List KC×Value)} {p:List KC×Value} (ho:o.op= .entry x) (hx:ev x= .ptr r 0 0) (hH:H r=some (.itr ag kts left (some p))):p6 P o ev H N ⟨.tup [.v (g9 ag p.1), .v p.2],[],[r]⟩:=by
 refine p6.of_pure fun B S0 a w ρ L hw hops hrd=>?_;have hr:=hops x (by simp[ho,Op.operands]);obtain⟨l,hl,b,hb,ho0,mb,since,seen,c0,es,clock,h1,h2,h3,h4,h5,h6,h7,h8,h9,h10⟩:=hrd r (by simp) _ hH;obtain⟨e,he,seen',rfl,rfl,hk,hv⟩:=h10 p rfl;rw[hx]at hr;have hy:a.eval x= .pointer (some ⟨b,0,none⟩):=by
  cases hr with
  |pure _ _ h=>cases h
  |ptr _ _ _ y q1 q2 q3=>
   obtain⟨b',hb',hy⟩:=q3 l hl;rw[hb]at hb';simp only[qb]at hb';subst hb';rw[hy,ho0];simp
 refine⟨.tuple #[e.key,e.val],Or.inl ?_,?_⟩
 ·simp only[execOp,ho,hy,Sem.run_bind,run_entry_at w b mb since seen' es c0 e h1 h4 he h6,Result.andThen_ok,Sem.run_pure]
 ·rw[hk,hv];refine .tup _ [g9 ag p.1,p.2] rfl (fun i c u k1 k2=>?_)
  match i with
  |0=>simp at k1 k2;subst k1 k2;exact .pure _ _ (.v _)
  |1=>simp at k1 k2;subst k1 k2;exact .pure _ _ (.v _)
  |i+2=>simp at k1
def Q6 (P:Program) (t:TypeId):Bool:=match P.underlying t with
 |some (.slice _)=>true
 |_=>false
def b3Z (P:Program) (t:TypeId):Bool:=match P.underlying t with
 |some (.pointer _)=>true
 |_=>false
theorem a3r {op:BinOp} {t ty:TypeId} {x y:Operand} {sz:Nat} {els:List (List AV)} {c:Bool} (ho:o.op= .binOp op t x y ty) (hop:op= .eql/\c=false∨op= .neq/\c=true) (ht:Q6 P t=true) (hx:ev x= .lst sz els) (hy:ev y= .v (.slice none 0 0)) (hne:els≠[]):
  p6 P o ev H N ⟨.v (.bool c),[],[]⟩:=by
 obtain⟨e,hu⟩:∃e,P.underlying t=some (.slice e):=by
  unfold Q6 at ht
  split at ht
  ·rename_i e he;exact⟨e,he⟩
  ·cases ht
 refine p6.of_pure fun B S0 a w ρ L hw hops hrd=>⟨.bool c,Or.inl ?_, .pure _ _ (.v _)⟩;have h1:=hops x (by simp[ho,Op.operands]);have h2:=hops y (by simp[ho,Op.operands]);rw[hx]at h1;rw[hy]at h2;obtain⟨ad,cap,e1,_,h3⟩:=a0b (Or.inl rfl) h1;have e2:=j5 h2;obtain⟨b,off,vs,rfl,_⟩:=h3.resolve_left hne;have hq:(Op.equal t (.slice (some ⟨b,off,none⟩) els.length cap) (.slice none 0 0)).run P w= .ok false w:=by
  show(Op.equalIn (Op.maxDepth-1+1) t _ _).run P w=_;simp[Op.equalIn,run_underlying hu]
 rcases hop with⟨rfl,rfl⟩|⟨rfl,rfl⟩<;>simp[execOp,ho,e1,e2,eqGuard,binOp,hq]
theorem b2Q {t ty:TypeId} {x y:Operand} {n c:Nat} (ho:o.op= .binOp .eql t x y ty) (ht:Q6 P t=true) (hx:ev x= .v (.slice none n c)) (hy:ev y= .v (.slice none 0 0)):p6 P o ev H N ⟨.v (.bool true),[],[]⟩:=by
 obtain⟨e,hu⟩:∃e,P.underlying t=some (.slice e):=by
  unfold Q6 at ht
  split at ht
  ·rename_i e he;exact⟨e,he⟩
  ·cases ht
 refine p6.of_pure fun B S0 a w ρ L hw hops hrd=>⟨.bool true,Or.inl ?_, .pure _ _ (.v _)⟩;have h1:=hops x (by simp[ho,Op.operands]);have h2:=hops y (by simp[ho,Op.operands]);rw[hx]at h1;rw[hy]at h2;have e1:=j5 h1;have e2:=j5 h2;have hq:(Op.equal t (.slice none n c) (.slice none 0 0)).run P w= .ok true w:=by
  show(Op.equalIn (Op.maxDepth-1+1) t _ _).run P w=_;simp[Op.equalIn,run_underlying hu]
 simp[execOp,ho,e1,e2,eqGuard,binOp,hq]
theorem a0B {op:BinOp} {t ty:TypeId} {x y:Operand} {c:Bool} (ho:o.op= .binOp op t x y ty) (hop:op= .eql/\c=false∨op= .neq/\c=true) (ht:b3Z P t=true) (hx:(∃cs,ev x= .iptr cs)∨∃cs,ev x= .vptr cs) (hy:ev y= .v (.pointer none)):
  p6 P o ev H N ⟨.v (.bool c),[],[]⟩:=by
 obtain⟨e,hu⟩:∃e,P.underlying t=some (.pointer e):=by
  unfold b3Z at ht
  split at ht
  ·rename_i e he;exact⟨e,he⟩
  ·cases ht
 refine p6.of_pure fun B S0 a w ρ L hw hops hrd=>⟨.bool c,Or.inl ?_, .pure _ _ (.v _)⟩;have h1:=hops x (by simp[ho,Op.operands]);have h2:=hops y (by simp[ho,Op.operands]);rw[hy]at h2;have e2:=j5 h2;obtain⟨b,off,e1⟩:∃b off,a.eval x= .pointer (some ⟨b,off,none⟩):=by
  rcases hx with⟨cs,hx⟩|⟨cs,hx⟩<;>rw[hx]at h1
  ·obtain⟨b,off,vs,h,_⟩:=U0 h1;exact⟨b,off,h⟩
  ·obtain⟨b,off,vs,h,_⟩:=y9 h1;exact⟨b,off,h⟩
 have hq:(Op.equal t (.pointer (some ⟨b,off,none⟩)) (.pointer none)).run P w= .ok false w:=by
  show(Op.equalIn (Op.maxDepth-1+1) t _ _).run P w=_;simp[Op.equalIn,run_underlying hu]
 rcases hop with⟨rfl,rfl⟩|⟨rfl,rfl⟩<;>simp[execOp,ho,e1,e2,eqGuard,binOp,hq]
theorem a5E {op:BinOp} {t ty:TypeId} {x y:Operand} {c:Bool} {r i off sz:Nat} {es:List (List AV)} (ho:o.op= .binOp op t x y ty) (hop:op= .eql/\c=false∨op= .neq/\c=true) (ht:b3Z P t=true) (hx:ev x= .ptr r i off) (hy:ev y= .v (.pointer none)) (hH:H r=some (.els sz es)):
  p6 P o ev H N ⟨.v (.bool c),[],[r]⟩:=by
 obtain⟨e,hu⟩:∃e,P.underlying t=some (.pointer e):=by
  unfold b3Z at ht
  split at ht
  ·rename_i e he;exact⟨e,he⟩
  ·cases ht
 refine p6.of_pure fun B S0 a w ρ L hw hops hrd=>⟨.bool c,Or.inl ?_, .pure _ _ (.v _)⟩;have h1:=hops x (by simp[ho,Op.operands]);have h2:=hops y (by simp[ho,Op.operands]);rw[hy]at h2;have e2:=j5 h2;obtain⟨l,hl,_⟩:=hrd r (by simp) _ hH;rw[hx]at h1;obtain⟨b,off',e1⟩:∃b off,a.eval x= .pointer (some ⟨b,off,none⟩):=by
  cases h1 with
  |pure _ _ h=>cases h
  |ptr _ _ _ y h1 h2 h3=>
   obtain⟨b,_,hy⟩:=h3 l hl;exact⟨b,_,hy⟩
 have hq:(Op.equal t (.pointer (some ⟨b,off',none⟩)) (.pointer none)).run P w= .ok false w:=by
  show(Op.equalIn (Op.maxDepth-1+1) t _ _).run P w=_;simp[Op.equalIn,run_underlying hu]
 rcases hop with⟨rfl,rfl⟩|⟨rfl,rfl⟩<;>simp[execOp,ho,e1,e2,eqGuard,binOp,hq]
end
end Go.AM
namespace Go.AM
def ρ1 (l:Loc):Nat->Option Loc:=fun r=>if r=0 then some l else none
def I7 (P:Program) (f:FuncId) (args:List AV) (i k sz:Nat) (es:List (List AV)):Prop:=
 (∀ (w:World) (vs:Array Value),(callFunc f vs).run P w= .ok (.enter f vs) w)/\J5 es=true/\
  ∀ (S0:Nat->Prop) (w:World) (vs:List Value),(∀b,S0 b->b<w.heap.size)->args.length=vs.length->(∀(i:Nat) c x,args[i]?=some c->vs[i]?=some x->r8 w S0 c x)->
   Calls P f vs.toArray w fun e w'=>∃v l b,e= .returned v/\l.b=some b/\w.heap.size<=b/\b<w'.heap.size/\Ext (fun _=>False) w w'/\
    e8 w' (Sx S0 (ρ1 l)) (ρ1 l) (fun r=>r=0) (.row 0 i k) v/\i7 w' (Sx S0 (ρ1 l)) (ρ1 l) (fun r=>r=0) l (.els sz es)
section
variable {P:Program} {o:Oper} {ev:Operand->AV} {H:Nat->Option n9} {N:Nat}
theorem c4F {f:FuncId} {raw:List AV} {rd:List Nat} {i k sz:Nat} {es:List (List AV)} (hop:U6 P o ev H f raw rd) (h:I7 P f (raw.map (frz H 9)) i k sz es) (hn:raw.all (AV.noRef 2)=true):
  p6 P o ev H N ⟨.row N i k,[(N,some (.els sz es))],rd⟩:=by
 intro B S0 a w ρ L hw hN hops hrd K Q hK
 replace hN:¬L N:=hN N (qo _) ⟨some (.els sz es),by simp⟩
 obtain⟨hcf,hplain,hcall⟩:=h;have hlow:∀b,Sx S0 ρ b->b<w.heap.size:=by
  rintro b (h1|⟨r,l,h1,h2⟩)
  ·exact hw.low b h1
  ·exact(hw.own r l b h1 h2).1
 obtain⟨vs,hl,hreps,hrun⟩:=hop B S0 a w ρ L hw hops hrd;unfold Oper.wp;rw[hrun,hcf,Oper.upon_enter];refine(hcall (Sx S0 ρ) w vs hlow (by simp[hl]) (fun i c y h1 h2=>by
  simp only[qe,qf]at h1;obtain⟨c',h1,rfl⟩:=h1;exact a9o hlow (qn.1 hn c' (qd h1)) (hreps i c' y h1 h2))).mono fun e w' he=>?_
 obtain⟨v,l,b,rfl,hb,hb1,hb2,hext,hrep,n8⟩:=he;have hwf:=a1D hw hN l (w':=w') hext.size (fun b' hb'=>by rw[hb]at hb';simp only[qb]at hb';subst hb';exact⟨hb1,hb2⟩);have hSx:∀c,Sx S0 (Loc.fresh ρ N l) c->Sx (Sx S0 ρ) (ρ1 l) c:=by
  rintro c (h1|⟨r,l',h1,h2⟩)
  ·exact Or.inl (Or.inl h1)
  ·simp only[Loc.fresh]at h1
   split at h1
   ·simp only[qb]at h1;subst h1;exact Or.inr ⟨0,l,by simp[ρ1],h2⟩
   ·exact Or.inl (Or.inr ⟨r,l',h1,h2⟩)
 have hLL:∀r,(L r∨r=N)->nL L ⟨.row N i k,[(N,some (.els sz es))],rd⟩ r:=by
  rintro r (h1|rfl)
  ·exact Or.inl h1
  ·exact Or.inr ⟨some (.els sz es),by simp⟩
 refine hK v w' (Loc.fresh ρ N l) {wf:=hwf.more hLL,rep:= ?_,ups:= ?_,others:= ?_,only:= ?_,ext:=hext.mono (fun _ _ h=>h.elim)}
 ·cases hrep with
  |pure _ _ h=>cases h
  |row _ _ _ _ h1 h2 h3=>
   refine .row _ _ _ _ (hLL _ (Or.inr rfl)) h2 (fun l' hl'=>?_);simp only[Loc.fresh,if_true,qb]at hl';subst hl';exact h3 l (by simp[ρ1])
 ·intro r o' hm;simp only[List.mem_singleton,qr]at hm;obtain⟨rfl,rfl⟩:=hm;refine⟨l,by simp[Loc.fresh],?_⟩;obtain⟨q1,q2,q3,q4⟩:=n8;refine⟨q1,q2,q3,fun c hc=>?_⟩;obtain⟨cs,t,p1,p2,p3,p4⟩:=q4 c hc;refine⟨cs,t,p1,p2,p3,fun j av hj=>?_⟩;obtain⟨y,g1,g2,g3⟩:=p4 j av hj;refine⟨y,g1,g2,?_⟩;have hmem:=qd hj;rw[List.mem_flatten]at hmem;obtain⟨el,hel,hcel⟩:=hmem;simp only[J5,qn]at hplain;exact .pure _ _ ((B7 2 av y (hplain el hel av hcel) g3).ext (qo _) (fun c _ hnc=>⟨rfl,fun h=>hnc (hSx c h)⟩))
 ·intro r hr;simp only[Loc.fresh];rw[if_neg];intro e;subst e;exact hr _ (by simp;rfl)
 ·intro r l' h1;simp only[Loc.fresh]at h1
  split at h1
  ·rename_i e;simp only[qb]at h1;subst h1;exact Or.inr ⟨Nat.le_of_eq e.symm,⟨some (.els sz es),by simp[e]⟩,fun c hc=>Or.inl (by rw[hb]at hc;simp only[qb]at hc;omega)⟩
  ·exact Or.inl h1
theorem a4l {t tn e:TypeId} {x y:Operand} {sz:Nat} {k kn:IntKind} {n:Int} (ho:o.op= .call {callee:= .builtin .append,args:= #[x,y],argTypes:= #[t,tn]})
  (ht:d6 P t= .slice e) (htn:a3y P tn=some (.i kn)) (he:(d6 P e).size=sz) (hsz:sz≠0) (hx:ev x= .v (.slice none 0 0)) (hy:ev y= .v (.int k n)) (hn:1<=n) (hbig:n.toNat*(P.bytesOf e+1)<=140737488355328):
  p6 P o ev H N ⟨.row N 0 n.toNat,[(N,some (.els sz (List.replicate n.toNat ((d6 P e).zero.map .v))))],[]⟩:=by
 obtain⟨info,q1,q2,_⟩:=o6 ht;have hbad:d6 P e≠ .bad:=by intro h;rw[h]at he;exact hsz he.symm
 obtain⟨_,_,_,hun⟩:=G5 htn;simp only at hun;refine p6.of_new fun B S0 a w ρ L hw hN hops _=>?_;obtain⟨ie,hie,hie2,hie3⟩:=X5 (P:=P) (t:=e) (w:=w) hbad;obtain⟨z,hz⟩:=Option.isSome_iff_exists.1 hie3;obtain⟨z',r1,hzc,hzl,hz1⟩:=a0F (P:=P) (t:=e) (w:=w) hbad;have hzz:(zeroValue e).run P w= .ok z w:=by simp[zeroValue,typeInfo,hie,hz]
 rw[hzz]at r1;simp only[Result.ok.injEq]at r1;obtain⟨rfl,_⟩:=r1;have hzsz:z.cells.size=sz:=by rw[<-Array.length_toList,hzc,hzl,he]
 have hbytes:P.bytesOf e=ie.bytes:=by simp[Program.bytesOf,hie]
 rw[Nat.mul_add,Nat.mul_one,hbytes]at hbig;have hxr:=hops x (by simp[ho,Op.operands,Call.operands]);have hyr:=hops y (by simp[ho,Op.operands,Call.operands]);rw[hx]at hxr;rw[hy]at hyr;have hxv:=j5 hxr;have hyv:=j5 hyr;obtain⟨m,rfl⟩:∃m:Nat,n=m:=⟨n.toNat,by omega⟩;simp only[Int.toNat_natCast]at hbig ⊢;have hm:0<m:=by omega
 have hrun:=Go.Lib.run_append_nil_zeros (P:=P) w t tn o.type e ie z k kn q2 hun hie hz m hm (by omega) (by omega) (by omega);have hC:=grownCap_ge w m 0 e;refine⟨.slice (some ⟨w.heap.size,0,none⟩) m (grownCap w m 0 e), .cells (Builtin.zeroCells z.cells m++Builtin.zeroCells z.cells (grownCap w m 0 e-m)) e,w.drew,
  ⟨some w.heap.size,0,sz,(Builtin.zeroCells z.cells m++Builtin.zeroCells z.cells (grownCap w m 0 e-m)).size⟩,?_,rfl,rfl,rfl,rfl,?_,?_⟩
 ·simp[execOp,ho,resolve,invoke,builtin,hxv,hyv,hrun]
 ·intro b hb;simpa using hb.symm
 ·have hcsz:(Builtin.zeroCells z.cells m++Builtin.zeroCells z.cells (grownCap w m 0 e-m)).size=grownCap w m 0 e*sz:=by
   rw[Array.size_append,size_zeroCells,size_zeroCells,hzsz,<-Nat.add_mul];congr 1;omega
  rintro w' ρ' rfl rfl hk;refine⟨.row _ _ _ _ (Or.inr rfl) rfl (fun l hl=>?_),rfl,?_,by simp,fun b hb=>?_⟩
  ·simp only[Loc.fresh,if_true,qb]at hl;subst hl;refine⟨fun h=>(by cases h),fun b hb=>?_⟩;simp only[qb]at hb;subst hb;refine⟨0,grownCap w m 0 e,rfl,hC,Or.inr ⟨by simp,?_⟩⟩;simp only[Nat.zero_add];rw[hcsz];exact qo _
  ·intro el hel;rw[List.mem_replicate]at hel;rw[hel.2,List.length_map,hzl,he]
  ·simp only[qb]at hb;subst hb;refine⟨_,e,x8 w.drew _,rfl,by rw[hcsz];simp only[List.length_replicate,Nat.zero_add];exact Nat.mul_le_mul_right _ hC,fun j av hj=>?_⟩;have hall:∀el∈List.replicate m ((d6 P e).zero.map AV.v),el.length=sz:=by
    intro el hel;rw[List.mem_replicate]at hel;rw[hel.2,List.length_map,hzl,he]
   have hjl:j<m*sz:=by
    have:=(qa.1 hj).1
    rwa [j4 hall,List.length_replicate]at this
   have hpos:0<sz:=by omega
   have hdiv:j/sz<m:=by rw[Nat.div_lt_iff_lt_mul hpos];exact hjl
   have hmod:=Nat.mod_lt j hpos;have hf:=o8 hall (i:=j/sz) (e:=(d6 P e).zero.map AV.v) (by rw[List.getElem?_replicate,if_pos hdiv]) (j % sz) hmod;rw[show j/sz*sz+j % sz=j by rw[Nat.mul_comm];exact Nat.div_add_mod j sz]at hf;rw[hf,qe,qf]at hj;obtain⟨u,hu,rfl⟩:=hj;refine⟨u,?_,hz1 u (qd hu), .pure _ _ (.v u)⟩;simp only[Nat.zero_add];rw[Array.getElem?_append_left (by rw[size_zeroCells,hzsz];exact hjl)];have hlt:j % z.cells.size<z.cells.size:=by rw[hzsz];exact hmod
   have hzu:z.cells[j % z.cells.size]?=some u:=by rw[hzsz];rw[<-hzc]at hu;simpa using hu
   simp only[Builtin.zeroCells,Array.getElem?_map];rw[Array.getElem?_range,if_pos (by rw[hzsz];exact hjl)];simp only[Option.map_some];rw[Array.getElem!_eq_getD,qt,hzu]
   rfl
theorem a8y {t e:TypeId} {x y:Operand} {sz:Nat} {k1 k2:IntKind} {l c:Int} (ho:o.op= .makeSlice t x y) (ht:d6 P t= .slice e) (he:(d6 P e).size=sz) (hsz:sz≠0) (hx:ev x= .v (.int k1 l)) (hy:ev y= .v (.int k2 c))
  (h0:0<=l) (hlc:l<=c) (hbig:c.toNat*(P.bytesOf e+1)<=140737488355328):p6 P o ev H N ⟨.row N 0 l.toNat,[(N,some (.els sz (List.replicate c.toNat ((d6 P e).zero.map .v))))],[]⟩:=by
 obtain⟨info,q1,q2,_⟩:=o6 ht;have hbad:d6 P e≠ .bad:=by intro h;rw[h]at he;exact hsz he.symm
 refine p6.of_new fun B S0 a w ρ L hw hN hops _=>?_;obtain⟨ie,hie,hie2,hie3⟩:=X5 (P:=P) (t:=e) (w:=w) hbad;obtain⟨z,hz⟩:=Option.isSome_iff_exists.1 hie3;obtain⟨z',r1,hzc,hzl,hz1⟩:=a0F (P:=P) (t:=e) (w:=w) hbad;have hzz:(zeroValue e).run P w= .ok z w:=by simp[zeroValue,typeInfo,hie,hz]
 rw[hzz]at r1;simp only[Result.ok.injEq]at r1;obtain⟨rfl,_⟩:=r1;have hzsz:z.cells.size=sz:=by rw[<-Array.length_toList,hzc,hzl,he]
 have hisz:ie.size=sz:=hie2.trans he;have hbytes:P.bytesOf e=ie.bytes:=by simp[Program.bytesOf,hie]
 rw[Nat.mul_add,Nat.mul_one,hbytes]at hbig;have hxr:=hops x (by simp[ho,Op.operands]);have hyr:=hops y (by simp[ho,Op.operands]);rw[hx]at hxr;rw[hy]at hyr;have hxv:=j5 hxr;have hyv:=j5 hyr;obtain⟨m,rfl⟩:∃m:Nat,l=m:=⟨l.toNat,by omega⟩;obtain⟨n,rfl⟩:∃n:Nat,c=n:=⟨c.toNat,by omega⟩;simp only[Int.toNat_natCast]at hbig ⊢;have hmn:m<=n:=by omega
 have hb2:((ie.bytes:Int)*(n:Int))<=281474976710656:=by
  have h1:((ie.bytes*n:Nat):Int)<=281474976710656:=by rw[Nat.mul_comm];omega
  rwa [Int.natCast_mul]at h1
 have hrun:=run_make (P:=P) w t e ie z q2 hie hz k1 k2 (m:Int) (n:Int) h0 hlc hb2 (by omega);simp only[Int.toNat_natCast]at hrun;refine⟨.slice (some ⟨w.heap.size,0,none⟩) m n, .cells (madeCells z.cells (n*ie.size)) e,w,⟨some w.heap.size,0,sz,n*sz⟩,?_,rfl,rfl,rfl,rfl,?_,?_⟩
 ·simp[execOp,ho,hxv,hyv,hrun]
 ·intro b hb;simpa using hb.symm
 ·rintro w' ρ' rfl rfl hk;refine⟨.row _ _ _ _ (Or.inr rfl) rfl (fun l hl=>?_),rfl,?_,by simp,fun b hb=>?_⟩
  ·simp only[Loc.fresh,if_true,qb]at hl;subst hl;refine⟨fun h=>(by cases h),fun b hb=>?_⟩;simp only[qb]at hb;subst hb;exact⟨0,n,rfl,hmn,Or.inr ⟨by simp,by simp⟩⟩
  ·intro el hel;rw[List.mem_replicate]at hel;rw[hel.2,List.length_map,hzl,he]
  ·simp only[qb]at hb;subst hb;refine⟨_,e,x8 w _,by rw[size_madeCells,hisz],by simp,fun j av hj=>?_⟩;have hall:∀el∈List.replicate n ((d6 P e).zero.map AV.v),el.length=sz:=by
    intro el hel;rw[List.mem_replicate]at hel;rw[hel.2,List.length_map,hzl,he]
   have hjl:j<n*sz:=by
    have:=(qa.1 hj).1
    rwa [j4 hall,List.length_replicate]at this
   have hpos:0<sz:=by omega
   have hdiv:j/sz<n:=by rw[Nat.div_lt_iff_lt_mul hpos];exact hjl
   have hmod:=Nat.mod_lt j hpos;have hf:=o8 hall (i:=j/sz) (e:=(d6 P e).zero.map AV.v) (by rw[List.getElem?_replicate,if_pos hdiv]) (j % sz) hmod;rw[show j/sz*sz+j % sz=j by rw[Nat.mul_comm];exact Nat.div_add_mod j sz]at hf;rw[hf,qe,qf]at hj;obtain⟨u,hu,rfl⟩:=hj;refine⟨u,?_,hz1 u (qd hu), .pure _ _ (.v u)⟩;simp only[Nat.zero_add];have hlt:j % z.cells.size<z.cells.size:=by rw[hzsz];exact hmod
   have hzu:z.cells[j % z.cells.size]?=some u:=by rw[hzsz];rw[<-hzc]at hu;simpa using hu
   simp only[madeCells,Array.getElem?_map];rw[Array.getElem?_range,if_pos (by rw[hisz];exact hjl)];simp only[Option.map_some];rw[Array.getElem!_eq_getD,qt,hzu]
   rfl
theorem a8i {t e:TypeId} {x:Operand} {lo hi:Option Operand} {l h:Option Nat} (ho:o.op= .slice t x lo hi none) (ht:d6 P t= .slice e) (he:(d6 P e).size≠0) (hx:ev x= .v (.slice none 0 0)) (hl:a1f ev lo l) (hh:a1f ev hi h)
  (h1:l.getD 0<=h.getD 0) (h2:h.getD 0<=0):p6 P o ev H N ⟨.v (.slice none 0 0),[],[]⟩:=by
 obtain⟨info,q1,q2,_⟩:=o6 ht;have hbad:d6 P e≠ .bad:=by intro h;rw[h]at he;exact he rfl
 refine p6.of_pure fun B S0 a w ρ L hw hops hrd=>⟨_,Or.inl ?_, .pure _ _ (.v _)⟩;have hxr:=hops x (by simp[ho,Op.operands]);rw[hx]at hxr;have hxv:=j5 hxr;have bl:Q0 a lo l:=a0I (ev:=ev) (B:=B) (S0:=S0) (w:=w) (ρ:=ρ) (L:=L) hl (fun y hy=>hops y (by subst hy;simp[ho,Op.operands]));have bh:Q0 a hi h:=a0I (ev:=ev) (B:=B) (S0:=S0) (w:=w) (ρ:=ρ) (L:=L) hh (fun y hy=>hops y (by subst hy;simp[ho,Op.operands]));have hrun:=R8 (P:=P) (w:=w) none 0 0 q2 hbad bl bh h1 h2 (qo _);have e1:h.getD 0=0:=by omega
 have e2:l.getD 0=0:=by omega
 simp only[execOp,ho,hxv,Option.map_none,Sem.run_bind,hrun,Result.andThen_ok,Sem.run_pure,e1,e2,if_true,Nat.sub_zero]
theorem b2L {t e:TypeId} {x:Operand} (ho:o.op= .call {callee:= .builtin .cap,args:= #[x],argTypes:= #[t]}) (ht:d6 P t= .slice e) (hx:ev x= .v (.slice none 0 0)):p6 P o ev H N ⟨.v (.int .i64 0),[],[]⟩:=by
 obtain⟨info,q1,q2,_⟩:=o6 ht;refine p6.of_pure fun B S0 a w ρ L hw hops hrd=>⟨_,Or.inl ?_, .pure _ _ (.v _)⟩;have hxr:=hops x (by simp[ho,Op.operands,Call.operands]);rw[hx]at hxr;have hxv:=j5 hxr;simp only[execOp,ho,resolve,invoke,builtin];simp[invoke,builtin,Builtin.cap_,hxv,run_underlying q2,goInt]
theorem a4S {t e:TypeId} {x i:Operand} {z:List Value} {m r i0 off sz:Nat} {es:List (List AV)} {k:IntKind} {n:Int} (ho:o.op= .indexAddr t x i) (ht:d6 P t= .arr z m e) (hsz:(d6 P e).size≠0)
  (hx:ev x= .ptr r i0 off) (hH:H r=some (.els sz es)) (hi:ev i= .v (.int k n)) (hn:0<=n) (hlt:n<m):p6 P o ev H N ⟨.ptr r i0 (off+n.toNat*(d6 P e).size),[],[r]⟩:=by
 obtain⟨info,h1,h2,_⟩:=X9 ht;have hbad:d6 P e≠ .bad:=by intro h;rw[h]at hsz;exact hsz rfl
 refine p6.of_pure fun B S0 a w ρ L hw hops hrd=>?_;have hr:=hops x (by simp[ho,Op.operands]);have hri:=hops i (by simp[ho,Op.operands]);rw[hi]at hri;have hiv:=j5 hri;obtain⟨l,hl,n8⟩:=hrd r (by simp) _ hH;rw[hx]at hr
 cases hr with
 |pure _ _ h=>cases h
 |ptr _ _ _ y q1 q2 q3=>
  obtain⟨b,hb,hy⟩:=q3 l hl;refine⟨.pointer (some ⟨b,l.o+i0*l.sz+off+n.toNat*(d6 P e).size,none⟩),Or.inl ?_, .ptr _ _ _ _ q1 rfl ?_⟩
  ·have hi:0<=n/\n<(m:Int):=⟨hn,hlt⟩;simp[execOp,ho,hy,hiv,Instr.indexAt,asIntOf,run_underlying h2,Instr.sureAddr,hi,y3 hbad,Addr.add_lit]
  ·intro l' hl';rw[hl]at hl';simp only[qb]at hl';subst hl';exact⟨b,hb,by simp[Nat.add_assoc]⟩
theorem a3I {t e:TypeId} {x i:Operand} {z:List Value} {m:Nat} {cs:List AV} {k:IntKind} {n:Int} (ho:o.op= .indexAddr t x i) (ht:d6 P t= .arr z m e) (hsz:(d6 P e).size≠0)
  (hx:ev x= .iptr cs) (hi:ev i= .v (.int k n)) (hn:0<=n) (hlt:n<m):p6 P o ev H N ⟨.iptr (cs.drop (n.toNat*(d6 P e).size)),[],[]⟩:=by
 obtain⟨info,h1,h2,_⟩:=X9 ht;have hbad:d6 P e≠ .bad:=by intro h;rw[h]at hsz;exact hsz rfl
 refine p6.of_pure fun B S0 a w ρ L hw hops hrd=>?_;have hr:=hops x (by simp[ho,Op.operands]);have hri:=hops i (by simp[ho,Op.operands]);rw[hi]at hri;have hiv:=j5 hri;rw[hx]at hr;obtain⟨b,off,vs,hy,hS,hb,hl,hv,h⟩:=U0 hr;refine⟨.pointer (some ⟨b,off+n.toNat*(d6 P e).size,none⟩),Or.inl ?_, .pure _ _ (.iptr _ b (off+n.toNat*(d6 P e).size) (vs.drop (n.toNat*(d6 P e).size)) hS hb (by simp[hl]) ?_ ?_)⟩
 ·have hi:0<=n/\n<(m:Int):=⟨hn,hlt⟩;simp[execOp,ho,hy,hiv,Instr.indexAt,asIntOf,run_underlying h2,Instr.sureAddr,hi,y3 hbad,Addr.add_lit]
 ·intro j u hj;rw[ql]at hj;have:=hv _ u hj;rw[Nat.add_assoc];exact this
 ·intro j c u h1 h2;rw[ql]at h1 h2;exact h _ c u h1 h2
end
end Go.AM
namespace Go.AM
abbrev Hp:=List (Option n9)
def g8:Hp->Nat->Option n9
 |[],_=>none
 |x::_,0=>x
 |_::xs,n+1=>g8 xs n
theorem a1P:∀(H:Hp) (r:Nat),H.length<=r->g8 H r=none
 |[],r,_=>by cases r<;>rfl
 |x::xs,0,h=>by simp at h
 |x::xs,n+1,h=>a1P xs n (by simpa using h)
def p7 (g:List (Option Nat)) (r:Nat):Option Nat:=g.findIdx? (· ==some r)
def p5 (g:List (Option Nat)):Nat->AV->AV
 |_, .row r i n=>match p7 g r with|some q=> .row q i n|none=> .any
 |_, .ptr r i o=>match p7 g r with|some q=> .ptr q i o|none=> .any
 |_, .fptr x r i o=>match p7 g r with|some q=> .fptr x q i o|none=> .any
 |_, .mp r=>match p7 g r with|some q=> .mp q|none=> .any
 |n+1, .agg cs=> .agg (cs.map (p5 g n))
 |n+1, .tup cs=> .tup (cs.map (p5 g n))
 |n+1, .clo f cs=> .clo f (cs.map (p5 g n))
 |n+1, .bnd f cs=> .bnd f (cs.map (p5 g n))
 |n+1, .vptr cs=> .vptr (cs.map (p5 g n))
 |n+1, .ifc t x=> .ifc t (p5 g n x)
 |n+1, .may l x=> .may l (p5 g n x)
 |0, .agg _=> .any
 |0, .tup _=> .any
 |0, .clo _ _=> .any
 |0, .bnd _ _=> .any
 |0, .vptr _=> .any
 |0, .ifc _ _=> .any
 |0, .may _ _=> .any
 |_,x=>x
def C2 (g:List (Option Nat)):n9->n9
 | .els sz es=> .els sz (es.map fun e=>e.map (p5 g 3))
 | .map ag kts kvs=> .map ag kts kvs
 | .itr ag kts left cur=> .itr ag kts left cur
 | .mpa ag kts kvs=> .mpa ag kts (kvs.map fun p=>(p.1,p5 g 3 p.2))
def n6 (ρ:Nat->Option Loc) (g:List (Option Nat)) (r:Nat):Option Loc:=match g[r]? with|some (some q)=>ρ q|_=>none
theorem z8 {g:List (Option Nat)} {r q:Nat} (h:p7 g r=some q):g[q]?=some (some r):=by
 unfold p7 at h;rw[List.findIdx?_eq_some_iff_getElem]at h;obtain⟨h1,h2,_⟩:=h;rw[qc h1];simpa using h2
theorem F6 {w:World} {S S':Nat->Prop} {ρ:Nat->Option Loc} {L:Nat->Prop} {g:List (Option Nat)} (hS:∀b,S' b->S b):∀(n:Nat) (x:AV) (y:Value),e8 w S ρ L x y->
  e8 w S' (n6 ρ g) (fun r=>∃q,g[r]?=some (some q)) (p5 g n x) y:=by
 have hP:∀{x y},r8 w S x y->r8 w S' x y:=fun h=>h.ext (qo _) (fun b _ hn=>⟨rfl,fun k=>hn (hS b k)⟩);have row:∀n r i k y,e8 w S ρ L (.row r i k) y->e8 w S' (n6 ρ g) (fun r=>∃q,g[r]?=some (some q)) (p5 g n (.row r i k)) y:=by
  intro n r i k y h;have e:p5 g n (.row r i k)=match p7 g r with|some q=> .row q i k|none=> .any:=by cases n<;>rfl
  rw[e]
  split
  ·rename_i q hq;have hg:=z8 hq
   cases h with
   |pure _ _ h=>cases h
   |row _ _ _ _ h1 h2 h3=>
    refine .row _ _ _ _ ⟨_,hg⟩ h2 (fun l hl=>h3 l ?_);simp only[n6,hg]at hl;exact hl
  ·exact .pure _ _ (.any _)
 have ptr:∀n r i k y,e8 w S ρ L (.ptr r i k) y->e8 w S' (n6 ρ g) (fun r=>∃q,g[r]?=some (some q)) (p5 g n (.ptr r i k)) y:=by
  intro n r i k y h;have e:p5 g n (.ptr r i k)=match p7 g r with|some q=> .ptr q i k|none=> .any:=by cases n<;>rfl
  rw[e]
  split
  ·rename_i q hq;have hg:=z8 hq
   cases h with
   |pure _ _ h=>cases h
   |ptr _ _ _ _ h1 h2 h3=>
    refine .ptr _ _ _ _ ⟨_,hg⟩ h2 (fun l hl=>h3 l ?_);simp only[n6,hg]at hl;exact hl
  ·exact .pure _ _ (.any _)
 have fptr:∀n c r i k y,e8 w S ρ L (.fptr c r i k) y->e8 w S' (n6 ρ g) (fun r=>∃q,g[r]?=some (some q)) (p5 g n (.fptr c r i k)) y:=by
  intro n c r i k y h;have e:p5 g n (.fptr c r i k)=match p7 g r with|some q=> .fptr c q i k|none=> .any:=by cases n<;>rfl
  rw[e]
  cases h with
  |pure _ _ h=>cases h
  |fptr _ _ _ _ h=>
   have h':=ptr n r i k _ h;have e':p5 g n (.ptr r i k)=match p7 g r with|some q=> .ptr q i k|none=> .any:=by cases n<;>rfl
   rw[e']at h'
   cases hq:p7 g r with
   |none=>exact .pure _ _ (.any _)
   |some q=>rw[hq]at h';exact .fptr _ _ _ _ h'
 have mp:∀n r y,e8 w S ρ L (.mp r) y->e8 w S' (n6 ρ g) (fun r=>∃q,g[r]?=some (some q)) (p5 g n (.mp r)) y:=by
  intro n r y h;have e:p5 g n (.mp r)=match p7 g r with|some q=> .mp q|none=> .any:=by cases n<;>rfl
  rw[e]
  split
  ·rename_i q hq;have hg:=z8 hq
   cases h with
   |pure _ _ h=>cases h
   |mp _ _ h1 h2 h3=>
    refine .mp _ _ ⟨_,hg⟩ h2 (fun l hl=>h3 l ?_);simp only[n6,hg]at hl;exact hl
  ·exact .pure _ _ (.any _)
 have atom:∀n x y,(match x with| .v _=>True| .lst _ _=>True| .full _ _=>True| .iptr _=>True| .mpc _ _ _=>True| .any=>True|_=>False)->e8 w S ρ L x y->e8 w S' (n6 ρ g) (fun r=>∃q,g[r]?=some (some q)) (p5 g n x) y:=by
  intro n x y hx h
  cases x<;>simp only at hx<;>(cases h;rename_i h;cases n<;>exact .pure _ _ (hP h))
 intro n
 induction n with
 |zero=>
  intro x y h
  cases x with
  |row r i k=>exact row 0 r i k y h
  |ptr r i k=>exact ptr 0 r i k y h
  |fptr c r i k=>exact fptr 0 c r i k y h
  |mp r=>exact mp 0 r y h
  |agg cs=>exact .pure _ _ (.any _)
  |tup cs=>exact .pure _ _ (.any _)
  |clo f cs=>exact .pure _ _ (.any _)
  |bnd f cs=>exact .pure _ _ (.any _)
  |vptr cs=>exact .pure _ _ (.any _)
  |ifc t x=>exact .pure _ _ (.any _)
  |may l x=>exact .pure _ _ (.any _)
  |_=>exact atom 0 _ y trivial h
 | succ n ih=>
  intro x y h
  cases x with
  |row r i k=>exact row _ r i k y h
  |ptr r i k=>exact ptr _ r i k y h
  |fptr c r i k=>exact fptr _ c r i k y h
  |mp r=>exact mp _ r y h
  |agg cs=>
   obtain⟨vs,rfl,hl,hc⟩:=A2 h;refine .agg _ vs (by simpa using hl) (fun u hu=>?_) (fun i c u h1 h2=>?_)
   ·obtain⟨i,hi,rfl⟩:=List.getElem_of_mem hu;exact(hc i _ _ (qc (by omega)) (qc hi)).1
   ·simp only[qe,qf]at h1;obtain⟨c',h1,rfl⟩:=h1;exact ih c' u (hc i c' u h1 h2).2
  |tup cs=>
   obtain⟨vs,rfl,hl,hc⟩:=L5 h;refine .tup _ vs (by simpa using hl) (fun i c u h1 h2=>?_);simp only[qe,qf]at h1;obtain⟨c',h1,rfl⟩:=h1;exact ih c' u (hc i c' u h1 h2)
  |clo f cs=>
   obtain⟨vs,rfl,hl,hc⟩:=E8 h;refine .clo f _ vs (by simpa using hl) (fun i c u h1 h2=>?_);simp only[qe,qf]at h1;obtain⟨c',h1,rfl⟩:=h1;exact ih c' u (hc i c' u h1 h2)
  |bnd f cs=>
   obtain⟨vs,rfl,hl,hc⟩:=P6 h;refine .bnd f _ vs (by simpa using hl) (fun i c u h1 h2=>?_);simp only[qe,qf]at h1;obtain⟨c',h1,rfl⟩:=h1;exact ih c' u (hc i c' u h1 h2)
  |vptr cs=>
   obtain⟨b,off,vs,rfl,hSb,hb,hl,hv,hc⟩:=y9 h;refine .vptr _ b off vs (fun k=>hSb (hS b k)) hb (by simpa using hl) hv (fun i c u h1 h2=>?_);simp only[qe,qf]at h1;obtain⟨c',h1,rfl⟩:=h1;exact ih c' u (hc i c' u h1 h2)
  |ifc t x=>
   obtain⟨v,rfl,h'⟩:=B6 h;exact .ifc t _ _ (ih x v h')
  | may l x=>
   cases h with
   |pure _ _ h=>cases h with
    |mayT _ _ _ ht h=>exact .mayT _ _ _ ht (ih x y (.pure _ _ h))
    |mayF _ _ hf=>exact .mayF _ _ hf
   |mayT _ _ _ ht h=>exact .mayT _ _ _ ht (ih x y h)
   |mayF _ _ hf=>exact .mayF _ _ hf
  |_=>exact atom _ _ y trivial h
theorem i6 {ρ:Nat->Option Loc} {g:List (Option Nat)} {r:Nat} {l:Loc} (h:n6 ρ g r=some l):∃q,g[r]?=some (some q)/\ρ q=some l:=by
 unfold n6 at h
 split at h
 ·rename_i q hq;exact⟨q,hq,h⟩
 ·cases h
theorem J3 {β:Type} (f:β->Option n9):∀(g:List β) (r:Nat),g8 (g.map f) r=match g[r]? with|some q=>f q|none=>none
 |[],r=>by cases r<;>rfl
 |x::xs,0=>rfl
 |x::xs,n+1=>by simp only[List.map_cons,g8,List.getElem?_cons_succ];exact J3 f xs n
theorem a4Q {w:World} {S S':Nat->Prop} {ρ:Nat->Option Loc} {L:Nat->Prop} {g:List (Option Nat)} (hS:∀b,S' b->S b) (n:Nat) (x:AV) (y:Value) (h:e8 w S ρ L x y):e8 w S' (n6 ρ g) (fun r=>r<g.length) (p5 g n x) y:=
 (F6 hS n x y h).ext (qo _) (fun b _ hn=>⟨rfl,hn⟩) (fun r ⟨q,hq⟩=>(qa.1 hq).1) (fun r l _ h=>h)
theorem a2U {w:World} {S S':Nat->Prop} {ρ:Nat->Option Loc} {L:Nat->Prop} {g:List (Option Nat)} (hS:∀b,S' b->S b) {l:Loc} {row:n9} (h:i7 w S ρ L l row):i7 w S' (n6 ρ g) (fun r=>∃q,g[r]?=some (some q)) l (C2 g row):=by
 cases row with
 |map kvs=>exact h
 |mpa ag kts kvs=>obtain⟨b,h1,h2⟩:=h;exact⟨b,h1,h2.map _ (fun x y h=>F6 hS 3 x y h) rfl⟩
 |itr ag kts left cur=>
  obtain⟨b,h1,h0,h2⟩:=h;exact⟨b,h1,h0,h2.same rfl (qo _) (fun b _ hn=>⟨rfl,fun k=>hn (hS b k)⟩)⟩
 |els sz es=>
  obtain⟨h1,h2,h3,h4⟩:=h;refine⟨h1,?_,fun hb=>by rw[h3 hb];rfl,fun b hb=>?_⟩
  ·intro e he;simp only[List.mem_map]at he;obtain⟨e',he',rfl⟩:=he;simpa using h2 e' he'
  ·obtain⟨c,t,k1,k2,k3,k4⟩:=h4 b hb;refine⟨c,t,k1,k2,by simpa using k3,fun i av hi=>?_⟩;rw[<-List.map_flatten]at hi;simp only[qe,qf]at hi;obtain⟨av0,hi,rfl⟩:=hi;obtain⟨x,p1,p2,p3⟩:=k4 i av0 hi;exact⟨x,p1,p2,F6 hS 3 _ _ p3⟩
def own (ρ:Nat->Option Loc) (b:Nat):Prop:=∃r l,ρ r=some l/\l.b=some b
abbrev a0s:Nat->Prop:=fun _=>True
structure a6W (S0:Nat->Prop) (w:World) (ρ:Nat->Option Loc) (H:Hp):Prop where
 wf:WF a0s S0 w ρ (fun r=>r<H.length)
 rows:∀r row,g8 H r=some row->∃l,ρ r=some l/\i7 w (Sx S0 ρ) ρ (fun r=>r<H.length) l row
 dead:∀r,g8 H r=none->ρ r=none
def c7 (P:Program) (f:FuncId) (args:List AV) (Hk Hd:Hp) (res:AV) (Hk' Hn:Hp):Prop:=
 (∀ (w:World) (vs:Array Value),(callFunc f vs).run P w= .ok (.enter f vs) w)/\Hk.length=Hk'.length/\
  ∀ (S0:Nat->Prop) (w:World) (ρ:Nat->Option Loc) (vs:List Value),a6W S0 w ρ (Hk++Hd)->args.length=vs.length->
   (∀(i:Nat) c x,args[i]?=some c->vs[i]?=some x->e8 w (Sx S0 ρ) ρ (fun r=>r<(Hk++Hd).length) c x)->
   Calls P f vs.toArray w fun e w'=>∃v ρ',e= .returned v/\a6W S0 w' ρ' (Hk'++Hn)/\e8 w' (Sx S0 ρ') ρ' (fun r=>r<(Hk'++Hn).length) res v/\
    (∀r l,r<Hk.length->ρ' r=some l->ρ r=some l)/\(∀b,own ρ' b->own ρ b∨w.heap.size<=b)/\Ext (own ρ) w w'
def C5 (gk:List Nat) (N n:Nat):List (Option Nat):=(List.range N).map (fun r=>gk.findIdx? (· ==r))++(List.range n).map (fun j=>some (gk.length+j))
def r6 (bg:List (Option Nat)):List Nat->Hp->List (Nat×Option n9)
 |r::g,x::xs=>(r,x.map (C2 bg))::r6 bg g xs
 |_,_=>[]
def y7 (bg:List (Option Nat)):Nat->Hp->List (Nat×Option n9)
 |_,[]=>[]
 |N,x::xs=>(N,x.map (C2 bg))::y7 bg (N+1) xs
def v7:List Nat->List (Nat×Option n9)
 |[]=>[]
 |r::g=>(r,none)::v7 g
theorem b2b {bg:List (Option Nat)}:∀{g:List Nat} {xs:Hp} {r:Nat} {o:Option n9},(r,o)∈r6 bg g xs->∃(q:Nat) (x:Option n9),g[q]?=some r/\xs[q]?=some x/\o=x.map (C2 bg)
 |[],xs,r,o,h=>by simp[r6]at h
 |_::_,[],r,o,h=>by simp[r6]at h
 |r0::g,x::xs,r,o,h=>by
  simp only[r6,List.mem_cons,qr]at h
  rcases h with⟨rfl,rfl⟩|h
  ·exact⟨0,x,rfl,rfl,rfl⟩
  ·obtain⟨q,y,h1,h2,h3⟩:=b2b h;exact⟨q+1,y,h1,h2,h3⟩
theorem b2q {bg:List (Option Nat)}:∀{g:List Nat} {xs:Hp} {q r:Nat},g.length=xs.length->g[q]?=some r->∃o,(r,o)∈r6 bg g xs
 |[],_,q,r,_,h=>by simp at h
 |r0::g,[],q,r,hl,h=>by simp at hl
 |r0::g,x::xs,0,r,hl,h=>by
  simp only[List.getElem?_cons_zero,qb]at h;exact⟨x.map (C2 bg),by simp[r6,h]⟩
 |r0::g,x::xs,q+1,r,hl,h=>by
  obtain⟨o,ho⟩:=b2q (bg:=bg) (g:=g) (xs:=xs) (q:=q) (r:=r) (by simpa using hl) (by simpa using h);exact⟨o,by simp[r6,ho]⟩
theorem b5Q {bg:List (Option Nat)}:∀{N:Nat} {xs:Hp} {r:Nat} {o:Option n9},(r,o)∈y7 bg N xs->∃(j:Nat) (x:Option n9),r=N+j/\xs[j]?=some x/\o=x.map (C2 bg)
 |N,[],r,o,h=>by simp[y7]at h
 |N,x::xs,r,o,h=>by
  simp only[y7,List.mem_cons,qr]at h
  rcases h with⟨rfl,rfl⟩|h
  ·exact⟨0,x,rfl,rfl,rfl⟩
  ·obtain⟨j,y,h1,h2,h3⟩:=b5Q h;exact⟨j+1,y,by omega,h2,h3⟩
theorem b5x {bg:List (Option Nat)}:∀{N:Nat} {xs:Hp} {j:Nat},j<xs.length->∃o,(N+j,o)∈y7 bg N xs
 |N,[],j,h=>by simp at h
 |N,x::xs,0,h=>⟨x.map (C2 bg),by simp[y7]⟩
 |N,x::xs,j+1,h=>by
  obtain⟨o,ho⟩:=b5x (bg:=bg) (N:=N+1) (xs:=xs) (j:=j) (by simpa using h);exact⟨o,by simp only[y7,List.mem_cons];right;rw[show N+(j+1)=N+1+j by omega];exact ho⟩
theorem a7F:∀{g:List Nat} {r:Nat} {o:Option n9},(r,o)∈v7 g↔r∈g/\o=none
 |[],r,o=>by simp[v7]
 | r0::g,r,o=>by
  simp only[v7,List.mem_cons,qr,a7F (g:=g)];constructor
  ·rintro(⟨rfl,rfl⟩|⟨h,rfl⟩)
   ·exact⟨Or.inl rfl,rfl⟩
   ·exact⟨Or.inr h,rfl⟩
  ·rintro⟨rfl|h,rfl⟩
   ·exact Or.inl ⟨rfl,rfl⟩
   ·exact Or.inr ⟨h,rfl⟩
theorem C8:∀(H:Hp) (r:Nat),g8 H r=(H[r]?).getD none
 |[],r=>by simp[g8]
 |x::xs,0=>by simp[g8]
 |x::xs,r+1=>by simp only[g8,List.getElem?_cons_succ];exact C8 xs r
theorem a4p {g:List Nat} {r q:Nat} (h:g.findIdx? (· ==r)=some q):g[q]?=some r:=by
 rw[List.findIdx?_eq_some_iff_getElem]at h;obtain⟨h1,h2,_⟩:=h;rw[qc h1];simpa using h2
theorem b6T {g:List Nat} {r:Nat} (h:g.findIdx? (· ==r)=none):r∉g:=by
 rw[List.findIdx?_eq_none_iff]at h;intro hm;have:=h r hm;simp at this
theorem b5E {g:List Nat} (hn:g.Nodup) {r q:Nat} (h:g[q]?=some r):g.findIdx? (· ==r)=some q:=by
 cases hf:g.findIdx? (· ==r)with
 |none=>exact absurd (qd h) (b6T hf)
 |some q'=>
  have h':=a4p hf;obtain⟨h1,h2⟩:=qa.1 h;obtain⟨h3,h4⟩:=qa.1 h';rw[(List.getElem_inj hn).1 (h4.trans h2.symm)]
def S7 (ρ ρ':Nat->Option Loc) (gk gd:List Nat) (N n:Nat) (r:Nat):Option Loc:=
 if r<N then(match (gk++gd).findIdx? (· ==r)with|some q=>if q<gk.length then ρ' q else none|none=>ρ r)
 else if r<N+n then ρ' (gk.length+(r-N))else ρ r
section
variable {ρ ρ':Nat->Option Loc} {gk gd:List Nat} {N n:Nat}
theorem a2V (hn:(gk++gd).Nodup) (hlt:∀r∈gk++gd,r<N) {q r:Nat} (h:gk[q]?=some r):S7 ρ ρ' gk gd N n r=ρ' q:=by
 have hq:=(qa.1 h).1;have h2:(gk++gd)[q]?=some r:=by rw[qw hq];exact h
 unfold S7;rw[if_pos (hlt r (qd h2)),b5E hn h2];exact if_pos hq
theorem a5P (hn:(gk++gd).Nodup) (hlt:∀r∈gk++gd,r<N) {r:Nat} (h:r∈gd):S7 ρ ρ' gk gd N n r=none:=by
 obtain⟨q,hq⟩:=List.getElem?_of_mem h;have h2:(gk++gd)[gk.length+q]?=some r:=by rw[qv (by omega)];simpa using hq
 unfold S7;rw[if_pos (hlt r (qd h2)),b5E hn h2];exact if_neg (by omega)
theorem a4J {j:Nat} (h:j<n):S7 ρ ρ' gk gd N n (N+j)=ρ' (gk.length+j):=by
 unfold S7;rw[if_neg (by omega),if_pos (by omega)]
 congr 1;omega
theorem Y1 {r:Nat} (h:r∉gk++gd) (h2:r<N∨N+n<=r):S7 ρ ρ' gk gd N n r=ρ r:=by
 unfold S7
 split
 ·have:(gk++gd).findIdx? (· ==r)=none:=by
   cases hf:(gk++gd).findIdx? (· ==r)with
   |none=>rfl
   |some q=>exact absurd (qd (a4p hf)) h
  rw[this]
 ·rw[if_neg (by omega)]
theorem F7 (hn:(gk++gd).Nodup) (hlt:∀r∈gk++gd,r<N) {r:Nat} {l:Loc} (h:S7 ρ ρ' gk gd N n r=some l):
  (∃q,gk[q]?=some r/\ρ' q=some l)∨(∃j,j<n/\r=N+j/\ρ' (gk.length+j)=some l)∨(r∉gk++gd/\(r<N∨N+n<=r)/\ρ r=some l):=by
 by_cases hm:r∈gk++gd
 ·rcases List.mem_append.1 hm with h1|h1
  ·obtain⟨q,hq⟩:=List.getElem?_of_mem h1;rw[a2V hn hlt hq]at h;exact Or.inl ⟨q,hq,h⟩
  ·rw[a5P hn hlt h1]at h;cases h
 ·by_cases h1:r<N
  ·rw[Y1 hm (Or.inl h1)]at h;exact Or.inr (Or.inr ⟨hm,Or.inl h1,h⟩)
  ·by_cases h2:r<N+n
   ·obtain⟨j,rfl⟩:∃j,r=N+j:=⟨r-N,by omega⟩;rw[a4J (by omega)]at h;exact Or.inr (Or.inl ⟨j,by omega,rfl,h⟩)
   ·rw[Y1 hm (Or.inr (by omega))]at h;exact Or.inr (Or.inr ⟨hm,Or.inr (by omega),h⟩)
theorem b3C (hn:(gk++gd).Nodup) (hlt:∀r∈gk++gd,r<N) {r q:Nat} (h:(C5 gk N n)[r]?=some (some q)):S7 ρ ρ' gk gd N n r=ρ' q/\(gk[q]?=some r∨∃j,j<n/\r=N+j/\q=gk.length+j):=by
 unfold C5 at h;rw[List.getElem?_append]at h;simp only[List.length_map,List.length_range]at h
 split at h
 ·rename_i hr;simp only[qe,qf]at h;obtain⟨r',h1,h2⟩:=h;rw[List.getElem?_range hr]at h1;simp only[qb]at h1;subst h1;have:=a4p h2;exact⟨a2V hn hlt this,Or.inl this⟩
 ·rename_i hr;simp only[qe,qf]at h;obtain⟨j,h1,h2⟩:=h;have hj:=(qa.1 h1).1;rw[List.length_range]at hj;rw[List.getElem?_range hj]at h1;simp only[qb]at h1 h2;obtain⟨j',rfl⟩:∃j',r=N+j':=⟨r-N,by omega⟩;have:j=j':=by omega
  subst this;rw[a4J (by omega)];exact⟨by rw[h2],Or.inr ⟨j,by omega,rfl,h2.symm⟩⟩
end
section
variable {P:Program} {o:Oper} {ev:Operand->AV} {H:Nat->Option n9} {N:Nat}
def b8t (S0:Nat->Prop) (ρ:Nat->Option Loc) (G:List (Option Nat)) (b:Nat):Prop:=S0 b∨(own ρ b/\¬own (n6 ρ G) b)
theorem a9s {E:Ending->Value->Prop} {f:FuncId} {raw:List AV} {rd0 gk gd rdx RR:List Nat} {Hk Hd Hk' Hn:Hp} {res:AV} (hop:U6 P o ev H f raw rd0) (hR0:∀r∈rd0,r∈RR) (hRg:∀r∈gk++gd,r∈RR) (hRx:∀r∈rdx,r∈RR)
  (hn:(gk++gd).Nodup) (hlt:∀r∈gk++gd,r<N) (hH:Hk++Hd=(gk++gd).map (fun r=>(H r).map (C2 ((gk++gd).map some)))) (hkl:gk.length=Hk.length) (hall:∀y∈Hk++Hd,y.isSome=true)
  (hcf:∀(w:World) (vs:Array Value),(callFunc f vs).run P w= .ok (.enter f vs) w) (hkl':Hk.length=Hk'.length)
  (hcall:∀(B S0:Nat->Prop) (w:World) (ρ:Nat->Option Loc) (L:Nat->Prop) (vs:List Value),WF B S0 w ρ L->(∀r∈rdx,∀row,H r=some row->∃l,ρ r=some l/\i7 w (Sx S0 ρ) ρ L l row)->
   a6W (b8t S0 ρ ((gk++gd).map some)) w (n6 ρ ((gk++gd).map some)) (Hk++Hd)->raw.length=vs.length->(∀(i:Nat) c y,raw[i]?=some c->vs[i]?=some y->e8 w (Sx S0 ρ) ρ L c y)->
   Calls P f vs.toArray w fun e w'=>∃v ρ',E e v/\a6W (b8t S0 ρ ((gk++gd).map some)) w' ρ' (Hk'++Hn)/\e8 w' (Sx (b8t S0 ρ ((gk++gd).map some)) ρ') ρ' (fun r=>r<(Hk'++Hn).length) res v/\
    (∀r l,r<Hk.length->ρ' r=some l->n6 ρ ((gk++gd).map some) r=some l)/\(∀b,own ρ' b->own (n6 ρ ((gk++gd).map some)) b∨w.heap.size<=b)/\Ext (own (n6 ρ ((gk++gd).map some))) w w'):
  ∀(B S0:Nat->Prop) (a:Act) (w:World) (ρ:Nat->Option Loc) (L:Nat->Prop),WF B S0 w ρ L->a2E L N ⟨p5 (C5 gk N Hn.length) 3 res,r6 (C5 gk N Hn.length) gk Hk'++(v7 gd++y7 (C5 gk N Hn.length) N Hn),RR⟩->(∀x∈o.op.operands,e8 w (Sx S0 ρ) ρ L (ev x) (a.eval x))->
   (∀r∈RR,∀row,H r=some row->∃l,ρ r=some l/\i7 w (Sx S0 ρ) ρ L l row)->
   ∃vs:List Value,(execOp a.eval o).run P w= .ok (.enter f vs.toArray) w/\Calls P f vs.toArray w fun e w'=>∃v ρ',E e v/\a3D B S0 w ρ L N ⟨p5 (C5 gk N Hn.length) 3 res,r6 (C5 gk N Hn.length) gk Hk'++(v7 gd++y7 (C5 gk N Hn.length) N Hn),RR⟩ w' ρ' v:=by
 intro B S0 a w ρ L hw hN hops hrd;generalize hG:(gk++gd).map some=G at hH hcall;generalize hbg:C5 gk N Hn.length=bg at hN ⊢;obtain⟨vs,hl,hreps,hrun⟩:=hop B S0 a w ρ L hw hops (fun r hr=>hrd r (hR0 r hr));have hrdx:∀r∈rdx,∀row,H r=some row->∃l,ρ r=some l/\i7 w (Sx S0 ρ) ρ L l row:=fun r hr=>hrd r (hRx r hr)
 replace hrd:∀r∈gk++gd,∀row,H r=some row->∃l,ρ r=some l/\i7 w (Sx S0 ρ) ρ L l row:=fun r hr=>hrd r (hRg r hr)
 have hGs:∀(r q:Nat),G[r]?=some (some q)↔(gk++gd)[r]?=some q:=by
  intro r q;rw[<-hG,qe];cases (gk++gd)[r]?<;>simp
 have hlen:(Hk++Hd).length=(gk++gd).length:=by rw[hH,List.length_map]
 have hown0:∀b,own (n6 ρ G) b->own ρ b:=by
  rintro b ⟨r,l,h1,h2⟩;obtain⟨q,_,h3⟩:=i6 h1;exact⟨q,l,h3,h2⟩
 obtain⟨S1,hS1⟩:∃S1:Nat->Prop,S1=b8t S0 ρ G:=⟨_,rfl⟩;have hSx:∀b,Sx S1 (n6 ρ G) b->Sx S0 ρ b:=by
  rintro b (h1|h1)
  ·rw[hS1]at h1
   rcases h1 with h1|h1
   ·exact Or.inl h1
   ·exact Or.inr h1.1
  ·exact Or.inr (hown0 b h1)
 have hLL:∀r:Nat,(∃q,G[r]?=some (some q))->r<(Hk++Hd).length:=by
  rintro r ⟨q,hq⟩;rw[hlen];exact(qa.1 ((hGs r q).1 hq)).1
 have hheld:a6W S1 w (n6 ρ G) (Hk++Hd):=by
  refine⟨⟨?_,?_,?_,?_,fun _ _=>trivial⟩,?_,?_⟩
  ·intro r r' l l' b h1 h2 k1 k2;obtain⟨q,g1,p1⟩:=i6 h1;obtain⟨q',g2,p2⟩:=i6 h2;have:=hw.inj q q' l l' b p1 p2 k1 k2;subst this;obtain⟨i1,e1⟩:=qa.1 ((hGs _ _).1 g1);obtain⟨i2,e2⟩:=qa.1 ((hGs _ _).1 g2);exact(List.getElem_inj hn).1 (e1.trans e2.symm)
  ·intro r l b h1 k1;obtain⟨q,g1,p1⟩:=i6 h1;obtain⟨h3,h4,_⟩:=hw.own q l b p1 k1;refine⟨h3,?_,trivial⟩;rw[hS1];rintro(h5|⟨_,h5⟩)
   ·exact h4 h5
   ·exact h5 ⟨r,l,h1,k1⟩
  ·intro r l h1;obtain⟨q,g1,p1⟩:=i6 h1;exact hLL r ⟨q,g1⟩
  ·intro b hb;rw[hS1]at hb
   rcases hb with hb|⟨⟨r,l,h1,h2⟩,_⟩
   ·exact hw.low b hb
   ·exact(hw.own r l b h1 h2).1
  ·intro r row hr;rw[C8,hH,qe]at hr
   cases hq:(gk++gd)[r]? with
   |none=>rw[hq]at hr;simp at hr
   |some q=>
    rw[hq]at hr;simp only[Option.map_some,Option.getD_some,qf]at hr;obtain⟨row0,h0,rfl⟩:=hr;obtain⟨l,hl0,n8⟩:=hrd q (qd hq) row0 h0;refine⟨l,by simp only[n6,(hGs r q).2 hq];exact hl0,?_⟩;exact(a2U hSx n8).ext (qo _) (fun b _ hnb=>⟨rfl,hnb⟩) hLL (fun r l _ h=>h) (fun _ _=>rfl)
  ·intro r hr;rw[C8]at hr
   cases hq:(Hk++Hd)[r]? with
   | none=>
    have h1:=List.getElem?_eq_none_iff.1 hq
    cases h2:n6 ρ G r with
    |none=>rfl
    |some l=>
     obtain⟨q,g1,_⟩:=i6 h2;have:=hLL r ⟨q,g1⟩;omega
   |some y=>
    rw[hq]at hr;simp only[Option.getD_some]at hr;subst hr;have:=hall none (qd hq);simp at this
 refine⟨vs,by rw[hrun,hcf],(hcall B S0 w ρ L vs hw hrdx (by rw[<-hS1];exact hheld) hl hreps).mono fun e w' he=>?_⟩;obtain⟨v,ρ',hE,hh,hrep,hkeep,hfresh,hext⟩:=he;rw[<-hS1]at hh hrep;have hlk:gk.length=Hk'.length:=hkl.trans hkl';have hbr:∀{r q:Nat},bg[r]?=some (some q)->S7 ρ ρ' gk gd N Hn.length r=ρ' q/\(gk[q]?=some r∨∃j,j<Hn.length/\r=N+j/\q=gk.length+j):=by
  intro r q h;rw[<-hbg]at h;exact b3C hn hlt h
 have hnotown:∀r l b,r∉gk++gd->ρ r=some l->l.b=some b->S1 b:=by
  intro r l b hr h1 h2;rw[hS1];refine Or.inr ⟨⟨r,l,h1,h2⟩,?_⟩;rintro⟨r',l',h3,h4⟩;obtain⟨q,g1,p1⟩:=i6 h3;have:=hw.inj r q l l' b h1 p1 h2 h4;subst this;exact hr (qd ((hGs _ _).1 g1))
 have hSback:∀b,Sx S0 (S7 ρ ρ' gk gd N Hn.length) b->Sx S1 ρ' b:=by
  rintro b (h1|⟨r,l,h1,h2⟩)
  ·exact Or.inl (by rw[hS1];exact Or.inl h1)
  ·rcases F7 hn hlt h1 with⟨q,_,h3⟩|⟨j,_,_,h3⟩|⟨h3,_,h4⟩
   ·exact Or.inr ⟨q,l,h3,h2⟩
   ·exact Or.inr ⟨_,l,h3,h2⟩
   ·exact Or.inl (hnotown r l b h3 h4 h2)
 have hupsk:∀r,r∈gk->∃q,(r,q)∈r6 bg gk Hk'++(v7 gd++y7 bg N Hn):=by
  intro r hr;obtain⟨q,hq⟩:=List.getElem?_of_mem hr;obtain⟨u,hu⟩:=b2q (bg:=bg) hlk hq;exact⟨u,List.mem_append_left _ hu⟩
 have hupsn:∀j,j<Hn.length->∃q,(N+j,q)∈r6 bg gk Hk'++(v7 gd++y7 bg N Hn):=by
  intro j hj;obtain⟨u,hu⟩:=b5x (bg:=bg) (N:=N) hj;exact⟨u,List.mem_append_right _ (List.mem_append_right _ hu)⟩
 have hupsg:∀r,r∈gd->(r,none)∈r6 bg gk Hk'++(v7 gd++y7 bg N Hn):=fun r hr=>List.mem_append_right _ (List.mem_append_left _ (a7F.2 ⟨hr,rfl⟩));have hnL:∀r:Nat,(∃q,bg[r]?=some (some q))->nL L ⟨p5 bg 3 res,r6 bg gk Hk'++(v7 gd++y7 bg N Hn),RR⟩ r:=by
  rintro r ⟨q,hq⟩
  rcases(hbr hq).2 with h1|⟨j,hj,rfl,_⟩
  ·exact Or.inr (hupsk r (qd h1))
  ·exact Or.inr (hupsn j hj)
 have hrowback:∀{l:Loc} {row:n9},i7 w' (Sx S1 ρ') ρ' (fun r=>r<(Hk'++Hn).length) l row->i7 w' (Sx S0 (S7 ρ ρ' gk gd N Hn.length)) (S7 ρ ρ' gk gd N Hn.length) (nL L ⟨p5 bg 3 res,r6 bg gk Hk'++(v7 gd++y7 bg N Hn),RR⟩) l (C2 bg row):=by
  intro l row h;refine(a2U (g:=bg) hSback h).ext (qo _) (fun b _ hnb=>⟨rfl,hnb⟩) hnL (fun r l' ⟨q,hq⟩ h1=>?_) (fun _ _=>rfl);rw[(hbr hq).1]at h1;simp only[n6,hq];exact h1
 have hlocal:∀b,own ρ' b->(b<w'.heap.size/\¬S0 b/\B b):=by
  rintro b ⟨q,l,h1,h2⟩;obtain⟨h3,h4,_⟩:=hh.wf.own q l b h1 h2;refine⟨h3,fun h=>h4 (by rw[hS1];exact Or.inl h),?_⟩
  rcases hfresh b ⟨q,l,h1,h2⟩with h5|h5
  ·obtain⟨r,l0,h6,h7⟩:=hown0 b h5;exact(hw.own r l0 b h6 h7).2.2
  ·exact hw.new b h5
 have hdisj:∀r l b,r∉gk++gd->ρ r=some l->l.b=some b->¬own ρ' b:=by
  rintro r l b hr h1 h2 ⟨q,l',h3,h4⟩;exact(hh.wf.own q l' b h3 h4).2.1 (hnotown r l b hr h1 h2)
 have local':∀(r:Nat) (o':Option n9) (q:Nat) (x:Option n9),(Hk'++Hn)[q]?=some x->S7 ρ ρ' gk gd N Hn.length r=ρ' q->o'=x.map (C2 bg)->match o' with|none=>S7 ρ ρ' gk gd N Hn.length r=none|some row=>∃l,S7 ρ ρ' gk gd N Hn.length r=some l/\i7 w' (Sx S0 (S7 ρ ρ' gk gd N Hn.length)) (S7 ρ ρ' gk gd N Hn.length) (nL L ⟨p5 bg 3 res,r6 bg gk Hk'++(v7 gd++y7 bg N Hn),RR⟩) l row:=by
  intro r o' q x hx hq ho';have hg:g8 (Hk'++Hn) q=x:=by rw[C8,hx];rfl
  cases x with
  |none=>
   simp only[Option.map_none]at ho';subst ho';show S7 ρ ρ' gk gd N Hn.length r=none;rw[hq];exact hh.dead q hg
  |some row=>
   simp only[Option.map_some]at ho';subst ho';obtain⟨l,h1,h2⟩:=hh.rows q row hg;exact⟨l,by rw[hq];exact h1,hrowback h2⟩
 refine⟨v,S7 ρ ρ' gk gd N Hn.length,hE,{wf:=⟨?_,?_,?_,fun b hb=>qq (hw.low b hb) hext.size,fun b hb=>hw.new b (Nat.le_trans hext.size hb)⟩,rep:= ?_,ups:= ?_,others:= ?_,only:= ?_,ext:= ?_}⟩
 ·intro r r' l l' b h1 h2 k1 k2
  rcases F7 hn hlt h1 with⟨q,a1,a2⟩|⟨j,a0,a1,a2⟩|⟨a1,_,a2⟩
  ·rcases F7 hn hlt h2 with⟨q',b1,b2⟩|⟨j',b0,b1,b2⟩|⟨b1,_,b2⟩
   ·have:=hh.wf.inj q q' l l' b a2 b2 k1 k2;subst this;rw[a1]at b1;simpa using b1
   ·have:=hh.wf.inj q _ l l' b a2 b2 k1 k2;have:=(qa.1 a1).1;omega
   ·exact absurd ⟨q,l,a2,k1⟩ (hdisj r' l' b b1 b2 k2)
  ·rcases F7 hn hlt h2 with⟨q',b1,b2⟩|⟨j',b0,b1,b2⟩|⟨b1,_,b2⟩
   ·have:=hh.wf.inj _ q' l l' b a2 b2 k1 k2;have:=(qa.1 b1).1;omega
   ·have:=hh.wf.inj _ _ l l' b a2 b2 k1 k2;omega
   ·exact absurd ⟨_,l,a2,k1⟩ (hdisj r' l' b b1 b2 k2)
  ·rcases F7 hn hlt h2 with⟨q',b1,b2⟩|⟨j',b0,b1,b2⟩|⟨b1,_,b2⟩
   ·exact absurd ⟨q',l',b2,k2⟩ (hdisj r l b a1 a2 k1)
   ·exact absurd ⟨_,l',b2,k2⟩ (hdisj r l b a1 a2 k1)
   ·exact hw.inj r r' l l' b a2 b2 k1 k2
 ·intro r l b h1 k1
  rcases F7 hn hlt h1 with⟨q,_,a2⟩|⟨j,_,_,a2⟩|⟨a1,_,a2⟩
  ·exact hlocal b ⟨q,l,a2,k1⟩
  ·exact hlocal b ⟨_,l,a2,k1⟩
  ·obtain⟨h3,h4,h5⟩:=hw.own r l b a2 k1;exact⟨qq h3 hext.size,h4,h5⟩
 ·intro r l h1
  rcases F7 hn hlt h1 with⟨q,a1,_⟩|⟨j,a0,rfl,_⟩|⟨_,_,a2⟩
  ·exact Or.inr (hupsk r (qd a1))
  ·exact Or.inr (hupsn j a0)
  ·exact Or.inl (hw.given r l a2)
 ·refine(F6 (g:=bg) hSback 3 _ _ hrep).ext (qo _) (fun b _ hnb=>⟨rfl,hnb⟩) hnL (fun r l' ⟨q,hq⟩ h1=>?_);rw[(hbr hq).1]at h1;simp only[n6,hq];exact h1
 ·intro r o' hm
  rcases List.mem_append.1 hm with h1|h1
  ·obtain⟨q,x,p1,p2,p3⟩:=b2b h1;exact local' _ _ q x (by rw[qw (qa.1 p2).1];exact p2) (a2V hn hlt p1) p3
  ·rcases List.mem_append.1 h1 with h2|h2
   ·obtain⟨p1,rfl⟩:=a7F.1 h2;exact a5P hn hlt p1
   ·obtain⟨j,x,rfl,p2,p3⟩:=b5Q h2;refine local' _ _ (gk.length+j) x ?_ (a4J (qa.1 p2).1) p3;rw[qv (by omega),hlk];simpa using p2
 ·intro r hr
  by_cases hm:r∈gk++gd
  ·rcases List.mem_append.1 hm with h1|h1
   ·obtain⟨q,hq⟩:=hupsk r h1;exact absurd hq (hr q)
   ·exact absurd (hupsg r h1) (hr none)
  ·by_cases h1:r<N
   ·exact Y1 hm (Or.inl h1)
   ·by_cases h2:r<N+Hn.length
    ·obtain⟨j,rfl⟩:∃j,r=N+j:=⟨r-N,by omega⟩;obtain⟨q,hq⟩:=hupsn j (by omega);exact absurd hq (hr q)
    ·exact Y1 hm (Or.inr (by omega))
 ·intro r l h1
  rcases F7 hn hlt h1 with⟨q,a1,a2⟩|⟨j,a0,rfl,a2⟩|⟨_,_,a2⟩
  ·left
   have hq:=(qa.1 a1).1;have h3:=hkeep q l (by omega) a2;obtain⟨q',g1,p1⟩:=i6 h3;rw[hGs,qw hq,a1]at g1;simp only[qb]at g1;subst g1;exact p1
  ·refine Or.inr ⟨by omega,hupsn j a0,fun b hb=>?_⟩
   rcases hfresh b ⟨_,l,a2,hb⟩with h5|h5
   ·right
    obtain⟨r,l0,h6,h7⟩:=hown0 b h5;exact⟨r,l0,h6,h7⟩
   ·exact Or.inl h5
  ·exact Or.inl a2
 ·refine hext.mono fun b _ hb=>?_;obtain⟨q,l,h1,h2⟩:=hb;obtain⟨r,g1,p1⟩:=i6 h1;have hm:=qd ((hGs _ _).1 g1)
  rcases List.mem_append.1 hm with h3|h3
  ·obtain⟨u,hu⟩:=hupsk r h3;exact⟨r,l,u,hu,p1,h2⟩
  ·exact⟨r,l,none,hupsg r h3,p1,h2⟩
theorem b4V {f:FuncId} {raw:List AV} {rd0 gk gd rdx RR:List Nat} {Hk Hd Hk' Hn:Hp} {res:AV} (hop:U6 P o ev H f raw rd0) (hR0:∀r∈rd0,r∈RR) (hRg:∀r∈gk++gd,r∈RR) (hRx:∀r∈rdx,r∈RR)
  (hn:(gk++gd).Nodup) (hlt:∀r∈gk++gd,r<N) (hH:Hk++Hd=(gk++gd).map (fun r=>(H r).map (C2 ((gk++gd).map some)))) (hkl:gk.length=Hk.length) (hall:∀y∈Hk++Hd,y.isSome=true)
  (hcf:∀(w:World) (vs:Array Value),(callFunc f vs).run P w= .ok (.enter f vs) w) (hkl':Hk.length=Hk'.length)
  (hcall:∀(B S0:Nat->Prop) (w:World) (ρ:Nat->Option Loc) (L:Nat->Prop) (vs:List Value),WF B S0 w ρ L->(∀r∈rdx,∀row,H r=some row->∃l,ρ r=some l/\i7 w (Sx S0 ρ) ρ L l row)->
   a6W (b8t S0 ρ ((gk++gd).map some)) w (n6 ρ ((gk++gd).map some)) (Hk++Hd)->raw.length=vs.length->(∀(i:Nat) c y,raw[i]?=some c->vs[i]?=some y->e8 w (Sx S0 ρ) ρ L c y)->
   Calls P f vs.toArray w fun e w'=>∃v ρ',e= .returned v/\a6W (b8t S0 ρ ((gk++gd).map some)) w' ρ' (Hk'++Hn)/\e8 w' (Sx (b8t S0 ρ ((gk++gd).map some)) ρ') ρ' (fun r=>r<(Hk'++Hn).length) res v/\
    (∀r l,r<Hk.length->ρ' r=some l->n6 ρ ((gk++gd).map some) r=some l)/\(∀b,own ρ' b->own (n6 ρ ((gk++gd).map some)) b∨w.heap.size<=b)/\Ext (own (n6 ρ ((gk++gd).map some))) w w'):
  p6 P o ev H N ⟨p5 (C5 gk N Hn.length) 3 res,r6 (C5 gk N Hn.length) gk Hk'++(v7 gd++y7 (C5 gk N Hn.length) N Hn),RR⟩:=by
 intro B S0 a w ρ L hw hN hops hrd K Q hK;obtain⟨vs,h1,h2⟩:=a9s (E:=fun e v=>e= .returned v) hop hR0 hRg hRx hn hlt hH hkl hall hcf hkl' hcall B S0 a w ρ L hw hN hops hrd;unfold Oper.wp;rw[h1,Oper.upon_enter];refine h2.mono fun e w' he=>?_;obtain⟨v,ρ',rfl,hp⟩:=he;exact hK v w' ρ' hp
theorem b8r {S0 B:Nat->Prop} {w:World} {ρ:Nat->Option Loc} {L:Nat->Prop} {G:List (Option Nat)} (hw:WF B S0 w ρ L) {b:Nat} (h:b8t S0 ρ G b):b<w.heap.size:=by
 rcases h with h|⟨⟨r,l,h1,h2⟩,_⟩
 ·exact hw.low b h
 ·exact(hw.own r l b h1 h2).1
theorem a9U {S0:Nat->Prop} {ρ:Nat->Option Loc} {G:List (Option Nat)} {b:Nat} (h:Sx (b8t S0 ρ G) (n6 ρ G) b):Sx S0 ρ b:=by
 rcases h with(h|⟨h,_⟩)|⟨r,l,h1,h2⟩
 ·exact Or.inl h
 ·exact Or.inr h
 ·obtain⟨q,_,h3⟩:=i6 h1;exact Or.inr ⟨q,l,h3,h2⟩
theorem c3S {f:FuncId} {raw:List AV} {rd0 gk gd:List Nat} {Hk Hd Hk' Hn:Hp} {res:AV} (hop:U6 P o ev H f raw rd0)
  (hn:(gk++gd).Nodup) (hlt:∀r∈gk++gd,r<N) (hH:Hk++Hd=(gk++gd).map (fun r=>(H r).map (C2 ((gk++gd).map some)))) (hkl:gk.length=Hk.length) (hall:∀y∈Hk++Hd,y.isSome=true)
  (h:c7 P f (raw.map (p5 ((gk++gd).map some) 40)) Hk Hd res Hk' Hn):
  p6 P o ev H N ⟨p5 (C5 gk N Hn.length) 3 res,r6 (C5 gk N Hn.length) gk Hk'++(v7 gd++y7 (C5 gk N Hn.length) N Hn),rd0++(gk++gd)⟩:=by
 refine b4V (rdx:=[]) hop (fun r hr=>List.mem_append_left _ hr) (fun r hr=>List.mem_append_right _ hr) (by simp) hn hlt hH hkl hall h.1 h.2.1 ?_;intro B S0 w ρ L vs hw _ hheld hl hreps;refine h.2.2 _ w _ vs hheld (by simp[hl]) (fun i c y h1 h2=>?_);simp only[qe,qf]at h1;obtain⟨c',h1,rfl⟩:=h1;refine(F6 (fun b=>a9U) 40 c' y (hreps i c' y h1 h2)).ext (qo _) (fun b _ hnb=>⟨rfl,hnb⟩) ?_ (fun r l _ h=>h);rintro r ⟨q,hq⟩;have:=(qa.1 hq).1;rw[hH];simpa using this
def Hx (H:Nat->Option n9) (g:List Nat) (r:Nat):Option n9:=if g.contains r then none else H r
def b0m (H:Nat->Option n9) (g:List Nat):Nat->AV->AV
 |n+1, .row r i k=>match p7 (g.map some) r with|some q=> .row q i k|none=>frz (Hx H g) (n+1) (.row r i k)
 | n+1, .ptr r i o=>match p7 (g.map some) r with
  |some q=> .ptr q i o
  | none=>match H r with
   |some (.els sz es)=>match es[i]? with
    |some e=>if o<=e.length then .vptr ((e.drop o).map (b0m H g n))else .any
    |none=> .any
   |_=> .any
 |n+1, .mp r=>match p7 (g.map some) r with|some q=> .mp q|none=>frz (Hx H g) (n+1) (.mp r)
 |n+1, .agg cs=> .agg (cs.map (b0m H g n))
 |n+1, .tup cs=> .tup (cs.map (b0m H g n))
 |n+1, .clo f cs=> .clo f (cs.map (b0m H g n))
 |n+1, .bnd f cs=> .bnd f (cs.map (b0m H g n))
 |n+1, .vptr cs=> .vptr (cs.map (b0m H g n))
 |n+1, .ifc t x=> .ifc t (b0m H g n x)
 |_, .v x=> .v x
 |_, .lst sz els=> .lst sz els
 |_, .full sz els=> .full sz els
 |_, .iptr cs=> .iptr cs
 |_, .mpc ag kts kvs=> .mpc ag kts kvs
 |_,_=> .any
def D6 (H:Nat->Option n9) (g:List Nat):Nat->AV->List Nat
 |n+1, .row r i k=>match p7 (g.map some) r with|some _=>[]|none=>B8 (Hx H g) (n+1) (.row r i k)
 | n+1, .ptr r i _=>match p7 (g.map some) r with
  |some _=>[]
  | none=>r::(match H r with
   |some (.els sz es)=>(match es[i]? with
    |some e=>e.flatMap (D6 H g n)
    |none=>[])
   |_=>[])
 |n+1, .mp r=>match p7 (g.map some) r with|some _=>[]|none=>B8 (Hx H g) (n+1) (.mp r)
 |n+1, .agg cs=>cs.flatMap (D6 H g n)
 |n+1, .tup cs=>cs.flatMap (D6 H g n)
 |n+1, .clo _ cs=>cs.flatMap (D6 H g n)
 |n+1, .bnd _ cs=>cs.flatMap (D6 H g n)
 |n+1, .vptr cs=>cs.flatMap (D6 H g n)
 |n+1, .ifc _ x=>D6 H g n x
 |_,_=>[]
theorem a9D {g:List Nat} {r:Nat} (h:p7 (g.map some) r=none):r∉g:=by
 intro hm;obtain⟨q,hq⟩:=List.getElem?_of_mem hm;unfold p7 at h;rw[List.findIdx?_eq_none_iff]at h;have:=h (some r) (qu hm);simp at this
theorem b9f {w:World} {S0 B:Nat->Prop} {ρ:Nat->Option Loc} {L:Nat->Prop} {H:Nat->Option n9} {g:List Nat} (hw:WF B S0 w ρ L):∀(n:Nat) (x:AV) (y:Value),
  (∀r∈D6 H g n x,∀row,H r=some row->∃l,ρ r=some l/\i7 w (Sx S0 ρ) ρ L l row)->e8 w (Sx S0 ρ) ρ L x y->
  e8 w (Sx S0 (n6 ρ (g.map some))) (n6 ρ (g.map some)) (fun r=>∃q,(g.map some)[r]?=some (some q)) (b0m H g n x) y:=by
 have hS:∀b,Sx S0 (n6 ρ (g.map some)) b->Sx S0 ρ b:=by
  rintro b (h|⟨r,l,h1,h2⟩)
  ·exact Or.inl h
  ·obtain⟨q,_,h3⟩:=i6 h1;exact Or.inr ⟨q,l,h3,h2⟩
 have hP:∀{x y},r8 w (Sx S0 ρ) x y->r8 w (Sx S0 (n6 ρ (g.map some))) x y:=fun h=>h.ext (qo _) (fun b _ hn=>⟨rfl,fun k=>hn (hS b k)⟩);have hnot:∀r l b,r∉g->ρ r=some l->l.b=some b->¬Sx S0 (n6 ρ (g.map some)) b:=by
  rintro r l b hr h1 h2 (h|⟨r',l',h3,h4⟩)
  ·exact(hw.own r l b h1 h2).2.1 h
  ·obtain⟨q,hq,h5⟩:=i6 h3;have:=hw.inj r q l l' b h1 h5 h2 h4;subst this;have hq':g[r']?=some r:=by rw[qe]at hq;cases hgr:g[r']?<;>simp[hgr]at hq ⊢;exact hq
   exact hr (qd hq')
 have hX:∀r l b row,Hx H g r=some row->ρ r=some l->l.b=some b->¬Sx S0 (n6 ρ (g.map some)) b:=by
  intro r l b row h0 h1 h2;refine hnot r l b ?_ h1 h2;intro hm;simp[Hx,hm]at h0
 have hHx:∀r row,Hx H g r=some row->H r=some row:=by
  intro r row h;unfold Hx at h
  split at h
  ·cases h
  ·exact h
 have fz:∀n x y,(∀r∈B8 (Hx H g) n x,∀row,H r=some row->∃l,ρ r=some l/\i7 w (Sx S0 ρ) ρ L l row)->e8 w (Sx S0 ρ) ρ L x y->r8 w (Sx S0 (n6 ρ (g.map some))) (frz (Hx H g) n x) y:=
  fun n x y h=>a4b hw (fun b hn k=>hn (hS b k)) hX n x y (fun r hr row h0=>h r hr row (hHx r row h0))
 intro n
 induction n with
 |zero=>
  intro x y _ h
  cases x with
  |v x=>cases h with|pure _ _ h=>exact .pure _ _ (hP h)
  |lst sz els=>cases h with|pure _ _ h=>exact .pure _ _ (hP h)
  |full sz els=>cases h with|pure _ _ h=>exact .pure _ _ (hP h)
  |iptr cs=>cases h with|pure _ _ h=>exact .pure _ _ (hP h)
  |mpc ag kts kvs=>cases h with|pure _ _ h=>exact .pure _ _ (hP h)
  |_=>exact .pure _ _ (.any _)
 | succ n ih=>
  intro x y hrd h
  cases x with
  |v x=>cases h with|pure _ _ h=>exact .pure _ _ (hP h)
  |lst sz els=>cases h with|pure _ _ h=>exact .pure _ _ (hP h)
  |full sz els=>cases h with|pure _ _ h=>exact .pure _ _ (hP h)
  |iptr cs=>cases h with|pure _ _ h=>exact .pure _ _ (hP h)
  |mpc ag kts kvs=>cases h with|pure _ _ h=>exact .pure _ _ (hP h)
  |any=>exact .pure _ _ (.any _)
  |may l x=>exact .pure _ _ (.any _)
  |fptr c r i o=>exact .pure _ _ (.any _)
  | row r i k=>
   simp only[b0m]
   split
   ·rename_i q hq;have hg:=z8 hq
    cases h with
    |pure _ _ h=>cases h
    |row _ _ _ _ h1 h2 h3=>
     refine .row _ _ _ _ ⟨_,hg⟩ h2 (fun l hl=>h3 l ?_);simp only[n6,hg]at hl;exact hl
   ·rename_i hq;refine .pure _ _ (fz _ _ _ (fun r' hr'=>hrd r' ?_) h);simp only[D6,hq];exact hr'
  | mp r=>
   simp only[b0m]
   split
   ·rename_i q hq;have hg:=z8 hq
    cases h with
    |pure _ _ h=>cases h
    |mp _ _ h1 h2 h3=>
     refine .mp _ _ ⟨_,hg⟩ h2 (fun l hl=>h3 l ?_);simp only[n6,hg]at hl;exact hl
   ·rename_i hq;refine .pure _ _ (fz _ _ _ (fun r' hr'=>hrd r' ?_) h);simp only[D6,hq];exact hr'
  | ptr r i o=>
   simp only[b0m]
   split
   ·rename_i q hq;have hg:=z8 hq
    cases h with
    |pure _ _ h=>cases h
    |ptr _ _ _ _ h1 h2 h3=>
     refine .ptr _ _ _ _ ⟨_,hg⟩ h2 (fun l hl=>h3 l ?_);simp only[n6,hg]at hl;exact hl
   ·rename_i hq;simp only[D6,hq]at hrd
    split
    ·rename_i sz es hH
     split
     ·rename_i e he
      split
      ·rename_i ho;simp only[hH,he]at hrd;obtain⟨l,hl,n8⟩:=hrd r (by simp) _ hH;obtain⟨b,hb⟩:=a0O n8 he;obtain⟨c,t,k1,k2,k3,k4⟩:=a0l n8 he hb
       cases h with
       |pure _ _ h=>cases h
       | ptr _ _ _ _ h1 h2 h3=>
        obtain⟨b',hb',rfl⟩:=h3 l hl;rw[hb]at hb';simp only[qb]at hb';subst hb';have hsz:(i+1)*sz=i*sz+sz:=Nat.succ_mul _ _;refine .vptr _ b (l.o+i*l.sz+o) ((c.toList.drop (l.o+i*sz+o)).take (e.length-o)) (hnot r l b (a9D hq) hl hb) (hw.own r l b hl hb).1 ?_ ?_ ?_
        ·have hcl:(c.toList.drop (l.o+i*sz+o)).length=c.size-(l.o+i*sz+o):=by rw[qx,Array.length_toList]
         have hel:(e.drop o).length=e.length-o:=qx ..;rw[List.length_map,hel,qm,hcl,Nat.min_eq_left];omega
        ·intro j u hj;rw[qk]at hj
         split at hj
         ·rename_i hjl;rw[ql]at hj;obtain⟨x,p1,p2,p3,p4⟩:=k4 (o+j) _ (qc (by omega));have hju:c[l.o+i*sz+o+j]?=some u:=by simpa using hj
          rw[<-Nat.add_assoc]at p1;rw[hju]at p1;simp only[qb]at p1;subst p1;refine⟨?_,p3⟩;rw[n8.1];rw[<-Nat.add_assoc]at p2;exact p2
         ·cases hj
        ·intro j cc u hj hu;simp only[qe,qf]at hj;obtain⟨c',hj,rfl⟩:=hj;rw[ql]at hj;rw[qk]at hu
         split at hu
         ·rw[ql]at hu;obtain⟨x,p1,p2,p3,p4⟩:=k4 (o+j) c' hj;have hju:c[l.o+i*sz+o+j]?=some u:=by simpa using hu
          rw[<-Nat.add_assoc]at p1;rw[hju]at p1;simp only[qb]at p1;subst p1;exact ih c' u (fun r' hr'=>hrd r' (by simp only[List.mem_cons,List.mem_flatMap];exact Or.inr ⟨c',qd hj,hr'⟩)) p4
         ·cases hu
      ·exact .pure _ _ (.any _)
     ·exact .pure _ _ (.any _)
    ·exact .pure _ _ (.any _)
  |agg cs=>
   obtain⟨vs,rfl,hl,hc⟩:=A2 h;refine .agg _ vs (by simpa using hl) (fun u hu=>?_) (fun i c u h1 h2=>?_)
   ·obtain⟨i,hi,rfl⟩:=List.getElem_of_mem hu;exact(hc i _ _ (qc (by omega)) (qc hi)).1
   ·simp only[qe,qf]at h1;obtain⟨c',h1,rfl⟩:=h1;exact ih c' u (fun r hr=>hrd r (by simp only[D6,List.mem_flatMap];exact⟨c',qd h1,hr⟩)) (hc i c' u h1 h2).2
  |tup cs=>
   obtain⟨vs,rfl,hl,hc⟩:=L5 h;refine .tup _ vs (by simpa using hl) (fun i c u h1 h2=>?_);simp only[qe,qf]at h1;obtain⟨c',h1,rfl⟩:=h1;exact ih c' u (fun r hr=>hrd r (by simp only[D6,List.mem_flatMap];exact⟨c',qd h1,hr⟩)) (hc i c' u h1 h2)
  |clo f cs=>
   obtain⟨vs,rfl,hl,hc⟩:=E8 h;refine .clo f _ vs (by simpa using hl) (fun i c u h1 h2=>?_);simp only[qe,qf]at h1;obtain⟨c',h1,rfl⟩:=h1;exact ih c' u (fun r hr=>hrd r (by simp only[D6,List.mem_flatMap];exact⟨c',qd h1,hr⟩)) (hc i c' u h1 h2)
  |bnd f cs=>
   obtain⟨vs,rfl,hl,hc⟩:=P6 h;refine .bnd f _ vs (by simpa using hl) (fun i c u h1 h2=>?_);simp only[qe,qf]at h1;obtain⟨c',h1,rfl⟩:=h1;exact ih c' u (fun r hr=>hrd r (by simp only[D6,List.mem_flatMap];exact⟨c',qd h1,hr⟩)) (hc i c' u h1 h2)
  |vptr cs=>
   obtain⟨b,off,vs,rfl,hSb,hb,hl,hv,hc⟩:=y9 h;refine .vptr _ b off vs (fun k=>hSb (hS b k)) hb (by simpa using hl) hv (fun i c u h1 h2=>?_);simp only[qe,qf]at h1;obtain⟨c',h1,rfl⟩:=h1;exact ih c' u (fun r hr=>hrd r (by simp only[D6,List.mem_flatMap];exact⟨c',qd h1,hr⟩)) (hc i c' u h1 h2)
  |ifc t x=>
   obtain⟨v,rfl,h'⟩:=B6 h;exact .ifc t _ _ (ih x v (fun r hr=>hrd r (by simpa only[D6]using hr)) h')
def AV.flatV:Nat->AV->Bool
 |_, .v _=>true
 |_, .any=>true
 |_, .row _ _ _=>true
 |_, .ptr _ _ _=>true
 |_, .mp _=>true
 |n+1, .agg cs=>cs.all (AV.flatV n)
 |n+1, .tup cs=>cs.all (AV.flatV n)
 |_,_=>false
def a1s:Option n9->Bool
 |some (.els _ es)=>es.all fun e=>e.all (AV.flatV 2)
 |some (.map _ _ _)=>true
 |some (.itr _ _ _ _)=>false
 |some (.mpa _ _ _)=>false
 |none=>true
theorem a6w {w:World} {S S':Nat->Prop}:∀(n:Nat) (x:AV) (y:Value),x.flatV n=true->r8 w S x y->r8 w S' x y:=by
 intro n
 induction n with
 |zero=>
  intro x y h1 h2
  cases h2<;>first|(exact .v _)|(exact .any _)|simp[AV.flatV]at h1
 | succ n ih=>
  intro x y h1 h2
  cases h2 with
  |v x=>exact .v _
  |any x=>exact .any _
  |agg cs vs hl hc h=>
   simp only[AV.flatV,qn]at h1;exact .agg cs vs hl hc (fun i c x k1 k2=>ih c x (h1 c (qd k1)) (h i c x k1 k2))
  |tup cs vs hl h=>
   simp only[AV.flatV,qn]at h1;exact .tup cs vs hl (fun i c x k1 k2=>ih c x (h1 c (qd k1)) (h i c x k1 k2))
  |_=>simp[AV.flatV]at h1
theorem a8g {w:World} {S S':Nat->Prop} {ρ:Nat->Option Loc} {L:Nat->Prop}:∀(n:Nat) (x:AV) (y:Value),x.flatV n=true->e8 w S ρ L x y->e8 w S' ρ L x y:=by
 intro n
 induction n with
 |zero=>
  intro x y h1 h2
  cases h2 with
  |pure _ _ h=>exact .pure _ _ (a6w 0 _ _ h1 h)
  |row _ _ _ _ a b c=>exact .row _ _ _ _ a b c
  |ptr _ _ _ _ a b c=>exact .ptr _ _ _ _ a b c
  |mp _ _ a b c=>exact .mp _ _ a b c
  |_=>simp[AV.flatV]at h1
 | succ n ih=>
  intro x y h1 h2
  cases h2 with
  |pure _ _ h=>exact .pure _ _ (a6w _ _ _ h1 h)
  |row _ _ _ _ a b c=>exact .row _ _ _ _ a b c
  |ptr _ _ _ _ a b c=>exact .ptr _ _ _ _ a b c
  |mp _ _ a b c=>exact .mp _ _ a b c
  |agg cs vs hl hc h=>
   simp only[AV.flatV,qn]at h1;exact .agg cs vs hl hc (fun i c x k1 k2=>ih c x (h1 c (qd k1)) (h i c x k1 k2))
  |tup cs vs hl h=>
   simp only[AV.flatV,qn]at h1;exact .tup cs vs hl (fun i c x k1 k2=>ih c x (h1 c (qd k1)) (h i c x k1 k2))
  |_=>simp[AV.flatV]at h1
theorem c3d {f:FuncId} {raw:List AV} {rd0 gk gd:List Nat} {Hk Hd Hk' Hn:Hp} {res:AV} (hop:U6 P o ev H f raw rd0)
  (hn:(gk++gd).Nodup) (hlt:∀r∈gk++gd,r<N) (hH:Hk++Hd=(gk++gd).map (fun r=>(H r).map (C2 ((gk++gd).map some)))) (hkl:gk.length=Hk.length) (hall:∀y∈Hk++Hd,y.isSome=true)
  (h:c7 P f (raw.map (b0m H (gk++gd) 3)) Hk Hd res Hk' Hn) (hres:res.flatV 2=true) (hrows:∀y∈Hk'++Hn,a1s y=true):
  p6 P o ev H N ⟨p5 (C5 gk N Hn.length) 3 res,r6 (C5 gk N Hn.length) gk Hk'++(v7 gd++y7 (C5 gk N Hn.length) N Hn),rd0++((gk++gd)++raw.flatMap (D6 H (gk++gd) 3))⟩:=by
 refine b4V (rdx:=raw.flatMap (D6 H (gk++gd) 3)) hop (fun r hr=>List.mem_append_left _ hr) (fun r hr=>List.mem_append_right _ (List.mem_append_left _ hr)) (fun r hr=>List.mem_append_right _ (List.mem_append_right _ hr)) hn hlt hH hkl hall h.1 h.2.1 ?_;intro B S0 w ρ L vs hw hrdx hheld hl hreps;have hlen:∀r:Nat,(∃q,((gk++gd).map some)[r]?=some (some q))->r<(Hk++Hd).length:=by
  rintro r ⟨q,hq⟩;have:=(qa.1 hq).1;rw[hH];simpa using this
 have hh0:a6W S0 w (n6 ρ ((gk++gd).map some)) (Hk++Hd):=by
  refine⟨⟨hheld.wf.inj,fun r l b h1 h2=>?_,hheld.wf.given,hw.low,fun _ _=>trivial⟩,fun r row hr=>?_,hheld.dead⟩
  ·obtain⟨h3,h4,_⟩:=hheld.wf.own r l b h1 h2;exact⟨h3,fun h=>h4 (Or.inl h),trivial⟩
  ·obtain⟨l,h1,h2⟩:=hheld.rows r row hr;exact⟨l,h1,h2.ext (qo _) (fun b _ hnb=>⟨rfl,by
    rintro(h|h)
    ·exact hnb (Or.inl (Or.inl h))
    ·exact hnb (Or.inr h)⟩) (fun r h=>h) (fun r l _ h=>h) (fun _ _=>rfl)⟩
 refine(h.2.2 S0 w _ vs hh0 (by simp[hl]) (fun i c y h1 h2=>?_)).mono ?_
 ·simp only[qe,qf]at h1;obtain⟨c',h1,rfl⟩:=h1;exact(b9f hw 3 c' y (fun r hr=>hrdx r (List.mem_flatMap.2 ⟨c',qd h1,hr⟩)) (hreps i c' y h1 h2)).ext (qo _) (fun b _ hnb=>⟨rfl,hnb⟩) hlen (fun r l _ h=>h)
 ·rintro e w' ⟨v,ρ',rfl,hh,hrep,hkeep,hfresh,hext⟩;refine⟨v,ρ',rfl,⟨⟨hh.wf.inj,fun r l b h1 h2=>?_,hh.wf.given,fun b hb=>qq (b8r hw hb) hext.size,fun _ _=>trivial⟩,fun r row hr=>?_,hh.dead⟩,a8g 2 _ _ hres hrep,hkeep,hfresh,hext⟩
  ·obtain⟨h3,h4,_⟩:=hh.wf.own r l b h1 h2;refine⟨h3,?_,trivial⟩;rintro(h5|⟨⟨r0,l0,h5,h6⟩,h7⟩)
   ·exact h4 h5
   ·rcases hfresh b ⟨r,l,h1,h2⟩with h8|h8
    ·exact h7 h8
    ·have:=(hw.own r0 l0 b h5 h6).1;omega
  ·obtain⟨l,h1,h2⟩:=hh.rows r row hr;refine⟨l,h1,?_⟩;have hfl:=hrows (some row) (by
    rw[C8]at hr
    cases hq:(Hk'++Hn)[r]? with
    |none=>rw[hq]at hr;simp at hr
    |some z=>rw[hq]at hr;simp only[Option.getD_some]at hr;subst hr;exact qd hq)
   cases row with
   |els sz es=>
    obtain⟨g1,g2,g3,g4⟩:=h2;refine⟨g1,g2,g3,fun b hb=>?_⟩;obtain⟨c,t,k1,k2,k3,k4⟩:=g4 b hb;refine⟨c,t,k1,k2,k3,fun i a hi=>?_⟩;obtain⟨x,p1,p2,p3⟩:=k4 i a hi;refine⟨x,p1,p2,a8g 2 _ _ ?_ p3⟩;simp only[a1s,qn]at hfl;obtain⟨e,he,ha⟩:=List.mem_flatten.1 (qd hi);exact hfl e he a ha
   |map ag kts kvs=>exact h2
   |itr ag kts left cur=>simp[a1s]at hfl
   |mpa ag kts kvs=>simp[a1s]at hfl
end
end Go.AM
namespace Go.AM
def wk:Nat->AV->AV
 |n+1, .full s e=> .lst s (e.map fun el=>el.map (wk n))
 |n+1, .lst s e=> .lst s (e.map fun el=>el.map (wk n))
 |n+1, .iptr c=> .iptr (c.map (wk n))
 |n+1, .agg c=> .agg (c.map (wk n))
 |n+1, .tup c=> .tup (c.map (wk n))
 |n+1, .clo f c=> .clo f (c.map (wk n))
 |n+1, .bnd f c=> .bnd f (c.map (wk n))
 |n+1, .ifc t x=> .ifc t (wk n x)
 |_,x=>x
theorem c4c {w:World} {S:Nat->Prop}:∀(n:Nat) (x:AV) (y:Value),r8 w S x y->r8 w S (wk n x) y:=by
 intro n
 induction n with
 |zero=>intro x y h;cases x<;>exact h
 | succ n ih=>
  have cells:∀(cs:List AV) (vs:List Value),(∀(i:Nat) c x,cs[i]?=some c->vs[i]?=some x->r8 w S c x)->∀(i:Nat) c x,(cs.map (wk n))[i]?=some c->vs[i]?=some x->r8 w S c x:=by
   intro cs vs h i c x h1 h2;simp only[qe,qf]at h1;obtain⟨c',h1,rfl⟩:=h1;exact ih c' x (h i c' x h1 h2)
  have flat:∀(els:List (List AV)),(els.map fun el=>el.map (wk n)).flatten=els.flatten.map (wk n):=by intro els;rw[List.map_flatten]
  intro x y h
  cases h with
  |v=>exact .v _
  |any=>exact .any _
  |agg cs vs hl hc h=>exact .agg _ vs (by simpa using hl) hc (cells cs vs h)
  |tup cs vs hl h=>exact .tup _ vs (by simpa using hl) (cells cs vs h)
  | lst sz els b off cap vs hS hb hcap hel hl hv h=>
   have:=r8.lst (w:=w) (S:=S) sz (els.map fun el=>el.map (wk n)) b off cap vs hS hb (by simpa using hcap) (by
    intro e he;obtain⟨e',he',rfl⟩:=List.mem_map.1 he;simpa using hel e' he') (by rw[flat,List.length_map];exact hl) hv (by rw[flat];exact cells _ vs h)
   simpa [wk]using this
  |lstNil sz a cap=>exact .lstNil _ _ _
  | full sz els b off vs hS hb hel hl hv h=>
   have:=r8.lst (w:=w) (S:=S) sz (els.map fun el=>el.map (wk n)) b off els.length vs hS hb (by simp) (by
    intro e he;obtain⟨e',he',rfl⟩:=List.mem_map.1 he;simpa using hel e' he') (by rw[flat,List.length_map];exact hl) hv (by rw[flat];exact cells _ vs h)
   simpa [wk]using this
  |iptr cs b off vs hS hb hl hv h=>exact .iptr _ b off vs hS hb (by simpa using hl) hv (cells cs vs h)
  |clo f cs vs hl h=>exact .clo f _ vs (by simpa using hl) (cells cs vs h)
  |bnd f cs vs hl h=>exact .bnd f _ vs (by simpa using hl) (cells cs vs h)
  |ifc t x y h=>exact .ifc t _ _ (ih x y h)
  |mpc ag kts kvs b hS hb h=>exact .mpc ag kts kvs b hS hb h
  |mayT l x y ht h=>exact .mayT l x y ht h
  |mayF l x hf=>exact .mayF l x hf
theorem a9.wk {P:Program} {f:FuncId} {args args':List AV} {res:AV} (h:a9 P f args' res) (he:args.map (wk 4)=args'):a9 P f args res:=by
 subst he;have hr:∀{w:World} {S0:Nat->Prop} {vs:List Value},(∀(i:Nat) c x,args[i]?=some c->vs[i]?=some x->r8 w S0 c x)->∀(i:Nat) c x,(args.map (AM.wk 4))[i]?=some c->vs[i]?=some x->r8 w S0 c x:=by
  intro w S0 vs h i c x h1 h2;simp only[qe,qf]at h1;obtain⟨c',h1,rfl⟩:=h1;exact c4c 4 c' x (h i c' x h1 h2)
 rcases h with⟨h1,h2⟩|h2
 ·exact Or.inl ⟨h1,fun S0 w vs hlow hl hrep=>h2 S0 w vs hlow (by simpa using hl) (hr hrep)⟩
 ·exact Or.inr fun S0 w vs hl hrep=>h2 S0 w vs (by simpa using hl) (hr hrep)
end Go.AM
namespace Go.AM
def A4:List (List KC×AV)->List KC->Option AV
 |[],_=>none
 |(k,v)::r,q=>if q=k then some v else A4 r q
def O1:List (List KC×AV)->List KC->AV->List (List KC×AV)
 |[],q,u=>[(q,u)]
 |(k,v)::r,q,u=>if q=k then(k,u)::r else(k,v)::O1 r q u
def R5 (l:List (List KC×AV)) (q:List KC):List (List KC×AV):=l.filter fun p=>decide (p.1≠q)
def b3p:List (List KC×Value)->List KC->List (List KC×Value)
 |[],_=>[]
 |(k,v)::r,q=>if q=k then r else(k,v)::b3p r q
theorem a4f:∀{l:List (List KC×AV)} {q:List KC} {a:AV},(l.map (·.1)).Nodup->(A4 l q=some a↔(q,a)∈l)
 |[],q,a,_=>by simp[A4]
 | (k,v)::r,q,a,h=>by
  rw[List.map_cons,List.nodup_cons]at h;unfold A4
  split
  ·rename_i e;subst e;constructor
   ·intro e;simp only[qb]at e;subst e;simp
   ·intro hm
    rcases List.mem_cons.1 hm with e|e
    ·simp only[qr,true_and]at e;rw[e]
    ·exact absurd (qu (f:=(·.1)) e) h.1
  ·rename_i hne;rw[a4f h.2];constructor
   ·intro hm;exact List.mem_cons_of_mem _ hm
   ·intro hm
    rcases List.mem_cons.1 hm with e|e
    ·simp only[qr]at e;exact absurd e.1 hne
    ·exact e
theorem b3h {l m:List (List KC×AV)} (hp:l.Perm m) (hn:(m.map (·.1)).Nodup) (q:List KC):A4 l q=A4 m q:=by
 have hl:(l.map (·.1)).Nodup:=(hp.map _).nodup_iff.2 hn
 apply Option.ext;intro a;rw[a4f hl,a4f hn,hp.mem_iff]
theorem a0z:∀(l:List (List KC×AV)) (q:List KC) (u:AV),(l.map (·.1)).Nodup->(O1 l q u).Perm ((q,u)::R5 l q)
 |[],q,u,_=>by simp[O1,R5]
 | (k,v)::r,q,u,h=>by
  rw[List.map_cons,List.nodup_cons]at h;unfold O1
  split
  ·rename_i e;subst e;have e2:R5 ((q,v)::r) q=r:=by
    unfold R5;rw[List.filter_cons_of_neg (by simp),List.filter_eq_self];intro p hp;simp only[ne_eq,decide_eq_true_eq];rintro rfl;exact h.1 (qu (f:=(·.1)) hp)
   rw[e2]
  ·rename_i hne;have e2:R5 ((k,v)::r) q=(k,v)::R5 r q:=by
    unfold R5;rw[List.filter_cons_of_pos (by simpa using Ne.symm hne)]
   rw[e2];exact((a0z r q u h.2).cons _).trans (List.Perm.swap _ _ _)
theorem a4x {l:List (List KC×AV)} (q:List KC) (h:(l.map (·.1)).Nodup):((R5 l q).map (·.1)).Nodup/\q∉ (R5 l q).map (·.1):=by
 unfold R5;refine⟨h.sublist (List.filter_sublist.map _),?_⟩;intro hm;obtain⟨p,hp,rfl⟩:=List.mem_map.1 hm;simpa using(List.mem_filter.1 hp).2
theorem b3l {l m:List (List KC×AV)} (hp:l.Perm m) (hn:(m.map (·.1)).Nodup) (q:List KC) (u:AV):(O1 l q u).Perm (O1 m q u)/\((O1 m q u).map (·.1)).Nodup:=by
 have hl:(l.map (·.1)).Nodup:=(hp.map _).nodup_iff.2 hn
 have h1:=a0z l q u hl;have h2:=a0z m q u hn;have h3:(R5 l q).Perm (R5 m q):=hp.filter _;refine⟨h1.trans ((h3.cons _).trans h2.symm),?_⟩;have:=(h2.map (·.1)).nodup_iff.2 (by
  rw[List.map_cons,List.nodup_cons];obtain⟨k1,k2⟩:=a4x q hn;exact⟨k2,k1⟩)
 exact this
def a2B (w:World) (S:Nat->Prop) (ρ:Nat->Option Loc) (L:Nat->Prop):List (List KC×AV)->List (List KC×Value)->Prop
 |[],[]=>True
 |p::l,q::m=>p.1=q.1/\e8 w S ρ L p.2 q.2/\a2B w S ρ L l m
 |_,_=>False
theorem b1R {w:World} {S:Nat->Prop} {ρ:Nat->Option Loc} {L:Nat->Prop}:∀{l:List (List KC×AV)} {m:List (List KC×Value)},l.length=m.length->(∀(i:Nat) p q,l[i]?=some p->m[i]?=some q->p.1=q.1/\e8 w S ρ L p.2 q.2)->a2B w S ρ L l m
 |[],[],_,_=>trivial
 |p::l,q::m,h,g=>⟨(g 0 p q rfl rfl).1,(g 0 p q rfl rfl).2,b1R (by simpa using h) (fun i p q h1 h2=>g (i+1) p q h1 h2)⟩
 |[],_::_,h,_=>by simp at h
 |_::_,[],h,_=>by simp at h
theorem a7o {w:World} {S:Nat->Prop} {ρ:Nat->Option Loc} {L:Nat->Prop}:∀{l:List (List KC×AV)} {m:List (List KC×Value)},a2B w S ρ L l m->l.length=m.length/\∀(i:Nat) p q,l[i]?=some p->m[i]?=some q->p.1=q.1/\e8 w S ρ L p.2 q.2
 |[],[],_=>⟨rfl,fun i p q h=>by simp at h⟩
 |p::l,q::m,h=>by
  obtain⟨h1,h2,h3⟩:=h;obtain⟨k1,k2⟩:=a7o h3;refine⟨by simp[k1],fun i p' q' e1 e2=>?_⟩
  cases i with
  |zero=>simp at e1 e2;subst e1 e2;exact⟨h1,h2⟩
  |succ i=>simp at e1 e2;exact k2 i _ _ e1 e2
 |[],_::_,h=>h.elim
 |_::_,[],h=>h.elim
theorem a8W {w:World} {S:Nat->Prop} {ρ:Nat->Option Loc} {L:Nat->Prop}:∀{l:List (List KC×AV)} {m:List (List KC×Value)} (q:List KC),a2B w S ρ L l m->(∃a v,A4 l q=some a/\s8 m q=some v/\e8 w S ρ L a v)∨(A4 l q=none/\s8 m q=none)
 |[],[],q,_=>Or.inr ⟨rfl,rfl⟩
 |(k,a)::l,(k',v)::m,q,h=>by
  obtain⟨h1,h2,h3⟩:=h;simp only at h1 h2;subst h1;unfold A4 s8
  split
  ·exact Or.inl ⟨a,v,rfl,rfl,h2⟩
  ·exact a8W q h3
 |[],_::_,q,h=>h.elim
 |_::_,[],q,h=>h.elim
theorem a9c {w:World} {S:Nat->Prop} {ρ:Nat->Option Loc} {L:Nat->Prop} {a:AV} {v:Value} (hav:e8 w S ρ L a v):∀{l:List (List KC×AV)} {m:List (List KC×Value)} (q:List KC),a2B w S ρ L l m->a2B w S ρ L (O1 l q a) (M9 m q v)
 |[],[],q,_=>⟨rfl,hav,trivial⟩
 |(k,b)::l,(k',u)::m,q,h=>by
  obtain⟨h1,h2,h3⟩:=h;simp only at h1 h2;subst h1;unfold O1 M9
  split
  ·exact⟨rfl,hav,h3⟩
  ·exact⟨rfl,h2,a9c hav q h3⟩
 |[],_::_,q,h=>h.elim
 |_::_,[],q,h=>h.elim
theorem a9j {w:World} {S:Nat->Prop} {ρ:Nat->Option Loc} {L:Nat->Prop}:∀{l:List (List KC×AV)} {m:List (List KC×Value)} (q:List KC),(l.map (·.1)).Nodup->a2B w S ρ L l m->a2B w S ρ L (R5 l q) (b3p m q)
 |[],[],q,_,_=>trivial
 | (k,b)::l,(k',u)::m,q,hn,h=>by
  obtain⟨h1,h2,h3⟩:=h;simp only at h1 h2;subst h1;rw[List.map_cons,List.nodup_cons]at hn;unfold b3p
  split
  ·rename_i e;subst e;have e2:R5 ((q,b)::l) q=l:=by
    unfold R5;rw[List.filter_cons_of_neg (by simp),List.filter_eq_self];intro p hp;simp only[ne_eq,decide_eq_true_eq];rintro rfl;exact hn.1 (qu (f:=(·.1)) hp)
   rw[e2];exact h3
  ·rename_i hne;have e2:R5 ((k,b)::l) q=(k,b)::R5 l q:=by
    unfold R5;rw[List.filter_cons_of_pos (by simpa using Ne.symm hne)]
   rw[e2];exact⟨rfl,h2,a9j q hn.2 h3⟩
 |[],_::_,q,_,h=>h.elim
 |_::_,[],q,_,h=>h.elim
theorem a2B.ext {w w':World} {S S':Nat->Prop} {ρ ρ':Nat->Option Loc} {L L':Nat->Prop} (f:∀x y,e8 w S ρ L x y->e8 w' S' ρ' L' x y):∀{l:List (List KC×AV)} {m:List (List KC×Value)},a2B w S ρ L l m->a2B w' S' ρ' L' l m
 |[],[],_=>trivial
 |p::l,q::m,h=>⟨h.1,f _ _ h.2.1,h.2.2.ext f⟩
 |[],_::_,h=>h.elim
 |_::_,[],h=>h.elim
theorem a1a.lie {w:World} {S:Nat->Prop} {ρ:Nat->Option Loc} {L:Nat->Prop} {b:Nat} {ag:Bool} {kts:List KT} {kvs:List (List KC×AV)} (h:a1a w S ρ L b ag kts kvs):
  ∃vs ks,J6 w b ag kts vs/\List.Perm ks kvs/\(kvs.map (·.1)).Nodup/\a2B w S ρ L ks vs:=by
 obtain⟨vs,ks,h1,h2,h3,h4,h5⟩:=h;exact⟨vs,ks,h1,h2,h3,b1R h4 h5⟩
theorem a1a.of_lie {w:World} {S:Nat->Prop} {ρ:Nat->Option Loc} {L:Nat->Prop} {b:Nat} {ag:Bool} {kts:List KT} {kvs ks:List (List KC×AV)} {vs:List (List KC×Value)} (h1:J6 w b ag kts vs) (h2:List.Perm ks kvs) (h3:(kvs.map (·.1)).Nodup) (h4:a2B w S ρ L ks vs):a1a w S ρ L b ag kts kvs:=by
 obtain⟨k1,k2⟩:=a7o h4;exact⟨vs,ks,h1,h2,h3,k1,k2⟩
theorem b2S {P:Program} {w:World} {t k e:TypeId} {ag:Bool} {kts:List KT} {z:Value} (hmk:b7Q P t k e ag kts z) {ks:List KC} (hf:o1 kts ks=true) {b:Nat} {kvs:List (List KC×Value)} (u:Value) (hr:J6 w b ag kts kvs):
  ∃ob,(Instr.mapUpdate t (.map (some b)) (g9 ag ks) u).run P w= .ok () {w with heap:=w.heap.setIfInBounds b ob}/\(∀c t s,w.heap[b]?≠some (Obj.cells c t s))/\J6 {w with heap:=w.heap.setIfInBounds b ob} b ag kts (M9 kvs ks u):=by
 obtain⟨es,clock,hbl,hes,hfit,hbn,hbc⟩:=hr;have hfind:=a3T (w:=w) hmk hf hes hfit;have hlt:b<w.heap.size:=(Array.getElem?_eq_some_iff.1 hbl).1;have hlen:es.size=kvs.length:=by have:=congrArg List.length hes;simpa using this
 have p9:=a7u kvs ks 0 u
 cases hk:a4n kvs ks 0 with
 | none=>
  rw[hk]at p9 hfind;simp only at p9;refine⟨.map (es.push {key:=g9 ag ks,val:=u,born:=clock}) (clock+1),?_,(by intro c t s h;rw[hbl]at h;simp at h),es.push {key:=g9 ag ks,val:=u,born:=clock},clock+1,by simp[hlt],?_,?_,?_,?_⟩
  ·simp only[Instr.mapUpdate,Sem.run_bind,run_underlying hmk.und,Result.andThen_ok,MapKept.run_getObj_map hbl,Q8 hmk hf,hfind,MapKept.run_setObj_map _ hbl,Sem.run_pure]
  ·rw[p9];simp only[Array.toList_push,List.map_append,hes,List.map_cons,List.map_nil]
  ·rw[p9];intro p hp;simp only[List.mem_append,List.mem_singleton]at hp
   rcases hp with hp|rfl
   ·exact hfit p hp
   ·exact hf
  ·simp only[Array.toList_push,List.map_append,List.map_cons,List.map_nil];rw[List.nodup_append];refine⟨hbn,by simp,fun x hx y hy'=>?_⟩;simp only[List.mem_singleton]at hy';subst hy';obtain⟨e,he,rfl⟩:=List.mem_map.1 hx;have:=hbc e he;omega
  ·intro e he;simp only[Array.toList_push,List.mem_append,List.mem_singleton]at he
   rcases he with he|rfl
   ·have:=hbc e he;omega
   ·simp
 | some jv=>
  obtain⟨j,v0⟩:=jv;rw[hk]at p9 hfind;simp only[Nat.sub_zero]at p9;obtain⟨_,hjk⟩:=a1O kvs ks 0 j v0 hk;simp only[Nat.sub_zero]at hjk;have hje:∃e0,es[j]?=some e0/\e0.key=g9 ag ks:=by
   have h1:(es.toList.map (fun e=>(e.key,e.val)))[j]?=some (g9 ag ks,v0):=by rw[hes];simp[hjk]
   simp only[qe,qf,qr]at h1;obtain⟨e0,h1,h2,_⟩:=h1;exact⟨e0,by simpa using h1,h2⟩
  obtain⟨e0,he0,hke⟩:=hje;refine⟨.map (es.modify j fun e=>{e with key:=g9 ag ks,val:=u}) clock,?_,(by intro c t s h;rw[hbl]at h;simp at h),es.modify j fun e=>{e with key:=g9 ag ks,val:=u},clock,by simp[hlt],?_,?_,?_,?_⟩
  ·have hstay:(Instr.keyThatStays (g9 ag ks) (g9 ag ks)).run P w= .ok (g9 ag ks) w:=by simp[Instr.keyThatStays,a5g]
   simp only[Instr.mapUpdate,Sem.run_bind,run_underlying hmk.und,Result.andThen_ok,MapKept.run_getObj_map hbl,Q8 hmk hf,hfind,he0,Option.map_some,Option.getD_some,hke,hstay,MapKept.run_setObj_map _ hbl,Sem.run_pure]
  ·rw[p9];apply List.ext_getElem?;intro i;have hi:=congrArg (fun l=>l[i]?) hes;simp only[qe]at hi ⊢;simp only[Array.toList_modify,List.getElem?_modify]
   by_cases hij:j=i
   ·subst hij;simp only[if_true,Option.map_map];have h1:es.toList[j]?=some e0:=by simpa using he0
    rw[h1,hjk];simp
   ·simp only[hij,if_false];simpa using hi
  ·rw[p9];intro p hp;obtain⟨i,hi⟩:=List.getElem?_of_mem hp;rw[List.getElem?_modify]at hi
   cases hki:kvs[i]? with
   |none=>rw[hki]at hi;cases hi
   |some p0=>
    rw[hki]at hi;have hi':(if j=i then(ks,u)else p0)=p:=by simpa using hi
    rw[<-hi']
    split
    ·exact hf
    ·exact hfit p0 (qd hki)
  ·have:(es.modify j fun e=>{e with key:=g9 ag ks,val:=u}).toList.map (·.born)=es.toList.map (·.born):=by
    apply List.ext_getElem?;intro i;simp only[Array.toList_modify,qe,List.getElem?_modify]
    split<;>cases es.toList[i]?<;>rfl
   rw[this];exact hbn
  ·intro e he;simp only[Array.toList_modify]at he;obtain⟨i,hi⟩:=List.getElem?_of_mem he;rw[List.getElem?_modify]at hi
   cases hki:es.toList[i]? with
   |none=>rw[hki]at hi;cases hi
   |some e1=>
    rw[hki]at hi;have hb1:=hbc e1 (qd hki);have hi':(if j=i then {e1 with key:=g9 ag ks,val:=u}else e1)=e:=by simpa using hi
    rw[<-hi']
    split<;>exact hb1
theorem b1u:∀(kvs:List (List KC×Value)) (q:List KC) (i:Nat),b3p kvs q=match a4n kvs q i with
  |some (j,_)=>kvs.eraseIdx (j-i)
  |none=>kvs
 |[],q,i=>rfl
 | (k,v)::r,q,i=>by
  unfold b3p a4n
  split
  ·simp
  ·have ih:=b1u r q (i+1);have hge:=a1O r q (i+1)
   cases hk:a4n r q (i+1)with
   |none=>rw[hk]at ih;simp[ih]
   |some p=>
    obtain⟨j,v'⟩:=p;rw[hk]at ih;have:=(hge j v' hk).1;simp only[ih];rw[show j-i=(j-(i+1))+1 by omega]
    rfl
theorem a2a {α β:Type} (f:α->β):∀(l:List α) (i:Nat),(l.eraseIdx i).map f=(l.map f).eraseIdx i
 |[],i=>by simp
 |a::l,0=>rfl
 |a::l,i+1=>by simp[a2a f l i]
theorem b3B {P:Program} {w:World} {t k e:TypeId} {ag:Bool} {kts:List KT} {z:Value} (hmk:b7Q P t k e ag kts z) {ks:List KC} (hf:o1 kts ks=true) {b:Nat} {kvs:List (List KC×Value)} (hr:J6 w b ag kts kvs) (t' ty:TypeId):
  ∃ob,(Builtin.delete_ #[t,t'] ty #[.map (some b),g9 ag ks]).run P w= .ok (.tuple #[]) {w with heap:=w.heap.setIfInBounds b ob}/\(∀c t s,w.heap[b]?≠some (Obj.cells c t s))/\J6 {w with heap:=w.heap.setIfInBounds b ob} b ag kts (b3p kvs ks):=by
 obtain⟨es,clock,hbl,hes,hfit,hbn,hbc⟩:=hr;have hfind:=a3T (w:=w) hmk hf hes hfit;have hlt:b<w.heap.size:=(Array.getElem?_eq_some_iff.1 hbl).1;have hdel:=b1u kvs ks 0
 cases hk:a4n kvs ks 0 with
 |none=>
  rw[hk]at hdel hfind;simp only at hdel;refine⟨.map es clock,?_,(by intro c t s h;rw[hbl]at h;simp at h),es,clock,by simp[hlt],by rw[hdel];exact hes,by rw[hdel];exact hfit,hbn,hbc⟩;simp[Builtin.delete_,Sem.run_bind,run_underlying hmk.und,Result.andThen_ok,MapKept.run_getObj_map hbl,Q8 hmk hf,hfind,MapKept.run_setObj_map _ hbl,Sem.run_pure]
 |some jv=>
  obtain⟨j,v0⟩:=jv;rw[hk]at hdel hfind;simp only[Nat.sub_zero]at hdel;refine⟨.map (es.eraseIdxIfInBounds j) clock,?_,(by intro c t s h;rw[hbl]at h;simp at h),es.eraseIdxIfInBounds j,clock,by simp[hlt],?_,?_,?_,?_⟩
  ·simp[Builtin.delete_,Sem.run_bind,run_underlying hmk.und,Result.andThen_ok,MapKept.run_getObj_map hbl,Q8 hmk hf,hfind,MapKept.run_setObj_map _ hbl,Sem.run_pure]
  ·rw[hdel,Array.toList_eraseIdxIfInBounds,a2a,hes,<-a2a]
  ·rw[hdel];intro p hp;exact hfit p (List.mem_of_mem_eraseIdx hp)
  ·rw[Array.toList_eraseIdxIfInBounds,a2a];exact hbn.sublist (List.eraseIdx_sublist _ _)
  ·intro e he;rw[Array.toList_eraseIdxIfInBounds]at he;exact hbc e (List.mem_of_mem_eraseIdx he)
section
variable {P:Program} {o:Oper} {ev:Operand->AV} {H:Nat->Option n9} {N:Nat}
theorem b1Q {w:World} {S:Nat->Prop} {ρ:Nat->Option Loc} {L:Nat->Prop} {r:Nat} {y:Value} {ag:Bool} {kts:List KT} {kvs:List (List KC×AV)} (h:e8 w S ρ L (.mp r) y) {l:Loc} (hl:ρ r=some l) (n8:i7 w S ρ L l (.mpa ag kts kvs)):
  ∃b,l.b=some b/\y= .map (some b)/\a1a w S ρ L b ag kts kvs:=by
 obtain⟨b,hb,hm⟩:=n8
 cases h with
 |pure _ _ h=>cases h
 |mp _ _ h1 h2 h3=>
  obtain⟨b',hb',rfl⟩:=h3 l hl;rw[hb]at hb';simp only[qb]at hb';subst hb';exact⟨b,hb,rfl,hm⟩
def zAV:Value->AV
 | .agg a=> .agg (a.toList.map .v)
 |v=> .v v
theorem c2c {w:World} {S:Nat->Prop} {ρ:Nat->Option Loc} {L:Nat->Prop} {z:Value} (hz:∀a,z= .agg a->∀x∈a.toList,I0 x=true):e8 w S ρ L (zAV z) z:=by
 unfold zAV
 split
 ·rename_i a;have:=r8.agg (w:=w) (S:=S) (a.toList.map .v) a.toList (by simp) (hz a rfl) (by
   intro i c x h1 h2;rw[qe,h2]at h1;simp only[Option.map_some,qb]at h1;subst h1;exact .v x)
  exact .pure _ _ (by simpa using this)
 ·exact .pure _ _ (.v _)
theorem b3Q {t:TypeId} {x q:Operand} {ok:Bool} {ag:Bool} {kts:List KT} {kvs:List (List KC×AV)} {ks:List KC} {z:Value} {r:Nat} (ho:o.op= .lookup t x q ok) (hm:a2r P t=some (ag,kts,z)) (hz:∀a,z= .agg a->∀x∈a.toList,I0 x=true)
  (hx:ev x= .mp r) (hH:H r=some (.mpa ag kts kvs)) (hq:b6M (ev q)=some (ag,ks)) (hf:o1 kts ks=true):
  p6 P o ev H N ⟨if ok then .tup [(A4 kvs ks).getD (zAV z), .v (.bool (A4 kvs ks).isSome)]else(A4 kvs ks).getD (zAV z),[],[r]⟩:=by
 obtain⟨k,e,hmk⟩:=J7 hm;refine p6.of_pure fun B S0 a w ρ L hw hops hrd=>?_;have hrx:=hops x (by simp[ho,Op.operands]);have hrq:=hops q (by simp[ho,Op.operands]);rw[hx]at hrx;obtain⟨l,hl,n8⟩:=hrd r (by simp) _ hH;obtain⟨b,hb,hy,hrep⟩:=b1Q hrx hl n8;obtain⟨vs,ks',h1,h2,h3,h4⟩:=hrep.lie;have hkq:=a1Z hq hrq;have g8:=a8W ks h4;rw[b3h h2 h3]at g8;have hval:(A4 kvs ks).isSome=(s8 vs ks).isSome/\e8 w (Sx S0 ρ) ρ L ((A4 kvs ks).getD (zAV z)) ((s8 vs ks).getD z):=by
  rcases g8 with⟨av,v,g1,g2,g3⟩|⟨g1,g2⟩
  ·rw[g1,g2];exact⟨rfl,g3⟩
  ·rw[g1,g2];exact⟨rfl,c2c hz⟩
 refine⟨if ok then .tuple #[(s8 vs ks).getD z, .bool (s8 vs ks).isSome]else(s8 vs ks).getD z,Or.inl (by simp only[execOp,ho,hy,hkq,Sem.run_bind,a6f hmk hf h1 ok,Result.andThen_ok,Sem.run_pure]),?_⟩
 cases ok with
 | true=>exact .tup [_,_] [_,_] rfl (by
   intro i c y h1 h2
   match i with
   |0=>simp at h1 h2;subst h1 h2;exact hval.2
   |1=>simp at h1 h2;subst h1 h2;rw[hval.1];exact .pure _ _ (.v _)
   |i+2=>simp at h1)
 |false=>exact hval.2
theorem b3P {t:TypeId} {x:Operand} {ag:Bool} {kts:List KT} {kvs:List (List KC×AV)} {r:Nat} (ho:o.op= .call {callee:= .builtin .len,args:= #[x],argTypes:= #[t]}) (hm:(a2r P t).isSome=true) (hx:ev x= .mp r) (hH:H r=some (.mpa ag kts kvs)):
  p6 P o ev H N ⟨.v (.int .i64 kvs.length),[],[r]⟩:=by
 obtain⟨q,hq⟩:=Option.isSome_iff_exists.1 hm;obtain⟨k,e,hmk⟩:=J7 (ag:=q.1) (kts:=q.2.1) (z:=q.2.2) hq;refine p6.of_pure fun B S0 a w ρ L hw hops hrd=>?_;have hrx:=hops x (by simp[ho,Op.operands,Call.operands]);rw[hx]at hrx;obtain⟨l,hl,n8⟩:=hrd r (by simp) _ hH;obtain⟨b,hb',hy,hrep⟩:=b1Q hrx hl n8;obtain⟨vs,ks',⟨es,clock,hb,hes,_⟩,h2,h3,h4⟩:=hrep.lie;have hlen:es.size=kvs.length:=by
  have h5:=congrArg List.length hes;have h6:=h2.length_eq;have h7:=(a7o h4).1;simp at h5;omega
 refine⟨_,Or.inl ?_, .pure _ _ (.v _)⟩;simp only[execOp,ho,resolve,invoke,builtin,hy];simp[invoke,builtin,Builtin.len_,hy,run_underlying hmk.und,MapKept.run_getObj_map hb,hlen,goInt]
theorem b1X {w:World} {S:Nat->Prop} {ρ:Nat->Option Loc} {L:Nat->Prop} {r:Nat} {l:Loc} {b:Nat} {ob:Obj} (hl:ρ r=some l) (hb:l.b=some b) (hS:∀b,own ρ b->S b) {x:AV} {y:Value} (h:e8 w S ρ L x y):e8 {w with heap:=w.heap.setIfInBounds b ob} S ρ L x y:=
 h.ext (by simp) (fun k hk hn=>⟨by
  have:k≠b:=by rintro rfl;exact hn (hS _ ⟨r,l,hl,hb⟩)
  simp[Ne.symm this],hn⟩) (fun r h=>h) (fun r l _ h=>h)
theorem a0A {t:TypeId} {x q v:Operand} {ag:Bool} {kts:List KT} {kvs:List (List KC×AV)} {ks:List KC} {z:Value} {u:AV} {r:Nat} (ho:o.op= .mapUpdate t x q v∨o.op= .insert t x q v) (hm:a2r P t=some (ag,kts,z)) (hx:ev x= .mp r) (hH:H r=some (.mpa ag kts kvs)) (hq:b6M (ev q)=some (ag,ks)) (hf:o1 kts ks=true) (hv:ev v=u):
  p6 P o ev H N ⟨.any,[(r,some (.mpa ag kts (O1 kvs ks u)))],[r]⟩:=by
 obtain⟨k,e,hmk⟩:=J7 hm;refine p6.of_updB fun B S0 a w ρ L hw hops hrd=>?_;have hrx:=hops x (by rcases ho with ho|ho<;>simp[ho,Op.operands]);have hrq:=hops q (by rcases ho with ho|ho<;>simp[ho,Op.operands]);have hrv:=hops v (by rcases ho with ho|ho<;>simp[ho,Op.operands]);rw[hx]at hrx;rw[hv]at hrv;have hkq:=a1Z hq hrq;obtain⟨l,hl,n8⟩:=hrd r (by simp) _ hH;obtain⟨b,hb,hy,hrep⟩:=b1Q hrx hl n8;obtain⟨vs,ks',h1,h2,h3,h4⟩:=hrep.lie;obtain⟨ob,hrun,hnc,hmr⟩:=b2S hmk hf (a.eval v) h1;obtain⟨p1,p2⟩:=b3l h2 h3 ks u;have hs:∀{x y},e8 w (Sx S0 ρ) ρ L x y->e8 {w with heap:=w.heap.setIfInBounds b ob} (Sx S0 ρ) ρ L x y:=fun h=>b1X hl hb (fun b h=>Or.inr h) h;refine⟨l,b,ob,hl,hb,?_,hnc,b,hb, .of_lie hmr p1 p2 (a9c (hs hrv) ks (h4.ext fun x y h=>hs h))⟩
 rcases ho with ho|ho<;>simp only[execOp,ho,hy,hkq,hrun,Sem.run_bind,Result.andThen_ok,Sem.run_pure]
theorem p6.of_updV {r:Nat} {row:n9} {reads:List Nat}
  (h:∀(B S0:Nat->Prop) (a:Act) (w:World) (ρ:Nat->Option Loc) (L:Nat->Prop),WF B S0 w ρ L->
   (∀x∈o.op.operands,e8 w (Sx S0 ρ) ρ L (ev x) (a.eval x))->
   (∀r∈reads,∀row,H r=some row->∃l,ρ r=some l/\i7 w (Sx S0 ρ) ρ L l row)->
   ∃(l:Loc) (b:Nat) (ob:Obj) (v:Value),ρ r=some l/\l.b=some b/\(execOp a.eval o).run P w= .ok (.value v) {w with heap:=w.heap.setIfInBounds b ob}/\(∀c t s,w.heap[b]?≠some (Obj.cells c t s))/\
    i7 {w with heap:=w.heap.setIfInBounds b ob} (Sx S0 ρ) ρ L l row):
  p6 P o ev H N ⟨.any,[(r,some row)],reads⟩:=by
 intro B S0 a w ρ L hw hN hops hrd K Q hK;obtain⟨l,b,ob,v,hl,hb,hrun,hnc,n8⟩:=h B S0 a w ρ L hw hops hrd;have hsize:({w with heap:=w.heap.setIfInBounds b ob}:World).heap.size=w.heap.size:=by simp
 have hother:∀k,k≠b->({w with heap:=w.heap.setIfInBounds b ob}:World).heap[k]?=w.heap[k]?:=by
  intro k hk;simp[Ne.symm hk]
 have hp:a3D B S0 w ρ L N ⟨.any,[(r,some row)],reads⟩ {w with heap:=w.heap.setIfInBounds b ob} ρ v:=
  {wf:=⟨hw.inj,fun r l b h1 h2=>by rw[hsize];exact hw.own r l b h1 h2,fun r l h1=>Or.inl (hw.given r l h1),fun b h=>by rw[hsize];exact hw.low b h,fun b h=>hw.new b (by rw[hsize]at h;exact h)⟩
   rep:= .pure _ _ (.any _)
   ups:=by
    intro r' o' hm;simp only[List.mem_singleton,qr]at hm;obtain⟨rfl,rfl⟩:=hm;exact⟨l,hl,n8.ext (qo _) (fun b _ hn=>⟨rfl,hn⟩) (fun r=>Or.inl) (fun r l _ hl=>hl) (fun _ _=>rfl)⟩
   others:=fun r _=>rfl
   only:=fun r l hl=>Or.inl hl
   ext:=⟨rfl,rfl,rfl,by omega,fun k hk hm=>hother k (by rintro rfl;exact hm ⟨r,l,some row,by simp,hl,hb⟩),fun k c t s hc=>by
    by_cases e:k=b
    ·subst e;exact absurd hc (hnc c t s)
    ·exact⟨c,t,s,(hother k e).trans hc,rfl⟩⟩}
 unfold Oper.wp;rw[hrun];exact hK _ _ _ hp
theorem b2J {t t':TypeId} {x q:Operand} {ag:Bool} {kts:List KT} {kvs:List (List KC×AV)} {ks:List KC} {z:Value} {r:Nat} (ho:o.op= .call {callee:= .builtin .delete,args:= #[x,q],argTypes:= #[t,t']}) (hm:a2r P t=some (ag,kts,z)) (hx:ev x= .mp r) (hH:H r=some (.mpa ag kts kvs)) (hq:b6M (ev q)=some (ag,ks)) (hf:o1 kts ks=true):
  p6 P o ev H N ⟨.any,[(r,some (.mpa ag kts (R5 kvs ks)))],[r]⟩:=by
 obtain⟨k,e,hmk⟩:=J7 hm;refine p6.of_updV fun B S0 a w ρ L hw hops hrd=>?_;have hrx:=hops x (by simp[ho,Op.operands,Call.operands]);have hrq:=hops q (by simp[ho,Op.operands,Call.operands]);rw[hx]at hrx;have hkq:=a1Z hq hrq;obtain⟨l,hl,n8⟩:=hrd r (by simp) _ hH;obtain⟨b,hb,hy,hrep⟩:=b1Q hrx hl n8;obtain⟨vs,ks',h1,h2,h3,h4⟩:=hrep.lie;obtain⟨ob,hrun,hnc,hmr⟩:=b3B hmk hf h1 t' o.type;have hs:∀{x y},e8 w (Sx S0 ρ) ρ L x y->e8 {w with heap:=w.heap.setIfInBounds b ob} (Sx S0 ρ) ρ L x y:=fun h=>b1X hl hb (fun b h=>Or.inr h) h;have hn2:(ks'.map (·.1)).Nodup:=(h2.map _).nodup_iff.2 h3
 refine⟨l,b,ob, .tuple #[],hl,hb,?_,hnc,b,hb, .of_lie hmr (h2.filter _) (a4x ks h3).1 (a9j ks hn2 (h4.ext fun x y h=>hs h))⟩;simp only[execOp,ho,resolve,invoke,builtin,hy,hkq];simp[invoke,builtin,hy,hkq,hrun]
end
end Go.AM
namespace Go.AM
structure Ph {α:Type} (K:α->Prop):Type where mk::
def ct {α:Type} (K:α->Prop) (_:Ph K):α->Prop:=K
theorem b8U {α:Type} {K:α->Prop} {h:Ph K} {e:α}:ct K h e=K e:=rfl
def P0:List AV->Option (List Value)
 |[]=>some []
 | .v x::cs=>if x.oneCell'=true then(P0 cs).map (x:: ·)else none
 |_=>none
def S6:AV->Option Value
 | .v x=>some x
 | .agg cs=>(P0 cs).map fun l=> .agg l.toArray
 |_=>none
theorem a5D {w:World} {S:Nat->Prop} {ρ:Nat->Option Loc} {L:Nat->Prop}:∀(cs:List AV) (vs us:List Value),P0 cs=some us->cs.length=vs.length->
  (∀(i:Nat) c x,cs[i]?=some c->vs[i]?=some x->x.oneCell'=true/\e8 w S ρ L c x)->vs=us:=by
 intro cs
 induction cs with
 |nil=>intro vs us h1 h2 _;simp[P0]at h1;subst h1;exact List.eq_nil_of_length_eq_zero h2.symm
 | cons c cs ih=>
  intro vs us h1 h2 h3
  match vs,h2 with
  | v::vs,h2=>
   cases c with
   |v x=>
    simp only[P0]at h1
    split at h1
    ·simp only[qf]at h1;obtain⟨us',h1,rfl⟩:=h1;have:=j5 (h3 0 _ _ rfl rfl).2;subst this;rw[ih vs us' h1 (by simpa using h2) (fun i c x k1 k2=>h3 (i+1) c x k1 k2)]
    ·cases h1
   |_=>cases h1
theorem a9t {w:World} {S:Nat->Prop} {ρ:Nat->Option Loc} {L:Nat->Prop} {x:AV} {y z:Value} (h:S6 x=some z) (hr:e8 w S ρ L x y):y=z:=by
 cases x with
 |v x=>simp only[S6,qb]at h;subst h;exact j5 hr
 |agg cs=>
  simp only[S6,qf]at h;obtain⟨l,h1,rfl⟩:=h;obtain⟨vs,rfl,hl,hc⟩:=A2 hr;rw[a5D cs vs l h1 hl hc]
 |_=>cases h
def b9q (x y:Int):Int:=if y<x then y else x
def a7M (x y:Int):Int:=if y>x then y else x
def a2q (k:IntKind):List AV->Option (List Int)
 |[]=>some []
 | .v (.int k' n)::cs=>if k'=k then(a2q k cs).map (n:: ·)else none
 |_=>none
def cnd:List Bool->Prop->Prop
 |[],p=>p
 |m,p=>m.all id=true->p
theorem x2 {m:List Bool} {p:Prop} (h:cnd m p) (hm:m.all id=true):p:=by
 cases m with
 |nil=>exact h
 |cons b m=>exact h hm
def b5t (td:TD) (N:Nat) (K:Eff->Prop):Prop:=
 match td with
 | .bad=>False
 |td=>K ⟨.ptr N 0 0,[(N,some (.els td.size [td.zero.map .v]))],[]⟩
def c5T (x:AV) (N:Nat) (K:Eff->Prop):Prop:=
 match x.cells with
 |some cs=>K ⟨.ptr N 0 0,[(N,some (.els cs.length [cs]))],[]⟩
 |none=>False
def b6I (P:Program) (td:TD) (parts:List (Nat×Operand)) (ev:Operand->AV) (K:Eff->Prop):Prop:=
 match td with
 | .agg z fs=>match a6G (fun i=>(fs[i]?).map fun(q:Nat×Nat×TypeId)=>(q.1,q.2.1)) ev parts (z.map .v)with
  |some res=>K ⟨.agg res,[],[]⟩
  |none=>False
 | .arr z n e=>d6 P e≠ .bad/\match a6G (fun i=>some (i*(d6 P e).size,(d6 P e).size)) ev parts (z.map .v)with
  |some res=>K ⟨.agg res,[],[]⟩
  |none=>False
 |_=>False
def L2 (P:Program) (t:TypeId):Bool:=match P.info? t with
 |some i=>match i.desc with
  | .named _ _=>true
  |_=>false
 |none=>false
def c1o:AV:= .may [false] (.v (.bool true))
def c6t:AV->Bool
 | .v (.bool true)=>true
 |_=>false
def c6g (P:Program) (nm:Bool) (td:TD) (n:Nat) (parts:Array (Nat×Operand)) (ev:Operand->AV) (N:Nat) (K:Eff->Prop):Prop:=
 match td with
 | .slice e=>n=parts.toList.length/\(d6 P e).size≠0/\parts.toList.length*(d6 P e).size<=16777216/\match a3k ev (d6 P e).size parts.toList 0 with
  |some els=>match nm with
   |true=>K ⟨.row N 0 els.length,[(N,some (.els (d6 P e).size els))],[]⟩
   |false=>(els.all fun el=>el.all (AV.noRef 2))=true/\K ⟨.full (d6 P e).size els,[],[]⟩
  |none=>False
 |_=>False
def c1g (td:TD) (x:AV) (H:Nat->Option n9) (K:Eff->Prop):Prop:=
 td≠ .bad/\match x with
 | .ptr r i off=>match H r with
  |some (.els sz es)=>match es[i]? with
   |some e=>off+td.size<=e.length/\K ⟨mk td ((e.drop off).take td.size),[],[r]⟩
   |none=>False
  |_=>False
 | .iptr cs=>td.size<=cs.length/\K ⟨mk td (cs.take td.size),[],[]⟩
 | .vptr cs=>td.size<=cs.length/\K ⟨mk td (cs.take td.size),[],[]⟩
 |_=>False
def c0i (m:List Bool) (td:TD) (x:AV) (H:Nat->Option n9) (K:Eff->Prop):Prop:=
 td≠ .bad/\match x with
 | .ptr r i off=>match H r with
  |some (.els sz es)=>match es[i]? with
   |some e=>off+td.size<=e.length/\K ⟨mk td ((e.drop off).take td.size),[],[r]⟩
   |none=>m.all id=false/\K ⟨mk td (td.zero.map .v),[],[]⟩
  |_=>False
 | .iptr cs=>td.size<=cs.length/\K ⟨mk td (cs.take td.size),[],[]⟩
 | .vptr cs=>td.size<=cs.length/\K ⟨mk td (cs.take td.size),[],[]⟩
 |_=>False
def b9Y (td:TD) (p x:AV) (H:Nat->Option n9) (K:Eff->Prop):Prop:=
 td≠ .bad/\match p with
 | .ptr r i off=>match H r with
  | some (.els sz es)=>match es[i]? with
   |some e=>match x.cells with
    |some cs=>cs.length=td.size/\off+cs.length<=e.length/\K ⟨.any,[(r,some (.els sz (es.set i (a0v e off cs))))],[r]⟩
    |none=>False
   |none=>False
  |_=>False
 |_=>False
def c5u (x:AV) (H:Nat->Option n9) (K:Eff->Prop):Prop:=
 match x with
 | .ptr r i off=>match H r with
  |some (.els sz es)=>K ⟨.ptr r i off,[],[r]⟩
  |_=>False
 | .fptr _ r i off=>match H r with
  |some (.els sz es)=>K ⟨.ptr r i off,[],[r]⟩
  |_=>False
 | .iptr cs=>K ⟨.iptr cs,[],[]⟩
 | .vptr cs=>K ⟨.vptr cs,[],[]⟩
 |_=>False
def c6d (P:Program) (m0:List Bool) (op:BinOp) (t:TypeId) (x y:Operand) (u v:AV) (H:Nat->Option n9) (K:Eff->Prop):Prop:=
 match op,u,v with
 | .add, .v (.int k m), .v (.int k' n)=>k=k'/\K ⟨.v (.int k (k.wrap (m+n))),[],[]⟩
 | .sub, .v (.int k m), .v (.int k' n)=>k=k'/\K ⟨.v (.int k (k.wrap (m-n))),[],[]⟩
 | .mul, .v (.int k m), .v (.int k' n)=>k=k'/\K ⟨.v (.int k (k.wrap (m*n))),[],[]⟩
 | .quo, .v (.int k m), .v (.int k' n)=>k=k'/\cnd m0 (n≠0)/\K ⟨.v (.int k (k.wrap (m.tdiv n))),[],[]⟩
 | .rem, .v (.int k m), .v (.int k' n)=>k=k'/\cnd m0 (n≠0)/\K ⟨.v (.int k (m.tmod n)),[],[]⟩
 | .lss, .v (.int k m), .v (.int k' n)=>k=k'/\K ⟨.v (.bool (decide (m<n))),[],[]⟩
 | .leq, .v (.int k m), .v (.int k' n)=>k=k'/\K ⟨.v (.bool (decide (m<=n))),[],[]⟩
 | .gtr, .v (.int k m), .v (.int k' n)=>k=k'/\K ⟨.v (.bool (decide (n<m))),[],[]⟩
 | .geq, .v (.int k m), .v (.int k' n)=>k=k'/\K ⟨.v (.bool (decide (n<=m))),[],[]⟩
 | .eql, .v (.int k m), .v (.int k' n)=>k=k'/\K ⟨.v (.bool (m==n)),[],[]⟩
 | .neq, .v (.int k m), .v (.int k' n)=>k=k'/\K ⟨.v (.bool (m !=n)),[],[]⟩
 | .and, .v (.int k m), .v (.int k' n)=>k=k'/\K ⟨.v (.int k (bits .and k m n)),[],[]⟩
 | .shr, .v (.int k m), .v (.int k' n)=>cnd m0 (0<=n/\n<=k.bits)/\K ⟨.v (.int k (m/2^n.toNat)),[],[]⟩
 | .or, .v (.int k m), .v (.int k' n)=>k=k'/\K ⟨.v (.int k (bits .or k m n)),[],[]⟩
 | .andNot, .v (.int k m), .v (.int k' n)=>k=k'/\K ⟨.v (.int k (bits .andNot k m n)),[],[]⟩
 | .shl, .v (.int k m), .v (.int k' n)=>cnd m0 (0<=n/\n<=k.bits)/\K ⟨.v (.int k (k.wrap (m*2^n.toNat))),[],[]⟩
 | .eql, .agg xs, .agg ys=>match a5v P t,kcs xs,kcs ys with
  |some ts,some ks,some ls=>o1 ts ks=true/\o1 ts ls=true/\K ⟨.v (.bool (decide (ks=ls))),[],[]⟩
  |_,_,_=>False
 | .neq, .agg xs, .agg ys=>match a5v P t,kcs xs,kcs ys with
  |some ts,some ks,some ls=>o1 ts ks=true/\o1 ts ls=true/\K ⟨.v (.bool (!decide (ks=ls))),[],[]⟩
  |_,_,_=>False
 | .eql, .lst _ els, .v (.slice none 0 0)=>Q6 P t=true/\cnd m0 (els≠[])/\K ⟨.v (.bool false),[],[]⟩
 | .neq, .lst _ els, .v (.slice none 0 0)=>Q6 P t=true/\cnd m0 (els≠[])/\K ⟨.v (.bool true),[],[]⟩
 | .eql, .v (.slice none _ _), .v (.slice none 0 0)=>Q6 P t=true/\K ⟨.v (.bool true),[],[]⟩
 | .eql, .iptr _, .v (.pointer none)=>b3Z P t=true/\K ⟨.v (.bool false),[],[]⟩
 | .neq, .iptr _, .v (.pointer none)=>b3Z P t=true/\K ⟨.v (.bool true),[],[]⟩
 | .eql, .vptr _, .v (.pointer none)=>b3Z P t=true/\K ⟨.v (.bool false),[],[]⟩
 | .neq, .vptr _, .v (.pointer none)=>b3Z P t=true/\K ⟨.v (.bool true),[],[]⟩
 | .eql, .ptr r _ _, .v (.pointer none)=>b3Z P t=true/\(match H r with|some (.els _ _)=>K ⟨.v (.bool false),[],[r]⟩|_=>False)
 | .neq, .ptr r _ _, .v (.pointer none)=>b3Z P t=true/\(match H r with|some (.els _ _)=>K ⟨.v (.bool true),[],[r]⟩|_=>False)
 |op,u,v=>match S6 u,S6 v with
  |some p,some q=>∃z,(∀w:World,(eqGuard op t x y p q).run P w= .ok () w)/\(∀w:World,(binOp op t p q).run P w= .ok z w)/\K ⟨.v z,[],[]⟩
  |_,_=>False
def aUn (op:UnOp) (x:AV) (K:Eff->Prop):Prop:=
 match op,x with
 | .not, .v (.bool b)=>K ⟨.v (.bool !b),[],[]⟩
 | .neg, .v (.int k n)=>K ⟨.v (.int k (k.wrap (0-n))),[],[]⟩
 |_,_=>False
def c1D (P:Program) (s d:TypeId) (x:AV) (K:Eff->Prop):Prop:=
 match x with
 | .v u=>∃z,(∀w:World,(convert s d u).run P w= .ok z w)/\K ⟨.v z,[],[]⟩
 |_=>False
def a4F (m:List Bool) (ev:Operand->AV) (x:Option Operand) (d:Nat) (K:Nat->Prop):Prop:=
 match x with
 |none=>K d
 |some y=>match ev y with
  | .v (.int _ n)=>cnd m (0<=n)/\K n.toNat
  |_=>False
def b5D (P:Program) (m:List Bool) (td:TD) (x:AV) (lo hi:Option Operand) (ev:Operand->AV) (H:Nat->Option n9) (K:Eff->Prop):Prop:=
 match td with
 | .slice e=>(d6 P e).size≠0/\match x with
  | .lst sz els=>sz=(d6 P e).size/\a4F m ev lo 0 (ct (fun l=>a4F m ev hi els.length (ct (fun h=>cnd m (l<=h)/\cnd m (h<=els.length)/\K ⟨.lst sz ((els.take h).drop l),[],[]⟩) ⟨⟩)) ⟨⟩)
  | .full sz els=>sz=(d6 P e).size/\a4F m ev lo 0 (ct (fun l=>a4F m ev hi els.length (ct (fun h=>cnd m (l<=h)/\cnd m (h<=els.length)/\K ⟨.lst sz ((els.take h).drop l),[],[]⟩) ⟨⟩)) ⟨⟩)
  | .row r i n=>match H r with
   |some (.els sz es)=>sz=(d6 P e).size/\i+n<=es.length/\a4F m ev lo 0 (ct (fun l=>a4F m ev hi n (ct (fun h=>cnd m (l<=h)/\cnd m (h<=n)/\K ⟨if l=0/\n=0 then .row r i n else .row r (i+l) (h-l),[],[r]⟩) ⟨⟩)) ⟨⟩)
   |_=>False
  | .v (.slice none 0 0)=>a4F m ev lo 0 (ct (fun l=>a4F m ev hi 0 (ct (fun h=>cnd m (l<=h)/\cnd m (h<=0)/\K ⟨.v (.slice none 0 0),[],[]⟩) ⟨⟩)) ⟨⟩)
  |_=>False
 |_=>False
def a2Y (td:TD) (x:AV) (f:Nat) (H:Nat->Option n9) (K:Eff->Prop):Prop:=
 match td with
 | .agg z fs=>match fs[f]? with
  | some (off,sz,t)=>sz≠0/\match x with
   | .ptr r i o=>match H r with
    |some (.els _ _)=>K ⟨.ptr r i (o+off),[],[r]⟩
    |_=>False
   | .iptr cs=>off<=cs.length/\K ⟨.iptr (cs.drop off),[],[]⟩
   | .vptr cs=>off<=cs.length/\K ⟨.vptr (cs.drop off),[],[]⟩
   |_=>False
  |none=>False
 |_=>False
def b5i (P:Program) (td:TD) (x:AV) (f:Nat) (K:Eff->Prop):Prop:=
 match td with
 | .agg z fs=>match fs[f]? with
  |some (off,_,t)=>d6 P t≠ .bad/\match x with
   | .agg cs=>off+(d6 P t).size<=cs.length/\K ⟨mk (d6 P t) ((cs.drop off).take (d6 P t).size),[],[]⟩
   |_=>False
  |none=>False
 |_=>False
def c5o (m:List Bool) (els:List (List AV)) (n:Nat) (K:Eff->Prop):Prop:=∃el,(m.all id=true->els[n]?=some el)/\K ⟨.iptr el,[],[]⟩
def b4I (m:List Bool) (els:List (List AV)) (n:Nat) (K:Eff->Prop):Prop:=
 match m with
 |[]=>match els[n]? with
  |some el=>K ⟨.iptr el,[],[]⟩
  |none=>False
 |m=>c5o m els n K
theorem a9h {m:List Bool} {els:List (List AV)} {n:Nat} {K:Eff->Prop} (h:b4I m els n K):∃el,(m.all id=true->els[n]?=some el)/\K ⟨.iptr el,[],[]⟩:=by
 unfold b4I at h
 split at h
 ·split at h
  ·rename_i el he;exact⟨el,fun _=>he,h⟩
  ·exact h.elim
 ·exact h
def b6E (P:Program) (m:List Bool) (td:TD) (x i:AV) (H:Nat->Option n9) (K:Eff->Prop):Prop:=
 match td with
 | .slice e=>(d6 P e).size≠0/\match i with
  | .v (.int _ n)=>cnd m (0<=n)/\match x with
   | .lst sz els=>sz=(d6 P e).size/\b4I m els n.toNat K
   | .full sz els=>sz=(d6 P e).size/\b4I m els n.toNat K
   | .row r i0 len=>match H r with
    |some (.els sz es)=>sz=(d6 P e).size/\cnd m (n.toNat<len)/\K ⟨.ptr r (i0+n.toNat) 0,[],[r]⟩
    |_=>False
   | .v (.slice none 0 0)=>m.all id=false/\K ⟨.iptr ((d6 P e).zero.map .v),[],[]⟩
   |_=>False
  |_=>False
 | .arr z len e=>(d6 P e).size≠0/\match i with
  | .v (.int _ n)=>cnd m (0<=n/\n<len)/\match x with
   | .ptr r i0 off=>match H r with
    |some (.els _ _)=>K ⟨.ptr r i0 (off+n.toNat*(d6 P e).size),[],[r]⟩
    |_=>False
   | .iptr cs=>K ⟨.iptr (cs.drop (n.toNat*(d6 P e).size)),[],[]⟩
   |_=>False
  |_=>False
 |_=>False
def c6f (td:TD) (x:AV) (H:Nat->Option n9) (K:Eff->Prop):Prop:=
 match td with
 | .slice e=>match x with
  | .lst sz els=>K ⟨.v (.int .i64 els.length),[],[]⟩
  | .full sz els=>K ⟨.v (.int .i64 els.length),[],[]⟩
  | .row r i n=>match H r with
   |some (.els _ _)=>K ⟨.v (.int .i64 n),[],[r]⟩
   |_=>False
  | .v (.slice none 0 0)=>K ⟨.v (.int .i64 0),[],[]⟩
  |_=>False
 |_=>False
def R2 (a b:Nat):Prop:=a*b<=140737488355328
theorem n7 {a b:Nat} (ha:a<=1000000) (hb:b<=1000000):R2 a b:=by
 unfold R2;exact Nat.le_trans (Nat.mul_le_mul ha hb) (by decide)
def AV.isFull (sz:Nat):AV->Bool
 | .full s _=>decide (s=sz)
 |_=>false
def a9V (P:Program) (t t':TypeId) (td:TD) (x y:AV) (H:Nat->Option n9) (N:Nat) (K:Eff->Prop):Prop:=
 t=t'/\match td with
 | .slice e=>(d6 P e).size≠0/\match a5K H (d6 P e).size y with
  |some (s,rd)=>if s.isEmpty=true/\AV.isFull (d6 P e).size x=true then K ⟨x,[],rd⟩else match a7d H (d6 P e).size s x with
   |some (b,kill)=>R2 (b.length+s.length) (P.bytesOf e+1)/\K (Q1 N (d6 P e).size b s kill rd)
   |none=>False
  |none=>False
 |_=>False
def a3g (g:List Nat) (N:Nat):Bool:=decide g.Nodup&&g.all (fun r=>decide (r<N))
def a2P (P:Program) (m:List Bool) (f:FuncId) (args:List AV) (fl:Bool) (rd rd0:List Nat) (raw:List AV) (H:Nat->Option n9) (N:Nat) (K:Eff->Prop):Prop:=
 (∃res,cnd m (a9 P f args res)/\(fl=true∨res.flat 3=true)/\K ⟨res,[],rd⟩)∨
 (fl=true/\∃i k sz es,I7 P f args i k sz es/\K ⟨.row N i k,[(N,some (.els sz es))],rd0⟩)∨
 (∃(gk gd:List Nat) (Hk Hd Hk' Hn:Hp) (res:AV),a3g (gk++gd) N=true/\Hk++Hd=(gk++gd).map (fun r=>(H r).map (C2 ((gk++gd).map some)))/\gk.length=Hk.length/\(Hk++Hd).all Option.isSome=true/\
  c7 P f (raw.map (p5 ((gk++gd).map some) 40)) Hk Hd res Hk' Hn/\K ⟨p5 (C5 gk N Hn.length) 3 res,r6 (C5 gk N Hn.length) gk Hk'++(v7 gd++y7 (C5 gk N Hn.length) N Hn),rd0++(gk++gd)⟩)∨
 (∃(gk gd:List Nat) (Hk Hd Hk' Hn:Hp) (res:AV),a3g (gk++gd) N=true/\Hk++Hd=(gk++gd).map (fun r=>(H r).map (C2 ((gk++gd).map some)))/\gk.length=Hk.length/\(Hk++Hd).all Option.isSome=true/\
  c7 P f (raw.map (b0m H (gk++gd) 3)) Hk Hd res Hk' Hn/\res.flatV 2=true/\(Hk'++Hn).all a1s=true/\
  K ⟨p5 (C5 gk N Hn.length) 3 res,r6 (C5 gk N Hn.length) gk Hk'++(v7 gd++y7 (C5 gk N Hn.length) N Hn),rd0++((gk++gd)++raw.flatMap (D6 H (gk++gd) 3))⟩)∨
 (∃res,cnd m (a9 P f (raw.map (a4r 4)) res)/\K ⟨res,[],rd0⟩)
def c0I (P:Program) (m:List Bool) (x:AV) (args:List AV) (H:Nat->Option n9) (N:Nat) (K:Eff->Prop):Prop:=
 match x with
 | .clo f caps=>a2P P m f ((args++caps).map (frz H 9)) ((args++caps).all (AV.noRef 2)) ((args++caps).flatMap (B8 H 9)) [] (args++caps) H N K
 | .bnd f bs=>a2P P m f ((bs++args).map (frz H 9)) ((bs++args).all (AV.noRef 2)) ((bs++args).flatMap (B8 H 9)) [] (bs++args) H N K
 |_=>False
def b5L (P:Program) (td:TD) (l c:AV) (N:Nat) (K:Eff->Prop):Prop:=
 match td,l,c with
 | .slice e, .v (.int _ a), .v (.int _ b)=>(d6 P e).size≠0/\0<=a/\a<=b/\R2 b.toNat (P.bytesOf e+1)/\K ⟨.row N 0 a.toNat,[(N,some (.els (d6 P e).size (List.replicate b.toNat ((d6 P e).zero.map .v))))],[]⟩
 |_,_,_=>False
def a9F (P:Program) (t:TypeId):Bool:=match P.underlying t with
 |some (.interface _)=>false
 |some _=>true
 |none=>false
def c1E (P:Program) (t:TypeId) (name:String):Option (FuncId×Option TypeId):=match P.info? t with
 | some i=>match i.methods.find? (·.name==name)with
  |some mt=>if mt.path.isEmpty then(match mt.func,P.underlying t with
   |some (f,true),some (.pointer _)=>some (f,none)
   |some (f,false),some (.pointer e)=>some (f,some e)
   |_,_=>none)else none
  |none=>none
 |none=>none
def b2a (H:Nat->Option n9) (td:TD):AV->Option (AV×List Nat)
 | .ptr r i off=>match H r with
  |some (.els _ es)=>match es[i]? with
   |some e=>if off+td.size<=e.length then some (mk td ((e.drop off).take td.size),[r])else none
   |none=>none
  |_=>none
 | .iptr cs=>if td.size<=cs.length then some (mk td (cs.take td.size),[])else none
 | .vptr cs=>if td.size<=cs.length then some (mk td (cs.take td.size),[])else none
 |_=>none
def a9P (P:Program) (m:List Bool) (name:String) (x:AV) (args:List AV) (H:Nat->Option n9) (N:Nat) (K:Eff->Prop):Prop:=
 match x with
 | .ifc t y=>match c1E P t name with
  |some (f,none)=>a2P P m f ((y::args).map (frz H 9)) ((y::args).all (AV.noRef 2)) ((y::args).flatMap (B8 H 9)) [] (y::args) H N K
  |some (f,some e)=>d6 P e≠ .bad/\match b2a H (d6 P e) y with
   |some (z,rd0)=>a2P P m f ((z::args).map (frz H 9)) ((z::args).all (AV.noRef 2)) (rd0++(z::args).flatMap (B8 H 9)) rd0 (z::args) H N K
   |none=>False
  |none=>False
 |_=>False
def c3t (m:List Bool) (val:AV) (rd:List Nat) (K:Eff->Prop):Prop:=∃av,(m.all id=true->val=av)/\K ⟨av,[],rd⟩
def c5I (m:List Bool) (val:AV) (K:Eff->Prop):Prop:=
 match m with
 |[]=>K ⟨val,[],[]⟩
 |m=>c3t m val [] K
theorem b9m {m:List Bool} {val:AV} {K:Eff->Prop} (h:c5I m val K):∃av,(m.all id=true->val=av)/\K ⟨av,[],[]⟩:=by
 cases m with
 |nil=>exact⟨val,fun _=>rfl,h⟩
 |cons b m=>exact h
def c5y (P:Program) (m:List Bool) (t:TypeId) (td:TD) (x i:AV) (K:Eff->Prop):Prop:=
 match td with
 | .arr z n e=>d6 P e≠ .bad/\match x,i with
  | .agg cs, .v (.int _ j)=>cnd m (0<=j/\j<n/\j.toNat*(d6 P e).size+(d6 P e).size<=cs.length)/\c5I m (mk (d6 P e) ((cs.drop (j.toNat*(d6 P e).size)).take (d6 P e).size)) K
  |_,_=>False
 | .cell _=>m=[]/\match x,i with
  | .v u, .v v=>∃z,(∀w:World,(Instr.index t u v).run P w= .ok z w)/\K ⟨.v z,[],[]⟩
  |_,_=>False
 |_=>False
def c1Z (mk:Option (Bool×List KT×Value)) (N:Nat) (K:Eff->Prop):Prop:=
 match mk with
 |some (ag,kts,_)=>K ⟨.mp N,[(N,some (.map ag kts []))],[]⟩
 |none=>False
def b5m (mk:Option (Bool×List KT×Value)) (x:AV) (N:Nat) (K:Eff->Prop):Prop:=
 match mk,x with
 |some (ag,kts,_), .mpc ag' kts' kvs=>ag=ag'/\kts=kts'/\K ⟨.ptr N 0 0,[(N,some (.itr ag kts kvs none))],[]⟩
 |_,_=>False
def b5B (x:AV) (H:Nat->Option n9) (K:Eff->Prop):Prop:=
 match x with
 | .ptr r 0 0=>match H r with
  |some (.itr ag _ _ (some p))=>K ⟨.tup [.v (g9 ag p.1), .v p.2],[],[r]⟩
  |_=>False
 |_=>False
def zOk:Value->Bool
 | .agg a=>a.toList.all I0
 |_=>true
theorem b8L {z:Value} (h:zOk z=true):∀a,z= .agg a->∀x∈a.toList,I0 x=true:=by
 rintro a rfl x hx;exact qn.1 h x hx
def b0E (m:List Bool) (mk:Option (Bool×List KT×Value)) (x q:AV) (ok:Bool) (H:Nat->Option n9) (K:Eff->Prop):Prop:=
 match mk,b0g H x,b6M q with
 |some (ag,kts,z),some (ag',kts',kvs,rd),some (ag'',ks)=>ag=ag'/\kts=kts'/\ag=ag''/\o1 kts ks=true/\
  c3t m (if ok then .tup [.v ((s8 kvs ks).getD z), .v (.bool (s8 kvs ks).isSome)]else .v ((s8 kvs ks).getD z)) rd K
 | some (ag,kts,z),none,some (ag'',ks)=>(match x with
  | .mp r=>(match H r with
   |some (.mpa ag' kts' kvs)=>ag=ag'/\kts=kts'/\ag=ag''/\o1 kts ks=true/\zOk z=true/\c3t m (if ok then .tup [(A4 kvs ks).getD (zAV z), .v (.bool (A4 kvs ks).isSome)]else(A4 kvs ks).getD (zAV z)) [r] K
   |_=>False)
  |_=>False)
 |_,_,_=>False
def a4C (mk:Option (Bool×List KT×Value)) (x q v:AV) (H:Nat->Option n9) (K:Eff->Prop):Prop:=
 match mk,x,b6M q,v with
 |some (ag,kts,z), .mp r,some (ag',ks), .v u=>(match H r with
  |some (.map ag'' kts' kvs)=>ag=ag'/\ag=ag''/\kts=kts'/\o1 kts ks=true/\K ⟨.any,[(r,some (.map ag kts (M9 kvs ks u)))],[r]⟩
  |some (.mpa ag'' kts' kvs)=>ag=ag'/\ag=ag''/\kts=kts'/\o1 kts ks=true/\K ⟨.any,[(r,some (.mpa ag kts (O1 kvs ks (.v u))))],[r]⟩
  |_=>False)
 |some (ag,kts,z), .mp r,some (ag',ks),u=>(match H r with
  |some (.mpa ag'' kts' kvs)=>ag=ag'/\ag=ag''/\kts=kts'/\o1 kts ks=true/\K ⟨.any,[(r,some (.mpa ag kts (O1 kvs ks u)))],[r]⟩
  |_=>False)
 |_,_,_,_=>False
def b2M (mk:Option (Bool×List KT×Value)) (x:AV) (H:Nat->Option n9) (K:Eff->Prop):Prop:=
 match mk,b0g H x with
 |some _,some (_,_,kvs,rd)=>K ⟨.v (.int .i64 kvs.length),[],rd⟩
 | some _,none=>(match x with
  | .mp r=>(match H r with
   |some (.mpa _ _ kvs)=>K ⟨.v (.int .i64 kvs.length),[],[r]⟩
   |_=>False)
  |_=>False)
 |_,_=>False
def c5B (mk:Option (Bool×List KT×Value)) (x q:AV) (H:Nat->Option n9) (K:Eff->Prop):Prop:=
 match mk,x,b6M q with
 |some (ag,kts,z), .mp r,some (ag',ks)=>(match H r with
  |some (.mpa ag'' kts' kvs)=>ag=ag'/\ag=ag''/\kts=kts'/\o1 kts ks=true/\K ⟨.any,[(r,some (.mpa ag kts (R5 kvs ks)))],[r]⟩
  |_=>False)
 |_,_,_=>False
def c1N (P:Program) (td:TD) (kt:Option KT) (n:Int) (N:Nat) (K:Eff->Prop):Prop:=
 match td,kt with
 | .slice e,some (.i _)=>(d6 P e).size≠0/\1<=n/\R2 n.toNat (P.bytesOf e+1)/\K ⟨.row N 0 n.toNat,[(N,some (.els (d6 P e).size (List.replicate n.toNat ((d6 P e).zero.map .v))))],[]⟩
 |_,_=>False
def c1G (td:TD) (K:Eff->Prop):Prop:=
 match td with
 | .slice _=>K ⟨.v (.int .i64 0),[],[]⟩
 |_=>False
def a6E (P:Program) (b:Builtin) (args:List AV) (ts:List TypeId) (H:Nat->Option n9) (N:Nat) (K:Eff->Prop):Prop:=
 match b,args,ts with
 | .len,[.mp r],[t]=>b2M (a2r P t) (.mp r) H K
 | .len,[.mpc a b c],[t]=>b2M (a2r P t) (.mpc a b c) H K
 | .len,[x],[t]=>c6f (d6 P t) x H K
 | .delete,[x,q],[t,_]=>c5B (a2r P t) x q H K
 | .append,[.v (.slice none 0 0), .v (.int _ n)],[t,t']=>c1N P (d6 P t) (a3y P t') n N K
 | .cap,[.v (.slice none 0 0)],[t]=>c1G (d6 P t) K
 | .append,[x,y],[t,t']=>a9V P t t' (d6 P t) x y H N K
 | .min, .v (.int k m)::rest,_=>match a2q k rest with
  |some ns=>K ⟨.v (.int k (ns.foldl b9q m)),[],[]⟩
  |none=>False
 | .max, .v (.int k m)::rest,_=>match a2q k rest with
  |some ns=>K ⟨.v (.int k (ns.foldl a7M m)),[],[]⟩
  |none=>False
 |_,_,_=>False
def aop (P:Program) (m:List Bool) (op:Op) (ev:Operand->AV) (H:Nat->Option n9) (N:Nat) (K:Eff->Prop):Prop:=
 match op with
 | .move x=>K ⟨ev x,[],[]⟩
 | .assign x=>K ⟨ev x,[],[]⟩
 | .alloc t=>b5t (d6 P t) N K
 | .box _ x=>c5T (ev x) N K
 | .build t ps=>b6I P (d6 P t) ps.toList ev K
 | .buildSlice t n ps=>c6g P (L2 P t||c6t (ev (.tmp 999998))) (d6 P t) n ps ev N K
 | .load t x=>c0i m (d6 P t) (ev x) H K
 | .store t p x=>b9Y (d6 P t) (ev p) (ev x) H K
 | .nilCheck x=>c5u (ev x) H K
 | .binOp op t x y _=>c6d P m op t x y (ev x) (ev y) H K
 | .unOp op _ x=>aUn op (ev x) K
 | .convert s d x=>c1D P s d (ev x) K
 | .makeFunc (.func f) first caps=>if first= #[]then K ⟨.clo f (caps.toList.map ev),[],[]⟩else caps= #[]/\K ⟨.bnd f (first.toList.map ev),[],[]⟩
 | .range t x=>b5m (a2r P t) (ev x) N K
 | .entry x=>b5B (ev x) H K
 | .slice t x lo hi none=>b5D P m (d6 P t) (ev x) lo hi ev H K
 | .fieldAddr s x f=>a2Y (d6 P s) (ev x) f H K
 | .field s x f=>b5i P (d6 P s) (ev x) f K
 | .indexAddr t x i=>b6E P m (d6 P t) (ev x) (ev i) H K
 | .extract x i=>match ev x with
  | .tup cs=>match cs[i]? with
   |some c=>K ⟨c,[],[]⟩
   |none=>False
  |_=>False
 | .index t x i=>c5y P m t (d6 P t) (ev x) (ev i) K
 | .makeMap t none=>c1Z (a2r P t) N K
 | .makeInterface t x=>a9F P t=true/\K ⟨.ifc t (ev x),[],[]⟩
 | .typeAssert x t asserted ok=>a9F P asserted=true/\match ev x with
  | .ifc t' y=>t'=asserted/\K ⟨if ok then .tup [y, .v (.bool true)]else y,[],[]⟩
  |_=>False
 | .makeSlice t l c=>b5L P (d6 P t) (ev l) (ev c) N K
 | .lookup t x q ok=>b0E m (a2r P t) (ev x) (ev q) ok H K
 | .mapUpdate t x q v=>a4C (a2r P t) (ev x) (ev q) (ev v) H K
 | .insert t x q v=>a4C (a2r P t) (ev x) (ev q) (ev v) H K
 | .call c=>match c.callee with
  | .builtin b=>a6E P b (c.args.toList.map ev) c.argTypes.toList H N K
  | .value x=>c0I P m (ev x) (c.args.toList.map ev) H N K
  | .invoke x name=>a9P P m name (ev x) (c.args.toList.map ev) H N K
 |_=>False
section
variable {P:Program} {o:Oper} {ev:Operand->AV} {H:Nat->Option n9} {N:Nat}
theorem a8Q {t:TypeId} {name:String} {f:FuncId} {oe:Option TypeId} (h:c1E P t name=some (f,oe)):∃i mt e,P.info? t=some i/\i.methods.find? (·.name==name)=some mt/\mt.path.toList=[]/\P.underlying t=some (.pointer e)/\((mt.func=some (f,true)/\oe=none)∨(mt.func=some (f,false)/\oe=some e)):=by
 unfold c1E at h
 split at h
 ·rename_i i hi
  split at h
  ·rename_i mt hmt
   split at h
   ·rename_i hp;have hpl:mt.path.toList=[]:=by rw[Array.isEmpty_iff]at hp;rw[hp]
    split at h
    ·rename_i f' e' hf hu;simp only[qb,qr]at h;obtain⟨rfl,rfl⟩:=h;exact⟨i,mt,e',hi,hmt,hpl,hu,Or.inl ⟨hf,rfl⟩⟩
    ·rename_i f' e' hf hu;simp only[qb,qr]at h;obtain⟨rfl,rfl⟩:=h;exact⟨i,mt,e',hi,hmt,hpl,hu,Or.inr ⟨hf,rfl⟩⟩
    ·cases h
   ·cases h
  ·cases h
 ·cases h
theorem b6V:∃n,P.types.size+Made.depth=n+1:=by
 have:0<Made.depth:=by decide
 exact⟨P.types.size+Made.depth-1,by omega⟩
theorem b7v {ts:Array TypeId} {t:TypeId} {a:Addr} {x y:String} {w:World}:(Builtin.ssaWrapNilChk_ ts t #[.pointer (some a),strVal x,strVal y]).run P w= .ok (.pointer (some a)) w:=rfl
theorem a9y {t:TypeId} {name:String} {f:FuncId} (h:c1E P t name=some (f,none)) (n:Nat) (v:Value) (w:World):(method (n+1) t v name).run P w= .ok (f,v) w:=by
 obtain⟨i,mt,e,h1,h2,h3,h4,h5⟩:=a8Q h
 rcases h5 with⟨h5,_⟩|⟨_,h5⟩
 ·have hti:(typeInfo t).run P w= .ok i w:=by simp[typeInfo,h1]
  simp only[method,Sem.run_bind,hti,Result.andThen_ok,h2,h3,follow,Sem.run_pure,h5,receiverAt,run_underlying h4,Place.get]
 ·cases h5
theorem b0I {t e:TypeId} {name:String} {f:FuncId} (h:c1E P t name=some (f,some e)) (n:Nat) (a:Addr) (u:Value) (w:World) (hl:(loadVar e a).run P w= .ok u w):(method (n+1) t (.pointer (some a)) name).run P w= .ok (f,u) w:=by
 obtain⟨i,mt,e',h1,h2,h3,h4,h5⟩:=a8Q h
 rcases h5 with⟨_,h5⟩|⟨h5,h6⟩
 ·cases h5
 ·simp only[qb]at h6;subst h6;have hti:(typeInfo t).run P w= .ok i w:=by simp[typeInfo,h1]
  have he:mt.path.isEmpty=true:=by rw[Array.isEmpty_iff];exact Array.toList_eq_nil_iff.1 h3
  simp only[method,Sem.run_bind,hti,Result.andThen_ok,h2,h3,follow,Sem.run_pure,h5,receiverAt,run_underlying h4,Place.get,he,if_true,b7v,asAddr,hl]
theorem a5J {x:Operand} {name:String} {args:Array Operand} {ts:Array TypeId} {a:Act} {t:TypeId} {v:Value} {w:World} {f:FuncId} {u:Value} (ho:o.op= .call {callee:= .invoke x name,args:=args,argTypes:=ts}) (hx:a.eval x= .iface t v)
  (hm:∀n,(method (n+1) t v name).run P w= .ok (f,u) w):(execOp a.eval o).run P w=(callFunc f (u::args.toList.map a.eval).toArray).run P w:=by
 obtain⟨n,hn⟩:=b6V (P:=P);have hex:(#[Value.iface t v]++args.map a.eval).extract 1 (#[Value.iface t v]++args.map a.eval).size=args.map a.eval:=by
  apply Array.ext';simp;exact qg (by simp)
 have h0:(#[Value.iface t v]++args.map a.eval)[0]?=some (.iface t v):=by rw[Array.getElem?_append_left (by simp)];rfl
 have hpr:(program).run P w= .ok P w:=rfl;have harr: #[u]++args.map a.eval=(u::args.toList.map a.eval).toArray:=by apply Array.ext';simp
 simp only[execOp,ho,resolve,hx,Sem.run_bind,Sem.run_pure,Result.andThen_ok,invoke,h0,hex,callMethod,hpr,hn,hm,harr]
theorem a5p {x:Operand} {name:String} {args:Array Operand} {ts:Array TypeId} {f:FuncId} {t:TypeId} {y:AV} (ho:o.op= .call {callee:= .invoke x name,args:=args,argTypes:=ts}) (hx:ev x= .ifc t y) (hm:c1E P t name=some (f,none)):
  U6 P o ev H f (y::args.toList.map ev) []:=by
 intro B S0 a w ρ L hw hops hrd;have hrx:=hops x (by simp[ho,Op.operands,Call.operands]);rw[hx]at hrx;obtain⟨v,hy,hv⟩:=B6 hrx;have hargs:=a3Q (ev:=ev) (a:=a) (args:=args) fun q hq=>hops q (by rw[ho];simp only[Op.operands,Call.operands,Array.mem_append];exact Or.inr hq);refine⟨v::args.toList.map a.eval,by simp,fun i c u h1 h2=>?_,a5J ho hy fun n=>a9y hm n v w⟩
 cases i with
 |zero=>simp only[List.getElem?_cons_zero,qb]at h1 h2;subst h1 h2;exact hv
 |succ i=>exact hargs i c u (by simpa using h1) (by simpa using h2)
theorem a5t {x:Operand} {name:String} {args:Array Operand} {ts:Array TypeId} {f:FuncId} {t e:TypeId} {y z:AV} {rd0:List Nat} (ho:o.op= .call {callee:= .invoke x name,args:=args,argTypes:=ts}) (hx:ev x= .ifc t y) (hm:c1E P t name=some (f,some e)) (he:d6 P e≠ .bad) (hr:b2a H (d6 P e) y=some (z,rd0)):
  U6 P o ev H f (z::args.toList.map ev) rd0:=by
 intro B S0 a w ρ L hw hops hrd;have hrx:=hops x (by simp[ho,Op.operands,Call.operands]);rw[hx]at hrx;obtain⟨v,hy,hv⟩:=B6 hrx;have hargs:=a3Q (ev:=ev) (a:=a) (args:=args) fun q hq=>hops q (by rw[ho];simp only[Op.operands,Call.operands,Array.mem_append];exact Or.inr hq);have key:∃ad u,v= .pointer (some ad)/\(loadVar e ad).run P w= .ok u w/\e8 w (Sx S0 ρ) ρ L z u:=by
  unfold b2a at hr
  split at hr
  ·rename_i r i off
   split at hr
   ·rename_i sz es hH
    split at hr
    ·rename_i el hel
     split at hr
     ·rename_i hin;simp only[qb,qr]at hr;obtain⟨rfl,rfl⟩:=hr;obtain⟨l,hl,n8⟩:=hrd r (by simp) _ hH;exact a0y (P:=P) he hv hl n8 hel hin
     ·cases hr
    ·cases hr
   ·cases hr
  ·split at hr
   ·rename_i cs hin;simp only[qb,qr]at hr;obtain⟨rfl,rfl⟩:=hr;exact X4 (P:=P) he hv hin
   ·cases hr
  ·split at hr
   ·rename_i cs hin;simp only[qb,qr]at hr;obtain⟨rfl,rfl⟩:=hr;exact W9 (P:=P) he hv hin
   ·cases hr
  ·cases hr
 obtain⟨ad,u,rfl,hld,hz⟩:=key;refine⟨u::args.toList.map a.eval,by simp,fun i c u' h1 h2=>?_,a5J ho hy fun n=>b0I hm n ad u w hld⟩
 cases i with
 |zero=>simp only[List.getElem?_cons_zero,qb]at h1 h2;subst h1 h2;exact hz
 |succ i=>exact hargs i c u' (by simpa using h1) (by simpa using h2)
theorem W5 {m:List Bool} {f:FuncId} {raw:List AV} {rd0:List Nat} {K:Eff->Prop} (hop:U6 P o ev H f raw rd0) (h:a2P P m f (raw.map (frz H 9)) (raw.all (AV.noRef 2)) (rd0++raw.flatMap (B8 H 9)) rd0 raw H N K):∃e,(m.all id=true->p6 P o ev H N e)/\K e:=by
 rcases h with⟨res,hp,hn,h⟩|⟨hn,i,k,sz,es,hp,h⟩|⟨gk,gd,Hk,Hd,Hk',Hn,res,hnd,hHH,hkl,hall,hp,h⟩|⟨gk,gd,Hk,Hd,Hk',Hn,res,hnd,hHH,hkl,hall,hp,hfl,hrf,h⟩|⟨res,hp,h⟩
 ·exact⟨_,fun hm=>b9y hop (x2 hp hm) hn,h⟩
 ·exact⟨_,fun _=>c4F hop hp hn,h⟩
 ·simp only[a3g,qh,decide_eq_true_eq,qn]at hnd;exact⟨_,fun _=>c3S hop hnd.1 hnd.2 hHH hkl (qn.1 hall) hp,h⟩
 ·simp only[a3g,qh,decide_eq_true_eq,qn]at hnd;exact⟨_,fun _=>c3d hop hnd.1 hnd.2 hHH hkl (qn.1 hall) hp hfl (qn.1 hrf),h⟩
 ·exact⟨_,fun hm=>b8i hop (x2 hp hm),h⟩
theorem a3E {t:TypeId} {x:Operand} (ho:o.op= .makeInterface t x) (hc:a9F P t=true):p6 P o ev H N ⟨.ifc t (ev x),[],[]⟩:=by
 refine p6.of_pure fun B S0 a w ρ L hw hops hrd=>⟨.iface t (a.eval x),Or.inl ?_, .ifc _ _ _ (hops x (by simp[ho,Op.operands]))⟩;unfold a9F at hc
 split at hc
 ·cases hc
 ·rename_i d hnd hu;have hun:=run_underlying (w:=w) hu
  cases hd:d with
  |interface m=>exact(hnd m hd).elim
  |_=>simp[execOp,ho,Instr.makeInterface,hun,hd]
 ·cases hc
theorem a7z {x:Operand} {xt t:TypeId} {ok:Bool} {y:AV} (ho:o.op= .typeAssert x xt t ok) (hc:a9F P t=true) (hx:ev x= .ifc t y):p6 P o ev H N ⟨if ok then .tup [y, .v (.bool true)]else y,[],[]⟩:=by
 refine p6.of_pure fun B S0 a w ρ L hw hops hrd=>?_;have hrx:=hops x (by simp[ho,Op.operands]);rw[hx]at hrx;obtain⟨v,hy,hv⟩:=B6 hrx;refine⟨if ok then .tuple #[v, .bool true]else v,Or.inl ?_,?_⟩
 ·unfold a9F at hc
  split at hc
  ·cases hc
  ·rename_i d hnd hu;have hun:=run_underlying (w:=w) hu
   cases hd:d with
   |interface m=>exact(hnd m hd).elim
   |_=>cases ok<;>simp[execOp,ho,Instr.typeAssert,hun,hd,hy]
  ·cases hc
 ·cases ok with
  |false=>exact hv
  |true=>
   refine .tup _ [v, .bool true] rfl (fun i c u h1 h2=>?_)
   match i,h1,h2 with
   |0,h1,h2=>simp at h1 h2;subst h1 h2;exact hv
   |1,h1,h2=>simp at h1 h2;subst h1 h2;exact .pure _ _ (.v _)
   |n+2,h1,h2=>simp at h1
theorem a0u {y:Value} (h:∀a:Act,(∀x∈o.op.operands,∀z,S6 (ev x)=some z->a.eval x=z)->∀w:World,(execOp a.eval o).run P w= .ok (.value y) w):p6 P o ev H N ⟨.v y,[],[]⟩:=by
 refine p6.of_pure fun B S0 a w ρ L hw hops hrd=>⟨y,Or.inl (h a ?_ w), .pure _ _ (.v y)⟩;intro x hx z hz;exact a9t hz (hops x hx)
theorem a5f {a:Act} {k:IntKind}:∀(xs:List Operand) (ns:List Int),a2q k (xs.map ev)=some ns->(∀x∈xs,∀z,S6 (ev x)=some z->a.eval x=z)->xs.map a.eval=ns.map (Value.int k ·):=by
 intro xs
 induction xs with
 |nil=>intro ns h _;simp[a2q]at h;subst h;rfl
 | cons x xs ih=>
  intro ns h hx;simp only[List.map_cons]at h
  cases hv:ev x with
  | v u=>
   cases u with
   |int k' n=>
    rw[hv]at h;simp only[a2q]at h
    split at h
    ·rename_i e;subst e;simp only[qf]at h;obtain⟨ns',h1,rfl⟩:=h;simp only[List.map_cons];rw[ih ns' h1 (fun y hy=>hx y (by simp[hy])),hx x (by simp) (.int k' n) (by rw[hv];rfl)]
    ·cases h
   |_=>rw[hv]at h;cases h
  |_=>rw[hv]at h;cases h
theorem a8m {w:World} {ts:Array TypeId} {t:TypeId} {k:IntKind} (m:Int) (ns:List Int):(Builtin.min_ ts t ((Value.int k m)::ns.map (Value.int k ·)).toArray).run P w= .ok (.int k (ns.foldl b9q m)) w:=by
 simp only[Builtin.min_]
 induction ns generalizing m with
 |nil=>simp
 |cons n ns ih=>
  simp only[List.map_cons,List.foldlM_cons,List.foldl_cons,Sem.run_bind];have:(Builtin.min2 (.int k m) (.int k n)).run P w= .ok (.int k (b9q m n)) w:=rfl;rw[this];exact ih (b9q m n)
theorem a8R {w:World} {ts:Array TypeId} {t:TypeId} {k:IntKind} (m:Int) (ns:List Int):(Builtin.max_ ts t ((Value.int k m)::ns.map (Value.int k ·)).toArray).run P w= .ok (.int k (ns.foldl a7M m)) w:=by
 simp only[Builtin.max_]
 induction ns generalizing m with
 |nil=>simp
 |cons n ns ih=>
  simp only[List.map_cons,List.foldlM_cons,List.foldl_cons,Sem.run_bind];have:(Builtin.max2 (.int k m) (.int k n)).run P w= .ok (.int k (a7M m n)) w:=rfl;rw[this];exact ih (a7M m n)
theorem D3 {m:List Bool} {x:Option Operand} {d:Nat} {K:Nat->Prop} (h:a4F m ev x d K):∃n,(m.all id=true->a1f ev x n)/\K (n.getD d):=by
 unfold a4F at h
 cases x with
 |none=>exact⟨none,fun _=>trivial,h⟩
 |some y=>
  simp only at h
  split at h
  ·rename_i k n hy;exact⟨some n.toNat,fun hm=>⟨k,n,hy,x2 h.1 hm,rfl⟩,h.2⟩
  ·exact h.elim
theorem b4j {m:List Bool} {K:Eff->Prop} (h:aop P m o.op ev H N K):∃e,(m.all id=true->p6 P o ev H N e)/\K e:=by
 unfold aop at h
 split at h
 ·rename_i x ho;exact⟨_,fun _=>b5T (Or.inl ho),h⟩
 ·rename_i x ho;exact⟨_,fun _=>b5T (Or.inr ho),h⟩
 ·rename_i t ho;have hne:d6 P t≠ .bad:=by intro hb;rw[hb]at h;exact h
  have:K ⟨.ptr N 0 0,[(N,some (.els (d6 P t).size [(d6 P t).zero.map .v]))],[]⟩:=by
   unfold b5t at h;split at h
   ·exact h.elim
   ·exact h
  exact⟨_,fun _=>b9h ho hne,this⟩
 ·rename_i t x ho;unfold c5T at h
  split at h
  ·rename_i cs hcs;exact⟨_,fun _=>c4x ho hcs,h⟩
  ·exact h.elim
 ·rename_i t ps ho;unfold b6I at h
  split at h
  ·rename_i z fs ht
   split at h
   ·rename_i res hres;exact⟨_,fun _=>a4B ho ht hres,h⟩
   ·exact h.elim
  ·rename_i z n e ht;obtain⟨hne,h⟩:=h
   split at h
   ·rename_i res hres;exact⟨_,fun _=>a8r ho ht hne hres,h⟩
   ·exact h.elim
  ·exact h.elim
 ·rename_i t n ps ho;unfold c6g at h
  split at h
  ·rename_i e ht;obtain⟨rfl,hsz,hsm,h⟩:=h
   split at h
   ·rename_i els hels
    split at h
    ·exact⟨_,fun _=>a2x ho ht rfl hsz hsm hels,h⟩
    ·refine⟨_,fun _=>a7J ho ht rfl hsz hsm hels ?_,h.2⟩;intro el hel c hc;have:=h.1;simp only[qn]at this;exact this el hel c hc
   ·exact h.elim
  ·exact h.elim
 ·rename_i t x ho;obtain⟨hne,h⟩:=h
  split at h
  ·rename_i r i off hx
   split at h
   ·rename_i sz es hH
    split at h
    ·rename_i e he;exact⟨_,fun _=>a9M ho hne hx hH he h.1,h.2⟩
    ·exact⟨_,(fun hm=>by rw[h.1]at hm;cases hm),h.2⟩
   ·exact h.elim
  ·rename_i cs hx;exact⟨_,fun _=>a8b ho hne hx h.1,h.2⟩
  ·rename_i cs hx;exact⟨_,fun _=>a8P ho hne hx h.1,h.2⟩
  ·exact h.elim
 ·rename_i t p x ho;obtain⟨hne,h⟩:=h
  split at h
  ·rename_i r i off hp
   split at h
   ·rename_i sz es hH
    split at h
    ·rename_i e he
     split at h
     ·rename_i cs hcs;exact⟨_,fun _=>b2t ho hne hp hH he hcs h.1 h.2.1,h.2.2⟩
     ·exact h.elim
    ·exact h.elim
   ·exact h.elim
  ·exact h.elim
 ·rename_i x ho;unfold c5u at h
  split at h
  ·rename_i r i off hx
   split at h
   ·rename_i sz es hH;exact⟨_,fun _=>a4T (e:=[]) ho hx hH,h⟩
   ·exact h.elim
  ·rename_i c r i off hx
   split at h
   ·rename_i sz es hH;exact⟨_,fun _=>a3H ho hx hH,h⟩
   ·exact h.elim
  ·rename_i cs hx;exact⟨_,fun _=>a3A ho hx,h⟩
  ·rename_i cs hx;exact⟨_,fun _=>a3z ho hx,h⟩
  ·exact h.elim
 ·rename_i op t x y ty ho;have gen:∀{p q z:Value},S6 (ev x)=some p->S6 (ev y)=some q->(∀w:World,(eqGuard op t x y p q).run P w= .ok () w)->(∀w:World,(binOp op t p q).run P w= .ok z w)->p6 P o ev H N ⟨.v z,[],[]⟩:=by
   intro p q z hp hq hg hz;refine a0u fun a ha w=>?_;have h1:=ha x (by simp[ho,Op.operands]) _ hp;have h2:=ha y (by simp[ho,Op.operands]) _ hq;simp[execOp,ho,h1,h2,hg,hz]
  have ints:∀{k:IntKind} {m n:Int} {z:Value},ev x= .v (.int k m)->ev y= .v (.int k n)->(∀w:World,(binOp op t (.int k m) (.int k n)).run P w= .ok z w)->p6 P o ev H N ⟨.v z,[],[]⟩:=
   fun hx hy hz=>b4g ho hx hy hz
  unfold c6d at h
  split at h
  ·rename_i k m k' n hx hy;obtain⟨rfl,h⟩:=h;exact⟨_,fun _=>ints hx hy (fun w=>by simp[binOp,Op.intArith]),h⟩
  ·rename_i k m k' n hx hy;obtain⟨rfl,h⟩:=h;exact⟨_,fun _=>ints hx hy (fun w=>by simp[binOp,Op.intArith]),h⟩
  ·rename_i k m k' n hx hy;obtain⟨rfl,h⟩:=h;exact⟨_,fun _=>ints hx hy (fun w=>by simp[binOp,Op.intArith]),h⟩
  ·rename_i k m k' n hx hy;obtain⟨rfl,h0,h⟩:=h;exact⟨_,fun hm=>ints hx hy (fun w=>by simp[binOp,Op.intDiv,x2 h0 hm]),h⟩
  ·rename_i k m k' n hx hy;obtain⟨rfl,h0,h⟩:=h;exact⟨_,fun hm=>ints hx hy (fun w=>by simp[binOp,Op.intDiv,x2 h0 hm]),h⟩
  ·rename_i k m k' n hx hy;obtain⟨rfl,h⟩:=h;exact⟨_,fun _=>ints hx hy (fun w=>by simp[binOp,Op.intCmp]),h⟩
  ·rename_i k m k' n hx hy;obtain⟨rfl,h⟩:=h;exact⟨_,fun _=>ints hx hy (fun w=>by simp[binOp,Op.intCmp]),h⟩
  ·rename_i k m k' n hx hy;obtain⟨rfl,h⟩:=h;exact⟨_,fun _=>ints hx hy (fun w=>by simp[binOp,Op.intCmp]),h⟩
  ·rename_i k m k' n hx hy;obtain⟨rfl,h⟩:=h;exact⟨_,fun _=>ints hx hy (fun w=>by simp[binOp,Op.intCmp]),h⟩
  ·rename_i k m k' n hx hy;obtain⟨rfl,h⟩:=h;exact⟨_,fun _=>ints hx hy (fun w=>by simp[binOp,Op.intCmp]),h⟩
  ·rename_i k m k' n hx hy;obtain⟨rfl,h⟩:=h;exact⟨_,fun _=>ints hx hy (fun w=>by simp[binOp,Op.intCmp]),h⟩
  ·rename_i k m k' n hx hy;obtain⟨rfl,h⟩:=h;exact⟨_,fun _=>ints hx hy (fun w=>by simp[binOp_and,intBits_and]),h⟩
  ·rename_i k m k' n hx hy;obtain⟨h0,h⟩:=h;refine⟨_,fun hm=>a0u fun a ha w=>?_,h⟩;have h1:=ha x (by simp[ho,Op.operands]) (.int k m) (by rw[hx];rfl);have h2:=ha y (by simp[ho,Op.operands]) (.int k' n) (by rw[hy];rfl);obtain⟨g1,g2⟩:=x2 h0 hm;simp[execOp,ho,h1,h2,eqGuard_shr,binOp_shr,shift_shr k k' m n g1 g2]
  ·rename_i k m k' n hx hy;obtain⟨rfl,h⟩:=h;exact⟨_,fun _=>ints hx hy (fun w=>by simp[binOp_or,intBits_or]),h⟩
  ·rename_i k m k' n hx hy;obtain⟨rfl,h⟩:=h;exact⟨_,fun _=>ints hx hy (fun w=>by simp[binOp_andNot,intBits_andNot]),h⟩
  ·rename_i k m k' n hx hy;obtain⟨h0,h⟩:=h;refine⟨_,fun hm=>a0u fun a ha w=>?_,h⟩;have h1:=ha x (by simp[ho,Op.operands]) (.int k m) (by rw[hx];rfl);have h2:=ha y (by simp[ho,Op.operands]) (.int k' n) (by rw[hy];rfl);obtain⟨g1,g2⟩:=x2 h0 hm;simp[execOp,ho,h1,h2,eqGuard_shl,binOp_shl,shift_shl k k' m n g1 g2]
  ·rename_i xs ys hx hy
   split at h
   ·rename_i ts ks ls ht hk hl;exact⟨_,fun _=>a3p ho (Or.inl rfl) hx hy ht hk hl h.1 h.2.1,h.2.2⟩
   ·exact h.elim
  ·rename_i xs ys hx hy
   split at h
   ·rename_i ts ks ls ht hk hl;exact⟨_,fun _=>a3p ho (Or.inr rfl) hx hy ht hk hl h.1 h.2.1,h.2.2⟩
   ·exact h.elim
  ·rename_i s els hx hy;exact⟨_,fun hm=>a3r ho (Or.inl ⟨rfl,rfl⟩) h.1 hx hy (x2 h.2.1 hm),h.2.2⟩
  ·rename_i s els hx hy;exact⟨_,fun hm=>a3r ho (Or.inr ⟨rfl,rfl⟩) h.1 hx hy (x2 h.2.1 hm),h.2.2⟩
  ·rename_i n c hx hy;exact⟨_,fun _=>b2Q ho h.1 hx hy,h.2⟩
  ·rename_i cs hx hy;exact⟨_,fun _=>a0B ho (Or.inl ⟨rfl,rfl⟩) h.1 (Or.inl ⟨_,hx⟩) hy,h.2⟩
  ·rename_i cs hx hy;exact⟨_,fun _=>a0B ho (Or.inr ⟨rfl,rfl⟩) h.1 (Or.inl ⟨_,hx⟩) hy,h.2⟩
  ·rename_i cs hx hy;exact⟨_,fun _=>a0B ho (Or.inl ⟨rfl,rfl⟩) h.1 (Or.inr ⟨_,hx⟩) hy,h.2⟩
  ·rename_i cs hx hy;exact⟨_,fun _=>a0B ho (Or.inr ⟨rfl,rfl⟩) h.1 (Or.inr ⟨_,hx⟩) hy,h.2⟩
  ·rename_i r i off hx hy;obtain⟨ht,h⟩:=h
   split at h
   ·rename_i sz es hH;exact⟨_,fun _=>a5E ho (Or.inl ⟨rfl,rfl⟩) ht hx hy hH,h⟩
   ·exact h.elim
  ·rename_i r i off hx hy;obtain⟨ht,h⟩:=h
   split at h
   ·rename_i sz es hH;exact⟨_,fun _=>a5E ho (Or.inr ⟨rfl,rfl⟩) ht hx hy hH,h⟩
   ·exact h.elim
  ·split at h
   ·rename_i p q hp hq;obtain⟨z,hg,hz,h⟩:=h;exact⟨_,fun _=>gen hp hq hg hz,h⟩
   ·exact h.elim
 ·rename_i op t x ho;unfold aUn at h
  split at h
  ·rename_i b hx;exact⟨_,fun _=>b3g ho hx,h⟩
  ·rename_i k n hx;exact⟨_,fun _=>b5u ho hx,h⟩
  ·exact h.elim
 ·rename_i s d x ho;unfold c1D at h
  split at h
  ·rename_i u hx;obtain⟨z,hz,h⟩:=h;exact⟨_,fun _=>b2x ho hx hz,h⟩
  ·exact h.elim
 ·rename_i f first caps ho
  split at h
  ·rename_i e;subst e;exact⟨_,fun _=>a9H ho,h⟩
  ·obtain⟨rfl,h⟩:=h;exact⟨_,fun _=>b2U ho,h⟩
 ·rename_i t x ho;unfold b5m at h
  split at h
  ·rename_i ag kts z ag' kts' kvs hmk hx;obtain⟨rfl,rfl,h⟩:=h;exact⟨_,fun _=>b9k ho hmk hx,h⟩
  ·exact h.elim
 ·rename_i x ho;unfold b5B at h
  split at h
  ·rename_i r hx
   split at h
   ·rename_i ag kts left p hH;exact⟨_,fun _=>b8g ho hx hH,h⟩
   ·exact h.elim
  ·exact h.elim
 ·rename_i t x lo hi ho;unfold b5D at h
  split at h
  ·rename_i e ht;obtain⟨hsz,h⟩:=h
   split at h
   ·rename_i sz els hx;obtain⟨rfl,h⟩:=h;obtain⟨l,bl,h⟩:=D3 h;obtain⟨u,bu,h1,h2,h⟩:=D3 h;exact⟨_,fun hm=>a3x ho ht rfl hsz (Or.inl hx) (bl hm) (bu hm) (x2 h1 hm) (x2 h2 hm),h⟩
   ·rename_i sz els hx;obtain⟨rfl,h⟩:=h;obtain⟨l,bl,h⟩:=D3 h;obtain⟨u,bu,h1,h2,h⟩:=D3 h;exact⟨_,fun hm=>a3x ho ht rfl hsz (Or.inr hx) (bl hm) (bu hm) (x2 h1 hm) (x2 h2 hm),h⟩
   ·rename_i r i n hx
    split at h
    ·rename_i sz es hH;obtain⟨rfl,hin,h⟩:=h;obtain⟨l,bl,h⟩:=D3 h;obtain⟨u,bu,h1,h2,h⟩:=D3 h;exact⟨_,fun hm=>a8h ho ht rfl hsz hx hH (bl hm) (bu hm) (x2 h1 hm) (x2 h2 hm) (Or.inr hin),h⟩
    ·exact h.elim
   ·rename_i hx;obtain⟨l,bl,h⟩:=D3 h;obtain⟨u,bu,h1,h2,h⟩:=D3 h;exact⟨_,fun hm=>a8i ho ht hsz hx (bl hm) (bu hm) (x2 h1 hm) (x2 h2 hm),h⟩
   ·exact h.elim
  ·exact h.elim
 ·rename_i s x f ho;unfold a2Y at h
  split at h
  ·rename_i z fs ht
   split at h
   ·rename_i off sz t hf;obtain⟨hsz,h⟩:=h
    split at h
    ·rename_i r i o' hx
     split at h
     ·rename_i hH;exact⟨_,fun _=>a3B ho ht hf hsz hx hH,h⟩
     ·exact h.elim
    ·rename_i cs hx;exact⟨_,fun _=>a2I ho ht hf hsz hx h.1,h.2⟩
    ·rename_i cs hx;exact⟨_,fun _=>a2M ho ht hf hsz hx h.1,h.2⟩
    ·exact h.elim
   ·exact h.elim
  ·exact h.elim
 ·rename_i s x f ho;unfold b5i at h
  split at h
  ·rename_i z fs ht
   split at h
   ·rename_i off sz t hf;obtain⟨hne,h⟩:=h
    split at h
    ·rename_i cs hx;exact⟨_,fun _=>b8T ho ht hf hne hx h.1,h.2⟩
    ·exact h.elim
   ·exact h.elim
  ·exact h.elim
 ·rename_i t x i ho;unfold b6E at h
  split at h
  ·rename_i e ht;obtain⟨hsz,h⟩:=h
   split at h
   ·rename_i k n hi;obtain⟨hn,h⟩:=h
    split at h
    ·rename_i sz els hx;obtain⟨rfl,h⟩:=h;obtain⟨el,hel,h⟩:=a9h h;exact⟨_,fun hm=>a3h ho ht rfl hsz (Or.inl hx) hi (x2 hn hm) (hel hm),h⟩
    ·rename_i sz els hx;obtain⟨rfl,h⟩:=h;obtain⟨el,hel,h⟩:=a9h h;exact⟨_,fun hm=>a3h ho ht rfl hsz (Or.inr hx) hi (x2 hn hm) (hel hm),h⟩
    ·rename_i r i0 len hx
     split at h
     ·rename_i sz es hH;obtain⟨rfl,hlt,h⟩:=h;exact⟨_,fun hm=>a8a ho ht rfl hsz hx hH hi (x2 hn hm) (x2 hlt hm),h⟩
     ·exact h.elim
    ·exact⟨_,fun hm=>absurd hm (by rw[h.1];decide),h.2⟩
    ·exact h.elim
   ·exact h.elim
  ·rename_i z len e ht;obtain⟨hsz,h⟩:=h
   split at h
   ·rename_i k n hi;obtain⟨hn,h⟩:=h
    split at h
    ·rename_i r i0 off hx
     split at h
     ·rename_i hH;exact⟨_,fun hm=>a4S ho ht hsz hx hH hi (x2 hn hm).1 (x2 hn hm).2,h⟩
     ·exact h.elim
    ·rename_i cs hx;exact⟨_,fun hm=>a3I ho ht hsz hx hi (x2 hn hm).1 (x2 hn hm).2,h⟩
    ·exact h.elim
   ·exact h.elim
  ·exact h.elim
 ·rename_i x i ho
  split at h
  ·rename_i cs hx
   split at h
   ·rename_i c hc;exact⟨_,fun _=>b3u ho hx hc,h⟩
   ·exact h.elim
  ·exact h.elim
 ·rename_i t x i ho;unfold c5y at h
  split at h
  ·rename_i z n e ht;obtain⟨hne,h⟩:=h
   split at h
   ·rename_i cs k j hx hi;obtain⟨h0,h⟩:=h;obtain⟨av,hav,h⟩:=b9m h;refine⟨_,fun hm=>?_,h⟩;obtain⟨g1,g2,g3⟩:=x2 h0 hm;have:=b9x (N:=N) (H:=H) ho ht hne hx hi g1 g2 g3;rw[hav hm]at this;exact this
   ·exact h.elim
  ·obtain⟨_,h⟩:=h
   split at h
   ·rename_i u v hx hi;obtain⟨z,hz,h⟩:=h;refine⟨_,fun _=>a0H fun a ha w=>?_,h⟩;have h1:=ha x (by simp[ho,Op.operands]) _ hx;have h2:=ha i (by simp[ho,Op.operands]) _ hi;simp[execOp,ho,h1,h2,hz]
   ·exact h.elim
  ·exact h.elim
 ·rename_i t ho;unfold c1Z at h
  split at h
  ·rename_i ag kts z hmk;exact⟨_,fun _=>b2T ho hmk,h⟩
  ·exact h.elim
 ·rename_i t x ho;exact⟨_,fun _=>a3E ho h.1,h.2⟩
 ·rename_i x t asserted ok ho;obtain⟨hc,h⟩:=h
  split at h
  ·rename_i t' y hx;obtain⟨rfl,h⟩:=h;exact⟨_,fun _=>a7z ho hc hx,h⟩
  ·exact h.elim
 ·rename_i t l c ho;unfold b5L at h
  split at h
  ·rename_i e k1 a k2 b ht hl hc;obtain⟨hsz,h0,hab,hf,h⟩:=h;exact⟨_,fun _=>a8y ho ht rfl hsz hl hc h0 hab hf,h⟩
  ·exact h.elim
 ·rename_i t x q ok ho;unfold b0E at h
  split at h
  ·rename_i ag kts z ag' kts' kvs rd ag'' ks hmk hx hq;obtain⟨rfl,rfl,rfl,hf,av,hav,h⟩:=h;refine⟨_,fun hm=>?_,h⟩;have:=b4n (N:=N) ho hmk hx hq hf;rw[hav hm]at this;exact this
  ·rename_i ag kts z ag'' ks hmk hx0 hq
   split at h
   ·rename_i r hx
    split at h
    ·rename_i ag' kts' kvs hH;obtain⟨rfl,rfl,rfl,hf,hz,av,hav,h⟩:=h;refine⟨_,fun hm=>?_,h⟩;have:=b3Q (N:=N) ho hmk (b8L hz) hx hH hq hf;rw[hav hm]at this;exact this
    ·exact h.elim
   ·exact h.elim
  ·exact h.elim
 ·rename_i t x q v ho;unfold a4C at h
  split at h
  ·rename_i ag kts z r ag' ks u hmk hx hq hv
   split at h
   ·rename_i ag'' kts' kvs hH;obtain⟨rfl,rfl,rfl,hf,h⟩:=h;exact⟨_,fun _=>a3f (Or.inl ho) hmk hx hH hq hf hv,h⟩
   ·rename_i ag'' kts' kvs hH;obtain⟨rfl,rfl,rfl,hf,h⟩:=h;exact⟨_,fun _=>a0A (Or.inl ho) hmk hx hH hq hf hv,h⟩
   ·exact h.elim
  ·rename_i ag kts z r ag' ks hmk hx hq _
   split at h
   ·rename_i ag'' kts' kvs hH;obtain⟨rfl,rfl,rfl,hf,h⟩:=h;exact⟨_,fun _=>a0A (Or.inl ho) hmk hx hH hq hf rfl,h⟩
   ·exact h.elim
  ·exact h.elim
 ·rename_i t x q v ho;unfold a4C at h
  split at h
  ·rename_i ag kts z r ag' ks u hmk hx hq hv
   split at h
   ·rename_i ag'' kts' kvs hH;obtain⟨rfl,rfl,rfl,hf,h⟩:=h;exact⟨_,fun _=>a3f (Or.inr ho) hmk hx hH hq hf hv,h⟩
   ·rename_i ag'' kts' kvs hH;obtain⟨rfl,rfl,rfl,hf,h⟩:=h;exact⟨_,fun _=>a0A (Or.inr ho) hmk hx hH hq hf hv,h⟩
   ·exact h.elim
  ·rename_i ag kts z r ag' ks hmk hx hq _
   split at h
   ·rename_i ag'' kts' kvs hH;obtain⟨rfl,rfl,rfl,hf,h⟩:=h;exact⟨_,fun _=>a0A (Or.inr ho) hmk hx hH hq hf rfl,h⟩
   ·exact h.elim
  ·exact h.elim
 ·rename_i c ho;obtain⟨callee,args,ts⟩:=c;simp only at h
  split at h
  ·rename_i b;unfold a6E at h
   split at h
   ·rename_i r t ha hts;obtain⟨xo,rfl⟩:∃xo,args= #[xo]:=by
     have:args.toList.length=1:=by have:=congrArg List.length ha;simpa using this
     match hargs:args.toList,this with
     |[xo],_=>exact⟨xo,by apply Array.ext';simpa using hargs⟩
    obtain rfl:ts= #[t]:=by apply Array.ext';simpa using hts
    simp only[List.map_cons,List.map_nil,List.cons.injEq,and_true]at ha;unfold b2M at h
    split at h
    ·rename_i q ag kts kvs rd hmk hin;exact⟨_,fun _=>a5L ho (by rw[hmk];rfl) (by rw[ha];exact hin),h⟩
    ·rename_i q hmk hin
     split at h
     ·rename_i r' hr;simp only[AV.mp.injEq]at hr;subst hr
      split at h
      ·rename_i ag kts kvs hH;exact⟨_,fun _=>b3P ho (by rw[hmk];rfl) ha hH,h⟩
      ·exact h.elim
     ·rename_i hno;exact(hno _ rfl).elim
    ·exact h.elim
   ·rename_i a1 b1 c1 t ha hts;obtain⟨xo,rfl⟩:∃xo,args= #[xo]:=by
     have:args.toList.length=1:=by have:=congrArg List.length ha;simpa using this
     match hargs:args.toList,this with
     |[xo],_=>exact⟨xo,by apply Array.ext';simpa using hargs⟩
    obtain rfl:ts= #[t]:=by apply Array.ext';simpa using hts
    simp only[List.map_cons,List.map_nil,List.cons.injEq,and_true]at ha;unfold b2M at h
    split at h
    ·rename_i q ag kts kvs rd hmk hin;exact⟨_,fun _=>a5L ho (by rw[hmk];rfl) (by rw[ha];exact hin),h⟩
    ·exact h.elim
    ·exact h.elim
   ·rename_i x t _ _ ha hts;obtain⟨xo,rfl⟩:∃xo,args= #[xo]:=by
     have:args.toList.length=1:=by have:=congrArg List.length ha;simpa using this
     match hargs:args.toList,this with
     |[xo],_=>exact⟨xo,by apply Array.ext';simpa using hargs⟩
    obtain rfl:ts= #[t]:=by apply Array.ext';simpa using hts
    simp only[List.map_cons,List.map_nil,List.cons.injEq,and_true]at ha;subst ha;unfold c6f at h
    split at h
    ·rename_i e ht
     split at h
     ·rename_i sz els hx;exact⟨_,fun _=>a5N (ty:=0) ho ht (Or.inl hx),h⟩
     ·rename_i sz els hx;exact⟨_,fun _=>a5N (ty:=0) ho ht (Or.inr hx),h⟩
     ·rename_i r i n hx
      split at h
      ·rename_i hH;exact⟨_,fun _=>b3S ho ht hx hH,h⟩
      ·exact h.elim
     ·rename_i hx;exact⟨_,fun _=>b3m ho ht hx,h⟩
     ·exact h.elim
    ·exact h.elim
   ·rename_i x q t t' ha hts;obtain⟨xo,yo,rfl⟩:∃xo yo,args= #[xo,yo]:=by
     have:args.toList.length=2:=by have:=congrArg List.length ha;simpa using this
     match hargs:args.toList,this with
     |[xo,yo],_=>exact⟨xo,yo,by apply Array.ext';simpa using hargs⟩
    obtain rfl:ts= #[t,t']:=by apply Array.ext';simpa using hts
    simp only[List.map_cons,List.map_nil,List.cons.injEq,and_true]at ha;obtain⟨rfl,rfl⟩:=ha;unfold c5B at h
    split at h
    ·rename_i ag kts z r ag' ks hmk hx hq
     split at h
     ·rename_i ag'' kts' kvs hH;obtain⟨rfl,rfl,rfl,hf,h⟩:=h;exact⟨_,fun _=>b2J ho hmk hx hH hq hf,h⟩
     ·exact h.elim
    ·exact h.elim
   ·rename_i kk n t t' ha hts;obtain⟨xo,yo,rfl⟩:∃xo yo,args= #[xo,yo]:=by
     have:args.toList.length=2:=by have:=congrArg List.length ha;simpa using this
     match hargs:args.toList,this with
     |[xo,yo],_=>exact⟨xo,yo,by apply Array.ext';simpa using hargs⟩
    obtain rfl:ts= #[t,t']:=by apply Array.ext';simpa using hts
    simp only[List.map_cons,List.map_nil,List.cons.injEq,and_true]at ha;unfold c1N at h
    split at h
    ·rename_i e kn ht hkt;obtain⟨hsz,hn,hf,h⟩:=h;exact⟨_,fun _=>a4l ho ht hkt rfl hsz ha.1 ha.2 hn hf,h⟩
    ·exact h.elim
   ·rename_i t ha hts;obtain⟨xo,rfl⟩:∃xo,args= #[xo]:=by
     have:args.toList.length=1:=by have:=congrArg List.length ha;simpa using this
     match hargs:args.toList,this with
     |[xo],_=>exact⟨xo,by apply Array.ext';simpa using hargs⟩
    obtain rfl:ts= #[t]:=by apply Array.ext';simpa using hts
    simp only[List.map_cons,List.map_nil,List.cons.injEq,and_true]at ha;unfold c1G at h
    split at h
    ·rename_i e ht;exact⟨_,fun _=>b2L ho ht ha,h⟩
    ·exact h.elim
   ·rename_i x y t t' _ ha hts;obtain⟨xo,yo,rfl⟩:∃xo yo,args= #[xo,yo]:=by
     have:args.toList.length=2:=by have:=congrArg List.length ha;simpa using this
     match hargs:args.toList,this with
     |[xo,yo],_=>exact⟨xo,yo,by apply Array.ext';simpa using hargs⟩
    obtain rfl:ts= #[t,t']:=by apply Array.ext';simpa using hts
    simp only[List.map_cons,List.map_nil,List.cons.injEq,and_true]at ha;obtain⟨rfl,rfl⟩:=ha;unfold a9V at h;obtain⟨rfl,h⟩:=h
    split at h
    ·rename_i e ht;obtain⟨hsz,h⟩:=h
     split at h
     ·rename_i s rd hs
      split at h
      ·rename_i hc;obtain⟨hc1,hc2⟩:=hc;rw[List.isEmpty_iff]at hc1;subst hc1;unfold AV.isFull at hc2
       split at hc2
       ·rename_i sz' els hx;simp only[decide_eq_true_eq]at hc2;refine⟨_,fun _=>?_,h⟩;rw[hc2]at hx;rw[hx];exact a5y (ty:=0) ho ht rfl hsz hs hx
       ·cases hc2
      split at h
      ·rename_i b kill hb;exact⟨_,fun _=>b4r (ty:=0) ho ht rfl hsz hs hb h.1,h.2⟩
      ·exact h.elim
     ·exact h.elim
    ·exact h.elim
   ·rename_i k m rest ha
    split at h
    ·rename_i ns hns;refine⟨_,fun _=>a0u fun a hx w=>?_,h⟩;have hall:=a5f (ev:=ev) (a:=a) (k:=k) args.toList (m::ns) (by rw[ha];simp[a2q,hns]) (fun x hxm=>hx x (by rw[ho];simp only[Op.operands,Call.operands,Array.mem_append];exact Or.inr (Array.mem_toList_iff.1 hxm)));have harr:args.map a.eval=((Value.int k m)::ns.map (Value.int k ·)).toArray:=by apply Array.ext';rw[Array.toList_map,hall];rfl
     simp only[execOp,ho,resolve,invoke,builtin,harr];simp[invoke,builtin,a8m]
    ·exact h.elim
   ·rename_i k m rest ha
    split at h
    ·rename_i ns hns;refine⟨_,fun _=>a0u fun a hx w=>?_,h⟩;have hall:=a5f (ev:=ev) (a:=a) (k:=k) args.toList (m::ns) (by rw[ha];simp[a2q,hns]) (fun x hxm=>hx x (by rw[ho];simp only[Op.operands,Call.operands,Array.mem_append];exact Or.inr (Array.mem_toList_iff.1 hxm)));have harr:args.map a.eval=((Value.int k m)::ns.map (Value.int k ·)).toArray:=by apply Array.ext';rw[Array.toList_map,hall];rfl
     simp only[execOp,ho,resolve,invoke,builtin,harr];simp[invoke,builtin,a8R]
    ·exact h.elim
   ·exact h.elim
  ·rename_i x;unfold c0I at h
   split at h
   ·rename_i f caps hx;exact W5 (a3t ho hx) h
   ·rename_i f bs hx;exact W5 (a5V ho hx) h
   ·exact h.elim
  ·rename_i x name;unfold a9P at h
   split at h
   ·rename_i t y hx
    split at h
    ·rename_i f hm;exact W5 (a5p ho hx hm) h
    ·rename_i f e hm;obtain⟨he,h⟩:=h
     split at h
     ·rename_i z rd0 hr;exact W5 (a5t ho hx hm he hr) h
     ·exact h.elim
    ·exact h.elim
   ·exact h.elim
 ·exact h.elim
end
end Go.AM
end
