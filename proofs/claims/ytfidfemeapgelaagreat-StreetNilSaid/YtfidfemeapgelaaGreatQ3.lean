import Derived.Test.YtfidfemeapgelaaGreatQ2
import Derived.Below
import Derived.OrdersIn
import Derived.RangeFuncLeaves
import Derived.RangeFuncNested
import Derived.RangeFuncSeq
import Derived.Recover
import Derived.RecoverIn
import Derived.Test.YtfidfemeapgelaaGreatProg
set_option maxRecDepth 100000
set_option maxHeartbeats 8000000
set_option linter.unusedVariables false
set_option linter.unusedSimpArgs false
section
namespace Go.AM
abbrev Tm:=List (Nat×AV)
def look:Tm→Nat→AV
 |[],_=> .any
 |(i,x)::r,t=>if t=i then x else look r t
def putT (T:Tm) (d:Option Tmp) (x:AV):Tm:=
 match d with
 |some d=>(d,x)::T
 |none=>T
theorem look_putT (T:Tm) (d:Option Tmp) (x:AV) (t:Nat):look (putT T d x) t=if d=some t then x else look T t:=by
 cases d with
 |none=>simp[putT]
 |some d=>
  simp only[putT,look,Option.some.injEq]
  by_cases h:t=d
  ·subst h;simp
  ·rw[if_neg h,if_neg (fun e=>h e.symm)]
def hset:Hp→Nat→Option ARow→Hp
 |[],_,o=>[o]
 |_::xs,0,o=>o::xs
 |x::xs,n+1,o=>x::hset xs n o
def happ (H:Hp):List (Nat×Option ARow)→Hp
 |[]=>H
 |(r,o)::ups=>happ (hset H r o) ups
theorem hget_hset:∀(H:Hp) (r:Nat) (o:Option ARow) (k:Nat),r≤H.length→hget (hset H r o) k=if k=r then o else hget H k
 |[],r,o,k,h=>by
  have:r=0:=by simpa using h
  subst this
  cases k with
  |zero=>rfl
  |succ k=>simp[hset,hget]
 |x::xs,0,o,k,h=>by cases k<;>simp[hset,hget]
 |x::xs,n+1,o,k,h=>by
  cases k with
  |zero=>simp[hset,hget]
  |succ k=>simp only[hset,hget,Nat.add_right_cancel_iff];exact hget_hset xs n o k (by simpa using h)
theorem length_hset:∀(H:Hp) (r:Nat) (o:Option ARow),r≤H.length→(hset H r o).length=max H.length (r+1)
 |[],r,o,h=>by
  have:r=0:=by simpa using h
  subst this;rfl
 |x::xs,0,o,h=>by simp[hset]
 |x::xs,n+1,o,h=>by simp only[hset,List.length_cons,length_hset xs n o (by simpa using h)];omega
def upsIn (H:Hp):List (Nat×Option ARow)→Prop
 |[]=>True
 |(r,o)::ups=>r≤H.length∧upsIn (hset H r o) ups
def upsOnce:List (Nat×Option ARow)→Bool
 |[]=>true
 |(r,_)::ups=>(ups.all fun q=>q.1 !=r)&&upsOnce ups
theorem hget_happ:∀(ups:List (Nat×Option ARow)) (H:Hp),upsIn H ups→upsOnce ups=true→∀k,(∀o,(k,o)∈ups→hget (happ H ups) k=o)∧((∀o,(k,o)∉ups)→hget (happ H ups) k=hget H k)
 |[],H,_,_,k=>⟨fun o h=>(by cases h),fun _=>rfl⟩
 | (r,o)::ups,H,hi,ho,k=>by
  simp only[upsOnce,Bool.and_eq_true,List.all_eq_true,bne_iff_ne,ne_eq]at ho;obtain⟨h1,h2⟩:=hget_happ ups (hset H r o) hi.2 ho.2 k;constructor
  ·intro o' hm;simp only[List.mem_cons,Prod.mk.injEq]at hm
   rcases hm with⟨rfl,rfl⟩|hm
   ·have:∀q,(k,q)∉ups:=fun q hq=>ho.1 (k,q) hq rfl;simp only[happ];rw[h2 this,hget_hset H k o' k hi.1,if_pos rfl]
   ·exact h1 o' hm
  ·intro hn;simp only[List.mem_cons,Prod.mk.injEq,not_or,not_and]at hn;simp only[happ];rw[h2 (fun q hq=>(hn q).2 hq),hget_hset H r o k hi.1,if_neg (fun e=>(hn o).1 e rfl)]
theorem length_happ:∀(ups:List (Nat×Option ARow)) (H:Hp),upsIn H ups→H.length≤(happ H ups).length∧∀r o,(r,o)∈ups→r<(happ H ups).length
 |[],H,_=>⟨Nat.le_refl _,fun r o h=>(by cases h)⟩
 |(r,o)::ups,H,hi=>by
  obtain⟨h1,h2⟩:=length_happ ups (hset H r o) hi.2;rw[length_hset H r o hi.1]at h1;refine⟨by simp only[happ];omega,fun r' o' hm=>?_⟩;simp only[List.mem_cons,Prod.mk.injEq]at hm
  rcases hm with⟨rfl,rfl⟩|hm
  ·simp only[happ];omega
  ·exact h2 r' o' hm
def constAV:Value→AV
 | .agg cs=>if cs.toList.all Value.oneCell'=true then .agg (cs.toList.map .v)else .v (.agg cs)
 |x=> .v x
theorem constAV_rep {w:World} {S:Nat→Prop} (x:Value):RepP w S (constAV x) x:=by
 cases x with
 | agg cs=>
  simp only[constAV]
  split
  ·rename_i h;have e:cs=cs.toList.toArray:=by simp
   rw[e];refine .agg _ _ (by simp) (fun u hu=>?_) (fun i c u h1 h2=>?_)
   ·exact List.all_eq_true.1 h u hu
   ·simp only[List.getElem?_map,Option.map_eq_some_iff]at h1;obtain⟨q,h1,rfl⟩:=h1;have h2':cs.toList[i]?=some u:=by simpa using h2
    have h1':cs.toList[i]?=some q:=by simpa using h1
    rw[h1']at h2';simp only[Option.some.injEq]at h2';subst h2';exact .v q
  ·exact .v _
 |_=>exact .v _
def evT (T:Nat→AV):Operand→AV
 | .tmp t=>T t
 | .const x=>constAV x
 | .global g=> .v (.pointer (some ⟨g,0,none⟩))
 | .func f=> .clo f []
def AV.strip:AV→AV
 | .may _ x=>x
 |x=>x
def impl (m l:List Bool):Prop:=m.all id=true→l.all id=true
def okm (m:List Bool):AV→Prop
 | .may l _=>impl m l
 |_=>True
def okAll (m:List Bool):List AV→Prop
 |[]=>True
 |x::xs=>okm m x∧okAll m xs
theorem strip_rep {w:World} {S:Nat→Prop} {ρ:Nat→Option Loc} {L:Nat→Prop} {m:List Bool} {x:AV} {y:Value} (hm:m.all id=true) (ho:okm m x) (h:RepV w S ρ L x y):RepV w S ρ L x.strip y:=by
 cases x with
 | may l x=>
  have hl:=ho hm
  cases h with
  |pure _ _ h=>cases h with
   |mayT _ _ _ _ h=>exact .pure _ _ h
   |mayF _ _ hf=>rw[hl]at hf;cases hf
  |mayT _ _ _ _ h=>exact h
  |mayF _ _ hf=>rw[hl]at hf;cases hf
 |_=>exact h
theorem okAll_mem {m:List Bool} {x:AV}:∀{l:List AV},okAll m l→x∈l→okm m x
 |y::l,h,hx=>by
  rcases List.mem_cons.1 hx with rfl|hx
  ·exact h.1
  ·exact okAll_mem h.2 hx
def mayw:List Bool→AV→AV
 |[],x=>x
 |l,x=> .may l x
theorem mayw_rep {w:World} {S:Nat→Prop} {ρ:Nat→Option Loc} {L:Nat→Prop} {m:List Bool} {x:AV} {y:Value} (hm:m.all id=true) (h:RepV w S ρ L x y):RepV w S ρ L (mayw m x) y:=by
 cases m with
 |nil=>exact h
 |cons b m=>exact .mayT _ _ _ hm h
theorem mayw_undef {w:World} {S:Nat→Prop} {ρ:Nat→Option Loc} {L:Nat→Prop} {m:List Bool} {x:AV} (hm:m.all id=false):RepV w S ρ L (mayw m x) undef:=by
 cases m with
 |nil=>simp at hm
 |cons b m=>exact .mayF _ _ hm
def gval:AV→Option (List Bool×Bool)
 | .v (.bool b)=>some ([],b)
 | .may l (.v (.bool b))=>some (l,b)
 |_=>none
def glit (b want:Bool):Bool:=if want then b else !b
def dstAt (dsts:List (Option Tmp)) (j:Nat):Nat:=match dsts[j]? with|some (some d)=>d|_=>0
def aPick (m:List Bool) (c x y:AV) (K:AV→Prop):Prop:=
 okm m c∧match c.strip,x.strip,y.strip with
 | .v (.bool t), .v (.bool p), .v (.bool q)=>okm (m++[t]) x∧okm (m++[!t]) y∧K (.v (.bool (cond t p q)))
 |_,_,_=>False
def upsM (m:List Bool) (ups:List (Nat×Option ARow)):Prop:=m.all id=true∨ups=[]
def dstOk (nt:Nat):Option Tmp→Prop
 |none=>True
 |some d=>d<nt
def vcStep (P:Program) (m:List Bool) (op:Op) (T:Nat→AV) (H:Nat→Option ARow) (N:Nat) (K:Eff→Prop):Prop:=
 match op with
 | .pick c x y=>aPick m (evT T c) (evT T x) (evT T y) (ct (fun r=>K ⟨mayw m r,[],[]⟩) ⟨⟩)
 |op=>okAll m (op.operands.toList.map (evT T))∧aop P m op (fun x=>(evT T x).strip) H N (ct (fun e=>upsM m e.ups∧K ⟨mayw m e.av,e.ups,e.reads⟩) ⟨⟩)
def StepOk (P:Program) (ops:Array Oper) (o:Oper) (T:Nat→AV) (H:Nat→Option ARow) (N:Nat) (e:Eff):Prop:=
 ∀ (B S0:Nat→Prop) (a:Act) (w:World) (ρ:Nat→Option Loc) (L:Nat→Prop),WF B S0 w ρ L→NewOk L N e→
  (∀t∈o.looksAt ops,RepV w (Sx S0 ρ) ρ L (T t) (a.tmps.getD t undef))→
  (∀r∈e.reads,∀row,H r=some row→∃l,ρ r=some l∧RowRep w (Sx S0 ρ) ρ L l row)→
  ∀(K:Act→World→Prop) (Q:Exit→Act→World→Prop),(∀v w' ρ',Post B S0 w ρ L N e w' ρ' v→K (a.put o.dst v) w')→
   if Region.wanted o (yielded ops a.tmps)then o.wp P a w K Q else K (a.put o.dst undef) w
section
variable {P:Program} {ops:Array Oper} {o:Oper} {T:Nat→AV} {H:Nat→Option ARow} {N:Nat}
theorem eval_rep {w:World} {S:Nat→Prop} {ρ:Nat→Option Loc} {L:Nat→Prop} {a:Act} (h:∀t∈o.looksAt ops,RepV w S ρ L (T t) (a.tmps.getD t undef)):
  ∀x∈o.op.operands,RepV w S ρ L (evT T x) (a.eval x):=by
 intro x hx
 cases x with
 |tmp t=>
  refine h t ?_;simp only[Oper.looksAt,List.mem_append,List.mem_filterMap];exact Or.inl ⟨.tmp t,by simpa using hx,rfl⟩
 |const v=>exact .pure _ _ (constAV_rep v)
 |global g=>exact .pure _ _ (.v _)
 |func f=>exact .pure _ _ (.clo f [] [] rfl (by simp))
theorem post_skip {B S0:Nat→Prop} {w:World} {ρ:Nat→Option Loc} {L:Nat→Prop} (hw:WF B S0 w ρ L) {av:AV} {v:Value} {rd:List Nat} (h:RepV w (Sx S0 ρ) ρ L av v):Post B S0 w ρ L N ⟨av,[],rd⟩ w ρ v:=
 {wf:=hw.more fun r=>Or.inl,rep:=h.ext (Nat.le_refl _) (fun b _ hn=>⟨rfl,hn⟩) (fun r=>Or.inl) (fun r l _ hl=>hl),ups:=(by intro r o hm;cases hm),others:=fun r _=>rfl,only:=fun r l hl=>Or.inl hl,ext:=Ext.refl _ _}
theorem Post.remay {B S0:Nat→Prop} {w:World} {ρ:Nat→Option Loc} {L:Nat→Prop} {e:Eff} {w':World} {ρ':Nat→Option Loc} {v:Value} (h:Post B S0 w ρ L N e w' ρ' v) {m:List Bool} (hm:m.all id=true):
  Post B S0 w ρ L N ⟨mayw m e.av,e.ups,e.reads⟩ w' ρ' v:=
 {wf:=h.wf,rep:=mayw_rep hm h.rep,ups:=h.ups,others:=h.others,only:=h.only,ext:=h.ext}
theorem vcStep_sound {m:List Bool} {K:Eff→Prop}
  (hg:∀(w:World) (S:Nat→Prop) (ρ:Nat→Option Loc) (L:Nat→Prop) (a:Act),(∀t∈o.looksAt ops,RepV w S ρ L (T t) (a.tmps.getD t undef))→(Region.wanted o (yielded ops a.tmps)=true↔m.all id=true))
  (h:vcStep P m o.op T H N K):∃e,StepOk P ops o T H N e∧K e:=by
 by_cases hp:∃c x y,o.op= .pick c x y
 ·obtain⟨c,x,y,ho⟩:=hp;rw[ho]at h;obtain⟨hc,h⟩:=h
  split at h
  ·rename_i t p q e1 e2 e3;obtain⟨hx,hy,h⟩:=h;refine⟨_,fun B S0 a w ρ L hw hN hl hrd K' Q hK=>?_,h⟩;have hops:=eval_rep (o:=o) hl
   split
   ·rename_i hwant;have hm:=(hg w _ ρ L a hl).1 hwant;have hcv:a.eval c= .bool t:=by
     have:=strip_rep hm hc (hops c (by simp[ho,Op.operands]));rw[e1]at this;exact exact_v this
    have hrun:(execOp a.eval o).run P w= .ok (.value (if t then a.eval x else a.eval y)) w:=by
     simp only[execOp,ho,hcv];cases t<;>rfl
    unfold Oper.wp;rw[hrun];refine hK _ _ ρ (post_skip hw (mayw_rep hm ?_))
    cases t with
    |true=>
     have:=strip_rep (m:=m++[true]) (by simp[hm]) hx (hops x (by simp[ho,Op.operands]));rw[e2]at this;exact this
    |false=>
     have:=strip_rep (m:=m++[!false]) (by simp[hm]) hy (hops y (by simp[ho,Op.operands]));rw[e3]at this;exact this
   ·rename_i hwant;have hm:m.all id=false:=by
     cases hmm:m.all id with
     |false=>rfl
     |true=>exact absurd ((hg w _ ρ L a hl).2 hmm) hwant
    exact hK _ _ ρ (post_skip hw (mayw_undef hm))
  ·exact h.elim
 ·have h':okAll m (o.op.operands.toList.map (evT T))∧aop P m o.op (fun x=>(evT T x).strip) H N (ct (fun e=>upsM m e.ups∧K ⟨mayw m e.av,e.ups,e.reads⟩) ⟨⟩):=by
   unfold vcStep at h
   split at h
   ·rename_i c x y ho;exact absurd ⟨c,x,y,ho⟩ hp
   ·exact h
  obtain⟨hok,h'⟩:=h';obtain⟨e,he,hu,hk⟩:=aop_sound h';refine⟨_,fun B S0 a w ρ L hw hN hl hrd K' Q hK=>?_,hk⟩;have hops:=eval_rep (o:=o) hl
  split
  ·rename_i hwant;have hm:=(hg w _ ρ L a hl).1 hwant;exact he hm B S0 a w ρ L hw hN (fun x hx=>strip_rep hm (okAll_mem hok (List.mem_map_of_mem (by simpa using hx))) (hops x hx)) hrd K' Q (fun v w' ρ' hp=>hK v w' ρ' (hp.remay hm))
  ·rename_i hwant;have hm:m.all id=false:=by
    cases hmm:m.all id with
    |false=>rfl
    |true=>exact absurd ((hg w _ ρ L a hl).2 hmm) hwant
   have hups:e.ups=[]:=hu.resolve_left (by rw[hm];simp);have:=post_skip (N:=N) (rd:=e.reads) hw (mayw_undef (x:=e.av) hm) (v:=undef);rw[hups]at hK;exact hK _ _ ρ this
def vcGuard (P:Program) (dsts:List (Option Tmp)) (o:Oper) (T:Nat→AV) (H:Nat→Option ARow) (N:Nat) (K:Eff→Prop):Prop:=
 match o.guard with
 |none=>vcStep P [] o.op T H N K
 | some (j,want)=>match dsts[j]? with
  |some (some d)=>match gval (T d)with
   |some (l,b)=>vcStep P (l++[glit b want]) o.op T H N K
   |none=>False
  |_=>False
theorem vcGuard_sound {dsts:List (Option Tmp)} (hd:∀j:Nat,dsts[j]?=(ops[j]?).map (·.dst)) {K:Eff→Prop} (h:vcGuard P dsts o T H N K) (hsz:∀(a:Act),True):∃e,StepOk P ops o T H N e∧K e:=by
  unfold vcGuard at h
  split at h
  · rename_i hg
    exact vcStep_sound (fun w S ρ L a _=>by simp[Region.wanted,hg]) h
  · rename_i j want hg
    split at h
    · rename_i d hdj
      split at h
      · rename_i l b hgv
        refine vcStep_sound (fun w S ρ L a hl=>?_) h
        have hdo:(ops[j]?).bind (·.dst)=some d:=by
          have:=hd j
          rw[hdj]at this
          cases ho:ops[j]? with
          |none=>rw[ho]at this;cases this
          |some oj=>rw[ho]at this;simp only[Option.map_some,Option.some.injEq]at this;simp[this]
        have hrep:=hl d (by
          simp only[Oper.looksAt,List.mem_append]
          right
          rw[hg]
          simp[hdo])
        have hcell : ∀v,a.tmps.getD d undef=v→(∀bb,v= .bool bb→yielded ops a.tmps j=some bb)∧(v=undef→yielded ops a.tmps j=none):=by
          intro v hv
          unfold yielded
          rw[hdo]
          simp only[Option.bind_some]
          cases ht:a.tmps[d]? with
          |none=>simp[Array.getD_eq_getD_getElem?,ht]at hv;subst hv;simp[undef]
          | some u => simp[Array.getD_eq_getD_getElem?,ht]at hv;subst hv;constructor
                      · rintro bb rfl;rfl
                      · rintro rfl;rfl
        simp only[Region.wanted,hg]
        generalize hT:T d=td at hrep hgv
        unfold gval at hgv
        split at hgv
        · simp only[Option.some.injEq,Prod.mk.injEq]at hgv
          obtain⟨rfl,rfl⟩:=hgv
          have:=(hcell _ rfl).1 _ (exact_v hrep)
          rw[this]
          rename_i b'
          cases b'<;>cases want<;>simp[glit]
        · simp only[Option.some.injEq,Prod.mk.injEq]at hgv
          obtain⟨rfl,rfl⟩:=hgv
          rename_i l' b'
          have hcase:(l'.all id=true∧RepV w S ρ L (.v (.bool b')) (a.tmps.getD d undef))∨(l'.all id=false∧a.tmps.getD d undef=undef):=by
            generalize a.tmps.getD d undef=u at hrep
            cases hrep with
            | pure _ _ h=>cases h with
              |mayT _ _ _ ht h=>exact Or.inl ⟨ht, .pure _ _ h⟩
              |mayF _ _ hf=>exact Or.inr ⟨hf,rfl⟩
            |mayT _ _ _ ht h=>exact Or.inl ⟨ht,h⟩
            |mayF _ _ hf=>exact Or.inr ⟨hf,rfl⟩
          rcases hcase with⟨hl',hr⟩|⟨hl',hu⟩
          · have:=(hcell _ rfl).1 _ (exact_v hr)
            rw[this,List.all_append,hl']
            cases b'<;>cases want<;>simp[glit]
          · have:=(hcell _ rfl).2 hu
            rw[this,List.all_append,hl']
            simp
        · cases hgv
      · exact h.elim
    · exact h.elim
structure Core (B S0:Nat→Prop) (nt:Nat) (w:World) (ρ:Nat→Option Loc) (L:Nat→Prop) (T:Nat→AV) (H:Nat→Option ARow) (a:Act):Prop where
 wf:WF B S0 w ρ L
 size:a.tmps.size=nt
 defers:a.defers=[]
 tmps:∀t,RepV w (Sx S0 ρ) ρ L (T t) (a.tmps.getD t undef)
 rows:∀r row,H r=some row→∃l,ρ r=some l∧RowRep w (Sx S0 ρ) ρ L l row
 dead:∀r,H r=none→ρ r=none
theorem getD_put (a:Act) (d:Option Tmp) (v:Value) (t:Nat):(∀k,d=some k→k<a.tmps.size)→(a.put d v).tmps.getD t undef=if d=some t then v else a.tmps.getD t undef:=by
 intro h
 cases d with
 |none=>simp[Act.put]
 |some d=>
  simp only[Act.put,Array.getD_eq_getD_getElem?,Option.some.injEq]
  by_cases e:d=t
  ·subst e;rw[if_pos rfl,Array.getElem?_setIfInBounds_self_of_lt (h d rfl)];rfl
  ·rw[if_neg e,Array.getElem?_setIfInBounds_ne e]
theorem Core.step {B S0:Nat→Prop} {nt:Nat} {w:World} {ρ:Nat→Option Loc} {L:Nat→Prop} {T T':Nat→AV} {H H':Nat→Option ARow} {a:Act} (hc:Core B S0 nt w ρ L T H a) {e:Eff} {w':World} {ρ':Nat→Option Loc} {v:Value} {dst:Option Tmp}
  (hN:NewOk L N e) (hp:Post B S0 w ρ L N e w' ρ' v) (hd:∀k,dst=some k→k<nt)
  (hT:∀t,T' t=if dst=some t then e.av else T t) (hH:∀k,(∀o,(k,o)∈e.ups→H' k=o)∧((∀o,(k,o)∉e.ups)→H' k=H k)):
  Core B S0 nt w' ρ' (nL L e) T' H' (a.put dst v):=by
 refine⟨hp.wf,?_,?_,fun t=>?_,fun r row hr=>?_,fun r hr=>?_⟩
 ·cases dst with
  |none=>exact hc.size
  |some d=>simp[Act.put,hc.size]
 ·cases dst with
  |none=>exact hc.defers
  |some d=>exact hc.defers
 ·rw[getD_put a dst v t (by rw[hc.size];exact hd),hT]
  split
  ·exact hp.rep
  ·exact hp.keepsV hN (hc.tmps t)
 ·by_cases hm:∃o,(r,o)∈e.ups
  ·obtain⟨o,hm⟩:=hm;have:=(hH r).1 o hm;rw[hr]at this;subst this;exact hp.ups r _ hm
  ·have hm':∀o,(r,o)∉e.ups:=fun o h=>hm ⟨o,h⟩;have:=(hH r).2 hm';rw[this]at hr;obtain⟨l,hl,hrow⟩:=hc.rows r row hr;exact⟨l,by rw[hp.others r hm'];exact hl,hp.keepsRow hc.wf hN hm' hl hrow⟩
 ·by_cases hm:∃o,(r,o)∈e.ups
  ·obtain⟨o,hm⟩:=hm;have:=(hH r).1 o hm;rw[hr]at this;subst this;exact hp.ups r _ hm
  ·have hm':∀o,(r,o)∉e.ups:=fun o h=>hm ⟨o,h⟩;have:=(hH r).2 hm';rw[this]at hr;rw[hp.others r hm'];exact hc.dead r hr
def vcOps (P:Program) (nt:Nat) (dsts:List (Option Tmp)):List Oper→Tm→Hp→(Tm→Hp→Prop)→Prop
 |[],T,H,K=>K T H
 | o::rest,T,H,K=>vcGuard P dsts o (look T) (hget H) H.length (ct (fun e=>
   dstOk nt o.dst∧upsIn H e.ups∧upsOnce e.ups=true∧vcOps P nt dsts rest (putT T o.dst e.av) (happ H e.ups) K) ⟨⟩)
structure St (w0:World) (B S0:Nat→Prop) (nt:Nat) (T:Tm) (H:Hp) (a:Act) (w:World):Prop where
 ex:∃ρ L,Core B S0 nt w ρ L (look T) (hget H) a∧∀r,L r→r<H.length
 ext:Ext B w0 w
theorem ext_step {w0 w w':World} {B S0:Nat→Prop} {ρ:Nat→Option Loc} {L:Nat→Prop} {e:Eff} {ρ':Nat→Option Loc} {v:Value} (h:Ext B w0 w) (hw:WF B S0 w ρ L) (hp:Post B S0 w ρ L N e w' ρ' v):Ext B w0 w':=
 h.trans (hp.ext.mono (by rintro b hb ⟨r,l,o,_,h1,h2⟩;exact(hw.own r l b h1 h2).2.2))
theorem St.step {w0:World} {B S0:Nat→Prop} {nt:Nat} {T:Tm} {H:Hp} {a:Act} {w:World} (hs:St w0 B S0 nt T H a w) {e:Eff} (hst:StepOk P ops o (look T) (hget H) H.length e)
  (hd:∀d,o.dst=some d→d<nt) (hin:upsIn H e.ups) (ho:upsOnce e.ups=true) {K:Act→World→Prop} {Q:Exit→Act→World→Prop}
  (hK:∀a' w',St w0 B S0 nt (putT T o.dst e.av) (happ H e.ups) a' w'→K a' w'):if Region.wanted o (yielded ops a.tmps)then o.wp P a w K Q else K (a.put o.dst undef) w:=by
 obtain⟨⟨ρ,L,hc,hL⟩,hext⟩:=hs;have hN:NewOk L H.length e:=fun r hr _ h=>Nat.lt_irrefl _ (Nat.lt_of_le_of_lt hr (hL r h));refine hst B S0 a w ρ L hc.wf hN (fun t _=>hc.tmps t) (fun r _ row hr=>hc.rows r row hr) K Q (fun v w' ρ' hp=>hK _ _ ⟨⟨ρ',_,hc.step hN hp hd (fun t=>look_putT T o.dst e.av t) (fun k=>hget_happ e.ups H hin ho k),?_⟩,ext_step hext hc.wf hp⟩);obtain⟨h1,h2⟩:=length_happ e.ups H hin;rintro r (hr|⟨o',hr⟩)
 ·exact Nat.lt_of_lt_of_le (hL r hr) h1
 ·exact h2 r o' hr
theorem vcOps_sound {w0:World} {B S0:Nat→Prop} {nt:Nat} {dsts:List (Option Tmp)} (hd:∀j:Nat,dsts[j]?=(ops[j]?).map (·.dst)) {Q:Exit→Act→World→Prop} {K:Tm→Hp→Prop}
  (hK:∀T H a w,K T H→St w0 B S0 nt T H a w→Q .normal a w):∀(l:List Oper) (T:Tm) (H:Hp) (a:Act) (w:World),vcOps P nt dsts l T H K→St w0 B S0 nt T H a w→wpList P ops Q l a w
 |[],T,H,a,w,h,hs=>hK T H a w h hs
 |o::rest,T,H,a,w,h,hs=>by
  obtain⟨e,hst,h1,h2,h3,h4⟩:=vcGuard_sound hd h (fun _=>trivial);have:=hs.step (K:=wpList P ops Q rest) (Q:=Q) hst (fun d hd=>by rw[hd]at h1;exact h1) h2 h3 (fun a' w' hs'=>vcOps_sound hd hK rest _ _ a' w' h4 hs');unfold wpList
  split
  ·rename_i hw;rw[if_pos hw]at this;exact Or.inl this
  ·rename_i hw;rw[if_neg hw]at this;exact this
end
end Go.AM
namespace Go.AM
def AWp (P:Program) (nt:Nat) (c:Code) (T:Tm) (H:Hp) (Q:Exit→Tm→Hp→Prop):Prop:=
 ∀w0 B S0 a w,St w0 B S0 nt T H a w→c.wp P (fun e a' w'=>∃T' H',Q e T' H'∧St w0 B S0 nt T' H' a' w') a w
def thenA (next:Tm→Hp→Prop) (Q:Exit→Tm→Hp→Prop):Exit→Tm→Hp→Prop
 | .normal=>next
 |e=>Q e
def inBlockA (id:Nat) (Q:Exit→Tm→Hp→Prop):Exit→Tm→Hp→Prop
 | .exit k=>if k=id then Q .normal else Q (.exit k)
 |e=>Q e
def Sub (nt:Nat) (T:Tm) (H:Hp) (T':Tm) (H':Hp):Prop:=∀w0 B S0 a w,St w0 B S0 nt T H a w→St w0 B S0 nt T' H' a w
theorem Sub.refl (nt:Nat) (T:Tm) (H:Hp):Sub nt T H T H:=fun _ _ _ _ _ h=>h
theorem Sub.trans {nt:Nat} {T T' T'':Tm} {H H' H'':Hp} (h:Sub nt T H T' H') (k:Sub nt T' H' T'' H''):Sub nt T H T'' H'':=fun w0 B S0 a w s=>k w0 B S0 a w (h w0 B S0 a w s)
section
variable {P:Program} {nt:Nat} {T:Tm} {H:Hp} {Q:Exit→Tm→Hp→Prop}
theorem awp_weak {c:Code} {T':Tm} {H':Hp} (hs:Sub nt T H T' H') (h:AWp P nt c T' H' Q):AWp P nt c T H Q:=
 fun w0 B S0 a w s=>h w0 B S0 a w (hs w0 B S0 a w s)
theorem awp_skip (h:Q .normal T H):AWp P nt .skip T H Q:=fun w0 B S0 a w hs=>wp_skip ⟨T,H,h,hs⟩
theorem awp_ret (h:Q .ret T H):AWp P nt .ret T H Q:=fun w0 B S0 a w hs=>wp_ret ⟨T,H,h,hs⟩
theorem awp_exit {id:Nat} (h:Q (.exit id) T H):AWp P nt (.exit id) T H Q:=fun w0 B S0 a w hs=>wp_exit ⟨T,H,h,hs⟩
theorem awp_seq {x y:Code} (h:AWp P nt x T H (thenA (fun T' H'=>AWp P nt y T' H' Q) Q)):AWp P nt (.seq x y) T H Q:=by
 intro w0 B S0 a w hs;refine wp_seq (wp_mono (h w0 B S0 a w hs) ?_);rintro e a' w' ⟨T',H',q,s⟩
 cases e with
 |normal=>exact q w0 B S0 a' w' s
 |exit id=>exact⟨T',H',q,s⟩
 |goto l=>exact⟨T',H',q,s⟩
 |ret=>exact⟨T',H',q,s⟩
 |panic c=>exact⟨T',H',q,s⟩
 |outgrown=>exact⟨T',H',q,s⟩
theorem awp_seq_k {x y:Code} (h:∀K:Tm→Hp→Prop,(∀T' H',AWp P nt y T' H' Q→K T' H')→AWp P nt x T H (thenA K Q)):AWp P nt (.seq x y) T H Q:=
 awp_seq (h _ fun _ _ h=>h)
theorem awp_block {id:Nat} {c:Code} (h:AWp P nt c T H (inBlockA id Q)):AWp P nt (.block id c) T H Q:=by
 intro w0 B S0 a w hs;refine wp_block (wp_mono (h w0 B S0 a w hs) ?_);rintro e a' w' ⟨T',H',q,s⟩
 cases e with
 |exit k=>
  simp only[inBlockA]at q;simp only[Exit.inBlock]
  split
  ·rename_i e;rw[if_pos e]at q;exact⟨T',H',q,s⟩
  ·rename_i e;rw[if_neg e]at q;exact⟨T',H',q,s⟩
 |normal=>exact⟨T',H',q,s⟩
 |goto l=>exact⟨T',H',q,s⟩
 |ret=>exact⟨T',H',q,s⟩
 |panic c=>exact⟨T',H',q,s⟩
 |outgrown=>exact⟨T',H',q,s⟩
theorem awp_cond {c:Operand} {x y:Code} {b:Bool} (hc:evT (look T) c= .v (.bool b)) (hx:b=true→AWp P nt x T H Q) (hy:b=false→AWp P nt y T H Q):AWp P nt (.cond c x y) T H Q:=by
 intro w0 B S0 a w hs;have hv:a.eval c= .bool b:=by
  obtain⟨⟨ρ,L,hc',_⟩,_⟩:=hs
  cases c with
  |tmp t=>
   have:=hc'.tmps t;simp only[evT]at hc;rw[hc]at this;exact exact_v this
  |const v=>
   simp only[evT]at hc;have:=constAV_rep (w:=w) (S:=fun _=>False) v;rw[hc]at this
   cases this
   rfl
  |global g=>simp only[evT]at hc;cases hc
  |func f=>simp only[evT]at hc;cases hc
 exact wp_cond_split hv (fun h=>hx h w0 B S0 a w hs) (fun h=>hy h w0 B S0 a w hs)
theorem awp_region {id:Nat} {l:List Oper} {dsts:List (Option Tmp)} (hd:l.map (·.dst)=dsts) (h:vcOps P nt dsts l T H (Q .normal)):AWp P nt (.region id l.toArray false) T H Q:=by
 intro w0 B S0 a w hs;refine wp_region_lit ?_;refine vcOps_sound (ops:=l.toArray) (dsts:=dsts) (nt:=nt) (w0:=w0) (B:=B) (S0:=S0) ?_ (K:=Q .normal) (fun T H a w q s=>⟨T,H,q,s⟩) l T H a w h hs;intro j;rw[←hd];simp
theorem awp_loop {c:Code} {α:Type} (st:α→Tm×Hp) (inv:α→Prop) (μ:α→Nat) (x0:α) (h0:inv x0) (hs0:Sub nt T H (st x0).1 (st x0).2)
  (round:∀x,inv x→AWp P nt c (st x).1 (st x).2 (thenA (fun T' H'=>∃y,inv y∧μ y<μ x∧Sub nt T' H' (st y).1 (st y).2) Q)):AWp P nt (.loop c) T H Q:=by
 intro w0 B S0 a w hs b k cs;have key:∀n x a w,μ x=n→inv x→St w0 B S0 nt (st x).1 (st x).2 a w→
   ∃e a' w',(∃T' H',Q e T' H'∧St w0 B S0 nt T' H' a' w')∧Arrives P (lone (b.at a (.code c:: .inLoop c::k)) cs w) b k cs e a' w':=by
  intro n
  induction n using Nat.strongRecOn with
  | _ n ih=>
   intro x a w hn hI hst;obtain⟨e,a₁,w₁,⟨T1,H1,hq,hst1⟩,harr⟩:=round x hI w0 B S0 a w hst b (.inLoop c::k) cs
   cases e with
   |normal=>
    obtain⟨y,hy,hlt,hsub⟩:=hq;obtain⟨e₂,a₂,w₂,hq₂,harr₂⟩:=ih (μ y) (hn▸hlt) y a₁ w₁ rfl hy (hsub w0 B S0 a₁ w₁ hst1);exact⟨e₂,a₂,w₂,hq₂, .of_steps (Steps.trans harr (.one step_inLoop)) harr₂⟩
   |exit id=>exact⟨_,a₁,w₁,⟨T1,H1,hq,hst1⟩, .pass (x:= .inLoop c) rfl (fun _ _=> .inl (by simp)) harr⟩
   |goto l=>exact⟨_,a₁,w₁,⟨T1,H1,hq,hst1⟩, .pass (x:= .inLoop c) rfl (fun _ _=> .inl (by simp)) harr⟩
   |ret=>exact⟨_,a₁,w₁,⟨T1,H1,hq,hst1⟩, .pass (x:= .inLoop c) rfl (fun _ _=> .inl (by simp)) harr⟩
   |panic ch=>exact⟨_,a₁,w₁,⟨T1,H1,hq,hst1⟩, .pass (x:= .inLoop c) rfl (fun _ _=> .inl (by simp)) harr⟩
   |outgrown=>exact⟨_,a₁,w₁,⟨T1,H1,hq,hst1⟩, .pass (x:= .inLoop c) rfl (fun _ _=> .inl (by simp)) harr⟩
 obtain⟨e,a',w',hq,harr⟩:=key _ x0 a w rfl h0 (hs0 w0 B S0 a w hs);exact⟨e,a',w',hq, .of_steps (.one step_loop) harr⟩
end
def renH (H:Hp) (g:List (Option Nat)):Hp:=g.map fun q=>match q with|some r=>(hget H r).map (renRow g)|none=>none
def subT (g:List (Option Nat)) (T:Tm):Tm→Prop
 |[]=>True
 |(i,x)::r=>(x= .any∨renAV g 40 (look T i)=x)∧subT g T r
theorem sub_ren {nt:Nat} {T T':Tm} {H H':Hp} (g:List (Option Nat)) (hn:∀(i j q:Nat),g[i]?=some (some q)→g[j]?=some (some q)→i=j) (hT:subT g T T') (hH:renH H g=H'):Sub nt T H T' H':=by
 rintro w0 B S0 a w ⟨⟨ρ,L,hc,hL⟩,hext⟩;subst hH;have hS:∀b,Sx S0 (renρ ρ g) b→Sx S0 ρ b:=by
  rintro b (h|⟨r,l,h1,h2⟩)
  ·exact Or.inl h
  ·obtain⟨q,_,h3⟩:=renρ_spec h1;exact Or.inr ⟨q,l,h3,h2⟩
 refine⟨⟨renρ ρ g,fun r=>r<g.length,⟨⟨?_,?_,?_,hc.wf.low,hc.wf.new⟩,hc.size,hc.defers,?_,?_,?_⟩,?_⟩,hext⟩
 ·intro r r' l l' b h1 h2 k1 k2;obtain⟨q,g1,p1⟩:=renρ_spec h1;obtain⟨q',g2,p2⟩:=renρ_spec h2;have:=hc.wf.inj q q' l l' b p1 p2 k1 k2;subst this;exact hn _ _ _ g1 g2
 ·intro r l b h1 k1;obtain⟨q,g1,p1⟩:=renρ_spec h1;exact hc.wf.own q l b p1 k1
 ·intro r l h1;obtain⟨q,g1,p1⟩:=renρ_spec h1;exact(List.getElem?_eq_some_iff.1 g1).1
 ·intro t;have gen:∀(T':Tm),subT g T T'→RepV w (Sx S0 (renρ ρ g)) (renρ ρ g) (fun r=>r<g.length) (look T' t) (a.tmps.getD t undef):=by
   intro T'
   induction T' with
   |nil=>intro _;exact .pure _ _ (.any _)
   | cons p T' ih=>
    obtain⟨i,x⟩:=p;rintro⟨h1,h2⟩;simp only[look]
    split
    ·rename_i e;subst e
     rcases h1 with rfl|rfl
     ·exact .pure _ _ (.any _)
     ·exact renAV_rep hS 40 _ _ (hc.tmps t)
    ·exact ih h2
  exact gen T' hT
 ·intro r row hr;simp only[renH,hget_map]at hr
  split at hr
  ·rename_i q hq
   split at hr
   ·rename_i q';simp only[Option.map_eq_some_iff]at hr;obtain⟨row0,h0,rfl⟩:=hr;obtain⟨l,hl,hrow⟩:=hc.rows q' row0 h0;refine⟨l,by simp only[renρ,hq];exact hl,?_⟩
    cases row0 with
    |map kvs=>exact hrow
    |mpa ag kts kvs=>obtain⟨b,h1,h2⟩:=hrow;exact⟨b,h1,h2.map _ (fun x y h=>renAV_rep hS 3 x y h) rfl⟩
    |itr ag kts left cur=>
     obtain⟨b,h1,h0,h2⟩:=hrow;exact⟨b,h1,h0,h2.same rfl (Nat.le_refl _) (fun b _ hn=>⟨rfl,fun k=>hn (hS b k)⟩)⟩
    |els sz es=>
     obtain⟨h1,h2,h3,h4⟩:=hrow;refine⟨h1,?_,fun hb=>by rw[h3 hb];rfl,fun b hb=>?_⟩
     ·intro e he;simp only[List.mem_map]at he;obtain⟨e',he',rfl⟩:=he;simpa using h2 e' he'
     ·obtain⟨c,t,k1,k2,k3,k4⟩:=h4 b hb;refine⟨c,t,k1,k2,by simpa using k3,fun i av hi=>?_⟩;rw[←List.map_flatten]at hi;simp only[List.getElem?_map,Option.map_eq_some_iff]at hi;obtain⟨av0,hi,rfl⟩:=hi;obtain⟨x,p1,p2,p3⟩:=k4 i av0 hi;exact⟨x,p1,p2,renAV_rep hS 3 _ _ p3⟩
   ·cases hr
  ·cases hr
 ·intro r hr;simp only[renH,hget_map]at hr;simp only[renρ]
  split
  ·rename_i q hq;rw[hq]at hr;simp only[Option.map_eq_none_iff]at hr;exact hc.dead q hr
  ·rfl
 ·intro r hr;simpa [renH]using hr
theorem sub_nil {nt:Nat} {T:Tm} {H:Hp} (t sz:Nat) (h:look T t= .v (.slice none 0 0)):Sub nt T H ((t, .row H.length 0 0)::T) (H++[some (.els sz [])]):=by
 rintro w0 B S0 a w ⟨⟨ρ,L,hc,hL⟩,hext⟩;have hN:¬L H.length:=fun h=>Nat.lt_irrefl _ (hL _ h)
 let l:Loc:=⟨none,0,sz,0⟩
 have hnone:∀r l',Loc.fresh ρ H.length l r=some l'→l'.b≠none→ρ r=some l':=by
  intro r l' h1 h2;simp only[Loc.fresh]at h1
  split at h1
  ·simp only[Option.some.injEq]at h1;subst h1;exact absurd rfl h2
  ·exact h1
 have hS:∀b,Sx S0 (Loc.fresh ρ H.length l) b→Sx S0 ρ b:=by
  rintro b (h1|⟨r,l',h1,h2⟩)
  ·exact Or.inl h1
  ·exact Or.inr ⟨r,l',hnone r l' h1 (by rw[h2];simp),h2⟩
 have hk:∀x y,RepV w (Sx S0 ρ) ρ L x y→RepV w (Sx S0 (Loc.fresh ρ H.length l)) (Loc.fresh ρ H.length l) (fun r=>L r∨r=H.length) x y:=fun x y k=>
  k.ext (Nat.le_refl _) (fun b _ hn=>⟨rfl,fun q=>hn (hS b q)⟩) (fun r=>Or.inl) (fun r l' hr hl'=>by
   simp only[Loc.fresh]at hl'
   split at hl'
   ·rename_i e;subst e;exact absurd hr hN
   ·exact hl')
 have hwf:=wf_fresh hc.wf hN l (w':=w) (Nat.le_refl _) (by intro b hb;cases hb);have hap:∀r,hget (H++[some (.els sz [])]) r=if r=H.length then some (.els sz [])else hget H r:=by
  have gen:∀(H:Hp) (r:Nat),hget (H++[some (.els sz [])]) r=if r=H.length then some (.els sz [])else hget H r:=by
   intro H
   induction H with
   |nil=>intro r;cases r<;>simp[hget]
   |cons x xs ih=>
    intro r
    cases r with
    |zero=>simp[hget]
    |succ r=>simp only[List.cons_append,hget,List.length_cons,Nat.add_right_cancel_iff];exact ih r
  exact gen H
 refine⟨⟨Loc.fresh ρ H.length l,fun r=>L r∨r=H.length,⟨hwf,hc.size,hc.defers,?_,?_,?_⟩,?_⟩,hext⟩
 ·intro t';simp only[look]
  split
  ·rename_i e;subst e;have:=hc.tmps t';rw[h]at this;rw[exact_v this];refine .row _ _ _ _ (Or.inr rfl) rfl (fun l' hl'=>?_);simp only[Loc.fresh,if_true,Option.some.injEq]at hl';subst hl';exact⟨fun _=>⟨rfl,rfl,rfl⟩,fun b hb=>by cases hb⟩
  ·exact hk _ _ (hc.tmps t')
 ·intro r row hr;rw[hap]at hr
  split at hr
  ·rename_i e;simp only[Option.some.injEq]at hr;subst hr;exact⟨l,by simp[Loc.fresh,e],rfl,by simp,by simp,by intro b hb;cases hb⟩
  ·rename_i e;obtain⟨l',hl',hrow⟩:=hc.rows r row hr;refine⟨l',by simp[Loc.fresh,e,hl'],hrow.ext (Nat.le_refl _) (fun b _ hn=>⟨rfl,fun q=>hn (hS b q)⟩) (fun r=>Or.inl) (fun r l' hr hl'=>by
    simp only[Loc.fresh]at hl'
    split at hl'
    ·rename_i e;subst e;exact absurd hr hN
    ·exact hl') (fun _ _=>rfl)⟩
 ·intro r hr;rw[hap]at hr
  split at hr
  ·cases hr
  ·rename_i e;simp[Loc.fresh,e,hc.dead r hr]
 ·rintro r (hr|rfl)
  ·simp;have:=hL r hr;omega
  ·simp
def frzP (H:Hp):Nat→AV→AV
 |n+1, .row r i k=>match hget H r with
  |some (.els sz es)=>if i+k≤es.length∧sz≠0 then .lst sz (((es.drop i).take k).map fun e=>e.map (frzP H n))else .any
  |_=> .any
 | n+1, .ptr r i o=>match hget H r with
  |some (.els sz es)=>match es[i]? with
   |some e=>if o≤e.length then .iptr ((e.drop o).map (frzP H n))else .any
   |none=> .any
  |_=> .any
 |n+1, .agg cs=> .agg (cs.map (frzP H n))
 |n+1, .tup cs=> .tup (cs.map (frzP H n))
 |n+1, .clo f cs=> .clo f (cs.map (frzP H n))
 |n+1, .bnd f cs=> .bnd f (cs.map (frzP H n))
 |n+1, .vptr cs=> .iptr (cs.map (frzP H n))
 |n+1, .ifc t x=> .ifc t (frzP H n x)
 |n+1, .may l x=> .may l (frzP H n x)
 |_, .v x=> .v x
 |_, .lst sz els=> .lst sz els
 |_, .full sz els=> .full sz els
 |_, .iptr cs=> .iptr cs
 |_, .mpc ag kts kvs=> .mpc ag kts kvs
 |_, .mp r=>match hget H r with
  |some (.map ag kts kvs)=> .mpc ag kts kvs
  |_=> .any
 |_,_=> .any
theorem frzP_rep {w:World} {S0:Nat→Prop} {B:Nat→Prop} {ρ:Nat→Option Loc} {L:Nat→Prop} {H:Hp} (hw:WF B S0 w ρ L) (hrows:∀r row,hget H r=some row→∃l,ρ r=some l∧RowRep w (Sx S0 ρ) ρ L l row):
  ∀(n:Nat) (x:AV) (y:Value),RepV w (Sx S0 ρ) ρ L x y→RepP w S0 (frzP H n x) y:=by
 have hP:∀{x y},RepP w (Sx S0 ρ) x y→RepP w S0 x y:=fun h=>h.ext (Nat.le_refl _) (fun b _ hn=>⟨rfl,fun k=>hn (Or.inl k)⟩);have mp:∀(n r:Nat) (y:Value),RepV w (Sx S0 ρ) ρ L (.mp r) y→RepP w S0 (frzP H n (.mp r)) y:=by
  intro n r y h;have e:frzP H n (.mp r)=match hget H r with|some (.map ag kts kvs)=> .mpc ag kts kvs|_=> .any:=by cases n<;>rfl
  rw[e]
  split
  ·rename_i ag kts kvs hH;obtain⟨l,hl,b,hb,hm⟩:=hrows r _ hH
   cases h with
   |pure _ _ h=>cases h
   |mp _ _ h1 h2 h3=>
    obtain⟨b',hb',rfl⟩:=h3 l hl;rw[hb]at hb';simp only[Option.some.injEq]at hb';subst hb';exact .mpc _ _ _ b (hw.own r l b hl hb).2.1 (hw.own r l b hl hb).1 hm
  ·exact .any _
 intro n
 induction n with
 |zero=>
  intro x y h
  cases x with
  |v x=>cases h with|pure _ _ h=>exact hP h
  |lst sz els=>cases h with|pure _ _ h=>exact hP h
  |full sz els=>cases h with|pure _ _ h=>exact hP h
  |iptr cs=>cases h with|pure _ _ h=>exact hP h
  |mpc ag kts kvs=>cases h with|pure _ _ h=>exact hP h
  |mp r=>exact mp _ r y h
  |_=>exact .any _
 | succ n ih=>
  intro x y h
  cases x with
  |fptr c r i o=>exact .any _
  |v x=>cases h with|pure _ _ h=>exact hP h
  |lst sz els=>cases h with|pure _ _ h=>exact hP h
  |full sz els=>cases h with|pure _ _ h=>exact hP h
  |iptr cs=>cases h with|pure _ _ h=>exact hP h
  |mpc ag kts kvs=>cases h with|pure _ _ h=>exact hP h
  |mp r=>exact mp _ r y h
  |any=>exact .any _
  | row r i k=>
   simp only[frzP]
   split
   ·rename_i sz es hH
    split
    ·rename_i hc;obtain⟨hin,hsz⟩:=hc;obtain⟨l,hl,hrow⟩:=hrows r _ hH;have hz:=hrow.1;subst hz;have hlen:((es.drop i).take k).length=k:=by rw[List.length_take,List.length_drop,Nat.min_eq_left];omega
     cases h with
     |pure _ _ h=>cases h
     | row _ _ _ _ h1 h2 h3=>
      obtain⟨h4,h5⟩:=h3 l hl
      cases hb:l.b with
      |none=>
       obtain⟨rfl,rfl,rfl⟩:=h4 hb;simp only[List.drop_zero,List.take_zero,List.map_nil];exact .lstNil _ _ _
      | some b=>
       obtain⟨off,cap,rfl,hcap,hoff⟩:=h5 b hb
       by_cases hk0:k=0
       ·subst hk0;simp only[List.take_zero,List.map_nil];exact .lstNil _ _ _
       ·obtain⟨rfl,_⟩:=hoff.resolve_left (by omega);have hlies:=row_lies hrow hsz hin hb;obtain⟨g1,g2⟩:=hlies
        rcases g2 with g2|⟨b',off',vs,g2,g3,g4,g5⟩
        ·rw[g2]at hlen;simp at hlen;omega
        ·simp only[Option.some.injEq,Addr.mk.injEq]at g2;obtain⟨rfl,rfl,_⟩:=g2;have hlen':(((es.drop i).take k).map fun e=>e.map (frzP H n)).length=k:=by rw[List.length_map];exact hlen
         have:=RepP.lst (w:=w) (S:=S0) l.sz (((es.drop i).take k).map fun e=>e.map (frzP H n)) b (l.o+i*l.sz) cap vs (hw.own r l b hl hb).2.1 (hw.own r l b hl hb).1 (by omega) (by
          intro e he;simp only[List.mem_map]at he;obtain⟨e',he',rfl⟩:=he;simpa using g1 e' he') (by rw[←List.map_flatten,List.length_map,length_flatten g1,g3]) g4 (by
          intro j c u hj hu;rw[←List.map_flatten]at hj;simp only[List.getElem?_map,Option.map_eq_some_iff]at hj;obtain⟨c',hj,rfl⟩:=hj;exact ih c' u (g5 j c' u hj hu))
         rw[hlen']at this;exact this
    ·exact .any _
   ·exact .any _
  | ptr r i o=>
   simp only[frzP]
   split
   ·rename_i sz es hH
    split
    ·rename_i e he
     split
     ·rename_i ho;obtain⟨l,hl,hrow⟩:=hrows r _ hH;obtain⟨b,hb⟩:=row_live hrow he;obtain⟨c,t,k1,k2,k3,k4⟩:=row_cells hrow he hb
      cases h with
      |pure _ _ h=>cases h
      | ptr _ _ _ _ h1 h2 h3=>
       obtain⟨b',hb',rfl⟩:=h3 l hl;rw[hb]at hb';simp only[Option.some.injEq]at hb';subst hb';have hsz:(i+1)*sz=i*sz+sz:=Nat.succ_mul _ _;refine .iptr _ b (l.o+i*l.sz+o) ((c.toList.drop (l.o+i*sz+o)).take (e.length-o)) (hw.own r l b hl hb).2.1 (hw.own r l b hl hb).1 ?_ ?_ ?_
       ·have hcl:(c.toList.drop (l.o+i*sz+o)).length=c.size-(l.o+i*sz+o):=by rw[List.length_drop,Array.length_toList]
        have hel:(e.drop o).length=e.length-o:=List.length_drop ..;rw[List.length_map,hel,List.length_take,hcl,Nat.min_eq_left];omega
       ·intro j u hj;rw[List.getElem?_take]at hj
        split at hj
        ·rename_i hjl;rw[List.getElem?_drop]at hj;obtain⟨x,p1,p2,p3,p4⟩:=k4 (o+j) _ (List.getElem?_eq_getElem (by omega));have hju:c[l.o+i*sz+o+j]?=some u:=by simpa using hj
         rw[←Nat.add_assoc]at p1;rw[hju]at p1;simp only[Option.some.injEq]at p1;subst p1;refine⟨?_,p3⟩;rw[hrow.1];rw[←Nat.add_assoc]at p2;exact p2
        ·cases hj
       ·intro j cc u hj hu;simp only[List.getElem?_map,Option.map_eq_some_iff]at hj;obtain⟨c',hj,rfl⟩:=hj;rw[List.getElem?_drop]at hj;rw[List.getElem?_take]at hu
        split at hu
        ·rw[List.getElem?_drop]at hu;obtain⟨x,p1,p2,p3,p4⟩:=k4 (o+j) c' hj;have hju:c[l.o+i*sz+o+j]?=some u:=by simpa using hu
         rw[←Nat.add_assoc]at p1;rw[hju]at p1;simp only[Option.some.injEq]at p1;subst p1;exact ih c' u p4
        ·cases hu
     ·exact .any _
    ·exact .any _
   ·exact .any _
  |agg cs=>
   obtain⟨vs,rfl,hl,hc⟩:=agg_cells h;refine .agg _ vs (by simpa using hl) (fun u hu=>?_) (fun i c u h1 h2=>?_)
   ·obtain⟨i,hi,rfl⟩:=List.getElem_of_mem hu;exact(hc i _ _ (List.getElem?_eq_getElem (by omega)) (List.getElem?_eq_getElem hi)).1
   ·simp only[List.getElem?_map,Option.map_eq_some_iff]at h1;obtain⟨c',h1,rfl⟩:=h1;exact ih c' u (hc i c' u h1 h2).2
  |tup cs=>
   obtain⟨vs,rfl,hl,hc⟩:=tup_cells h;refine .tup _ vs (by simpa using hl) (fun i c u h1 h2=>?_);simp only[List.getElem?_map,Option.map_eq_some_iff]at h1;obtain⟨c',h1,rfl⟩:=h1;exact ih c' u (hc i c' u h1 h2)
  |clo f cs=>
   obtain⟨vs,rfl,hl,hc⟩:=clo_cells h;refine .clo f _ vs (by simpa using hl) (fun i c u h1 h2=>?_);simp only[List.getElem?_map,Option.map_eq_some_iff]at h1;obtain⟨c',h1,rfl⟩:=h1;exact ih c' u (hc i c' u h1 h2)
  |bnd f cs=>
   obtain⟨vs,rfl,hl,hc⟩:=bnd_cells h;refine .bnd f _ vs (by simpa using hl) (fun i c u h1 h2=>?_);simp only[List.getElem?_map,Option.map_eq_some_iff]at h1;obtain⟨c',h1,rfl⟩:=h1;exact ih c' u (hc i c' u h1 h2)
  |vptr cs=>
   obtain⟨b,off,vs,rfl,hSb,hb,hl,hv,hc⟩:=vptr_cells h;refine .iptr _ b off vs (fun k=>hSb (Or.inl k)) hb (by simpa using hl) hv (fun i c u h1 h2=>?_);simp only[List.getElem?_map,Option.map_eq_some_iff]at h1;obtain⟨c',h1,rfl⟩:=h1;exact ih c' u (hc i c' u h1 h2)
  |ifc t x=>
   obtain⟨v,rfl,h'⟩:=ifc_cells h;exact .ifc t _ _ (ih x v h')
  | may l x=>
   cases h with
   |pure _ _ h=>cases h with
    |mayT _ _ _ ht h=>exact .mayT _ _ _ ht (ih x y (.pure _ _ h))
    |mayF _ _ hf=>exact .mayF _ _ hf
   |mayT _ _ _ ht h=>exact .mayT _ _ _ ht (ih x y h)
   |mayF _ _ hf=>exact .mayF _ _ hf
end Go.AM
namespace Go.AM
def argT:Nat→List AV→Tm
 |_,[]=>[]
 |k,x::xs=>(k,x)::argT (k+1) xs
theorem look_argT:∀(xs:List AV) (k t:Nat),look (argT k xs) t=if k≤t then(xs[t-k]?).getD .any else .any
 |[],k,t=>by simp[argT,look]
 | x::xs,k,t=>by
  simp only[argT,look]
  split
  ·rename_i e;subst e;simp
  ·rename_i e;rw[look_argT xs (k+1) t]
   by_cases h:k≤t
   ·rw[if_pos (by omega),if_pos h,show t-k=t-(k+1)+1 by omega,List.getElem?_cons_succ]
   ·rw[if_neg (by omega),if_neg h]
def tupOf:List AV→AV
 |[x]=>x
 |xs=> .tup xs
def resP (P:Program) (T:Tm) (H:Hp):List ResultVar→(List AV→Prop)→Prop
 |[],K=>K []
 | .tmp t::rest,K=>resP P T H rest fun xs=>K (look T t::xs)
 | .cell a t::rest,K=>aLoad (tdOf P t) (look T a) (hget H) fun e=>resP P T H rest fun xs=>K (e.av::xs)
def retQ (P:Program) (rs:List ResultVar) (res:AV):Exit→Tm→Hp→Prop
 | .ret,T,H=>resP P T H rs fun xs=>frzP H 6 (tupOf xs)=res
 | .normal,T,H=>resP P T H rs fun xs=>frzP H 6 (tupOf xs)=res
 |_,_,_=>False
section
variable {P:Program}
theorem aLoad_run {B S0:Nat→Prop} {nt:Nat} {w:World} {ρ:Nat→Option Loc} {L:Nat→Prop} {T:Nat→AV} {H:Nat→Option ARow} {a:Act} (hc:Core B S0 nt w ρ L T H a) {s:Nat} {t:TypeId} {K:Eff→Prop}
  (h:aLoad (tdOf P t) (T s) H K):∃ad v e,a.tmps.getD s undef= .pointer (some ad)∧(loadVar t ad).run P w= .ok v w∧RepV w (Sx S0 ρ) ρ L e.av v∧K e:=by
 obtain⟨hne,h⟩:=h;have hr:=hc.tmps s
 split at h
 ·rename_i r i off hx;rw[hx]at hr
  split at h
  ·rename_i sz es hH
   split at h
   ·rename_i e he;obtain⟨l,hl,hrow⟩:=hc.rows r _ hH;obtain⟨ad,v,h1,h2,h3⟩:=load_row_run (P:=P) hne hr hl hrow he h.1;exact⟨ad,v,_,h1,h2,h3,h.2⟩
   ·exact h.elim
  ·exact h.elim
 ·rename_i cs hx;rw[hx]at hr;obtain⟨ad,v,h1,h2,h3⟩:=load_iptr_run (P:=P) hne hr h.1;exact⟨ad,v,_,h1,h2,h3,h.2⟩
 ·rename_i cs hx;rw[hx]at hr;obtain⟨ad,v,h1,h2,h3⟩:=load_vptr_run (P:=P) hne hr h.1;exact⟨ad,v,_,h1,h2,h3,h.2⟩
 ·exact h.elim
theorem run_results {B S0:Nat→Prop} {nt:Nat} {w:World} {ρ:Nat→Option Loc} {L:Nat→Prop} {T:Tm} {H:Hp} {a:Act} (hc:Core B S0 nt w ρ L (look T) (hget H) a):
  ∀ (rs:List ResultVar) (K:List AV→Prop),resP P T H rs K→
   ∃(xs:List AV) (vs:List Value),(rs.mapM (fun(x:ResultVar)=>(match x with
    | .tmp t=>pure (a.tmps.getD t undef)
    | .cell ad t=>do loadVar t (←asAddr (a.tmps.getD ad undef)):Sem Value)):Sem (List Value)).run P w= .ok vs w∧xs.length=vs.length∧
    (∀(i:Nat) c x,xs[i]?=some c→vs[i]?=some x→RepV w (Sx S0 ρ) ρ L c x)∧xs.length=rs.length∧K xs
 |[],K,h=>⟨[],[],by simp,rfl,by simp,rfl,h⟩
 | .tmp t::rest,K,h=>by
  obtain⟨xs,vs,h1,h2,h3,h4,h5⟩:=run_results hc rest _ h;refine⟨look T t::xs,a.tmps.getD t undef::vs,?_,by simp[h2],?_,by simp[h4],h5⟩
  ·simp only[List.mapM_cons,Sem.run_bind,Sem.run_pure,Result.andThen_ok,h1]
  ·intro i c x q1 q2
   cases i with
   |zero=>simp only[List.getElem?_cons_zero,Option.some.injEq]at q1 q2;subst q1 q2;exact hc.tmps t
   |succ i=>exact h3 i c x q1 q2
 | .cell ad t::rest,K,h=>by
  obtain⟨adr,v,e,k1,k2,k3,k4⟩:=aLoad_run hc h;obtain⟨xs,vs,h1,h2,h3,h4,h5⟩:=run_results hc rest _ k4;refine⟨e.av::xs,v::vs,?_,by simp[h2],?_,by simp[h4],h5⟩
  ·have ka:(asAddr (a.tmps.getD ad undef)).run P w= .ok adr w:=by rw[k1];rfl
   simp only[List.mapM_cons,Sem.run_bind,Sem.run_pure,Result.andThen_ok,ka,k2,h1]
  ·intro i c x q1 q2
   cases i with
   |zero=>simp only[List.getElem?_cons_zero,Option.some.injEq]at q1 q2;subst q1 q2;exact k3
   |succ i=>exact h3 i c x q1 q2
theorem PureCall.of_body {f : FuncId} {fn : Func} {c : Code} {args : List AV} {res : AV} (hf : P.funcs[f]? = some fn) (hb : fn.body = some c) (hname : (fn.name == "runtime.NumGoroutine") = false) (hnt : args.length ≤ fn.ntmps)
  (h:AWp P fn.ntmps c (argT 0 args) [] (retQ P fn.results.toList res)):PureCall P f args res:=by
 have hn' : ¬ fn.name = "runtime.NumGoroutine" := by simpa using hname
 refine Or.inl ⟨fun w vs=>by simp[callFunc,hf,hn',hb],?_⟩;intro S0 w vs hlow hlen hrep;refine calls_of_wp hf hb ?_
 let ρ:Nat→Option Loc:=fun _=>none
 have hS:∀b,Sx S0 ρ b↔S0 b:=by
  intro b;constructor
  ·rintro(h|⟨r,l,h1,_⟩)
   ·exact h
   ·cases h1
  ·exact Or.inl
 have hsize:vs.toArray.size=args.length:=by simp[hlen]
 have hst:St w (fun b=>w.heap.size≤b) S0 fn.ntmps (argT 0 args) [] {tmps:=vs.toArray++Array.replicate (fn.ntmps-vs.toArray.size) undef,defers:=[]} w:=by
  refine⟨⟨ρ,fun _=>False,⟨⟨?_,?_,?_,hlow,fun b h=>h⟩,?_,rfl,?_,?_,?_⟩,fun r hr=>hr.elim⟩,Ext.refl _ _⟩
  ·intro r r' l l' b h1;cases h1
  ·intro r l b h1;cases h1
  ·intro r l h1;cases h1
  ·rw[Array.size_append,Array.size_replicate,hsize];omega
  ·intro t;rw[look_argT];simp only[Nat.zero_le,if_true,Nat.sub_zero]
   cases hx:args[t]? with
   |none=>exact .pure _ _ (.any _)
   | some x=>
    have ht:t<args.length:=(List.getElem?_eq_some_iff.1 hx).1;have ht':t<vs.length:=by omega
    have hget:(vs.toArray++Array.replicate (fn.ntmps-vs.toArray.size) undef).getD t undef=vs[t]:=by
     rw[Array.getD_eq_getD_getElem?,Array.getElem?_append_left (by simpa using ht')];simp[ht']
    rw[hget];exact .pure _ _ ((hrep t x _ hx (List.getElem?_eq_getElem ht')).ext (Nat.le_refl _) (fun b _ hn=>⟨rfl,fun k=>hn ((hS b).1 k)⟩))
  ·intro r row hr;cases r<;>cases hr
  ·intro r _;rfl
 refine wp_mono (h w _ S0 _ w hst) ?_;rintro e a' w' ⟨T',H',q,⟨⟨ρ',L',hc,hL⟩,hext⟩⟩;have hfin:(resP P T' H' fn.results.toList fun xs=>frzP H' 6 (tupOf xs)=res)→a'.defers=[]∧∃v,(results fn a'.tmps).run P w'= .ok v w'∧∃v',Ending.returned v= .returned v'∧RepP w' S0 res v'∧Ext (fun _=>False) w w':=by
  intro hr;obtain⟨xs,vs',h1,h2,h3,h4,h5⟩:=run_results hc fn.results.toList _ hr;refine⟨hc.defers,?_⟩;have hm:(fn.results.mapM fun(x:ResultVar)=>(match x with
    | .tmp t=>pure (a'.tmps.getD t undef)
    | .cell ad t=>do loadVar t (←asAddr (a'.tmps.getD ad undef)):Sem Value)).run P w'= .ok vs'.toArray w':=by
   rw[Array.mapM_eq_mapM_toList,Sem.run_map,h1];rfl
  have hrun:(results fn a'.tmps).run P w'= .ok (if h:vs'.toArray.size=1 then vs'.toArray[0]else .tuple vs'.toArray) w':=by
   unfold results;rw[Sem.run_bind];exact congrArg (fun(r:Result (Array Value))=>r.andThen fun a w'=>Sem.run P (pure (if h:a.size=1 then a[0]else Value.tuple a)) w') hm
  refine⟨_,hrun,_,rfl,?_,⟨hext.os,hext.tape,hext.output,hext.size,fun b hb _=>hext.block b hb (by omega),hext.cells⟩⟩;rw[←h5];refine frzP_rep hc.wf hc.rows 6 _ _ ?_
  match xs,vs',h2,h3 with
  |[],[],_,_=>simp only[tupOf];rw[dif_neg (by simp)];exact .tup [] [] rfl (by simp)
  |[x],[v],_,h3=>simp only[tupOf];rw[dif_pos (by simp)];exact h3 0 x v rfl rfl
  |x::y::xs,v::u::vs',h2,h3=>simp only[tupOf];rw[dif_neg (by simp)];exact .tup _ (v::u::vs') h2 h3
 cases e with
 |ret=>exact hfin q
 |normal=>exact hfin q
 |exit id=>exact q.elim
 |goto l=>exact q.elim
 |panic ch=>exact q.elim
 |outgrown=>exact q.elim
def retO (rs:List ResultVar) (i k sz:Nat) (es:List (List AV)):Exit→Tm→Hp→Prop
 | .ret,T,H=>∃t r,rs=[.tmp t]∧look T t= .row r i k∧hget H r=some (.els sz es)
 |_,_,_=>False
theorem OwnCall.of_body {f : FuncId} {fn : Func} {c : Code} {args : List AV} {i k sz : Nat} {es : List (List AV)} (hf : P.funcs[f]? = some fn) (hb : fn.body = some c) (hname : (fn.name == "runtime.NumGoroutine") = false) (hnt : args.length ≤ fn.ntmps)
  (hpl:plainEls es=true) (hne:es≠[]) (h:AWp P fn.ntmps c (argT 0 args) [] (retO fn.results.toList i k sz es)):OwnCall P f args i k sz es:=by
 have hn' : ¬ fn.name = "runtime.NumGoroutine" := by simpa using hname
 refine⟨fun w vs=>by simp[callFunc,hf,hn',hb],hpl,?_⟩;intro S0 w vs hlow hlen hrep;refine calls_of_wp hf hb ?_
 let ρ:Nat→Option Loc:=fun _=>none
 have hS:∀b,Sx S0 ρ b↔S0 b:=by
  intro b;constructor
  ·rintro(h|⟨r,l,h1,_⟩)
   ·exact h
   ·cases h1
  ·exact Or.inl
 have hsize:vs.toArray.size=args.length:=by simp[hlen]
 have hst:St w (fun b=>w.heap.size≤b) S0 fn.ntmps (argT 0 args) [] {tmps:=vs.toArray++Array.replicate (fn.ntmps-vs.toArray.size) undef,defers:=[]} w:=by
  refine⟨⟨ρ,fun _=>False,⟨⟨?_,?_,?_,hlow,fun b h=>h⟩,?_,rfl,?_,?_,?_⟩,fun r hr=>hr.elim⟩,Ext.refl _ _⟩
  ·intro r r' l l' b h1;cases h1
  ·intro r l b h1;cases h1
  ·intro r l h1;cases h1
  ·rw[Array.size_append,Array.size_replicate,hsize];omega
  ·intro t;rw[look_argT];simp only[Nat.zero_le,if_true,Nat.sub_zero]
   cases hx:args[t]? with
   |none=>exact .pure _ _ (.any _)
   | some x=>
    have ht:t<args.length:=(List.getElem?_eq_some_iff.1 hx).1;have ht':t<vs.length:=by omega
    have hget:(vs.toArray++Array.replicate (fn.ntmps-vs.toArray.size) undef).getD t undef=vs[t]:=by
     rw[Array.getD_eq_getD_getElem?,Array.getElem?_append_left (by simpa using ht')];simp[ht']
    rw[hget];exact .pure _ _ ((hrep t x _ hx (List.getElem?_eq_getElem ht')).ext (Nat.le_refl _) (fun b _ hn=>⟨rfl,fun k=>hn ((hS b).1 k)⟩))
  ·intro r row hr;cases r<;>cases hr
  ·intro r _;rfl
 refine wp_mono (h w _ S0 _ w hst) ?_;rintro e a' w' ⟨T',H',q,⟨⟨ρ',L',hc,hL⟩,hext⟩⟩
 cases e with
 | ret=>
  obtain⟨t,r,hrs,ht,hH⟩:=q;refine⟨hc.defers,?_⟩;have hrun:(results fn a'.tmps).run P w'= .ok (a'.tmps.getD t undef) w':=by
   have hrs':fn.results= #[.tmp t]:=by apply Array.ext';simpa using hrs
   unfold results;rw[hrs'];simp
  have hv:=hc.tmps t;rw[ht]at hv;obtain⟨l,hl,hrow⟩:=hc.rows r _ hH;obtain⟨el,hel⟩:∃el,es[0]?=some el:=by
   cases es with
   |nil=>exact absurd rfl hne
   |cons x l=>exact⟨x,rfl⟩
  obtain⟨b,hb'⟩:=row_live hrow hel;have hown:=hc.wf.own r l b hl hb';have hSx:∀c,Sx S0 (ρ1 l) c→Sx S0 ρ' c:=by
   rintro c (h1|⟨r',l',h1,h2⟩)
   ·exact Or.inl h1
   ·simp only[ρ1]at h1
    split at h1
    ·simp only[Option.some.injEq]at h1;subst h1;exact Or.inr ⟨r,l,hl,h2⟩
    ·cases h1
  refine⟨_,hrun,_,l,b,rfl,hb',hown.2.2,hown.1,⟨hext.os,hext.tape,hext.output,hext.size,fun b hb _=>hext.block b hb (by omega),hext.cells⟩,?_,?_⟩
  ·cases hv with
   |pure _ _ h=>cases h
   |row _ _ _ _ h1 h2 h3=>
    refine .row _ _ _ _ rfl h2 (fun l' hl'=>?_);simp only[ρ1,if_true,Option.some.injEq]at hl';subst hl';exact h3 l hl
  ·obtain⟨q1,q2,q3,q4⟩:=hrow;refine⟨q1,q2,q3,fun c hc'=>?_⟩;obtain⟨cs,t',p1,p2,p3,p4⟩:=q4 c hc';refine⟨cs,t',p1,p2,p3,fun j av hj=>?_⟩;obtain⟨y,g1,g2,g3⟩:=p4 j av hj;refine⟨y,g1,g2,?_⟩;have hmem:=List.mem_of_getElem? hj;rw[List.mem_flatten]at hmem;obtain⟨el',hel',hcel⟩:=hmem;simp only[plainEls,List.all_eq_true]at hpl;exact .pure _ _ ((noRef_rep 2 av y (hpl el' hel' av hcel) g3).ext (Nat.le_refl _) (fun c _ hnc=>⟨rfl,fun h=>hnc (hSx c h)⟩))
 |normal=>exact q.elim
 |exit id=>exact q.elim
 |goto l=>exact q.elim
 |panic ch=>exact q.elim
 |outgrown=>exact q.elim
end
end Go.AM
namespace Go.AM
attribute [simp] ct_apply vcOps vcGuard vcStep okAll okm AV.strip evT look constAV aop putT happ hset hget upsIn upsOnce upsM dstOk argT mayw thenA inBlockA
attribute [simp] aRange aEntry bareV renC renCRd Hx AV.flatV rowFlat cnd valM aAppZ aCapN aIdx aMake aLookup aMapSet aLenM mapIn keyK aInvoke aMakeS litF flagV recvOf kcs KC.ofAV kcFit KC.fits aElem aAlloc aBox aBuild aLit aLoad aLoadM aStore aNil aBin aUn aConv natOf aSlice aFieldAddr aField aIndex aLen aAppend aCall aBuiltin aPick gval glit mk
attribute [simp] TD.size TD.isAgg TD.zero AV.cells AV.noRef splice bfill litEls srcEls baseEls appEff killed killedR exactOf exactCells intsOf
attribute [simp] retO retQ resP tupOf frzP subT renAV renH renRow newName minI maxI Op.operands Call.operands frz frzRd AV.flat plainEls AV.isFull List.findIdx?_cons
@[simp] theorem impl_nil (m:List Bool):impl m []:=fun _=>rfl
@[simp] theorem impl_self (m:List Bool):impl m m:=fun h=>h
abbrev I (n:Int):AV:= .v (.int .i64 n)
abbrev Bo (b:Bool):AV:= .v (.bool b)
theorem callK_intro {P:Program} {f:FuncId} {args:List AV} {fl:Bool} {rd rd0:List Nat} {raw:List AV} {H:Nat→Option ARow} {N:Nat} {K:Eff→Prop} (res:AV) (h:PureCall P f args res) (hn:fl=true∨res.flat 3=true) (hk:K ⟨res,[],rd⟩):callK P [] f args fl rd rd0 raw H N K:=Or.inl ⟨res,h,hn,hk⟩
theorem callK_may {P:Program} {m:List Bool} {f:FuncId} {args:List AV} {fl:Bool} {rd rd0:List Nat} {raw:List AV} {H:Nat→Option ARow} {N:Nat} {K:Eff→Prop} (res:AV) (h:m.all id=true→PureCall P f args res) (hn:fl=true∨res.flat 3=true) (hk:K ⟨res,[],rd⟩):callK P m f args fl rd rd0 raw H N K:=by
 refine Or.inl ⟨res,?_,hn,hk⟩
 cases m with
 |nil=>exact h rfl
 |cons b m=>exact h
theorem callK_own {P:Program} {m:List Bool} {f:FuncId} {args:List AV} {rd rd0:List Nat} {raw:List AV} {H:Nat→Option ARow} {N:Nat} {K:Eff→Prop} {i k sz:Nat} {es:List (List AV)} (h:OwnCall P f args i k sz es) (hk:K ⟨.row N i k,[(N,some (.els sz es))],rd0⟩):callK P m f args true rd rd0 raw H N K:=Or.inr (Or.inl ⟨rfl,i,k,sz,es,h,hk⟩)
theorem callK_mut {P:Program} {m:List Bool} {f:FuncId} {args:List AV} {fl:Bool} {rd rd0:List Nat} {raw:List AV} {H:Nat→Option ARow} {N:Nat} {K:Eff→Prop} (gk gd:List Nat) (bg:List (Option Nat)) {args':List AV} {Hk Hd:Hp} {res:AV} {Hk' Hn:Hp} (h:MutCall P f args' Hk Hd res Hk' Hn)
  (hnd:nodN (gk++gd) N=true) (hbg:backG gk N Hn.length=bg) (ha:raw.map (renAV ((gk++gd).map some) 40)=args') (hH:(gk++gd).map (fun r=>(H r).map (renRow ((gk++gd).map some)))=Hk++Hd) (hkl:gk.length=Hk.length) (hall:(Hk++Hd).all Option.isSome=true)
  (hk:K ⟨renAV bg 3 res,keptUps bg gk Hk'++(goneUps gd++newUps bg N Hn),rd0++(gk++gd)⟩):callK P m f args fl rd rd0 raw H N K:=by
 subst hbg ha;exact Or.inr (Or.inr (Or.inl ⟨gk,gd,Hk,Hd,Hk',Hn,res,hnd,hH.symm,hkl,hall,h,hk⟩))
theorem callK_mutF {P:Program} {m:List Bool} {f:FuncId} {args:List AV} {fl:Bool} {rd rd0:List Nat} {raw:List AV} {H:Nat→Option ARow} {N:Nat} {K:Eff→Prop} (gk gd:List Nat) (bg:List (Option Nat)) {args':List AV} {Hk Hd:Hp} {res:AV} {Hk' Hn:Hp} (h:MutCall P f args' Hk Hd res Hk' Hn)
  (hnd:nodN (gk++gd) N=true) (hbg:backG gk N Hn.length=bg) (ha:raw.map (renC H (gk++gd) 3)=args') (hH:(gk++gd).map (fun r=>(H r).map (renRow ((gk++gd).map some)))=Hk++Hd) (hkl:gk.length=Hk.length) (hall:(Hk++Hd).all Option.isSome=true)
  (hfl:res.flatV 2=true) (hrf:(Hk'++Hn).all rowFlat=true)
  (hk:K ⟨renAV bg 3 res,keptUps bg gk Hk'++(goneUps gd++newUps bg N Hn),rd0++((gk++gd)++raw.flatMap (renCRd H (gk++gd) 3))⟩):callK P m f args fl rd rd0 raw H N K:=by
 subst hbg ha;exact Or.inr (Or.inr (Or.inr (Or.inl ⟨gk,gd,Hk,Hd,Hk',Hn,res,hnd,hH.symm,hkl,hall,h,hfl,hrf,hk⟩)))
theorem callK_bare {P:Program} {m:List Bool} {f:FuncId} {args:List AV} {fl:Bool} {rd rd0:List Nat} {raw:List AV} {H:Nat→Option ARow} {N:Nat} {K:Eff→Prop} (res:AV) (h:m.all id=true→PureCall P f (raw.map (bareV 4)) res) (hk:K ⟨res,[],rd0⟩):callK P m f args fl rd rd0 raw H N K:=by
 refine Or.inr (Or.inr (Or.inr (Or.inr ⟨res,?_,hk⟩)))
 cases m with
 |nil=>exact h rfl
 |cons b m=>exact h
theorem idxK_intro {m:List Bool} {els:List (List AV)} {n:Nat} {K:Eff→Prop} (el:List AV) (h:m.all id=true→els[n]?=some el) (hk:K ⟨.iptr el,[],[]⟩):idxK m els n K:=⟨el,h,hk⟩
theorem valK_intro {m:List Bool} {val:AV} {rd:List Nat} {K:Eff→Prop} (av:AV) (h:m.all id=true→val=av) (hk:K ⟨av,[],rd⟩):valK m val rd K:=⟨av,h,hk⟩
attribute [simp] keptUps goneUps newUps
@[simp] theorem keyVal_i (k:IntKind) (n:Int):keyVal false [.i k n]= .int k n:=rfl
section
variable {P:Program} {K:Eff→Prop} {H H':Nat→Option ARow} {N N':Nat} {td td':TD} {x x' y y':AV} {m m':List Bool} {ev:Operand→AV}
@[congr] theorem valK_congr {m m':List Bool} {rd rd':List Nat} (hm:m=m') (hx:x=x') (hr:rd=rd'):valK m x rd K=valK m' x' rd' K:=by rw[hm,hx,hr]
end
end Go.AM
namespace Go.AM
def tmpsOf:List Operand→List Nat
 |[]=>[]
 | .tmp t::xs=>2*t::tmpsOf xs
 |_::xs=>tmpsOf xs
def guardOf (dsts:List (Option Tmp)) (g:Option (Nat×Bool)):List Nat:=
 match g with
 |none=>[]
 |some (j,_)=>match dsts[j]? with
  |some (some d)=>[2*d]
  |_=>[]
def dstOf:Option Tmp→List Nat
 |none=>[]
 |some d=>[2*d]
def upsOf:List (Nat×Option ARow)→List Nat
 |[]=>[]
 |(r,_)::u=>(2*r+1)::upsOf u
def readsOf:List Nat→List Nat
 |[]=>[]
 |r::u=>(2*r+1)::readsOf u
abbrev Tr:=List Nat×List Nat
def trOf (dsts:List (Option Tmp)) (o:Oper) (e:Eff):Tr:=
 (tmpsOf o.op.operands.toList++(guardOf dsts o.guard++(dstOf o.dst++(readsOf e.reads++upsOf e.ups))),dstOf o.dst++upsOf e.ups)
def vcOpsD (P:Program) (nt:Nat) (dsts:List (Option Tmp)):List Oper→Tm→Hp→List Tr→(Tm→Hp→List Tr→Prop)→Prop
 |[],T,H,tr,K=>K T H tr
 | o::rest,T,H,tr,K=>vcGuard P dsts o (look T) (hget H) H.length (ct (fun e=>
   dstOk nt o.dst∧upsIn H e.ups∧upsOnce e.ups=true∧vcOpsD P nt dsts rest (putT T o.dst e.av) (happ H e.ups) (tr++[trOf dsts o e]) K) ⟨⟩)
def maskOf (acc:List Nat) (o:Oper):Nat:=o.after.toList.foldl (fun s e=>if Region.binds .any e then s|||2^e.on|||acc.getD e.on 0 else s) 0
def closL:List Oper→List Nat→List Nat
 |[],acc=>acc
 |o::r,acc=>closL r (acc++[maskOf acc o])
def backB:List Oper→Nat→Bool
 |[],_=>true
 |o::r,k=>(o.after.toList.all fun e=> !Region.binds .any e||decide (e.on<k))&&backB r (k+1)
def confl (a b:Tr):Bool:=(a.2.any fun x=>b.1.contains x)||b.2.any fun x=>a.1.contains x
def drawB (l:List Oper) (tr:List Tr):Bool:=
 backB l 0&&(List.range l.length).all fun k=>(List.range k).all fun j=>
  !confl (tr.getD j ([],[])) (tr.getD k ([],[]))||((closL l []).getD k 0).testBit j
def lastv {α:Type} (D wr:Nat→Bool) (f:Nat→α):Nat→α
 |0=>f 0
 |k+1=>if D k&&wr k then f (k+1)else lastv D wr f k
theorem lastv_eq {α : Type} {D wr:Nat→Bool} {f:Nat→α}:∀(n i:Nat),i≤n→(∀k,k<n→wr k=false→f (k+1)=f k)→(∀k,k<n→wr k=true→(D k=true↔k<i))→lastv D wr f n=f i
  | 0, i, hi, _, _ => by have:i=0:=by omega
                         subst this;rfl
  | n + 1,i,hi,h1,h2=>by
    have ih:=fun i hi h=>lastv_eq (D:=D) (wr:=wr) (f:=f) n i hi (fun k hk=>h1 k (by omega)) h
    simp only[lastv]
    cases hw:wr n with
    | true=>
      have hD:=h2 n (by omega) hw
      by_cases e:i=n+1
      · subst e
        rw[hD.2 (by omega)];rfl
      · have:D n=false:=by cases hd:D n with
          |false=>rfl
          |true=>have:=hD.1 hd;omega
        rw[this]
        simp only[Bool.false_and,Bool.false_eq_true,if_false]
        exact ih i (by omega) (fun k hk=>h2 k (by omega))
    | false=>
      simp only[Bool.and_false,Bool.false_eq_true,if_false]
      by_cases e:i=n+1
      · subst e
        rw[h1 n (by omega) hw]
        exact ih n (Nat.le_refl _) (fun k hk hw=>⟨fun _=>hk,fun _=>(h2 k (by omega) hw).2 (by omega)⟩)
      · exact ih i (by omega) (fun k hk=>h2 k (by omega))
theorem lastv_congr {α:Type} {D D' wr:Nat→Bool} {f:Nat→α}:∀(n:Nat),(∀k,k<n→wr k=true→D k=D' k)→lastv D wr f n=lastv D' wr f n
 |0,_=>rfl
 |n+1,h=>by
  simp only[lastv];rw[lastv_congr n (fun k hk=>h k (by omega))]
  cases hw:wr n with
  |true=>rw[h n (by omega) hw]
  |false=>simp
def Down (ops:Array Oper) (D:Nat→Bool):Prop:=∀(k:Nat) o,ops[k]?=some o→D k=true→∀e∈o.after,Region.binds .any e=true→D e.on=true
theorem mask_spec {acc:List Nat} {D:Nat→Bool} {j:Nat} (hacc:∀k,D k=true→(acc.getD k 0).testBit j=true→D j=true):∀(es:List Edge) (s:Nat),(∀e∈es,Region.binds .any e=true→D e.on=true)→
  (s.testBit j=true→D j=true)→((es.foldl (fun s e=>if Region.binds .any e then s|||2^e.on|||acc.getD e.on 0 else s) s).testBit j=true→D j=true)
 |[],s,_,hs=>hs
 | e::es,s,h,hs=>by
  simp only[List.foldl_cons];refine mask_spec hacc es _ (fun e' he'=>h e' (by simp[he'])) ?_
  split
  ·rename_i hb;have hon:=h e (by simp) hb;rw[Nat.testBit_or,Nat.testBit_or,Nat.testBit_two_pow];intro ht;simp only[Bool.or_eq_true,decide_eq_true_eq]at ht
   rcases ht with(ht|ht)|ht
   ·exact hs ht
   ·subst ht;exact hon
   ·exact hacc _ hon ht
  ·exact hs
theorem clos_spec {ops:Array Oper} {D:Nat→Bool} (hD:Down ops D):∀(l:List Oper) (acc:List Nat),(∀j:Nat,l[j]?=ops[acc.length+j]?)→
  (∀k j,D k=true→(acc.getD k 0).testBit j=true→D j=true)→∀k j,D k=true→((closL l acc).getD k 0).testBit j=true→D j=true
 |[],acc,_,h=>h
 | o::r,acc,hl,h=>by
  simp only[closL];refine clos_spec hD r _ (fun j=>?_) ?_
  ·have:=hl (j+1);simp only[List.getElem?_cons_succ]at this;rw[this];simp;congr 1;omega
  ·intro k j hk ht
   by_cases hlt:k<acc.length
   ·rw[List.getD_eq_getElem?_getD,List.getElem?_append_left hlt,←List.getD_eq_getElem?_getD]at ht;exact h k j hk ht
   ·by_cases he:k=acc.length
    ·subst he;rw[List.getD_eq_getElem?_getD,List.getElem?_append_right (Nat.le_refl _)]at ht;simp only[Nat.sub_self,List.getElem?_cons_zero,Option.getD_some]at ht;have h0:=hl 0;simp only[List.getElem?_cons_zero,Nat.add_zero]at h0;exact mask_spec (fun k hk=>h k j hk) o.after.toList 0 (fun e he=>hD acc.length o h0.symm hk e (by simpa using he)) (by simp) ht
    ·rw[List.getD_eq_getElem?_getD,List.getElem?_eq_none (by simp;omega)]at ht;simp at ht
theorem back_spec:∀(l:List Oper) (k:Nat),backB l k=true→∀(j:Nat) o,l[j]?=some o→∀e∈o.after,Region.binds .any e=true→e.on<k+j
 |[],k,_,j,o,h=>by simp at h
 | o::r,k,hb,j,o',h=>by
  simp only[backB,Bool.and_eq_true,List.all_eq_true]at hb
  cases j with
  |zero=>
   simp only[List.getElem?_cons_zero,Option.some.injEq]at h;subst h;intro e he hbd;have:=hb.1 e (by simpa using he);simp only[hbd,Bool.not_true,Bool.false_or,decide_eq_true_eq]at this;omega
  |succ j=>
   simp only[List.getElem?_cons_succ]at h;intro e he hbd;have:=back_spec r (k+1) hb.2 j o' h e he hbd;omega
structure Lex (P:Program) (nt:Nat) (ops:Array Oper) (dsts:List (Option Tmp)) (l:List Oper) (Ts:Nat→Tm) (Hs:Nat→Hp) (es:Nat→Eff):Prop where
 ok:∀(k:Nat) o,l[k]?=some o→StepOk P ops o (look (Ts k)) (hget (Hs k)) (Hs k).length (es k)∧dstOk nt o.dst∧upsIn (Hs k) (es k).ups∧upsOnce (es k).ups=true∧
  Ts (k+1)=putT (Ts k) o.dst (es k).av∧Hs (k+1)=happ (Hs k) (es k).ups
theorem lex_of {P:Program} {nt:Nat} {ops:Array Oper} {dsts:List (Option Tmp)} (hd:∀j:Nat,dsts[j]?=(ops[j]?).map (·.dst)) {K:Tm→Hp→List Tr→Prop}:∀(l:List Oper) (T:Tm) (H:Hp) (tr:List Tr),vcOpsD P nt dsts l T H tr K→
  ∃Ts Hs es,Ts 0=T∧Hs 0=H∧Lex P nt ops dsts l Ts Hs es∧K (Ts l.length) (Hs l.length) (tr++(l.zipIdx.map fun(p:Oper×Nat)=>trOf dsts p.1 (es p.2)))
 |[],T,H,tr,h=>⟨fun _=>T,fun _=>H,fun _=>⟨.any,[],[]⟩,rfl,rfl,⟨fun k o h=>by simp at h⟩,by simpa [vcOpsD]using h⟩
 | o::r,T,H,tr,h=>by
  obtain⟨e,hst,h1,h2,h3,h4⟩:=vcGuard_sound hd h (fun _=>trivial);obtain⟨Ts,Hs,es,t0,hh0,hlex,hk⟩:=lex_of hd r _ _ _ h4;refine⟨fun k=>match k with|0=>T|k+1=>Ts k,fun k=>match k with|0=>H|k+1=>Hs k,fun k=>match k with|0=>e|k+1=>es k,rfl,rfl,⟨fun k o' hk=>?_⟩,?_⟩
  ·cases k with
   |zero=>
    simp only[List.getElem?_cons_zero,Option.some.injEq]at hk;subst hk;exact⟨hst,h1,h2,h3,t0,hh0⟩
   |succ k=>exact hlex.ok k o' hk
  ·simp only[List.length_cons,List.zipIdx_cons,List.map_cons];rw[List.append_assoc]at hk;have:(r.zipIdx (0+1)).map (fun(p:Oper×Nat)=>trOf dsts p.1 ((fun k=>match k with|0=>e|k+1=>es k:Nat→Eff) p.2))=r.zipIdx.map fun(p:Oper×Nat)=>trOf dsts p.1 (es p.2):=by
    rw[List.zipIdx_succ,List.map_map];apply List.map_congr_left;intro p _
    rfl
   rw[this];exact hk
theorem tmps_mem {t:Nat}:∀{l:List Operand}, .tmp t∈l→2*t∈tmpsOf l
 | x::l,h=>by
  rcases List.mem_cons.1 h with h|h
  ·subst h;simp[tmpsOf]
  ·have ih:=tmps_mem h
   cases x<;>simp[tmpsOf,ih]
theorem ups_mem {r:Nat} {o:Option ARow}:∀{l:List (Nat×Option ARow)},(r,o)∈l→2*r+1∈upsOf l
 |(q,_)::l,h=>by
  rcases List.mem_cons.1 h with h|h
  ·simp only[Prod.mk.injEq]at h;obtain⟨rfl,_⟩:=h;simp[upsOf]
  ·simp[upsOf,ups_mem h]
theorem reads_mem {r:Nat}:∀{l:List Nat},r∈l→2*r+1∈readsOf l
 |q::l,h=>by
  rcases List.mem_cons.1 h with h|h
  ·subst h;simp[readsOf]
  ·simp[readsOf,reads_mem h]
section
variable {P:Program} {nt:Nat} {l:List Oper} {dsts:List (Option Tmp)} {Ts:Nat→Tm} {Hs:Nat→Hp} {es:Nat→Eff}
def wS (l:List Oper) (t k:Nat):Bool:=match l[k]? with|some o=>o.dst==some t|none=>false
def wR (es:Nat→Eff) (r k:Nat):Bool:=(es k).ups.any fun q=>q.1==r
theorem wS_iff {t k:Nat} {o:Oper} (h:l[k]?=some o):wS l t k=true↔o.dst=some t:=by simp[wS,h]
theorem wR_iff {r k:Nat}:wR es r k=true↔∃o,(r,o)∈(es k).ups:=by
 simp only[wR,List.any_eq_true,beq_iff_eq];constructor
 ·rintro⟨⟨q,o⟩,h1,h2⟩;simp only at h2;subst h2;exact⟨o,h1⟩
 ·rintro⟨o,h⟩;exact⟨(r,o),h,rfl⟩
theorem draw_sound {w0:World} {B S0:Nat→Prop} (hlex:Lex P nt l.toArray dsts l Ts Hs es) (hdst:l.map (·.dst)=dsts)
    (hB:drawB l (l.zipIdx.map fun(p:Oper×Nat)=>trOf dsts p.1 (es p.2))=true) {Q:Exit→Act→World→Prop}
    (hQ:∀a w,St w0 B S0 nt (Ts l.length) (Hs l.length) a w→Q .normal a w) {a:Act} {w:World} (hs:St w0 B S0 nt (Ts 0) (Hs 0) a w):
    wpAny P .any l.toArray Q l.toArray.size (Array.replicate l.toArray.size false) a w:=by
  obtain⟨hback,hconf⟩:=Bool.and_eq_true_iff.1 hB
  simp only[List.all_eq_true,List.mem_range]at hconf
  have htr:∀(k:Nat) o,l[k]?=some o→((l.zipIdx.map fun(p:Oper×Nat)=>trOf dsts p.1 (es p.2)).getD k ([],[]))=trOf dsts o (es k):=by
    intro k o hk
    rw[List.getD_eq_getElem?_getD,List.getElem?_map,List.getElem?_zipIdx,hk]
    simp
  have hord:∀(j k:Nat) oj ok,j<k→l[j]?=some oj→l[k]?=some ok→(∃x,(x∈(trOf dsts oj (es j)).2∧x∈(trOf dsts ok (es k)).1)∨(x∈(trOf dsts ok (es k)).2∧x∈(trOf dsts oj (es j)).1))→
      ∀D,Down l.toArray D→D k=true→D j=true:=by
    intro j k oj ok hjk hj hk hx D hD hDk
    have hkl:k<l.length:=(List.getElem?_eq_some_iff.1 hk).1
    have h1:=hconf k hkl j hjk
    rw[htr j oj hj,htr k ok hk]at h1
    have hc:confl (trOf dsts oj (es j)) (trOf dsts ok (es k))=true:=by
      simp only[confl,Bool.or_eq_true,List.any_eq_true,List.contains_iff_mem]
      obtain⟨x,hx|hx⟩:=hx
      · exact Or.inl ⟨x,hx.1,hx.2⟩
      · exact Or.inr ⟨x,hx.1,hx.2⟩
    rw[hc]at h1
    simp only[Bool.not_true,Bool.false_or]at h1
    exact clos_spec hD l [] (by simp) (by simp) k j hDk h1
  have hlen : ∀i j,i≤j→j≤l.length→(Hs i).length≤(Hs j).length:=by
    intro i j hij
    induction j with
    | zero => intro _;have:i=0:=by omega
              subst this;exact Nat.le_refl _
    | succ j ih=>
      intro hj
      by_cases e:i=j+1
      · subst e;exact Nat.le_refl _
      · have hjl:j<l.length:=by omega
        obtain⟨_,_,hin,_,_,hh⟩:=hlex.ok j _ (List.getElem?_eq_getElem hjl)
        rw[hh]
        exact Nat.le_trans (ih (by omega) (by omega)) (length_happ _ _ hin).1
  have hupl:∀k r o,k<l.length→(r,o)∈(es k).ups→r<(Hs (k+1)).length:=by
    intro k r o hk hm
    obtain⟨_,_,hin,_,_,hh⟩:=hlex.ok k _ (List.getElem?_eq_getElem hk)
    rw[hh]
    exact(length_happ _ _ hin).2 r o hm
  let vS:(Nat→Bool)→Nat→AV:=fun D t=>lastv D (wS l t) (fun k=>look (Ts k) t) l.length
  let vR:(Nat→Bool)→Nat→Option ARow:=fun D r=>lastv D (wR es r) (fun k=>hget (Hs k) r) l.length
  have keepS:∀t k,k<l.length→wS l t k=false→look (Ts (k+1)) t=look (Ts k) t:=by
    intro t k hk hw
    have ho:=List.getElem?_eq_getElem hk
    obtain⟨_,_,_,_,ht,_⟩:=hlex.ok k _ ho
    rw[ht,look_putT,if_neg]
    intro e
    rw[(wS_iff ho).2 e]at hw
    cases hw
  have keepR:∀r k,k<l.length→wR es r k=false→hget (Hs (k+1)) r=hget (Hs k) r:=by
    intro r k hk hw
    obtain⟨_,_,hin,hon,_,hh⟩:=hlex.ok k _ (List.getElem?_eq_getElem hk)
    rw[hh]
    refine(hget_happ _ _ hin hon r).2 (fun o hm=>?_)
    rw[wR_iff.2 ⟨o,hm⟩]at hw
    cases hw
  let Inv:(Nat→Bool)→Act→World→Prop:=fun D a w=>(∃ρ L,Core B S0 nt w ρ L (vS D) (vR D) a∧∀r,L r→r<(Hs 0).length∨∃k,k<l.length∧D k=true∧wR es r k=true)∧Ext B w0 w
  have step :∀(D:Nat→Bool) (i:Nat) (o:Oper) (a:Act) (w:World) (K:Act→World→Prop),Down l.toArray D→Down l.toArray (fun k=>D k||k==i)→l[i]?=some o→D i=false→Inv D a w→
      (∀a' w',Inv (fun k=>D k||k==i) a' w'→K a' w')→if Region.wanted o (yielded l.toArray a.tmps)then o.wp P a w K Q else K (a.put o.dst undef) w:=by
    intro D i o a w K hD hD' ho hDi hinv hK
    obtain⟨⟨ρ,L,hc,hL⟩,hext⟩:=hinv
    have hil:i<l.length:=(List.getElem?_eq_some_iff.1 ho).1
    obtain⟨hst,hdk,hin,hon,hts,hhs⟩:=hlex.ok i o ho
    have ordS:∀t,2*t∈(trOf dsts o (es i)).1→∀k,k<l.length→wS l t k=true→(D k=true↔k<i):=by
      intro t ht k hk hw
      have hok:=List.getElem?_eq_getElem hk
      have hwd:=(wS_iff hok).1 hw
      have hmem:2*t∈(trOf dsts l[k] (es k)).2:=by simp[trOf,hwd,dstOf]
      rcases Nat.lt_trichotomy k i with h|h|h
      · have:=hord k i _ o h hok ho ⟨2*t,Or.inl ⟨hmem,ht⟩⟩ _ hD' (by simp)
        simp only[Bool.or_eq_true,beq_iff_eq]at this
        exact⟨fun _=>h,fun _=>this.resolve_right (by omega)⟩
      · subst h;simp[hDi]
      · refine⟨fun hDk=>?_,fun hlt=>by omega⟩
        have:=hord i k o _ h ho hok ⟨2*t,Or.inr ⟨hmem,ht⟩⟩ _ hD hDk
        rw[hDi]at this;cases this
    have ordR:∀r,2*r+1∈(trOf dsts o (es i)).1→∀k,k<l.length→wR es r k=true→(D k=true↔k<i):=by
      intro r hr k hk hw
      have hok:=List.getElem?_eq_getElem hk
      obtain⟨q,hm⟩:=wR_iff.1 hw
      have hmem:2*r+1∈(trOf dsts l[k] (es k)).2:=by simp only[trOf,List.mem_append];exact Or.inr (ups_mem hm)
      rcases Nat.lt_trichotomy k i with h|h|h
      · have:=hord k i _ o h hok ho ⟨2*r+1,Or.inl ⟨hmem,hr⟩⟩ _ hD' (by simp)
        simp only[Bool.or_eq_true,beq_iff_eq]at this
        exact⟨fun _=>h,fun _=>this.resolve_right (by omega)⟩
      · subst h;simp[hDi]
      · refine⟨fun hDk=>?_,fun hlt=>by omega⟩
        have:=hord i k o _ h ho hok ⟨2*r+1,Or.inr ⟨hmem,hr⟩⟩ _ hD hDk
        rw[hDi]at this;cases this
    have hdm:∀t,o.dst=some t→2*t∈(trOf dsts o (es i)).1:=by intro t ht;simp[trOf,ht,dstOf]
    have hum:∀r q,(r,q)∈(es i).ups→2*r+1∈(trOf dsts o (es i)).1:=by
      intro r q hm;simp only[trOf,List.mem_append];exact Or.inr (Or.inr (Or.inr (Or.inr (ups_mem hm))))
    have hrm:∀r,r∈(es i).reads→2*r+1∈(trOf dsts o (es i)).1:=by
      intro r hm;simp only[trOf,List.mem_append];exact Or.inr (Or.inr (Or.inr (Or.inl (reads_mem hm))))
    have hsm:∀t∈o.looksAt l.toArray,2*t∈(trOf dsts o (es i)).1:=by
      intro t ht
      simp only[Oper.looksAt,List.mem_append,List.mem_filterMap]at ht
      simp only[trOf,List.mem_append]
      rcases ht with⟨x,hx,hxt⟩|ht
      · left
        cases x with
        |tmp t'=>simp only[Option.some.injEq]at hxt;subst hxt;exact tmps_mem hx
        |_=>cases hxt
      · right;left
        cases hg:o.guard with
        |none=>rw[hg]at ht;cases ht
        | some g=>
          obtain⟨j,want⟩:=g
          rw[hg]at ht
          simp only[Option.mem_toList]at ht
          simp only[guardOf]
          have:dsts[j]?=some (some t):=by
            rw[←hdst,List.getElem?_map]
            cases hj:l[j]? with
            |none=>simp[hj]at ht
            |some oj=>simp[hj]at ht;simp[ht]
          rw[this];simp
    have vS_at:∀t,2*t∈(trOf dsts o (es i)).1→vS D t=look (Ts i) t:=fun t ht=>lastv_eq l.length i (by omega) (keepS t) (ordS t ht)
    have vR_at:∀r,2*r+1∈(trOf dsts o (es i)).1→vR D r=hget (Hs i) r:=fun r hr=>lastv_eq l.length i (by omega) (keepR r) (ordR r hr)
    have hN:NewOk L (Hs i).length (es i):=by
      rintro r hr ⟨q,hm⟩ hLN
      rcases hL r hLN with h|⟨k,hk,hDk,hw⟩
      · have:=hlen 0 i (by omega) (by omega);omega
      · have hlt:=(ordR _ (hum _ q hm) k hk hw).1 hDk
        obtain⟨q',hm'⟩:=wR_iff.1 hw
        have h1:=hupl k _ q' hk hm'
        have h2:=hlen (k+1) i (by omega) (by omega)
        omega
    have hnew:∀(wr:Nat→Bool),(∀k,k<l.length→wr k=true→(D k=true↔k<i))→∀k,k<l.length→wr k=true→((D k||k==i)=true↔k<i+1):=by
      intro wr h k hk hw
      have:=h k hk hw
      simp only[Bool.or_eq_true,beq_iff_eq,this]
      omega
    refine hst B S0 a w ρ L hc.wf hN (fun t ht=>by rw[←vS_at t (hsm t ht)];exact hc.tmps t) (fun r hr row hrow=>hc.rows r row (by rw[vR_at r (hrm r hr)];exact hrow)) K Q (fun v w' ρ' hp=>hK _ _ ⟨⟨ρ',_,hc.step hN hp (fun d hd=>by rw[hd]at hdk;exact hdk) (fun t=>?_) (fun r=>⟨fun q hm=>?_,fun hno=>?_⟩),?_⟩,ext_step hext hc.wf hp⟩)
    · by_cases e:o.dst=some t
      · rw[if_pos e]
        have:=lastv_eq (D:=fun k=>D k||k==i) (wr:=wS l t) (f:=fun k=>look (Ts k) t) l.length (i+1) (by omega) (keepS t) (hnew _ (ordS t (hdm t e)))
        show lastv _ _ _ _=_
        rw[this,hts,look_putT,if_pos e]
      · rw[if_neg e]
        refine lastv_congr _ (fun k hk hw=>?_)
        have:k≠i:=by rintro rfl;exact e ((wS_iff ho).1 hw)
        simp[this]
    · have:=lastv_eq (D:=fun k=>D k||k==i) (wr:=wR es r) (f:=fun k=>hget (Hs k) r) l.length (i+1) (by omega) (keepR r) (hnew _ (ordR r (hum r q hm)))
      show lastv _ _ _ _=_
      rw[this,hhs]
      exact(hget_happ _ _ hin hon r).1 q hm
    · refine lastv_congr _ (fun k hk hw=>?_)
      have:k≠i:=by rintro rfl;obtain⟨q,hm⟩:=wR_iff.1 hw;exact hno q hm
      simp[this]
    · rintro r (hr|⟨q,hm⟩)
      · rcases hL r hr with h|⟨k,hk,hDk,hw⟩
        · exact Or.inl h
        · exact Or.inr ⟨k,hk,by simp[hDk],hw⟩
      · exact Or.inr ⟨i,hil,by simp,wR_iff.2 ⟨q,hm⟩⟩
  have all : ∀ (fuel:Nat) (listed:Array Bool) (a:Act) (w:World),listed.size=l.length→listed.toList.count false=fuel→Down l.toArray (fun k=>listed.getD k false)→Inv (fun k=>listed.getD k false) a w→
      wpAny P .any l.toArray Q fuel listed a w:=by
    intro fuel
    have done : ∀(listed:Array Bool) (a:Act) (w:World),listed.size=l.length→Down l.toArray (fun k=>listed.getD k false)→Inv (fun k=>listed.getD k false) a w→Region.ready .any l.toArray listed=[]→Q .normal a w:=by
      intro listed a w hsz hD hinv hr
      have hall :∀k,k<l.length→listed.getD k false=true:=by
        intro k
        induction k using Nat.strongRecOn with
        | _ k ih=>
          intro hk
          cases hv:listed.getD k false with
          |true=>rfl
          | false=>
            exfalso
            have hmem:k∈Region.ready .any l.toArray listed:=by
              refine mem_ready.2 ⟨?_,l[k],by simp[hk],fun e he hb=>?_⟩
              · have hk':k<listed.size:=by omega
                simp only[Array.getD_eq_getD_getElem?,Array.getElem?_eq_getElem hk',Option.getD_some]at hv ⊢
                exact hv
              · have:=back_spec l 0 hback k l[k] (List.getElem?_eq_getElem hk) e he hb
                exact ih e.on (by omega) (by omega)
            rw[hr]at hmem;cases hmem
      obtain⟨⟨ρ,L,hc,hL⟩,hext⟩:=hinv
      have eS:vS (fun k=>listed.getD k false)=look (Ts l.length):=by
        funext t
        exact lastv_eq l.length l.length (Nat.le_refl _) (keepS t) (fun k hk _=>⟨fun _=>hk,fun _=>hall k hk⟩)
      have eR:vR (fun k=>listed.getD k false)=hget (Hs l.length):=by
        funext r
        exact lastv_eq l.length l.length (Nat.le_refl _) (keepR r) (fun k hk _=>⟨fun _=>hk,fun _=>hall k hk⟩)
      rw[eS,eR]at hc
      refine hQ a w ⟨⟨ρ,L,hc,fun r hr=>?_⟩,hext⟩
      rcases hL r hr with h|⟨k,hk,_,hw⟩
      · exact Nat.lt_of_lt_of_le h (hlen 0 _ (by omega) (Nat.le_refl _))
      · obtain⟨q,hm⟩:=wR_iff.1 hw
        exact Nat.lt_of_lt_of_le (hupl k r q hk hm) (hlen _ _ (by omega) (Nat.le_refl _))
    induction fuel with
    | zero=>
      intro listed a w hsz hcount hD hinv
      have hr:Region.ready .any l.toArray listed=[]:=by
        apply List.eq_nil_iff_forall_not_mem.2
        intro k hk
        obtain⟨h1,o,ho,_⟩:=mem_ready.1 hk
        have hkl:k<listed.size:=by rw[hsz];simpa using(Array.getElem?_eq_some_iff.1 ho).1
        simp only[Array.getD_eq_getD_getElem?,Array.getElem?_eq_getElem hkl,Option.getD_some]at h1
        rw[List.count_eq_zero]at hcount
        exact hcount (by rw[←h1];simp)
      exact⟨hr,done listed a w hsz hD hinv hr⟩
    | succ fuel ih=>
      intro listed a w hsz hcount hD hinv
      refine⟨done listed a w hsz hD hinv,fun i hi=>?_⟩
      obtain⟨h1,o,ho,hpre⟩:=mem_ready.1 hi
      have ho':l[i]?=some o:=by simpa using ho
      have hil:i<l.length:=(List.getElem?_eq_some_iff.1 ho').1
      have hils:i<listed.size:=by omega
      have hDi:listed.getD i false=false:=by
        simp only[Array.getD_eq_getD_getElem?,Array.getElem?_eq_getElem hils,Option.getD_some]at h1 ⊢
        exact h1
      have eD:(fun k=>(listed.setIfInBounds i true).getD k false)=fun k=>listed.getD k false||k==i:=by
        funext k
        by_cases e:k=i
        · subst e
          simp[Array.getD_eq_getD_getElem?,Array.getElem?_setIfInBounds_self_of_lt hils]
        · rw[getD_set_ne false (fun h=>e h.symm)]
          simp[e]
      have hD':Down l.toArray (fun k=>listed.getD k false||k==i):=by
        intro k ok hok hk e he hb
        simp only[Bool.or_eq_true,beq_iff_eq]at hk ⊢
        rcases hk with hk|rfl
        · exact Or.inl (hD k ok hok hk e he hb)
        · rw[ho]at hok
          simp only[Option.some.injEq]at hok
          subst hok
          exact Or.inl (hpre e he hb)
      have:=step (fun k=>listed.getD k false) i o a w (wpAny P .any l.toArray Q fuel (listed.setIfInBounds i true)) hD hD' ho' hDi hinv (fun a' w' hinv'=>ih _ a' w' (by simp[hsz]) (by
        rw[Array.toList_setIfInBounds,List.count_set (by simpa using hils),hcount]
        have:listed.toList[i]'(by simpa using hils)=false:=by
          simp only[Array.getD_eq_getD_getElem?,Array.getElem?_eq_getElem hils,Option.getD_some]at hDi
          simpa using hDi
        simp[this]) (by rw[eD];exact hD') (by rw[eD];exact hinv'))
      unfold wpOp
      simp only[ho]
      split
      · rename_i hw;rw[if_pos hw]at this;exact Or.inl this
      · rename_i hw;rw[if_neg hw]at this;exact this
  obtain⟨⟨ρ,L,hc,hL⟩,hext⟩:=hs
  have e0:(fun k=>(Array.replicate l.toArray.size false).getD k false)=fun _=>false:=by
    funext k
    simp only[Array.getD_eq_getD_getElem?,Array.getElem?_replicate]
    split<;>rfl
  refine all _ _ a w (by simp) (by simp) ?_ ?_
  · rw[e0];intro k o _ h;cases h
  · rw[e0]
    refine⟨⟨ρ,L,?_,fun r hr=>Or.inl (hL r hr)⟩,hext⟩
    have eS:vS (fun _=>false)=look (Ts 0):=by
      funext t
      exact lastv_eq l.length 0 (by omega) (keepS t) (fun k hk _=>by simp)
    have eR:vR (fun _=>false)=hget (Hs 0):=by
      funext r
      exact lastv_eq l.length 0 (by omega) (keepR r) (fun k hk _=>by simp)
    rw[eS,eR]
    exact hc
theorem St.draw {w0:World} {B S0:Nat→Prop} {T:Tm} {H:Hp} {a:Act} {w:World} (hs:St w0 B S0 nt T H a w) (n:Nat):St w0 B S0 nt T H a {w with drawn:=n}:=by
 obtain⟨⟨ρ,L,hc,hL⟩,hext⟩:=hs;have hk:∀{x y},RepV w (Sx S0 ρ) ρ L x y→RepV {w with drawn:=n} (Sx S0 ρ) ρ L x y:=fun h=>h.ext (Nat.le_refl _) (fun b _ hn=>⟨rfl,hn⟩) (fun r h=>h) (fun r l _ h=>h);refine⟨⟨ρ,L,⟨⟨hc.wf.inj,hc.wf.own,hc.wf.given,hc.wf.low,hc.wf.new⟩,hc.size,hc.defers,fun t=>hk (hc.tmps t),fun r row hr=>?_,hc.dead⟩,hL⟩,hext.draw n⟩;obtain⟨l,hl,hrow⟩:=hc.rows r row hr;exact⟨l,hl,hrow.ext (Nat.le_refl _) (fun b _ hn=>⟨rfl,hn⟩) (fun r h=>h) (fun r l _ h=>h) (fun _ _=>rfl)⟩
theorem awp_draw {id:Nat} {T:Tm} {H:Hp} {Q:Exit→Tm→Hp→Prop} (hm:P.follows .mixedOrders=true) (hd:l.map (·.dst)=dsts)
  (h:∀K:Tm→Hp→List Tr→Prop,(∀T' H' tr,drawB l tr=true→Q .normal T' H'→K T' H' tr)→vcOpsD P nt dsts l T H [] K):AWp P nt (.region id l.toArray true) T H Q:=by
 intro w0 B S0 a w hs;have h':=h (fun T' H' tr=>drawB l tr=true∧Q .normal T' H') (fun _ _ _ h1 h2=>⟨h1,h2⟩);have hd':∀j:Nat,dsts[j]?=(l.toArray[j]?).map (·.dst):=by intro j;rw[←hd];simp
 obtain⟨Ts,Hs,es,t0,h0,hlex,hB,hQ⟩:=lex_of hd' l T H [] h';refine wp_region_any hm ?_;have:=draw_sound (w0:=w0) (B:=B) (S0:=S0) hlex hd (by simpa using hB) (Q:=fun e a' w'=>∃T' H',Q e T' H'∧St w0 B S0 nt T' H' a' w') (fun a w hst=>⟨_,_,hQ,hst⟩) (a:=a) (w:={w with drawn:=w.drawn+1}) (by rw[t0,h0];exact hs.draw _);exact this
end
section
variable {P:Program} {nt:Nat} {l:List Oper} {dsts:List (Option Tmp)} {T:Tm} {H:Hp} {Q:Exit→Tm→Hp→Prop} {id:Nat} {y:Code}
theorem awp_sr (hd:l.map (·.dst)=dsts) (h:∀K:Tm→Hp→Prop,(∀T' H',AWp P nt y T' H' Q→K T' H')→vcOps P nt dsts l T H K):AWp P nt (.seq (.region id l.toArray false) y) T H Q:=
 awp_seq (awp_region hd (h _ fun _ _ h=>h))
theorem awp_sd (hm:P.follows .mixedOrders=true) (hd:l.map (·.dst)=dsts)
  (h:∀K:Tm→Hp→List Tr→Prop,(∀T' H' tr,drawB l tr=true→AWp P nt y T' H' Q→K T' H' tr)→vcOpsD P nt dsts l T H [] K):AWp P nt (.seq (.region id l.toArray true) y) T H Q:=
 awp_seq (awp_draw hm hd h)
theorem awp_r (hd:l.map (·.dst)=dsts) (h:∀K:Tm→Hp→Prop,(∀T' H',Q .normal T' H'→K T' H')→vcOps P nt dsts l T H K):AWp P nt (.region id l.toArray false) T H Q:=
 awp_region hd (h _ fun _ _ h=>h)
end
def subE (T:Tm):Tm→Prop
 |[]=>True
 |(i,x)::r=>(x= .any∨look T i=x)∧subE T r
def prune (T:Tm) (live:List Nat):Tm:=live.map fun t=>(t,look T t)
theorem sub_same {nt:Nat} {T T':Tm} {H:Hp} (h:subE T T'):Sub nt T H T' H:=by
 rintro w0 B S0 a w ⟨⟨ρ,L,hc,hL⟩,hext⟩;refine⟨⟨ρ,L,⟨hc.wf,hc.size,hc.defers,fun t=>?_,hc.rows,hc.dead⟩,hL⟩,hext⟩;have gen:∀(T':Tm),subE T T'→RepV w (Sx S0 ρ) ρ L (look T' t) (a.tmps.getD t undef):=by
  intro T'
  induction T' with
  |nil=>intro _;exact .pure _ _ (.any _)
  | cons p T' ih=>
   obtain⟨i,x⟩:=p;rintro⟨h1,h2⟩;simp only[look]
   split
   ·rename_i e;subst e
    rcases h1 with rfl|rfl
    ·exact .pure _ _ (.any _)
    ·exact hc.tmps t
   ·exact ih h2
 exact gen T' h
theorem subE_prune (T:Tm):∀live:List Nat,subE T (prune T live)
 |[]=>trivial
 |t::l=>⟨Or.inr rfl,subE_prune T l⟩
section
variable {P:Program} {nt:Nat} {T:Tm} {H:Hp} {Q:Exit→Tm→Hp→Prop} {c:Code}
theorem awp_prune (live:List Nat) (h:AWp P nt c (prune T live) H Q):AWp P nt c T H Q:=awp_weak (sub_same (subE_prune T live)) h
theorem awp_loop_l {α:Type} (live:List Nat) (upd:α→Tm) (hp:α→Hp) (inv:α→Prop) (μ:α→Nat) (x0:α) (h0:inv x0) (hs0:Sub nt T H (upd x0++prune T live) (hp x0))
  (round:∀x,inv x→AWp P nt c (upd x++prune T live) (hp x) (thenA (fun T' H'=>∃y,inv y∧μ y<μ x∧Sub nt T' H' (upd y++prune T live) (hp y)) Q)):AWp P nt (.loop c) T H Q:=
 awp_loop (fun x=>(upd x++prune T live,hp x)) inv μ x0 h0 hs0 round
end
def nodupB:List (Option Nat)→Bool
 |[]=>true
 |none::g=>nodupB g
 |some q::g=> !g.contains (some q)&&nodupB g
theorem nodupB_spec:∀(g:List (Option Nat)),nodupB g=true→∀(i j q:Nat),g[i]?=some (some q)→g[j]?=some (some q)→i=j
 |[],_,i,j,q,h,_=>by simp at h
 | x::g,hn,i,j,q,h1,h2=>by
  have hg:nodupB g=true:=by cases x<;>simp[nodupB]at hn<;>first|exact hn|exact hn.2
  have hx:∀k:Nat,x=some q→g[k]?=some (some q)→False:=by
   rintro k rfl hk;simp only[nodupB,Bool.and_eq_true,Bool.not_eq_true',List.contains_eq_mem,decide_eq_false_iff_not]at hn;exact hn.1 (List.mem_of_getElem? hk)
  cases i with
  |zero=>
   cases j with
   |zero=>rfl
   |succ j=>simp at h1 h2;exact(hx j h1 h2).elim
  |succ i=>
   cases j with
   |zero=>simp at h1 h2;exact(hx i h2 h1).elim
   |succ j=>simp at h1 h2;rw[nodupB_spec g hg i j q h1 h2]
theorem sub_rb {nt:Nat} {T T':Tm} {H H':Hp} (g:List (Option Nat)) (hn:nodupB g=true) (hT:subT g T T') (hH:renH H g=H'):Sub nt T H T' H':=sub_ren g (nodupB_spec g hn) hT hH
attribute [simp] subE prune
attribute [simp] vcOpsD tmpsOf guardOf dstOf upsOf readsOf trOf
end Go.AM
namespace Go.AM
def Hxn (H:Nat→Option ARow) (g:List (Option Nat)) (r:Nat):Option ARow:=match newName g r with|some _=>none|none=>H r
def renF (H:Nat→Option ARow) (g:List (Option Nat)):Nat→AV→AV
 |_, .row r i n=>match newName g r with|some q=> .row q i n|none=>frz (Hxn H g) 3 (.row r i n)
 |_, .ptr r i o=>match newName g r with|some q=> .ptr q i o|none=>frz (Hxn H g) 3 (.ptr r i o)
 |_, .fptr x r i o=>match newName g r with|some q=> .fptr x q i o|none=>frz (Hxn H g) 3 (.fptr x r i o)
 |_, .mp r=>match newName g r with|some q=> .mp q|none=>frz (Hxn H g) 3 (.mp r)
 |n+1, .agg cs=> .agg (cs.map (renF H g n))
 |n+1, .tup cs=> .tup (cs.map (renF H g n))
 |n+1, .clo f cs=> .clo f (cs.map (renF H g n))
 |n+1, .bnd f cs=> .bnd f (cs.map (renF H g n))
 |n+1, .vptr cs=> .vptr (cs.map (renF H g n))
 |n+1, .ifc t x=> .ifc t (renF H g n x)
 |n+1, .may l x=> .may l (renF H g n x)
 |0, .agg _=> .any
 |0, .tup _=> .any
 |0, .clo _ _=> .any
 |0, .bnd _ _=> .any
 |0, .vptr _=> .any
 |0, .ifc _ _=> .any
 |0, .may _ _=> .any
 |_,x=>x
def renRowF (H:Nat→Option ARow) (g:List (Option Nat)):ARow→ARow
 | .els sz es=> .els sz (es.map fun e=>e.map (renF H g 3))
 | .map ag kts kvs=> .map ag kts kvs
 | .itr ag kts left cur=> .itr ag kts left cur
 | .mpa ag kts kvs=> .mpa ag kts (kvs.map fun p=>(p.1,renF H g 3 p.2))
def renHF (H:Hp) (g:List (Option Nat)):Hp:=g.map fun q=>match q with|some r=>(hget H r).map (renRowF (hget H) g)|none=>none
def subTF (H:Hp) (g:List (Option Nat)) (T:Tm):Tm→Prop
 |[]=>True
 |(i,x)::r=>(x= .any∨renF (hget H) g 3 (look T i)=x)∧subTF H g T r
theorem newName_none {g:List (Option Nat)} {r q:Nat} (h:newName g r=none):g[q]?≠some (some r):=by
 intro hq;unfold newName at h;rw[List.findIdx?_eq_none_iff]at h;have:=h (some r) (List.mem_of_getElem? hq);simp at this
theorem renF_rep {w:World} {S0 B:Nat→Prop} {ρ:Nat→Option Loc} {L:Nat→Prop} {H:Nat→Option ARow} {g:List (Option Nat)} (hw:WF B S0 w ρ L)
  (hrows:∀r row,H r=some row→∃l,ρ r=some l∧RowRep w (Sx S0 ρ) ρ L l row):∀(n:Nat) (x:AV) (y:Value),RepV w (Sx S0 ρ) ρ L x y→
  RepV w (Sx S0 (renρ ρ g)) (renρ ρ g) (fun r=>r<g.length) (renF H g n x) y:=by
 have hS:∀b,Sx S0 (renρ ρ g) b→Sx S0 ρ b:=by
  rintro b (h|⟨r,l,h1,h2⟩)
  ·exact Or.inl h
  ·obtain⟨q,_,h3⟩:=renρ_spec h1;exact Or.inr ⟨q,l,h3,h2⟩
 have hX:∀r l b row,Hxn H g r=some row→ρ r=some l→l.b=some b→¬Sx S0 (renρ ρ g) b:=by
  intro r l b row h0 h1 h2;rintro(h|⟨r',l',h3,h4⟩)
  ·exact(hw.own r l b h1 h2).2.1 h
  ·obtain⟨q,hq,h5⟩:=renρ_spec h3;have:=hw.inj r q l l' b h1 h5 h2 h4;subst this;unfold Hxn at h0
   split at h0
   ·cases h0
   ·rename_i hn;exact newName_none hn hq
 have fz:∀x y,RepV w (Sx S0 ρ) ρ L x y→RepP w (Sx S0 (renρ ρ g)) (frz (Hxn H g) 3 x) y:=fun x y h=>
  frz_repS hw (fun b hn k=>hn (hS b k)) hX 3 x y (fun r hr row h0=>hrows r row (by
   unfold Hxn at h0
   split at h0
   ·cases h0
   ·exact h0)) h
 have hP:∀{x y},RepP w (Sx S0 ρ) x y→RepP w (Sx S0 (renρ ρ g)) x y:=fun h=>h.ext (Nat.le_refl _) (fun b _ hn=>⟨rfl,fun k=>hn (hS b k)⟩);have row:∀n r i k y,RepV w (Sx S0 ρ) ρ L (.row r i k) y→RepV w (Sx S0 (renρ ρ g)) (renρ ρ g) (fun r=>r<g.length) (renF H g n (.row r i k)) y:=by
  intro n r i k y h;have e:renF H g n (.row r i k)=match newName g r with|some q=> .row q i k|none=>frz (Hxn H g) 3 (.row r i k):=by cases n<;>rfl
  rw[e]
  split
  ·rename_i q hq;have hg:=newName_spec hq
   cases h with
   |pure _ _ h=>cases h
   |row _ _ _ _ h1 h2 h3=>
    refine .row _ _ _ _ (List.getElem?_eq_some_iff.1 hg).1 h2 (fun l hl=>h3 l ?_);simp only[renρ,hg]at hl;exact hl
  ·exact .pure _ _ (fz _ _ h)
 have ptr:∀n r i k y,RepV w (Sx S0 ρ) ρ L (.ptr r i k) y→RepV w (Sx S0 (renρ ρ g)) (renρ ρ g) (fun r=>r<g.length) (renF H g n (.ptr r i k)) y:=by
  intro n r i k y h;have e:renF H g n (.ptr r i k)=match newName g r with|some q=> .ptr q i k|none=>frz (Hxn H g) 3 (.ptr r i k):=by cases n<;>rfl
  rw[e]
  split
  ·rename_i q hq;have hg:=newName_spec hq
   cases h with
   |pure _ _ h=>cases h
   |ptr _ _ _ _ h1 h2 h3=>
    refine .ptr _ _ _ _ (List.getElem?_eq_some_iff.1 hg).1 h2 (fun l hl=>h3 l ?_);simp only[renρ,hg]at hl;exact hl
  ·exact .pure _ _ (fz _ _ h)
 have fptr:∀n c r i k y,RepV w (Sx S0 ρ) ρ L (.fptr c r i k) y→RepV w (Sx S0 (renρ ρ g)) (renρ ρ g) (fun r=>r<g.length) (renF H g n (.fptr c r i k)) y:=by
  intro n c r i k y h;have e:renF H g n (.fptr c r i k)=match newName g r with|some q=> .fptr c q i k|none=>frz (Hxn H g) 3 (.fptr c r i k):=by cases n<;>rfl
  rw[e]
  split
  ·rename_i q hq
   cases h with
   |pure _ _ h=>cases h
   | fptr _ _ _ _ h=>
    have h2:=ptr 0 r i k _ h;have e2:renF H g 0 (.ptr r i k)= .ptr q i k:=by
     show(match newName g r with|some q=>AV.ptr q i k|none=>frz (Hxn H g) 3 (.ptr r i k))=_;rw[hq]
    rw[e2]at h2;exact .fptr _ _ _ _ h2
  ·exact .pure _ _ (fz _ _ h)
 have mp:∀n r y,RepV w (Sx S0 ρ) ρ L (.mp r) y→RepV w (Sx S0 (renρ ρ g)) (renρ ρ g) (fun r=>r<g.length) (renF H g n (.mp r)) y:=by
  intro n r y h;have e:renF H g n (.mp r)=match newName g r with|some q=> .mp q|none=>frz (Hxn H g) 3 (.mp r):=by cases n<;>rfl
  rw[e]
  split
  ·rename_i q hq;have hg:=newName_spec hq
   cases h with
   |pure _ _ h=>cases h
   |mp _ _ h1 h2 h3=>
    refine .mp _ _ (List.getElem?_eq_some_iff.1 hg).1 h2 (fun l hl=>h3 l ?_);simp only[renρ,hg]at hl;exact hl
  ·exact .pure _ _ (fz _ _ h)
 have atom:∀n x y,(match x with| .v _=>True| .lst _ _=>True| .full _ _=>True| .iptr _=>True| .mpc _ _ _=>True| .any=>True|_=>False)→RepV w (Sx S0 ρ) ρ L x y→RepV w (Sx S0 (renρ ρ g)) (renρ ρ g) (fun r=>r<g.length) (renF H g n x) y:=by
  intro n x y hx h
  cases x<;>simp only at hx<;>(cases h;rename_i h;cases n<;>exact .pure _ _ (hP h))
 intro n
 induction n with
 |zero=>
  intro x y h
  cases x with
  |row r i k=>exact row 0 r i k y h
  |ptr r i k=>exact ptr 0 r i k y h
  |fptr c r i k=>exact fptr 0 c r i k y h
  |mp r=>exact mp 0 r y h
  |agg cs=>exact .pure _ _ (.any _)
  |tup cs=>exact .pure _ _ (.any _)
  |clo f cs=>exact .pure _ _ (.any _)
  |bnd f cs=>exact .pure _ _ (.any _)
  |vptr cs=>exact .pure _ _ (.any _)
  |ifc t x=>exact .pure _ _ (.any _)
  |may l x=>exact .pure _ _ (.any _)
  |_=>exact atom 0 _ y trivial h
 | succ n ih=>
  intro x y h
  cases x with
  |row r i k=>exact row _ r i k y h
  |ptr r i k=>exact ptr _ r i k y h
  |fptr c r i k=>exact fptr _ c r i k y h
  |mp r=>exact mp _ r y h
  |agg cs=>
   obtain⟨vs,rfl,hl,hc⟩:=agg_cells h;refine .agg _ vs (by simpa using hl) (fun u hu=>?_) (fun i c u h1 h2=>?_)
   ·obtain⟨i,hi,rfl⟩:=List.getElem_of_mem hu;exact(hc i _ _ (List.getElem?_eq_getElem (by omega)) (List.getElem?_eq_getElem hi)).1
   ·simp only[List.getElem?_map,Option.map_eq_some_iff]at h1;obtain⟨c',h1,rfl⟩:=h1;exact ih c' u (hc i c' u h1 h2).2
  |tup cs=>
   obtain⟨vs,rfl,hl,hc⟩:=tup_cells h;refine .tup _ vs (by simpa using hl) (fun i c u h1 h2=>?_);simp only[List.getElem?_map,Option.map_eq_some_iff]at h1;obtain⟨c',h1,rfl⟩:=h1;exact ih c' u (hc i c' u h1 h2)
  |clo f cs=>
   obtain⟨vs,rfl,hl,hc⟩:=clo_cells h;refine .clo f _ vs (by simpa using hl) (fun i c u h1 h2=>?_);simp only[List.getElem?_map,Option.map_eq_some_iff]at h1;obtain⟨c',h1,rfl⟩:=h1;exact ih c' u (hc i c' u h1 h2)
  |bnd f cs=>
   obtain⟨vs,rfl,hl,hc⟩:=bnd_cells h;refine .bnd f _ vs (by simpa using hl) (fun i c u h1 h2=>?_);simp only[List.getElem?_map,Option.map_eq_some_iff]at h1;obtain⟨c',h1,rfl⟩:=h1;exact ih c' u (hc i c' u h1 h2)
  |vptr cs=>
   obtain⟨b,off,vs,rfl,hSb,hb,hl,hv,hc⟩:=vptr_cells h;refine .vptr _ b off vs (fun k=>hSb (hS b k)) hb (by simpa using hl) hv (fun i c u h1 h2=>?_);simp only[List.getElem?_map,Option.map_eq_some_iff]at h1;obtain⟨c',h1,rfl⟩:=h1;exact ih c' u (hc i c' u h1 h2)
  |ifc t x=>
   obtain⟨v,rfl,h'⟩:=ifc_cells h;exact .ifc t _ _ (ih x v h')
  | may l x=>
   cases h with
   |pure _ _ h=>cases h with
    |mayT _ _ _ ht h=>exact .mayT _ _ _ ht (ih x y (.pure _ _ h))
    |mayF _ _ hf=>exact .mayF _ _ hf
   |mayT _ _ _ ht h=>exact .mayT _ _ _ ht (ih x y h)
   |mayF _ _ hf=>exact .mayF _ _ hf
  |_=>exact atom _ _ y trivial h
theorem sub_renF {nt:Nat} {T T':Tm} {H H':Hp} (g:List (Option Nat)) (hn:∀(i j q:Nat),g[i]?=some (some q)→g[j]?=some (some q)→i=j) (hT:subTF H g T T') (hH:renHF H g=H'):Sub nt T H T' H':=by
 rintro w0 B S0 a w ⟨⟨ρ,L,hc,hL⟩,hext⟩;subst hH;have hren:=renF_rep (g:=g) (H:=hget H) hc.wf (fun r row hr=>hc.rows r row hr);refine⟨⟨renρ ρ g,fun r=>r<g.length,⟨⟨?_,?_,?_,hc.wf.low,hc.wf.new⟩,hc.size,hc.defers,?_,?_,?_⟩,?_⟩,hext⟩
 ·intro r r' l l' b h1 h2 k1 k2;obtain⟨q,g1,p1⟩:=renρ_spec h1;obtain⟨q',g2,p2⟩:=renρ_spec h2;have:=hc.wf.inj q q' l l' b p1 p2 k1 k2;subst this;exact hn _ _ _ g1 g2
 ·intro r l b h1 k1;obtain⟨q,g1,p1⟩:=renρ_spec h1;exact hc.wf.own q l b p1 k1
 ·intro r l h1;obtain⟨q,g1,p1⟩:=renρ_spec h1;exact(List.getElem?_eq_some_iff.1 g1).1
 ·intro t;have gen:∀(T':Tm),subTF H g T T'→RepV w (Sx S0 (renρ ρ g)) (renρ ρ g) (fun r=>r<g.length) (look T' t) (a.tmps.getD t undef):=by
   intro T'
   induction T' with
   |nil=>intro _;exact .pure _ _ (.any _)
   | cons p T' ih=>
    obtain⟨i,x⟩:=p;rintro⟨h1,h2⟩;simp only[look]
    split
    ·rename_i e;subst e
     rcases h1 with rfl|rfl
     ·exact .pure _ _ (.any _)
     ·exact hren 3 _ _ (hc.tmps t)
    ·exact ih h2
  exact gen T' hT
 ·intro r row hr;simp only[renHF,hget_map]at hr
  split at hr
  ·rename_i q hq
   split at hr
   ·rename_i q';simp only[Option.map_eq_some_iff]at hr;obtain⟨row0,h0,rfl⟩:=hr;obtain⟨l,hl,hrow⟩:=hc.rows q' row0 h0;refine⟨l,by simp only[renρ,hq];exact hl,?_⟩
    cases row0 with
    |map kvs=>exact hrow
    |mpa ag kts kvs=>obtain⟨b,h1,h2⟩:=hrow;exact⟨b,h1,h2.map _ (fun x y h=>hren 3 x y h) rfl⟩
    | itr ag kts left cur=>
     obtain⟨b,h1,h0,h2⟩:=hrow;exact⟨b,h1,h0,h2.same rfl (Nat.le_refl _) (fun b _ hn=>⟨rfl,fun k=>hn (by
      rcases k with h|⟨r,l,h1,h2⟩
      ·exact Or.inl h
      ·obtain⟨q,_,h3⟩:=renρ_spec h1;exact Or.inr ⟨q,l,h3,h2⟩)⟩)⟩
    |els sz es=>
     obtain⟨h1,h2,h3,h4⟩:=hrow;refine⟨h1,?_,fun hb=>by rw[h3 hb];rfl,fun b hb=>?_⟩
     ·intro e he;simp only[List.mem_map]at he;obtain⟨e',he',rfl⟩:=he;simpa using h2 e' he'
     ·obtain⟨c,t,k1,k2,k3,k4⟩:=h4 b hb;refine⟨c,t,k1,k2,by simpa using k3,fun i av hi=>?_⟩;rw[←List.map_flatten]at hi;simp only[List.getElem?_map,Option.map_eq_some_iff]at hi;obtain⟨av0,hi,rfl⟩:=hi;obtain⟨x,p1,p2,p3⟩:=k4 i av0 hi;exact⟨x,p1,p2,hren 3 _ _ p3⟩
   ·cases hr
  ·cases hr
 ·intro r hr;simp only[renHF,hget_map]at hr;simp only[renρ]
  split
  ·rename_i q hq;rw[hq]at hr;simp only[Option.map_eq_none_iff]at hr;exact hc.dead q hr
  ·rfl
 ·intro r hr;simpa [renHF]using hr
theorem sub_rf {nt:Nat} {T T':Tm} {H H':Hp} (g:List (Option Nat)) (hn:nodupB g=true) (hT:subTF H g T T') (hH:renHF H g=H'):Sub nt T H T' H':=sub_renF g (nodupB_spec g hn) hT hH
theorem hget_set:∀(H:Hp) (r:Nat) (x:Option ARow) (q:Nat),r<H.length→hget (H.set r x) q=if q=r then x else hget H q
 |[],r,x,q,h=>by simp at h
 |y::H,0,x,0,h=>by simp[hget]
 |y::H,0,x,q+1,h=>by simp[hget]
 |y::H,r+1,x,0,h=>by simp[hget]
 |y::H,r+1,x,q+1,h=>by
  simp only[List.set_cons_succ,hget,Nat.add_right_cancel_iff];exact hget_set H r x q (by simpa using h)
theorem hget_lt:∀{H:Hp} {r:Nat} {row:ARow},hget H r=some row→r<H.length
 |[],r,row,h=>by cases r<;>simp[hget]at h
 |y::H,0,row,h=>by simp
 |y::H,r+1,row,h=>by simp only[hget]at h;have:=hget_lt h;simp;omega
theorem hget_snoc (H:Hp) (x:Option ARow) (r:Nat):hget (H++[x]) r=if r=H.length then x else hget H r:=by
 induction H generalizing r with
 |nil=>cases r<;>simp[hget]
 |cons y ys ih=>
  cases r with
  |zero=>simp[hget]
  |succ r=>simp only[List.cons_append,hget,List.length_cons,Nat.add_right_cancel_iff];exact ih r
theorem hset_len:∀(H:Hp) (r:Nat) (o:Option ARow),r<H.length→(hset H r o).length=H.length
 |[],_,_,h=>by simp at h
 |_::_,0,_,_=>rfl
 |_::xs,n+1,o,h=>by simp only[hset,List.length_cons];rw[hset_len xs n o (by simpa using h)]
theorem sub_flag {nt:Nat} {T:Tm} {H:Hp} (hnt:nt≤999998):Sub nt T H ((999998,flagV)::T) H:=by
 rintro w0 B S0 a w ⟨⟨ρ,L,hc,hL⟩,hext⟩;refine⟨⟨ρ,L,⟨hc.wf,hc.size,hc.defers,fun t=>?_,hc.rows,hc.dead⟩,hL⟩,hext⟩;simp only[look]
 split
 ·rename_i e;subst e;have:a.tmps.getD 999998 undef=undef:=by
   rw[Array.getD_eq_getD_getElem?,Array.getElem?_eq_none (by rw[hc.size];exact hnt)];rfl
  rw[this];exact .mayF _ _ rfl
 ·exact hc.tmps t
theorem sub_nilc {nt : Nat} {T : Tm} {H:Hp} (r i j sz:Nat) {sz0:Nat} {es:List (List AV)} {e:List AV} (hr:hget H r=some (.els sz0 es)) (he:es[i]?=some e) (hj:e[j]?=some (.v (.slice none 0 0))):
    Sub nt T H T (H.set r (some (.els sz0 (es.set i (e.set j (.row H.length 0 0)))))++[some (.els sz [])]):=by
  rintro w0 B S0 a w ⟨⟨ρ,L,hc,hL⟩,hext⟩
  have hrl:=hget_lt hr
  have hN:¬L H.length:=fun h=>Nat.lt_irrefl _ (hL _ h)
  let l:Loc:=⟨none,0,sz,0⟩
  have hnone:∀r l',Loc.fresh ρ H.length l r=some l'→l'.b≠none→ρ r=some l':=by
    intro r l' h1 h2
    simp only[Loc.fresh]at h1
    split at h1
    · simp only[Option.some.injEq]at h1;subst h1;exact absurd rfl h2
    · exact h1
  have hS:∀b,Sx S0 (Loc.fresh ρ H.length l) b→Sx S0 ρ b:=by
    rintro b (h1|⟨r,l',h1,h2⟩)
    · exact Or.inl h1
    · exact Or.inr ⟨r,l',hnone r l' h1 (by rw[h2];simp),h2⟩
  have hk:∀x y,RepV w (Sx S0 ρ) ρ L x y→RepV w (Sx S0 (Loc.fresh ρ H.length l)) (Loc.fresh ρ H.length l) (fun r=>L r∨r=H.length) x y:=fun x y k=>
    k.ext (Nat.le_refl _) (fun b _ hn=>⟨rfl,fun q=>hn (hS b q)⟩) (fun r=>Or.inl) (fun r l' hr hl'=>by
      simp only[Loc.fresh]at hl'
      split at hl'
      · rename_i e;subst e;exact absurd hr hN
      · exact hl')
  have hnew:RepV w (Sx S0 (Loc.fresh ρ H.length l)) (Loc.fresh ρ H.length l) (fun r=>L r∨r=H.length) (.row H.length 0 0) (.slice none 0 0):=by
    refine .row _ _ _ _ (Or.inr rfl) rfl (fun l' hl'=>?_)
    simp only[Loc.fresh,if_true,Option.some.injEq]at hl'
    subst hl'
    exact⟨fun _=>⟨rfl,rfl,rfl⟩,fun b hb=>by cases hb⟩
  have hwf:=wf_fresh hc.wf hN l (w':=w) (Nat.le_refl _) (by intro b hb;cases hb)
  have hrowk:∀r row,hget H r=some row→∃l',Loc.fresh ρ H.length l r=some l'∧RowRep w (Sx S0 (Loc.fresh ρ H.length l)) (Loc.fresh ρ H.length l) (fun r=>L r∨r=H.length) l' row:=by
    intro r row hr
    obtain⟨l',hl',hrow⟩:=hc.rows r row hr
    have hne:r≠H.length:=by have:=hget_lt hr;omega
    refine⟨l',by simp[Loc.fresh,hne,hl'],hrow.ext (Nat.le_refl _) (fun b _ hn=>⟨rfl,fun q=>hn (hS b q)⟩) (fun r=>Or.inl) (fun r l' hr hl'=>by
        simp only[Loc.fresh]at hl'
        split at hl'
        · rename_i e;subst e;exact absurd hr hN
        · exact hl') (fun _ _=>rfl)⟩
  refine⟨⟨Loc.fresh ρ H.length l,fun r=>L r∨r=H.length,⟨hwf,hc.size,hc.defers,fun t'=>hk _ _ (hc.tmps t'),?_,?_⟩,?_⟩,hext⟩
  · intro q row hq
    rw[hget_snoc,List.length_set]at hq
    split at hq
    · rename_i e
      simp only[Option.some.injEq]at hq
      subst hq
      exact⟨l,by simp[Loc.fresh,e],rfl,by simp,by simp,by intro b hb;cases hb⟩
    · rename_i e'
      rw[hget_set H r _ q hrl]at hq
      split at hq
      · rename_i e''
        subst e''
        simp only[Option.some.injEq]at hq
        subst hq
        obtain⟨l',hl',hrow⟩:=hrowk q _ hr
        refine⟨l',hl',?_⟩
        obtain⟨h1,h2,h3,h4⟩:=hrow
        have hil:i<es.length:=(List.getElem?_eq_some_iff.1 he).1
        have helen:=h2 e (List.mem_of_getElem? he)
        have hjl:j<e.length:=(List.getElem?_eq_some_iff.1 hj).1
        have hset:∀x∈es.set i (e.set j (.row H.length 0 0)),x.length=sz0:=by
          intro x hx
          rcases List.mem_or_eq_of_mem_set hx with hx|rfl
          · exact h2 x hx
          · simpa using helen
        refine⟨h1,hset,fun hb=>by have:=h3 hb;subst this;simp at hil,fun b hb=>?_⟩
        obtain⟨c,t,k1,k2,k3,k4⟩:=h4 b hb
        refine⟨c,t,k1,k2,by simpa using k3,fun u av hu=>?_⟩
        have key : (es.set i (e.set j (.row H.length 0 0))).flatten=es.flatten.set (i*sz0+j) (.row H.length 0 0):=by
          apply List.ext_getElem?
          intro m
          by_cases hm:m<es.length*sz0
          · have hpos : 0 < sz0 := by rcases Nat.eq_zero_or_pos sz0 with h|h; · rw[h]at hm;simp at hm
                                      · exact h
            have hq:m/sz0<es.length:=by rw[Nat.div_lt_iff_lt_mul hpos];exact hm
            have hmod:=Nat.mod_lt m hpos
            have hme:m=m/sz0*sz0+m % sz0:=by rw[Nat.mul_comm];exact(Nat.div_add_mod m sz0).symm
            obtain⟨x,hx⟩:∃x,es[m/sz0]?=some x:=⟨_,List.getElem?_eq_getElem hq⟩
            by_cases hmi:m/sz0=i
            · have hx':(es.set i (e.set j (.row H.length 0 0)))[m/sz0]?=some (e.set j (.row H.length 0 0)):=by rw[hmi];simp[hil]
              rw[hmi,he]at hx
              simp only[Option.some.injEq]at hx
              subst hx
              have f1:=flatten_get hset hx' (m % sz0) hmod
              have f2:=flatten_get h2 (by rw[hmi];exact he:es[m/sz0]?=some e) (m % sz0) hmod
              rw[←hme]at f1 f2
              rw[f1,List.getElem?_set,List.getElem?_set]
              by_cases hjm:j=m % sz0
              · have:i*sz0+j=m:=by rw[←hmi,hjm];exact hme.symm
                rw[if_pos hjm,if_pos this]
                have hml:m<es.flatten.length:=by rw[length_flatten h2];exact hm
                have hjm':m % sz0<e.length:=by rw[←hjm];exact hjl
                rw[if_pos (by omega),if_pos (by omega)]
              · have:i*sz0+j≠m:=by
                  intro h;apply hjm
                  have h':i*sz0+j=i*sz0+m % sz0:=by rw[h,←hmi];exact hme
                  omega
                rw[if_neg hjm,if_neg this,f2]
            · have hx':(es.set i (e.set j (.row H.length 0 0)))[m/sz0]?=some x:=by rw[List.getElem?_set,if_neg (fun h=>hmi h.symm)];exact hx
              have f1:=flatten_get hset hx' (m % sz0) hmod
              have f2:=flatten_get h2 hx (m % sz0) hmod
              rw[←hme]at f1 f2
              have:i*sz0+j≠m:=by
                intro h;apply hmi
                have hj':j<sz0:=by omega
                rw[←h,Nat.mul_comm,Nat.mul_add_div hpos,Nat.div_eq_of_lt hj',Nat.add_zero]
              rw[f1,List.getElem?_set,if_neg this,f2]
          · have l1:(es.set i (e.set j (.row H.length 0 0))).flatten.length≤m:=by rw[length_flatten hset,List.length_set];omega
            have l2:(es.flatten.set (i*sz0+j) (.row H.length 0 0)).length≤m:=by rw[List.length_set,length_flatten h2];omega
            rw[List.getElem?_eq_none l1,List.getElem?_eq_none l2]
        rw[key,List.getElem?_set]at hu
        split at hu
        · rename_i hu'
          split at hu
          · simp only[Option.some.injEq]at hu
            subst hu
            have f2:=flatten_get h2 he j (by omega)
            rw[hj,hu']at f2
            obtain⟨x,p1,p2,p3⟩:=k4 u _ f2
            refine⟨x,p1,p2,?_⟩
            rw[exact_v p3]
            exact hnew
          · cases hu
        · exact k4 u av hu
      · exact hrowk q row hq
  · intro q hq
    rw[hget_snoc,List.length_set]at hq
    split at hq
    · cases hq
    · rename_i e'
      rw[hget_set H r _ q hrl]at hq
      split at hq
      · cases hq
      · simp[Loc.fresh,e',hc.dead q hq]
  · rintro q (hq|rfl)
    · have:=hL q hq;simp;omega
    · simp
def noGotoA (Q:Exit→Tm→Hp→Prop):Exit→Tm→Hp→Prop
 | .goto _=>fun _ _=>False
 |e=>Q e
theorem awp_scope {P:Program} {nt:Nat} {c:Code} {T:Tm} {H:Hp} {Q:Exit→Tm→Hp→Prop} (h:AWp P nt c T H (noGotoA Q)):AWp P nt (.scope c) T H Q:=by
 intro w0 B S0 a w hs;refine wp_scope_straight (wp_mono (h w0 B S0 a w hs) ?_);rintro e a' w' ⟨T',H',q,s⟩
 cases e with
 |goto l=>exact q.elim
 |normal=>exact⟨T',H',q,s⟩
 |exit id=>exact⟨T',H',q,s⟩
 |ret=>exact⟨T',H',q,s⟩
 |panic c=>exact⟨T',H',q,s⟩
 |outgrown=>exact⟨T',H',q,s⟩
theorem awp_sl {P:Program} {nt l:Nat} {c:Code} {T:Tm} {H:Hp} {Q:Exit→Tm→Hp→Prop} (h:AWp P nt c T H Q):AWp P nt (.seq (.label l) c) T H Q:=by
 refine awp_seq ?_;intro w0 B S0 a w hs;exact wp_label ⟨T,H,h,hs⟩
@[simp] theorem one_int (k:IntKind) (n:Int):(Value.int k n).oneCell'=true:=rfl
@[simp] theorem one_bool (b:Bool):(Value.bool b).oneCell'=true:=rfl
@[simp] theorem one_slice (a:Option Addr) (n m:Nat):(Value.slice a n m).oneCell'=true:=rfl
@[simp] theorem one_ptr (a:Option Addr):(Value.pointer a).oneCell'=true:=rfl
attribute [simp] noGotoA subTF renF renHF renRowF Hxn
end Go.AM
namespace Go.AM
def wkN (z:Nat):Nat→AV→AV
 |_, .v (.slice none 0 0)=> .lst z []
 |n+1, .full s e=> .lst s (e.map fun el=>el.map (wkN z n))
 |n+1, .lst s e=> .lst s (e.map fun el=>el.map (wkN z n))
 |n+1, .iptr c=> .iptr (c.map (wkN z n))
 |n+1, .agg c=> .agg (c.map (wkN z n))
 |n+1, .tup c=> .tup (c.map (wkN z n))
 |_,x=>x
theorem wkN_rep {w:World} {S:Nat→Prop} (z:Nat):∀(n:Nat) (x:AV) (y:Value),RepP w S x y→RepP w S (wkN z n x) y:=by
 have vcase:∀(n:Nat) (u:Value),RepP w S (wkN z n (.v u)) u:=by
  intro n u
  by_cases hu:u= .slice none 0 0
  ·subst hu;have e:wkN z n (.v (.slice none 0 0))= .lst z []:=by cases n<;>rfl
   rw[e];exact .lstNil _ _ _
  ·have e:wkN z n (.v u)= .v u:=by
    cases n<;>(unfold wkN;split<;>first|rfl|(rename_i h;simp at h;exact absurd h hu)|(rename_i h _;simp at h;exact absurd h hu)|simp_all)
   rw[e];exact .v _
 intro n
 induction n with
 |zero=>intro x y h;cases h<;>first|exact vcase 0 _|exact .any _|exact .mayF _ _ (by assumption)|(constructor<;>assumption)|skip
 | succ n ih=>
  have cells:∀(cs:List AV) (vs:List Value),(∀(i:Nat) c x,cs[i]?=some c→vs[i]?=some x→RepP w S c x)→∀(i:Nat) c x,(cs.map (wkN z n))[i]?=some c→vs[i]?=some x→RepP w S c x:=by
   intro cs vs h i c x h1 h2;simp only[List.getElem?_map,Option.map_eq_some_iff]at h1;obtain⟨c',h1,rfl⟩:=h1;exact ih c' x (h i c' x h1 h2)
  have flat:∀(els:List (List AV)),(els.map fun el=>el.map (wkN z n)).flatten=els.flatten.map (wkN z n):=by intro els;rw[List.map_flatten]
  intro x y h
  cases h with
  |v=>exact vcase _ _
  |any=>exact .any _
  |agg cs vs hl hc h=>exact .agg _ vs (by simpa using hl) hc (cells cs vs h)
  |tup cs vs hl h=>exact .tup _ vs (by simpa using hl) (cells cs vs h)
  | lst sz els b off cap vs hS hb hcap hel hl hv h=>
   have:=RepP.lst (w:=w) (S:=S) sz (els.map fun el=>el.map (wkN z n)) b off cap vs hS hb (by simpa using hcap) (by
    intro e he;obtain⟨e',he',rfl⟩:=List.mem_map.1 he;simpa using hel e' he') (by rw[flat,List.length_map];exact hl) hv (by rw[flat];exact cells _ vs h)
   simpa [wkN]using this
  |lstNil sz a cap=>exact .lstNil _ _ _
  | full sz els b off vs hS hb hel hl hv h=>
   have:=RepP.lst (w:=w) (S:=S) sz (els.map fun el=>el.map (wkN z n)) b off els.length vs hS hb (by simp) (by
    intro e he;obtain⟨e',he',rfl⟩:=List.mem_map.1 he;simpa using hel e' he') (by rw[flat,List.length_map];exact hl) hv (by rw[flat];exact cells _ vs h)
   simpa [wkN]using this
  |iptr cs b off vs hS hb hl hv h=>exact .iptr _ b off vs hS hb (by simpa using hl) hv (cells cs vs h)
  |clo f cs vs hl h=>exact .clo f _ vs hl h
  |bnd f cs vs hl h=>exact .bnd f _ vs hl h
  |ifc t x y h=>exact .ifc t x y h
  |mpc ag kts kvs b hS hb h=>exact .mpc ag kts kvs b hS hb h
  |mayT l x y ht h=>exact .mayT l x y ht h
  |mayF l x hf=>exact .mayF l x hf
theorem PureCall.res {P:Program} {f:FuncId} {args:List AV} {res res':AV} (h:PureCall P f args res) (hr:∀(w:World) (S:Nat→Prop) (y:Value),RepP w S res y→RepP w S res' y):PureCall P f args res':=by
 rcases h with⟨h1,h2⟩|h2
 ·exact Or.inl ⟨h1,fun S0 w vs a b c=>(h2 S0 w vs a b c).mono fun e w' ⟨v,q1,q2,q3⟩=>⟨v,q1,hr _ _ _ q2,q3⟩⟩
 ·exact Or.inr fun S0 w vs a b=>by
   obtain⟨v,q1,q2⟩:=h2 S0 w vs a b;exact⟨v,q1,hr _ _ _ q2⟩
end Go.AM
end
section
namespace Go.AM
def fr (ro:Option Nat):Fence:={Fence.wide with round:=ro}
theorem fr_depth {ro:Option Nat} {p:Prop}:(fr ro).depth.isSome=true→p:=by intro h;simp[fr,Fence.wide]at h
theorem callsIn_fr {ro:Option Nat} {n:Nat} {P:Program} {f:FuncId} {args:Array Value} {w:World} {R:Ending→World→Prop}:CallsIn (fr ro) n P f args w R↔Calls P f args w R:=callsIn_wide (n:=n)
theorem rowsIn_fr {ro:Option Nat} {n:Nat} {P:Program} {row:String} {args:Array Value} {w:World} {R:Value→World→Prop} (h:Rows P row args w R):RowsIn (fr ro) n P row args w R:=
 fun c cs _=>let ⟨v,w',r,s⟩:=h c cs;⟨v,w',r,(stepsIn_wide (P:=P)).2 s⟩
def noDefer (o:Oper):Bool:=match o.op with| .defer _=>false|_=>true
theorem noDefer_spec {o:Oper} (h:noDefer o=true):∀c,o.op≠ .defer c:=by intro c e;simp[noDefer,e]at h
theorem wpIn_of_op {ro:Option Nat} {n:Nat} {P:Program} {o:Oper} {a:Act} {w:World} {K:Act→World→Prop} {Q:Exit→Act→World→Prop} (hd:noDefer o=true) (h:o.wp P a w K Q):o.wpIn (fr ro) n P a w K Q:=by
 refine⟨fun _ _=>trivial,?_⟩;rw[Oper.semAt_eq _ _ _ (noDefer_spec hd)];unfold Oper.wp at h;generalize (execOp a.eval o).run P w=r at h ⊢
 cases r with
 |ok x w'=>
  cases x with
  |value v=>exact h
  |skip=>exact h
  |defer d=>exact h
  |enter f args=>exact⟨fr_depth,callsIn_fr.2 (Calls.mono h (fun e w'' hh=>by cases e<;>exact hh))⟩
  |row r args=>exact⟨fr_depth,rowsIn_fr h⟩
  |_=>exact h.elim
 |halt x w'=>cases x<;>first|exact h|exact h.elim
structure Jt:Type where
 make::
 rel:AV→(Nat→Prop)→(Nat→Prop)→World→Prop
 mark:Nat→Prop
 base:List Deferred:=[]
def JOk (J:Jt):Prop:=∀y S0 O O' A A',J.rel y S0 O A→(∀b,S0 b→b<A.heap.size)→(∀b,O b→b<A.heap.size∧¬S0 b)→Ext O A A'→(∀b,O' b→b<A'.heap.size∧(O b∨A.heap.size≤b))→J.rel y S0 O' A'
def markOf (D:Nat):Deferred:={target:= .collected D,args:= #[]}
def Marks (J:Jt) (ds:List Deferred) (S0:Nat→Prop) (w:World):Prop:=
 ∃Ds:List Nat,ds=Ds.map markOf++J.base∧Ds.Nodup∧∀D∈Ds,S0 D∧J.mark D∧w.heap[D]?=some (.deferred (some []))
def bare (a:Act):Act:={a with defers:=[]}
structure SG (J:Jt) (nt:Nat) (kp:List Nat) (kv:Nat→Value) (T:Tm) (H:Hp) (a:Act) (w:World):Prop where
 ex:∃S0 ρ L,Core anyB S0 nt w ρ L (look T) (hget H) (bare a)∧(∀r,L r→r<H.length)∧J.rel (look T 999999) S0 (own ρ) w∧Marks J a.defers S0 w
 keep:∀t∈kp,a.tmps.getD t undef=kv t
theorem Core.owned {B S0:Nat→Prop} {nt:Nat} {w:World} {ρ:Nat→Option Loc} {L:Nat→Prop} {T:Nat→AV} {H:Nat→Option ARow} {a:Act} (hc:Core B S0 nt w ρ L T H a):∀b,own ρ b→b<w.heap.size∧¬S0 b:=by
 rintro b ⟨r,l,h1,h2⟩;exact⟨(hc.wf.own r l b h1 h2).1,(hc.wf.own r l b h1 h2).2.1⟩
theorem Core.inB {B B' S0:Nat→Prop} {nt:Nat} {w:World} {ρ:Nat→Option Loc} {L:Nat→Prop} {T:Nat→AV} {H:Nat→Option ARow} {a:Act} (hc:Core B S0 nt w ρ L T H a) (h1:∀b,own ρ b→B' b) (h2:∀b,w.heap.size≤b→B' b):Core B' S0 nt w ρ L T H a:=
 ⟨⟨hc.wf.inj,fun r l b k1 k2=>⟨(hc.wf.own r l b k1 k2).1,(hc.wf.own r l b k1 k2).2.1,h1 b ⟨r,l,k1,k2⟩⟩,hc.wf.given,hc.wf.low,h2⟩,hc.size,hc.defers,hc.tmps,hc.rows,hc.dead⟩
theorem Core.foreign {S0 S0':Nat→Prop} {nt:Nat} {w w':World} {ρ:Nat→Option Loc} {L:Nat→Prop} {T:Nat→AV} {H:Nat→Option ARow} {a:Act} (hc:Core anyB S0 nt w ρ L T H a) (hs:w.heap.size≤w'.heap.size)
  (hsame:∀b,b<w.heap.size→¬S0 b→w'.heap[b]?=w.heap[b]?) (hS:∀b,S0' b→b<w'.heap.size∧(S0 b∨w.heap.size≤b)):Core anyB S0' nt w' ρ L T H a:=by
 have hb:∀b,b<w.heap.size→¬Sx S0 ρ b→w'.heap[b]?=w.heap[b]?∧¬Sx S0' ρ b:=by
  intro b hlt hn;refine⟨hsame b hlt (fun h=>hn (Or.inl h)),?_⟩;rintro(h|h)
  ·rcases(hS b h).2 with h'|h'
   ·exact hn (Or.inl h')
   ·omega
  ·exact hn (Or.inr h)
 have hown:=hc.owned;refine⟨⟨hc.wf.inj,fun r l b k1 k2=>?_,hc.wf.given,fun b h=>(hS b h).1,fun _ _=>trivial⟩,hc.size,hc.defers,fun t=>(hc.tmps t).ext hs hb (fun r h=>h) (fun r l _ h=>h),fun r row hr=>?_,hc.dead⟩
 ·obtain⟨k3,k4⟩:=hown b ⟨r,l,k1,k2⟩;refine⟨Nat.lt_of_lt_of_le k3 hs,fun h=>?_,trivial⟩
  rcases(hS b h).2 with h'|h'
  ·exact k4 h'
  ·omega
 ·obtain⟨l,hl,hrow⟩:=hc.rows r row hr;refine⟨l,hl,hrow.ext hs hb (fun r h=>h) (fun r l _ h=>h) (fun b hb'=>?_)⟩;obtain⟨k3,k4⟩:=hown b ⟨r,l,hl,hb'⟩;exact hsame b k3 k4
theorem Core.sub {S0:Nat→Prop} {nt:Nat} {w:World} {ρ:Nat→Option Loc} {L:Nat→Prop} {T T':Tm} {H H':Hp} {a:Act} (hc:Core anyB S0 nt w ρ L (look T) (hget H) a) (hL:∀r,L r→r<H.length) (h:Sub nt T H T' H'):
  ∃ρ' L',Core anyB S0 nt w ρ' L' (look T') (hget H') a∧(∀r,L' r→r<H'.length)∧∀b,own ρ' b→own ρ b:=by
 obtain⟨⟨ρ',L',hc',hL'⟩,_⟩:=h w (fun b=>own ρ b∨w.heap.size≤b) S0 a w ⟨⟨ρ,L,hc.inB (fun b=>Or.inl) (fun b=>Or.inr),hL⟩,Ext.refl _ _⟩;refine⟨ρ',L',hc'.inB (fun _ _=>trivial) (fun _ _=>trivial),hL',?_⟩;rintro b ⟨r,l,h1,h2⟩;obtain⟨h3,_,h4⟩:=hc'.wf.own r l b h1 h2
 rcases h4 with h4|h4
 ·exact h4
 ·omega
def GSub (nt:Nat) (T:Tm) (H:Hp) (T':Tm) (H':Hp):Prop:=Sub nt T H T' H'∧look T' 999999=look T 999999
theorem SG.sub {J:Jt} (hJ:JOk J) {nt:Nat} {kp:List Nat} {kv:Nat→Value} {T T':Tm} {H H':Hp} {a:Act} {w:World} (hs:SG J nt kp kv T H a w) (h:GSub nt T H T' H'):SG J nt kp kv T' H' a w:=by
 obtain⟨⟨S0,ρ,L,hc,hL,hj,hm⟩,hk⟩:=hs;obtain⟨ρ',L',hc',hL',ho⟩:=hc.sub hL h.1;refine⟨⟨S0,ρ',L',hc',hL',?_,hm⟩,hk⟩;rw[h.2];exact hJ _ _ _ _ _ _ hj hc.wf.low hc.owned (Ext.refl _ _) (fun b hb=>⟨(hc'.owned b hb).1,Or.inl (ho b hb)⟩)
def keepOk (kp:List Nat) (dsts:List (Option Tmp)):Bool:=dsts.all fun d=>match d with|none=>true|some d=> !kp.contains d
theorem keepOk_spec {kp:List Nat} {dsts:List (Option Tmp)} (h:keepOk kp dsts=true) {d:Tmp} (hd:some d∈dsts):∀t∈kp,d≠t:=by
 intro t ht e;subst e;simp only[keepOk,List.all_eq_true]at h;have:=h _ hd;simp only[Bool.not_eq_true',List.contains_eq_mem,decide_eq_false_iff_not]at this;exact this ht
theorem SG.post {J:Jt} (hJ:JOk J) {nt:Nat} {kp:List Nat} {kv:Nat→Value} {T:Tm} {H:Hp} {a:Act} {w:World} {S0:Nat→Prop} {ρ:Nat→Option Loc} {L:Nat→Prop} (hc:Core anyB S0 nt w ρ L (look T) (hget H) (bare a)) (hL:∀r,L r→r<H.length) (hj:J.rel (look T 999999) S0 (own ρ) w) (hm:Marks J a.defers S0 w) (hk:∀t∈kp,a.tmps.getD t undef=kv t)
  (hnt:nt≤999999) {e:Eff} {v:Value} {w':World} {ρ':Nat→Option Loc} {dst:Option Tmp} (hp:Post anyB S0 w ρ L H.length e w' ρ' v)
  (hd:∀d,dst=some d→d<nt) (hkp:∀d,dst=some d→∀t∈kp,d≠t) (hin:upsIn H e.ups) (ho:upsOnce e.ups=true):SG J nt kp kv (putT T dst e.av) (happ H e.ups) (a.put dst v) w':=by
 have hN:NewOk L H.length e:=fun r hr _ h=>Nat.lt_irrefl _ (Nat.lt_of_le_of_lt hr (hL r h));refine⟨⟨S0,ρ',nL L e,?_,?_,?_,?_⟩,?_⟩
 ·have:=hc.step (dst:=dst) (T':=look (putT T dst e.av)) (H':=hget (happ H e.ups)) hN hp hd (fun t=>look_putT T dst e.av t) (fun k=>hget_happ e.ups H hin ho k);have e1:bare (a.put dst v)=(bare a).put dst v:=by cases dst<;>rfl
  rw[e1];exact this
 ·obtain⟨h1,h2⟩:=length_happ e.ups H hin;rintro r (hr|⟨o',hr⟩)
  ·exact Nat.lt_of_lt_of_le (hL r hr) h1
  ·exact h2 r o' hr
 ·have hy:look (putT T dst e.av) 999999=look T 999999:=by
   rw[look_putT,if_neg];intro e';exact absurd (hd 999999 e') (Nat.not_lt.2 hnt)
  rw[hy];refine hJ _ _ _ _ _ _ hj hc.wf.low hc.owned (hp.ext.mono (by rintro b hb ⟨r,l,o',_,h1,h2⟩;exact⟨r,l,h1,h2⟩)) ?_;rintro b ⟨r,l,h1,h2⟩;refine⟨(hp.wf.own r l b h1 h2).1,?_⟩
  rcases hp.only r l h1 with h3|⟨_,_,h3⟩
  ·exact Or.inl ⟨r,l,h3,h2⟩
  ·rcases h3 b h2 with h4|⟨r0,l0,q1,q2⟩
   ·exact Or.inr h4
   ·exact Or.inl ⟨r0,l0,q1,q2⟩
 ·obtain⟨Ds,h1,h2,h3⟩:=hm;have e1:(a.put dst v).defers=a.defers:=by cases dst<;>rfl
  rw[e1];refine⟨Ds,h1,h2,fun D hD=>⟨(h3 D hD).1,(h3 D hD).2.1,?_⟩⟩;rw[hp.ext.block D (hc.wf.low D (h3 D hD).1),(h3 D hD).2.2];rintro⟨r,l,o',_,q1,q2⟩;exact(hc.wf.own r l D q1 q2).2.1 (h3 D hD).1
 ·intro t ht;have hsz:a.tmps.size=nt:=hc.size;rw[getD_put a dst v t (by rw[hsz];exact hd),if_neg (fun e'=>hkp _ e' t ht rfl)];exact hk t ht
theorem SG.step {J:Jt} (hJ:JOk J) {P:Program} {ops:Array Oper} {o:Oper} {nt:Nat} {kp:List Nat} {kv:Nat→Value} {T:Tm} {H:Hp} {a:Act} {w:World} (hs:SG J nt kp kv T H a w) (hnt:nt≤999999) {e:Eff} (hst:StepOk P ops o (look T) (hget H) H.length e)
  (hd:∀d,o.dst=some d→d<nt) (hkp:∀d,o.dst=some d→∀t∈kp,d≠t) (hin:upsIn H e.ups) (ho:upsOnce e.ups=true) {K:Act→World→Prop} {Q:Exit→Act→World→Prop}
  (hK:∀a' w',SG J nt kp kv (putT T o.dst e.av) (happ H e.ups) a' w'→K a' w'):if Region.wanted o (yielded ops a.tmps)then o.wp P a w K Q else K (a.put o.dst undef) w:=by
 obtain⟨⟨S0,ρ,L,hc,hL,hj,hm⟩,hk⟩:=hs;have hN:NewOk L H.length e:=fun r hr _ h=>Nat.lt_irrefl _ (Nat.lt_of_le_of_lt hr (hL r h));exact hst anyB S0 a w ρ L hc.wf hN (fun t _=>hc.tmps t) (fun r _ row hr=>hc.rows r row hr) K Q (fun v w' ρ' hp=>hK _ _ (SG.post hJ hc hL hj hm hk hnt hp hd hkp hin ho))
def GWp (P:Program) (ro:Option Nat) (J:Jt) (nt:Nat) (kp:List Nat) (c:Code) (T:Tm) (H:Hp) (Q:Exit→Tm→Hp→Prop):Prop:=
 JOk J→∀kv a w,SG J nt kp kv T H a w→c.wpIn (fr ro) 0 P (fun e a' w'=>∃T' H',Q e T' H'∧SG J nt kp kv T' H' a' w') a w
section
variable {P:Program} {ro:Option Nat} {J:Jt} {nt:Nat} {kp:List Nat} {T:Tm} {H:Hp} {Q:Exit→Tm→Hp→Prop}
theorem gwp_mono {c:Code} {Q':Exit→Tm→Hp→Prop} (h:GWp P ro J nt kp c T H Q) (hq:∀e T H,Q e T H→Q' e T H):GWp P ro J nt kp c T H Q':=
 fun hJ kv a w hs=>wpIn_mono (h hJ kv a w hs) fun e a' w' ⟨T',H',q,s⟩=>⟨T',H',hq _ _ _ q,s⟩
theorem gwp_weak {c:Code} {T':Tm} {H':Hp} (hs:GSub nt T H T' H') (h:GWp P ro J nt kp c T' H' Q):GWp P ro J nt kp c T H Q:=
 fun hJ kv a w s=>h hJ kv a w (s.sub hJ hs)
theorem gwp_skip (h:Q .normal T H):GWp P ro J nt kp .skip T H Q:=fun hJ kv a w hs=>wpIn_skip ⟨T,H,h,hs⟩
theorem gwp_ret (h:Q .ret T H):GWp P ro J nt kp .ret T H Q:=fun hJ kv a w hs=>wpIn_ret ⟨T,H,h,hs⟩
theorem gwp_exit {id:Nat} (h:Q (.exit id) T H):GWp P ro J nt kp (.exit id) T H Q:=fun hJ kv a w hs=>wpIn_exit ⟨T,H,h,hs⟩
theorem gwp_seq {x y:Code} (h:GWp P ro J nt kp x T H (thenA (fun T' H'=>GWp P ro J nt kp y T' H' Q) Q)):GWp P ro J nt kp (.seq x y) T H Q:=by
 intro hJ kv a w hs;refine wpIn_seq (wpIn_mono (h hJ kv a w hs) ?_);rintro e a' w' ⟨T',H',q,s⟩
 cases e with
 |normal=>exact q hJ kv a' w' s
 |exit id=>exact⟨T',H',q,s⟩
 |goto l=>exact⟨T',H',q,s⟩
 |ret=>exact⟨T',H',q,s⟩
 |panic c=>exact⟨T',H',q,s⟩
 |outgrown=>exact⟨T',H',q,s⟩
theorem gwp_seq_k {x y:Code} (h:∀K:Tm→Hp→Prop,(∀T' H',GWp P ro J nt kp y T' H' Q→K T' H')→GWp P ro J nt kp x T H (thenA K Q)):GWp P ro J nt kp (.seq x y) T H Q:=
 gwp_seq (h _ fun _ _ h=>h)
theorem gwp_block {id:Nat} {c:Code} (h:GWp P ro J nt kp c T H (inBlockA id Q)):GWp P ro J nt kp (.block id c) T H Q:=by
 intro hJ kv a w hs;refine wpIn_block (wpIn_mono (h hJ kv a w hs) ?_);rintro e a' w' ⟨T',H',q,s⟩
 cases e with
 |exit k=>
  simp only[inBlockA]at q;simp only[Exit.inBlock]
  split
  ·rename_i e;rw[if_pos e]at q;exact⟨T',H',q,s⟩
  ·rename_i e;rw[if_neg e]at q;exact⟨T',H',q,s⟩
 |normal=>exact⟨T',H',q,s⟩
 |goto l=>exact⟨T',H',q,s⟩
 |ret=>exact⟨T',H',q,s⟩
 |panic c=>exact⟨T',H',q,s⟩
 |outgrown=>exact⟨T',H',q,s⟩
theorem gwp_cond {c:Operand} {x y:Code} {b:Bool} (hc:evT (look T) c= .v (.bool b)) (hx:b=true→GWp P ro J nt kp x T H Q) (hy:b=false→GWp P ro J nt kp y T H Q):GWp P ro J nt kp (.cond c x y) T H Q:=by
 intro hJ kv a w hs;have hv:a.eval c= .bool b:=by
  obtain⟨⟨S0,ρ,L,hc',_⟩,_⟩:=hs
  cases c with
  |tmp t=>
   have:=hc'.tmps t;simp only[evT]at hc;rw[hc]at this;exact exact_v this
  |const v=>
   simp only[evT]at hc;have:=constAV_rep (w:=w) (S:=fun _=>False) v;rw[hc]at this
   cases this
   rfl
  |global g=>simp only[evT]at hc;cases hc
  |func f=>simp only[evT]at hc;cases hc
 exact wpIn_cond_split hv (fun h=>hx h hJ kv a w hs) (fun h=>hy h hJ kv a w hs)
def onlyNormal (R:Act→World→Prop):Exit→Act→World→Prop
 | .normal=>R
 |_=>fun _ _=>False
theorem vcOps_soundG (hJ:JOk J) (hnt:nt≤999999) {ops:Array Oper} {dsts:List (Option Tmp)} (hd:∀j:Nat,dsts[j]?=(ops[j]?).map (·.dst)) (hkp:keepOk kp dsts=true) {kv:Nat→Value} {QQ:Exit→Act→World→Prop} {K:Tm→Hp→Prop}
  (hK:∀T H a w,K T H→SG J nt kp kv T H a w→QQ .normal a w):∀(l:List Oper) (hl:∀o∈l,noDefer o=true∧o.dst∈dsts) (T:Tm) (H:Hp) (a:Act) (w:World),vcOps P nt dsts l T H K→SG J nt kp kv T H a w→wpListIn (fr ro) 0 P ops QQ l a w
 |[],_,T,H,a,w,h,hs=>hK T H a w h hs
 | o::rest,hl,T,H,a,w,h,hs=>by
  obtain⟨e,hst,h1,h2,h3,h4⟩:=vcGuard_sound hd h (fun _=>trivial);have:=hs.step (K:=wpListIn (fr ro) 0 P ops QQ rest) (Q:=QQ) hJ hnt hst (fun d hd=>by rw[hd]at h1;exact h1) (fun d hd'=>keepOk_spec hkp (by rw[←hd'];exact(hl o (by simp)).2)) h2 h3
   (fun a' w' hs'=>vcOps_soundG hJ hnt hd hkp hK rest (fun o ho=>hl o (by simp[ho])) _ _ a' w' h4 hs')
  unfold wpListIn
  split
  ·rename_i hw;rw[if_pos hw]at this;exact wpIn_of_op (hl o (by simp)).1 this
  ·rename_i hw;rw[if_neg hw]at this;exact⟨fun _ _=>trivial,this⟩
theorem gwp_region {id:Nat} {l:List Oper} {dsts:List (Option Tmp)} (hd:l.map (·.dst)=dsts) (hnt:nt≤999999) (hkp:keepOk kp dsts=true) (hnd:l.all noDefer=true) (h:vcOps P nt dsts l T H (Q .normal)):GWp P ro J nt kp (.region id l.toArray false) T H Q:=by
 intro hJ kv a w hs;refine wpIn_region_lit ?_;refine vcOps_soundG hJ hnt (ops:=l.toArray) (dsts:=dsts) (K:=Q .normal) (by intro j;rw[←hd];simp) hkp (fun T H a w q s=>⟨T,H,q,s⟩) l (fun o ho=>⟨List.all_eq_true.1 hnd o ho,by rw[←hd];exact List.mem_map_of_mem ho⟩) T H a w h hs
theorem wpAnyIn_of {ops:Array Oper} {R:Act→World→Prop} (hnd:∀o∈ops.toList,noDefer o=true):∀(fuel:Nat) (listed:Array Bool) (a:Act) (w:World),wpAny P .any ops (onlyNormal R) fuel listed a w→wpAnyIn (fr ro) 0 P .any ops (onlyNormal R) fuel listed a w:=by
 intro fuel
 induction fuel with
 |zero=>intro listed a w h;exact h
 | succ fuel ih=>
  intro listed a w h;refine⟨h.1,fun i hi=>?_⟩;have h2:=h.2 i hi;unfold wpOp at h2;unfold wpOpIn
  split
  ·rename_i ho;rw[ho]at h2;exact ih _ _ _ h2
  ·rename_i o ho;rw[ho]at h2;simp only at h2
   split
   ·rename_i hw;rw[if_pos hw]at h2
    rcases h2 with h2|⟨_,⟨_,_,h2⟩⟩
    ·exact wpIn_of_op (hnd o (by have:=Array.mem_of_getElem? ho;simpa using this)) (Oper.wp_mono (fun a w=>ih _ a w) h2)
    ·exact h2.elim
   ·rename_i hw;rw[if_neg hw]at h2;exact⟨fun _ _=>trivial,ih _ _ _ h2⟩
theorem gwp_loop {c:Code} {α:Type} (st:α→Tm×Hp) (inv:α→Prop) (μ:α→Nat) (x0:α) (h0:inv x0) (hs0:GSub nt T H (st x0).1 (st x0).2)
  (round:∀x,inv x→GWp P ro J nt kp c (st x).1 (st x).2 (thenA (fun T' H'=>∃y,inv y∧μ y<μ x∧GSub nt T' H' (st y).1 (st y).2) Q)):GWp P ro J nt kp (.loop c) T H Q:=by
 intro hJ kv a w hs b k cs hro hb hr;have key:∀n x a w,μ x=n→inv x→SG J nt kp kv (st x).1 (st x).2 a w→
   ∃e a' w',(∃T' H',Q e T' H'∧SG J nt kp kv T' H' a' w')∧ArrivesIn (Machine.fenced P (fr ro)) P (lone (b.atR a (.code c:: .inLoop c::k)) cs w) b k cs e a' w':=by
  intro n
  induction n using Nat.strongRecOn with
  | _ n ih=>
   intro x a w hn hI hst;obtain⟨e,a₁,w₁,⟨T1,H1,hq,hst1⟩,harr⟩:=round x hI hJ kv a w hst b (.inLoop c::k) cs hro hb hr
   cases e with
   |normal=>
    obtain⟨y,hy,hlt,hsub⟩:=hq;obtain⟨e₂,a₂,w₂,hq₂,harr₂⟩:=ih (μ y) (hn▸hlt) y a₁ w₁ rfl hy (hst1.sub hJ hsub);exact⟨e₂,a₂,w₂,hq₂, .of_steps (StepsIn.trans harr (.one (fenced_calm hb hr rfl) stepR_inLoop)) harr₂⟩
   |exit id=>exact⟨_,a₁,w₁,⟨T1,H1,hq,hst1⟩, .pass (x:= .inLoop c) rfl (fun _ _=> .inl (by simp)) harr⟩
   |goto l=>exact⟨_,a₁,w₁,⟨T1,H1,hq,hst1⟩, .pass (x:= .inLoop c) rfl (fun _ _=> .inl (by simp)) harr⟩
   |ret=>exact⟨_,a₁,w₁,⟨T1,H1,hq,hst1⟩, .pass (x:= .inLoop c) rfl (fun _ _=> .inl (by simp)) harr⟩
   |panic ch=>exact⟨_,a₁,w₁,⟨T1,H1,hq,hst1⟩, .pass (x:= .inLoop c) rfl (fun _ _=> .inl (by simp)) harr⟩
   |outgrown=>exact⟨_,a₁,w₁,⟨T1,H1,hq,hst1⟩, .pass (x:= .inLoop c) rfl (fun _ _=> .inl (by simp)) harr⟩
 obtain⟨e,a',w',hq,harr⟩:=key _ x0 a w rfl h0 (hs.sub hJ hs0);exact⟨e,a',w',hq, .of_steps (.one (fenced_calm hb hr rfl) stepR_loop) harr⟩
end
end Go.AM
namespace Go.AM
theorem bare_put (a:Act) (d:Option Tmp) (v:Value):bare (a.put d v)=(bare a).put d v:=by cases d<;>rfl
theorem put_defers (a:Act) (d:Option Tmp) (v:Value):(a.put d v).defers=a.defers:=by cases d<;>rfl
theorem put_other (a:Act) (d:Option Tmp) (v:Value) (t:Nat) (h:d≠some t):(a.put d v).tmps.getD t undef=a.tmps.getD t undef:=by
 cases d with
 |none=>rfl
 |some d=>simp only[Act.put,Array.getD_eq_getD_getElem?];rw[Array.getElem?_setIfInBounds_ne (fun e=>h (by rw[e]))]
theorem post_rest {J:Jt} (hJ:JOk J) {S0:Nat→Prop} {nt:Nat} {w:World} {ρ:Nat→Option Loc} {L:Nat→Prop} {T:Nat→AV} {H:Nat→Option ARow} {a:Act} (hc:Core anyB S0 nt w ρ L T H (bare a)) {y:AV} (hj:J.rel y S0 (own ρ) w) (hm:Marks J a.defers S0 w)
  {N:Nat} {e:Eff} {w':World} {ρ':Nat→Option Loc} {v:Value} (hp:Post anyB S0 w ρ L N e w' ρ' v):J.rel y S0 (own ρ') w'∧Marks J a.defers S0 w':=by
 constructor
 ·refine hJ _ _ _ _ _ _ hj hc.wf.low hc.owned (hp.ext.mono (by rintro b hb ⟨r,l,o',_,h1,h2⟩;exact⟨r,l,h1,h2⟩)) ?_;rintro b ⟨r,l,h1,h2⟩;refine⟨(hp.wf.own r l b h1 h2).1,?_⟩
  rcases hp.only r l h1 with h3|⟨_,_,h3⟩
  ·exact Or.inl ⟨r,l,h3,h2⟩
  ·rcases h3 b h2 with h4|⟨r0,l0,q1,q2⟩
   ·exact Or.inr h4
   ·exact Or.inl ⟨r0,l0,q1,q2⟩
 ·obtain⟨Ds,h1,h2,h3⟩:=hm;refine⟨Ds,h1,h2,fun D hD=>⟨(h3 D hD).1,(h3 D hD).2.1,?_⟩⟩;rw[hp.ext.block D (hc.wf.low D (h3 D hD).1),(h3 D hD).2.2];rintro⟨r,l,o',_,q1,q2⟩;exact(hc.wf.own r l D q1 q2).2.1 (h3 D hD).1
theorem Core.stepb {S0:Nat→Prop} {nt:Nat} {w:World} {ρ:Nat→Option Loc} {L:Nat→Prop} {T T':Nat→AV} {H H':Nat→Option ARow} {a:Act} (hc:Core anyB S0 nt w ρ L T H (bare a)) {N:Nat} {e:Eff} {w':World} {ρ':Nat→Option Loc} {v:Value} {dst:Option Tmp}
  (hN:NewOk L N e) (hp:Post anyB S0 w ρ L N e w' ρ' v) (hd:∀k,dst=some k→k<nt)
  (hT:∀t,T' t=if dst=some t then e.av else T t) (hH:∀k,(∀o,(k,o)∈e.ups→H' k=o)∧((∀o,(k,o)∉e.ups)→H' k=H k)):
  Core anyB S0 nt w' ρ' (nL L e) T' H' (bare (a.put dst v)):=by
 rw[bare_put];exact hc.step hN hp hd hT hH
theorem wpIn_monoQ {F:Fence} {n:Nat} {P:Program} {o:Oper} {a:Act} {w:World} {K:Act→World→Prop} {Q Q':Exit→Act→World→Prop} (hq:∀e a w,Q e a w→Q' e a w) (h:o.wpIn F n P a w K Q):o.wpIn F n P a w K Q':=by
 refine⟨h.1,?_⟩;have h:=h.2;generalize (o.semAt F.round a.eval).run P w=r at h ⊢
 cases r with
 |ok x w'=>
  cases x with
  |enter f args=>exact⟨h.1,h.2.mono fun e w'' hh=>by cases e<;>first|exact hh|exact hq _ _ _ hh|(obtain⟨a,w,hh⟩:=hh;exact⟨a,w,hq _ _ _ hh⟩)⟩
  |round l f t asq bd=>exact⟨h.1,h.2.mono fun e w'' hh=>by cases e<;>first|exact hh|exact hq _ _ _ hh|(obtain⟨a,w,hh⟩:=hh;exact⟨a,w,hq _ _ _ hh⟩)⟩
  |_=>exact h
 |halt x w'=>cases x<;>first|exact hq _ _ _ h|exact h
theorem wpAnyIn_monoQ {F:Fence} {n:Nat} {P:Program} {ops:Array Oper} {Q Q':Exit→Act→World→Prop} (hq:∀e a w,Q e a w→Q' e a w):∀(fuel:Nat) (listed:Array Bool) (a:Act) (w:World),wpAnyIn F n P .any ops Q fuel listed a w→wpAnyIn F n P .any ops Q' fuel listed a w:=by
 intro fuel
 induction fuel with
 |zero=>intro listed a w h;exact⟨h.1,hq _ _ _ h.2⟩
 | succ fuel ih=>
  intro listed a w h;refine⟨fun e=>hq _ _ _ (h.1 e),fun i hi=>?_⟩;have h2:=h.2 i hi;unfold wpOpIn at h2 ⊢
  split
  ·rename_i ho;rw[ho]at h2;exact ih _ _ _ h2
  ·rename_i o ho;rw[ho]at h2;simp only at h2
   split
   ·rename_i hw;rw[if_pos hw]at h2;exact wpIn_monoQ hq (Oper.wpIn_mono (fun a w=>ih _ a w) h2)
   ·rename_i hw;rw[if_neg hw]at h2;exact⟨h2.1,ih _ _ _ h2.2⟩
section
variable {P:Program} {nt:Nat} {dsts:List (Option Tmp)} {l:List Oper} {Ts:Nat→Tm} {Hs:Nat→Hp} {es:Nat→Eff} {J:Jt} {ro:Option Nat} {kp:List Nat}
theorem draw_soundG (hJ:JOk J) (hnt:nt≤999999) {kp:List Nat} (hkp:keepOk kp dsts=true) {kv:Nat→Value} (hlex:Lex P nt l.toArray dsts l Ts Hs es) (hdst:l.map (·.dst)=dsts)
    (hB:drawB l (l.zipIdx.map fun(p:Oper×Nat)=>trOf dsts p.1 (es p.2))=true) {Q:Exit→Act→World→Prop}
    (hQ:∀a w,SG J nt kp kv (Ts l.length) (Hs l.length) a w→Q .normal a w) {a:Act} {w:World} (hs:SG J nt kp kv (Ts 0) (Hs 0) a w):
    wpAny P .any l.toArray Q l.toArray.size (Array.replicate l.toArray.size false) a w:=by
  have hy:∀k,k≤l.length→look (Ts k) 999999=look (Ts 0) 999999:=by
    intro k
    induction k with
    |zero=>intro _;rfl
    | succ k ih=>
      intro hk
      obtain⟨_,hdk,_,_,hts,_⟩:=hlex.ok k _ (List.getElem?_eq_getElem (by omega))
      rw[hts,look_putT,if_neg,ih (by omega)]
      intro e'
      rw[e']at hdk
      exact absurd hdk (Nat.not_lt.2 hnt)
  have hmem:∀(i:Nat) o,l[i]?=some o→∀d,o.dst=some d→∀t∈kp,d≠t:=by
    intro i o ho d hd
    refine keepOk_spec hkp ?_
    rw[←hdst,←hd]
    exact List.mem_map_of_mem (List.mem_of_getElem? ho)
  obtain⟨hback,hconf⟩:=Bool.and_eq_true_iff.1 hB
  simp only[List.all_eq_true,List.mem_range]at hconf
  have htr:∀(k:Nat) o,l[k]?=some o→((l.zipIdx.map fun(p:Oper×Nat)=>trOf dsts p.1 (es p.2)).getD k ([],[]))=trOf dsts o (es k):=by
    intro k o hk
    rw[List.getD_eq_getElem?_getD,List.getElem?_map,List.getElem?_zipIdx,hk]
    simp
  have hord:∀(j k:Nat) oj ok,j<k→l[j]?=some oj→l[k]?=some ok→(∃x,(x∈(trOf dsts oj (es j)).2∧x∈(trOf dsts ok (es k)).1)∨(x∈(trOf dsts ok (es k)).2∧x∈(trOf dsts oj (es j)).1))→
      ∀D,Down l.toArray D→D k=true→D j=true:=by
    intro j k oj ok hjk hj hk hx D hD hDk
    have hkl:k<l.length:=(List.getElem?_eq_some_iff.1 hk).1
    have h1:=hconf k hkl j hjk
    rw[htr j oj hj,htr k ok hk]at h1
    have hc:confl (trOf dsts oj (es j)) (trOf dsts ok (es k))=true:=by
      simp only[confl,Bool.or_eq_true,List.any_eq_true,List.contains_iff_mem]
      obtain⟨x,hx|hx⟩:=hx
      · exact Or.inl ⟨x,hx.1,hx.2⟩
      · exact Or.inr ⟨x,hx.1,hx.2⟩
    rw[hc]at h1
    simp only[Bool.not_true,Bool.false_or]at h1
    exact clos_spec hD l [] (by simp) (by simp) k j hDk h1
  have hlen : ∀i j,i≤j→j≤l.length→(Hs i).length≤(Hs j).length:=by
    intro i j hij
    induction j with
    | zero => intro _;have:i=0:=by omega
              subst this;exact Nat.le_refl _
    | succ j ih=>
      intro hj
      by_cases e:i=j+1
      · subst e;exact Nat.le_refl _
      · have hjl:j<l.length:=by omega
        obtain⟨_,_,hin,_,_,hh⟩:=hlex.ok j _ (List.getElem?_eq_getElem hjl)
        rw[hh]
        exact Nat.le_trans (ih (by omega) (by omega)) (length_happ _ _ hin).1
  have hupl:∀k r o,k<l.length→(r,o)∈(es k).ups→r<(Hs (k+1)).length:=by
    intro k r o hk hm
    obtain⟨_,_,hin,_,_,hh⟩:=hlex.ok k _ (List.getElem?_eq_getElem hk)
    rw[hh]
    exact(length_happ _ _ hin).2 r o hm
  let vS:(Nat→Bool)→Nat→AV:=fun D t=>lastv D (wS l t) (fun k=>look (Ts k) t) l.length
  let vR:(Nat→Bool)→Nat→Option ARow:=fun D r=>lastv D (wR es r) (fun k=>hget (Hs k) r) l.length
  have keepS:∀t k,k<l.length→wS l t k=false→look (Ts (k+1)) t=look (Ts k) t:=by
    intro t k hk hw
    have ho:=List.getElem?_eq_getElem hk
    obtain⟨_,_,_,_,ht,_⟩:=hlex.ok k _ ho
    rw[ht,look_putT,if_neg]
    intro e
    rw[(wS_iff ho).2 e]at hw
    cases hw
  have keepR:∀r k,k<l.length→wR es r k=false→hget (Hs (k+1)) r=hget (Hs k) r:=by
    intro r k hk hw
    obtain⟨_,_,hin,hon,_,hh⟩:=hlex.ok k _ (List.getElem?_eq_getElem hk)
    rw[hh]
    refine(hget_happ _ _ hin hon r).2 (fun o hm=>?_)
    rw[wR_iff.2 ⟨o,hm⟩]at hw
    cases hw
  let Inv:(Nat→Bool)→Act→World→Prop:=fun D a w=>(∃S0 ρ L,Core anyB S0 nt w ρ L (vS D) (vR D) (bare a)∧(∀r,L r→r<(Hs 0).length∨∃k,k<l.length∧D k=true∧wR es r k=true)∧J.rel (look (Ts 0) 999999) S0 (own ρ) w∧Marks J a.defers S0 w)∧∀t∈kp,a.tmps.getD t undef=kv t
  have step :∀(D:Nat→Bool) (i:Nat) (o:Oper) (a:Act) (w:World) (K:Act→World→Prop),Down l.toArray D→Down l.toArray (fun k=>D k||k==i)→l[i]?=some o→D i=false→Inv D a w→
      (∀a' w',Inv (fun k=>D k||k==i) a' w'→K a' w')→if Region.wanted o (yielded l.toArray a.tmps)then o.wp P a w K Q else K (a.put o.dst undef) w:=by
    intro D i o a w K hD hD' ho hDi hinv hK
    obtain⟨⟨S0,ρ,L,hc,hL,hj,hmk⟩,hkeep⟩:=hinv
    have hil:i<l.length:=(List.getElem?_eq_some_iff.1 ho).1
    obtain⟨hst,hdk,hin,hon,hts,hhs⟩:=hlex.ok i o ho
    have ordS:∀t,2*t∈(trOf dsts o (es i)).1→∀k,k<l.length→wS l t k=true→(D k=true↔k<i):=by
      intro t ht k hk hw
      have hok:=List.getElem?_eq_getElem hk
      have hwd:=(wS_iff hok).1 hw
      have hmem:2*t∈(trOf dsts l[k] (es k)).2:=by simp[trOf,hwd,dstOf]
      rcases Nat.lt_trichotomy k i with h|h|h
      · have:=hord k i _ o h hok ho ⟨2*t,Or.inl ⟨hmem,ht⟩⟩ _ hD' (by simp)
        simp only[Bool.or_eq_true,beq_iff_eq]at this
        exact⟨fun _=>h,fun _=>this.resolve_right (by omega)⟩
      · subst h;simp[hDi]
      · refine⟨fun hDk=>?_,fun hlt=>by omega⟩
        have:=hord i k o _ h ho hok ⟨2*t,Or.inr ⟨hmem,ht⟩⟩ _ hD hDk
        rw[hDi]at this;cases this
    have ordR:∀r,2*r+1∈(trOf dsts o (es i)).1→∀k,k<l.length→wR es r k=true→(D k=true↔k<i):=by
      intro r hr k hk hw
      have hok:=List.getElem?_eq_getElem hk
      obtain⟨q,hm⟩:=wR_iff.1 hw
      have hmem:2*r+1∈(trOf dsts l[k] (es k)).2:=by simp only[trOf,List.mem_append];exact Or.inr (ups_mem hm)
      rcases Nat.lt_trichotomy k i with h|h|h
      · have:=hord k i _ o h hok ho ⟨2*r+1,Or.inl ⟨hmem,hr⟩⟩ _ hD' (by simp)
        simp only[Bool.or_eq_true,beq_iff_eq]at this
        exact⟨fun _=>h,fun _=>this.resolve_right (by omega)⟩
      · subst h;simp[hDi]
      · refine⟨fun hDk=>?_,fun hlt=>by omega⟩
        have:=hord i k o _ h ho hok ⟨2*r+1,Or.inr ⟨hmem,hr⟩⟩ _ hD hDk
        rw[hDi]at this;cases this
    have hdm:∀t,o.dst=some t→2*t∈(trOf dsts o (es i)).1:=by intro t ht;simp[trOf,ht,dstOf]
    have hum:∀r q,(r,q)∈(es i).ups→2*r+1∈(trOf dsts o (es i)).1:=by
      intro r q hm;simp only[trOf,List.mem_append];exact Or.inr (Or.inr (Or.inr (Or.inr (ups_mem hm))))
    have hrm:∀r,r∈(es i).reads→2*r+1∈(trOf dsts o (es i)).1:=by
      intro r hm;simp only[trOf,List.mem_append];exact Or.inr (Or.inr (Or.inr (Or.inl (reads_mem hm))))
    have hsm:∀t∈o.looksAt l.toArray,2*t∈(trOf dsts o (es i)).1:=by
      intro t ht
      simp only[Oper.looksAt,List.mem_append,List.mem_filterMap]at ht
      simp only[trOf,List.mem_append]
      rcases ht with⟨x,hx,hxt⟩|ht
      · left
        cases x with
        |tmp t'=>simp only[Option.some.injEq]at hxt;subst hxt;exact tmps_mem hx
        |_=>cases hxt
      · right;left
        cases hg:o.guard with
        |none=>rw[hg]at ht;cases ht
        | some g=>
          obtain⟨j,want⟩:=g
          rw[hg]at ht
          simp only[Option.mem_toList]at ht
          simp only[guardOf]
          have:dsts[j]?=some (some t):=by
            rw[←hdst,List.getElem?_map]
            cases hj:l[j]? with
            |none=>simp[hj]at ht
            |some oj=>simp[hj]at ht;simp[ht]
          rw[this];simp
    have vS_at:∀t,2*t∈(trOf dsts o (es i)).1→vS D t=look (Ts i) t:=fun t ht=>lastv_eq l.length i (by omega) (keepS t) (ordS t ht)
    have vR_at:∀r,2*r+1∈(trOf dsts o (es i)).1→vR D r=hget (Hs i) r:=fun r hr=>lastv_eq l.length i (by omega) (keepR r) (ordR r hr)
    have hN:NewOk L (Hs i).length (es i):=by
      rintro r hr ⟨q,hm⟩ hLN
      rcases hL r hLN with h|⟨k,hk,hDk,hw⟩
      · have:=hlen 0 i (by omega) (by omega);omega
      · have hlt:=(ordR _ (hum _ q hm) k hk hw).1 hDk
        obtain⟨q',hm'⟩:=wR_iff.1 hw
        have h1:=hupl k _ q' hk hm'
        have h2:=hlen (k+1) i (by omega) (by omega)
        omega
    have hnew:∀(wr:Nat→Bool),(∀k,k<l.length→wr k=true→(D k=true↔k<i))→∀k,k<l.length→wr k=true→((D k||k==i)=true↔k<i+1):=by
      intro wr h k hk hw
      have:=h k hk hw
      simp only[Bool.or_eq_true,beq_iff_eq,this]
      omega
    refine hst anyB S0 a w ρ L hc.wf hN (fun t ht=>by rw[←vS_at t (hsm t ht)];exact hc.tmps t) (fun r hr row hrow=>hc.rows r row (by rw[vR_at r (hrm r hr)];exact hrow)) K Q (fun v w' ρ' hp=>hK _ _ ⟨⟨S0,ρ',nL L (es i),Core.stepb hc hN hp (fun d hd=>by rw[hd]at hdk;exact hdk) (fun t=>?_) (fun r=>⟨fun q hm=>?_,fun hno=>?_⟩),?_,(post_rest hJ hc hj hmk hp).1,by rw[put_defers];exact(post_rest hJ hc hj hmk hp).2⟩,fun t ht=>by rw[put_other a o.dst v t (fun e'=>hmem i o ho _ e' t ht rfl)];exact hkeep t ht⟩)
    · by_cases e:o.dst=some t
      · rw[if_pos e]
        have:=lastv_eq (D:=fun k=>D k||k==i) (wr:=wS l t) (f:=fun k=>look (Ts k) t) l.length (i+1) (by omega) (keepS t) (hnew _ (ordS t (hdm t e)))
        show lastv _ _ _ _=_
        rw[this,hts,look_putT,if_pos e]
      · rw[if_neg e]
        refine lastv_congr _ (fun k hk hw=>?_)
        have:k≠i:=by rintro rfl;exact e ((wS_iff ho).1 hw)
        simp[this]
    · have:=lastv_eq (D:=fun k=>D k||k==i) (wr:=wR es r) (f:=fun k=>hget (Hs k) r) l.length (i+1) (by omega) (keepR r) (hnew _ (ordR r (hum r q hm)))
      show lastv _ _ _ _=_
      rw[this,hhs]
      exact(hget_happ _ _ hin hon r).1 q hm
    · refine lastv_congr _ (fun k hk hw=>?_)
      have:k≠i:=by rintro rfl;obtain⟨q,hm⟩:=wR_iff.1 hw;exact hno q hm
      simp[this]
    · rintro r (hr|⟨q,hm⟩)
      · rcases hL r hr with h|⟨k,hk,hDk,hw⟩
        · exact Or.inl h
        · exact Or.inr ⟨k,hk,by simp[hDk],hw⟩
      · exact Or.inr ⟨i,hil,by simp,wR_iff.2 ⟨q,hm⟩⟩
  have all : ∀ (fuel:Nat) (listed:Array Bool) (a:Act) (w:World),listed.size=l.length→listed.toList.count false=fuel→Down l.toArray (fun k=>listed.getD k false)→Inv (fun k=>listed.getD k false) a w→
      wpAny P .any l.toArray Q fuel listed a w:=by
    intro fuel
    have done : ∀(listed:Array Bool) (a:Act) (w:World),listed.size=l.length→Down l.toArray (fun k=>listed.getD k false)→Inv (fun k=>listed.getD k false) a w→Region.ready .any l.toArray listed=[]→Q .normal a w:=by
      intro listed a w hsz hD hinv hr
      have hall :∀k,k<l.length→listed.getD k false=true:=by
        intro k
        induction k using Nat.strongRecOn with
        | _ k ih=>
          intro hk
          cases hv:listed.getD k false with
          |true=>rfl
          | false=>
            exfalso
            have hmem:k∈Region.ready .any l.toArray listed:=by
              refine mem_ready.2 ⟨?_,l[k],by simp[hk],fun e he hb=>?_⟩
              · have hk':k<listed.size:=by omega
                simp only[Array.getD_eq_getD_getElem?,Array.getElem?_eq_getElem hk',Option.getD_some]at hv ⊢
                exact hv
              · have:=back_spec l 0 hback k l[k] (List.getElem?_eq_getElem hk) e he hb
                exact ih e.on (by omega) (by omega)
            rw[hr]at hmem;cases hmem
      obtain⟨⟨S0,ρ,L,hc,hL,hj,hmk⟩,hkeep⟩:=hinv
      have eS:vS (fun k=>listed.getD k false)=look (Ts l.length):=by
        funext t
        exact lastv_eq l.length l.length (Nat.le_refl _) (keepS t) (fun k hk _=>⟨fun _=>hk,fun _=>hall k hk⟩)
      have eR:vR (fun k=>listed.getD k false)=hget (Hs l.length):=by
        funext r
        exact lastv_eq l.length l.length (Nat.le_refl _) (keepR r) (fun k hk _=>⟨fun _=>hk,fun _=>hall k hk⟩)
      rw[eS,eR]at hc
      refine hQ a w ⟨⟨S0,ρ,L,hc,fun r hr=>?_,by rw[hy _ (Nat.le_refl _)];exact hj,hmk⟩,hkeep⟩
      rcases hL r hr with h|⟨k,hk,_,hw⟩
      · exact Nat.lt_of_lt_of_le h (hlen 0 _ (by omega) (Nat.le_refl _))
      · obtain⟨q,hm⟩:=wR_iff.1 hw
        exact Nat.lt_of_lt_of_le (hupl k r q hk hm) (hlen _ _ (by omega) (Nat.le_refl _))
    induction fuel with
    | zero=>
      intro listed a w hsz hcount hD hinv
      have hr:Region.ready .any l.toArray listed=[]:=by
        apply List.eq_nil_iff_forall_not_mem.2
        intro k hk
        obtain⟨h1,o,ho,_⟩:=mem_ready.1 hk
        have hkl:k<listed.size:=by rw[hsz];simpa using(Array.getElem?_eq_some_iff.1 ho).1
        simp only[Array.getD_eq_getD_getElem?,Array.getElem?_eq_getElem hkl,Option.getD_some]at h1
        rw[List.count_eq_zero]at hcount
        exact hcount (by rw[←h1];simp)
      exact⟨hr,done listed a w hsz hD hinv hr⟩
    | succ fuel ih=>
      intro listed a w hsz hcount hD hinv
      refine⟨done listed a w hsz hD hinv,fun i hi=>?_⟩
      obtain⟨h1,o,ho,hpre⟩:=mem_ready.1 hi
      have ho':l[i]?=some o:=by simpa using ho
      have hil:i<l.length:=(List.getElem?_eq_some_iff.1 ho').1
      have hils:i<listed.size:=by omega
      have hDi:listed.getD i false=false:=by
        simp only[Array.getD_eq_getD_getElem?,Array.getElem?_eq_getElem hils,Option.getD_some]at h1 ⊢
        exact h1
      have eD:(fun k=>(listed.setIfInBounds i true).getD k false)=fun k=>listed.getD k false||k==i:=by
        funext k
        by_cases e:k=i
        · subst e
          simp[Array.getD_eq_getD_getElem?,Array.getElem?_setIfInBounds_self_of_lt hils]
        · rw[getD_set_ne false (fun h=>e h.symm)]
          simp[e]
      have hD':Down l.toArray (fun k=>listed.getD k false||k==i):=by
        intro k ok hok hk e he hb
        simp only[Bool.or_eq_true,beq_iff_eq]at hk ⊢
        rcases hk with hk|rfl
        · exact Or.inl (hD k ok hok hk e he hb)
        · rw[ho]at hok
          simp only[Option.some.injEq]at hok
          subst hok
          exact Or.inl (hpre e he hb)
      have:=step (fun k=>listed.getD k false) i o a w (wpAny P .any l.toArray Q fuel (listed.setIfInBounds i true)) hD hD' ho' hDi hinv (fun a' w' hinv'=>ih _ a' w' (by simp[hsz]) (by
        rw[Array.toList_setIfInBounds,List.count_set (by simpa using hils),hcount]
        have:listed.toList[i]'(by simpa using hils)=false:=by
          simp only[Array.getD_eq_getD_getElem?,Array.getElem?_eq_getElem hils,Option.getD_some]at hDi
          simpa using hDi
        simp[this]) (by rw[eD];exact hD') (by rw[eD];exact hinv'))
      unfold wpOp
      simp only[ho]
      split
      · rename_i hw;rw[if_pos hw]at this;exact Or.inl this
      · rename_i hw;rw[if_neg hw]at this;exact this
  obtain⟨⟨S0,ρ,L,hc,hL,hj,hmk⟩,hkeep⟩:=hs
  have e0:(fun k=>(Array.replicate l.toArray.size false).getD k false)=fun _=>false:=by
    funext k
    simp only[Array.getD_eq_getD_getElem?,Array.getElem?_replicate]
    split<;>rfl
  refine all _ _ a w (by simp) (by simp) ?_ ?_
  · rw[e0];intro k o _ h;cases h
  · rw[e0]
    refine⟨⟨S0,ρ,L,?_,fun r hr=>Or.inl (hL r hr),hj,hmk⟩,hkeep⟩
    have eS:vS (fun _=>false)=look (Ts 0):=by
      funext t
      exact lastv_eq l.length 0 (by omega) (keepS t) (fun k hk _=>by simp)
    have eR:vR (fun _=>false)=hget (Hs 0):=by
      funext r
      exact lastv_eq l.length 0 (by omega) (keepR r) (fun k hk _=>by simp)
    rw[eS,eR]
    exact hc
theorem SG.draw {kv:Nat→Value} {T:Tm} {H:Hp} {a:Act} {w:World} (hJ:JOk J) (hs:SG J nt kp kv T H a w) (n:Nat):SG J nt kp kv T H a {w with drawn:=n}:=by
 obtain⟨⟨S0,ρ,L,hc,hL,hj,Ds,h1,h2,h3⟩,hk⟩:=hs;exact⟨⟨S0,ρ,L,hc.foreign (Nat.le_refl _) (fun _ _ _=>rfl) (fun b hb=>⟨hc.wf.low b hb,Or.inl hb⟩),hL,hJ _ _ _ _ _ _ hj hc.wf.low hc.owned ((Ext.refl _ w).draw n) (fun b hb=>⟨(hc.owned b hb).1,Or.inl hb⟩),Ds,h1,h2,h3⟩,hk⟩
theorem gwp_draw {id:Nat} {T:Tm} {H:Hp} {Q:Exit→Tm→Hp→Prop} (hm:P.follows .mixedOrders=true) (hd:l.map (·.dst)=dsts) (hnt:nt≤999999) (hkp:keepOk kp dsts=true) (hnd:l.all noDefer=true)
  (h:∀K:Tm→Hp→List Tr→Prop,(∀T' H' tr,drawB l tr=true→Q .normal T' H'→K T' H' tr)→vcOpsD P nt dsts l T H [] K):GWp P ro J nt kp (.region id l.toArray true) T H Q:=by
 intro hJ kv a w hs;have h':=h (fun T' H' tr=>drawB l tr=true∧Q .normal T' H') (fun _ _ _ h1 h2=>⟨h1,h2⟩);have hd':∀j:Nat,dsts[j]?=(l.toArray[j]?).map (·.dst):=by intro j;rw[←hd];simp
 obtain⟨Ts,Hs,es,t0,h0,hlex,hB,hQ⟩:=lex_of hd' l T H [] h';refine wpIn_region_any hm ?_;have:=draw_soundG hJ hnt hkp (kv:=kv) hlex hd (by simpa using hB) (Q:=onlyNormal fun a' w'=>∃T' H',Q .normal T' H'∧SG J nt kp kv T' H' a' w') (fun a w hst=>⟨_,_,hQ,hst⟩) (a:=a) (w:={w with drawn:=w.drawn+1}) (by rw[t0,h0];exact hs.draw hJ _);have h2:=wpAnyIn_of (ro:=ro) (by intro o ho;exact List.all_eq_true.1 hnd o (by simpa using ho)) _ _ _ _ this;exact wpAnyIn_monoQ (fun e a w h=>by cases e<;>first|exact h|exact h.elim) _ _ _ _ h2
end
end Go.AM
namespace Go.AM
def cntV (n:Nat):AV:= .may [false] (.v (.int .i64 n))
def stpV:AV:= .may [false] (.v (.bool false))
@[simp] theorem cntV_inj (a b:Nat):(cntV a=cntV b)↔a=b:=by simp[cntV];omega
theorem cnt_stp (a:Nat):cntV a≠stpV:=by simp[cntV,stpV]
def Grown (S0:Nat→Prop) (w w':World) (b:Nat):Prop:=S0 b∨(w.heap.size≤b∧b<w'.heap.size)
def YSpec (P:Program) (l:Nat) (J:Jt) (xs:List (List AV)):Prop:=
 ∀ n x,xs[n]?=some x→∀(S0 O:Nat→Prop) (W:World) (vs:List Value),J.rel (cntV n) S0 O W→(∀b,S0 b→b<W.heap.size)→(∀b,O b→b<W.heap.size∧¬S0 b)→
  x.length=vs.length→(∀(i:Nat) c y,x[i]?=some c→vs[i]?=some y→RepP W (fun b=>S0 b∨O b) c y)→
  YieldAt Fence.wide 0 P l vs.toArray W fun e W'=>W.heap.size≤W'.heap.size∧(∀b,b<W.heap.size→¬S0 b→W'.heap[b]?=W.heap[b]?)∧
   ((e= .returned (.bool true)∧J.rel (cntV (n+1)) (Grown S0 W W') O W')∨(e= .returned (.bool false)∧J.rel stpV (Grown S0 W W') O W'))
def IterCallW (P:Program) (f:FuncId) (H0:Hp) (caps:List AV) (xs:List (List AV)):Prop:=
 (∀(w:World) (vs:Array Value),(callFunc f vs).run P w= .ok (.enter f vs) w)∧
 ∀ (S0:Nat→Prop) (w:World) (ρ:Nat→Option Loc) (vs:List Value),Held S0 w ρ H0→caps.length=vs.length→(∀(i:Nat) c x,caps[i]?=some c→vs[i]?=some x→RepV w (Sx S0 ρ) ρ (fun r=>r<H0.length) c x)→
  ∀(l:Nat) (J:Jt),JOk J→(∀D,¬J.mark D)→YSpec P l J xs→J.rel (cntV 0) S0 (own ρ) w→
   Calls P f (#[.func (.yield l) #[] #[]]++vs.toArray) w fun e W'=>(∃v,e= .returned v)∧∃S' O',(∀b,S' b→b<W'.heap.size)∧(∀b,O' b→b<W'.heap.size∧¬S' b)∧(J.rel (cntV xs.length) S' O' W'∨J.rel stpV S' O' W')
abbrev IterCall (P:Program) (f:FuncId) (caps:List AV) (xs:List (List AV)):Prop:=IterCallW P f [] caps xs
def guardM (dsts:List (Option Tmp)) (o:Oper) (T:Nat→AV):Option (List Bool):=
 match o.guard with
 |none=>some []
 | some (j,want)=>match dsts[j]? with
  |some (some d)=>match gval (T d)with
   |some (l,b)=>some (l++[glit b want])
   |none=>none
  |_=>none
theorem guardM_spec {ops:Array Oper} {o:Oper} {T:Nat→AV} {dsts:List (Option Tmp)} (hd:∀j:Nat,dsts[j]?=(ops[j]?).map (·.dst)) {m:List Bool} (h:guardM dsts o T=some m) {w:World} {S:Nat→Prop} {ρ:Nat→Option Loc} {L:Nat→Prop} {a:Act}
    (hl:∀t∈o.looksAt ops,RepV w S ρ L (T t) (a.tmps.getD t undef)):Region.wanted o (yielded ops a.tmps)=true↔m.all id=true:=by
  unfold guardM at h
  split at h
  · rename_i hg
    simp only[Option.some.injEq]at h
    subst h
    simp[Region.wanted,hg]
  · rename_i j want hg
    split at h
    · rename_i d hdj
      split at h
      · rename_i l b hgv
        simp only[Option.some.injEq]at h
        subst h
        have hdo:(ops[j]?).bind (·.dst)=some d:=by
          have:=hd j
          rw[hdj]at this
          cases ho:ops[j]? with
          |none=>rw[ho]at this;cases this
          |some oj=>rw[ho]at this;simp only[Option.map_some,Option.some.injEq]at this;simp[this]
        have hrep:=hl d (by
          simp only[Oper.looksAt,List.mem_append]
          right
          rw[hg]
          simp[hdo])
        have hcell : ∀v,a.tmps.getD d undef=v→(∀bb,v= .bool bb→yielded ops a.tmps j=some bb)∧(v=undef→yielded ops a.tmps j=none):=by
          intro v hv
          unfold yielded
          rw[hdo]
          simp only[Option.bind_some]
          cases ht:a.tmps[d]? with
          |none=>simp[Array.getD_eq_getD_getElem?,ht]at hv;subst hv;simp[undef]
          | some u => simp[Array.getD_eq_getD_getElem?,ht]at hv;subst hv;constructor
                      · rintro bb rfl;rfl
                      · rintro rfl;rfl
        simp only[Region.wanted,hg]
        generalize hT:T d=td at hrep hgv
        unfold gval at hgv
        split at hgv
        · simp only[Option.some.injEq,Prod.mk.injEq]at hgv
          obtain⟨rfl,rfl⟩:=hgv
          have:=(hcell _ rfl).1 _ (exact_v hrep)
          rw[this]
          rename_i b'
          cases b'<;>cases want<;>simp[glit]
        · simp only[Option.some.injEq,Prod.mk.injEq]at hgv
          obtain⟨rfl,rfl⟩:=hgv
          rename_i l' b'
          have hcase:(l'.all id=true∧RepV w S ρ L (.v (.bool b')) (a.tmps.getD d undef))∨(l'.all id=false∧a.tmps.getD d undef=undef):=by
            generalize a.tmps.getD d undef=u at hrep
            cases hrep with
            | pure _ _ h=>cases h with
              |mayT _ _ _ ht h=>exact Or.inl ⟨ht, .pure _ _ h⟩
              |mayF _ _ hf=>exact Or.inr ⟨hf,rfl⟩
            |mayT _ _ _ ht h=>exact Or.inl ⟨ht,h⟩
            |mayF _ _ hf=>exact Or.inr ⟨hf,rfl⟩
          rcases hcase with⟨hl',hr⟩|⟨hl',hu⟩
          · have:=(hcell _ rfl).1 _ (exact_v hr)
            rw[this,List.all_append,hl']
            cases b'<;>cases want<;>simp[glit]
          · have:=(hcell _ rfl).2 hu
            rw[this,List.all_append,hl']
            simp
        · cases hgv
      · cases h
    · cases h
def yArgs (o:Oper) (T:Nat→AV):Option (List Operand×Nat×Operand):=
 match o.op with
 | .call c=>match c.callee with
  | .value x=>match (evT T x).strip with
   | .v (.func (.yield l) first caps)=>if first= #[]∧caps= #[]then some (c.args.toList,l,x)else none
   |_=>none
  |_=>none
 |_=>none
def yK (xs:List (List AV)) (n:Nat) (x:List AV) (K1 K2:Prop):Prop:=xs[n]?=some x∧K1∧K2
theorem yK_intro {xs:List (List AV)} {n:Nat} {x:List AV} {K1 K2:Prop} (h:xs[n]?=some x) (h1:K1) (h2:K2):yK xs n x K1 K2:=⟨h,h1,h2⟩
def gOps (P:Program) (l0:Nat) (xs:List (List AV)) (nt:Nat) (dsts:List (Option Tmp)):List Oper→Tm→Hp→(Tm→Hp→Prop)→Prop
 |[],T,H,K=>K T H
 | o ::rest,T,H,K=>match yArgs o (look T)with
  | some (args,l,cx)=>match guardM dsts o (look T),o.dst with
   | some m,some d=>l=l0∧d<nt∧okAll m ((cx::args).map (evT (look T)))∧(args.map fun x=>(evT (look T) x).strip).all (AV.noRef 2)=true∧
     (m.all id=true→∃n,look T 999999=cntV n∧yK xs n (args.map fun x=>(evT (look T) x).strip)
      (gOps P l0 xs nt dsts rest (putT (putT T (some d) (mayw m (.v (.bool true)))) (some 999999) (cntV (n+1))) H K)
      (gOps P l0 xs nt dsts rest (putT (putT T (some d) (mayw m (.v (.bool false)))) (some 999999) stpV) H K))∧
     (m.all id=false→gOps P l0 xs nt dsts rest (putT T (some d) (mayw m (.v (.bool true)))) H K)
   |_,_=>False
  |none=>vcGuard P dsts o (look T) (hget H) H.length (ct (fun e=>dstOk nt o.dst∧upsIn H e.ups∧upsOnce e.ups=true∧gOps P l0 xs nt dsts rest (putT T o.dst e.av) (happ H e.ups) K) ⟨⟩)
theorem Core.put1 {S0:Nat→Prop} {nt:Nat} {w:World} {ρ:Nat→Option Loc} {L:Nat→Prop} {T:Tm} {H:Nat→Option ARow} {a:Act} (hc:Core anyB S0 nt w ρ L (look T) H a) {d:Tmp} (hd:d<nt) {x:AV} {v:Value} (hv:RepV w (Sx S0 ρ) ρ L x v):
  Core anyB S0 nt w ρ L (look (putT T (some d) x)) H (a.put (some d) v):=by
 refine⟨hc.wf,by simp[Act.put,hc.size],hc.defers,fun t=>?_,hc.rows,hc.dead⟩;rw[getD_put a (some d) v t (by rw[hc.size];intro k e;cases e;exact hd),look_putT]
 split
 ·exact hv
 ·exact hc.tmps t
theorem Core.putY {S0:Nat→Prop} {nt:Nat} {w:World} {ρ:Nat→Option Loc} {L:Nat→Prop} {T:Tm} {H:Nat→Option ARow} {a:Act} (hc:Core anyB S0 nt w ρ L (look T) H a) (hnt:nt≤999999) (x:AV):
  Core anyB S0 nt w ρ L (look (putT T (some 999999) (.may [false] x))) H a:=by
 refine⟨hc.wf,hc.size,hc.defers,fun t=>?_,hc.rows,hc.dead⟩;rw[look_putT]
 split
 ·rename_i e
  cases e
  have:a.tmps.getD 999999 undef=undef:=by
   rw[Array.getD_eq_getD_getElem?,Array.getElem?_eq_none (by rw[hc.size];exact hnt)];rfl
  rw[this];exact .mayF _ _ rfl
 ·exact hc.tmps t
section
variable {P:Program} {nt:Nat}
theorem run_yieldCall {o:Oper} {c:Call} {x:Operand} {l:Nat} (ho:o.op= .call c) (hcl:c.callee= .value x) (ev:Operand→Value) (hx:ev x= .func (.yield l) #[] #[]) (w:World):
  (execOp ev o).run P w=(Instr.yield l (c.args.map ev)).run P w:=by
 obtain⟨callee,args,ts⟩:=c;subst hcl;simp[execOp,ho,resolve,hx,invoke,go_sem]
theorem eval_repG {w:World} {S:Nat→Prop} {ρ:Nat→Option Loc} {L:Nat→Prop} {T:Nat→AV} {a:Act} (h:∀t,RepV w S ρ L (T t) (a.tmps.getD t undef)) (x:Operand):RepV w S ρ L (evT T x) (a.eval x):=by
 cases x with
 |tmp t=>exact h t
 |const v=>exact .pure _ _ (constAV_rep v)
 |global g=>exact .pure _ _ (.v _)
 |func f=>exact .pure _ _ (.clo f [] [] rfl (by simp))
theorem SG.yielded {J:Jt} (hJ:JOk J) (hmk:∀D,¬J.mark D) (hnt:nt≤999999) {kp:List Nat} {kv:Nat→Value} {T:Tm} {H:Hp} {a:Act} {w w':World} {S0:Nat→Prop} {ρ:Nat→Option Loc} {L:Nat→Prop}
  (hc:Core anyB S0 nt w ρ L (look T) (hget H) (bare a)) (hL:∀r,L r→r<H.length) (hm:Marks J a.defers S0 w) (hk:∀t∈kp,a.tmps.getD t undef=kv t) {d:Tmp} (hd:d<nt) (hkp:∀t∈kp,d≠t)
  (hs:w.heap.size≤w'.heap.size) (hsame:∀b,b<w.heap.size→¬S0 b→w'.heap[b]?=w.heap[b]?) {b:Bool} {m:List Bool} (hmm:m.all id=true) (y:AV) (hj:J.rel (.may [false] y) (Grown S0 w w') (own ρ) w'):
  SG J nt kp kv (putT (putT T (some d) (mayw m (.v (.bool b)))) (some 999999) (.may [false] y)) H (a.put (some d) (.bool b)) w':=by
 have hc1:=hc.foreign (S0':=Grown S0 w w') hs hsame (fun q hq=>by
  rcases hq with hq|hq
  ·exact⟨Nat.lt_of_lt_of_le (hc.wf.low q hq) hs,Or.inl hq⟩
  ·exact⟨hq.2,Or.inr hq.1⟩)
 refine⟨⟨Grown S0 w w',ρ,L,?_,hL,?_,?_⟩,fun t ht=>?_⟩
 ·have:=(hc1.put1 hd (x:=mayw m (.v (.bool b))) (v:= .bool b) (mayw_rep hmm (.pure _ _ (.v _)))).putY hnt y;rw[bare_put];exact this
 ·simp only[putT,look,if_true];exact hj
 ·rw[put_defers];obtain⟨Ds,h1,h2,h3⟩:=hm
  cases Ds with
  |nil=>exact⟨[],h1,h2,by simp⟩
  |cons D Ds=>exact(hmk D (h3 D (by simp)).2.1).elim
 ·rw[put_other a (some d) _ t (fun e=>hkp t ht (Option.some.inj e))];exact hk t ht
theorem gOps_sound {J:Jt} (hJ:JOk J) (hmk:∀D,¬J.mark D) {l0:Nat} {xs:List (List AV)} (hY:YSpec P l0 J xs) (hnt:nt≤999999) {ops:Array Oper} {dsts:List (Option Tmp)} (hd:∀j:Nat,dsts[j]?=(ops[j]?).map (·.dst)) {kp:List Nat} (hkp:keepOk kp dsts=true) {kv:Nat→Value} {QQ:Exit→Act→World→Prop} {K:Tm→Hp→Prop}
  (hK:∀T H a w,K T H→SG J nt kp kv T H a w→QQ .normal a w):∀(l:List Oper) (hl:∀o∈l,noDefer o=true∧o.dst∈dsts) (T:Tm) (H:Hp) (a:Act) (w:World),gOps P l0 xs nt dsts l T H K→SG J nt kp kv T H a w→wpListIn (fr none) 0 P ops QQ l a w
 |[],_,T,H,a,w,h,hs=>hK T H a w h hs
 | o :: rest,hl,T,H,a,w,h,hs=>by
  have ih:∀T H a w,gOps P l0 xs nt dsts rest T H K→SG J nt kp kv T H a w→wpListIn (fr none) 0 P ops QQ rest a w:=fun T H a w h hs=>gOps_sound hJ hmk hY hnt hd hkp hK rest (fun o ho=>hl o (by simp[ho])) T H a w h hs;have hkd:∀d,o.dst=some d→∀t∈kp,d≠t:=fun d hd'=>keepOk_spec hkp (by rw[←hd'];exact(hl o (by simp)).2);unfold gOps at h
  split at h
  ·rename_i args l cx hya
   split at h
   ·rename_i m d hm hdst;obtain⟨hl0,hdn,hok,hnr,hyes,hno⟩:=h;subst hl0;obtain⟨c,hop,hcl,hx,rfl⟩:∃c,o.op= .call c∧c.callee= .value cx∧(evT (look T) cx).strip= .v (.func (.yield l) #[] #[])∧args=c.args.toList:=by
     unfold yArgs at hya
     split at hya
     ·rename_i c hop
      split at hya
      ·rename_i x hcl
       split at hya
       ·rename_i l' first caps hx
        split at hya
        ·rename_i hfc;simp only[Option.some.injEq,Prod.mk.injEq]at hya;obtain⟨rfl,rfl,rfl⟩:=hya;obtain⟨rfl,rfl⟩:=hfc;exact⟨c,hop,hcl,hx,rfl⟩
        ·cases hya
       ·cases hya
      ·cases hya
     ·cases hya
    obtain⟨⟨S0,ρ,L,hc,hL,hj,hmarks⟩,hk⟩:=hs;have hg:=guardM_spec (a:=a) hd hm (fun t _=>hc.tmps t);unfold wpListIn
    split
    ·rename_i hw;have hmm:=hg.1 hw;obtain⟨n,hn,hxn,h1,h2⟩:=hyes hmm;rw[hn]at hj;have hxv:a.eval cx= .func (.yield l) #[] #[]:=by
      have:=strip_rep hmm (okAll_mem hok (List.mem_map_of_mem List.mem_cons_self)) (eval_repG (a:=a) hc.tmps cx);rw[hx]at this;exact exact_v this
     have hreps:∀(i:Nat) cc y,(c.args.toList.map fun x=>(evT (look T) x).strip)[i]?=some cc→(c.args.toList.map a.eval)[i]?=some y→RepP w (fun b=>S0 b∨own ρ b) cc y:=by
      intro i cc y h1 h2;have hcc:=List.mem_of_getElem? h1;simp only[List.getElem?_map,Option.map_eq_some_iff]at h1 h2;obtain⟨z,h1,rfl⟩:=h1;obtain⟨z',h2,rfl⟩:=h2;rw[h1]at h2
      cases h2
      have hr:=strip_rep hmm (okAll_mem hok (List.mem_map_of_mem (List.mem_cons_of_mem _ (List.mem_of_getElem? h1)))) (eval_repG (a:=a) hc.tmps z);exact noRef_rep 2 _ _ (List.all_eq_true.1 hnr _ hcc) hr
     obtain⟨fn,tmps,assign,body,hrun,hround⟩:=hY n _ hxn S0 (own ρ) w (c.args.toList.map a.eval) hj hc.wf.low hc.owned (by simp) hreps;refine⟨fun _ _=>trivial,?_⟩;rw[Oper.semAt_eq _ _ _ (by rw[hop];intro c h;cases h),run_yieldCall hop hcl a.eval hxv w];have e1:(c.args.map a.eval)=(c.args.toList.map a.eval).toArray:=by apply Array.ext';simp
     rw[e1,hrun];refine⟨fr_depth,hround.mono ?_⟩;rintro e w' ⟨hs',hsame,⟨rfl,hj'⟩|⟨rfl,hj'⟩⟩
     ·show wpListIn (fr none) 0 P ops QQ rest (a.put o.dst (.bool true)) w';rw[hdst];exact ih _ _ _ _ h1 (SG.yielded hJ hmk hnt hc hL hmarks hk hdn (hkd d hdst) hs' hsame hmm _ hj')
     ·show wpListIn (fr none) 0 P ops QQ rest (a.put o.dst (.bool false)) w';rw[hdst];exact ih _ _ _ _ h2 (SG.yielded hJ hmk hnt hc hL hmarks hk hdn (hkd d hdst) hs' hsame hmm _ hj')
    ·rename_i hw;have hmm:m.all id=false:=by
      cases hh:m.all id with
      |false=>rfl
      |true=>exact absurd (hg.2 hh) hw
     refine⟨fun _ _=>trivial,?_⟩;rw[hdst];refine ih _ _ _ _ (hno hmm) ⟨⟨S0,ρ,L,?_,hL,?_,by rw[put_defers];exact hmarks⟩,fun t ht=>?_⟩
     ·rw[bare_put];exact hc.put1 hdn (mayw_undef hmm)
     ·rw[look_putT,if_neg]
      ·exact hj
      ·intro e;cases e;exact absurd hdn (Nat.not_lt.2 hnt)
     ·rw[put_other a (some d) _ t (fun e=>hkd d hdst t ht (Option.some.inj e))];exact hk t ht
   ·exact h.elim
  ·obtain⟨e,hst,h1,h2,h3,h4⟩:=vcGuard_sound hd h (fun _=>trivial);have:=hs.step (K:=wpListIn (fr none) 0 P ops QQ rest) (Q:=QQ) hJ hnt hst (fun d hd=>by rw[hd]at h1;exact h1) hkd h2 h3 (fun a' w' hs'=>ih _ _ a' w' h4 hs');unfold wpListIn
   split
   ·rename_i hw;rw[if_pos hw]at this;exact wpIn_of_op (hl o (by simp)).1 this
   ·rename_i hw;rw[if_neg hw]at this;exact⟨fun _ _=>trivial,this⟩
theorem gwp_yields {J:Jt} {kp:List Nat} {T:Tm} {H:Hp} {Q:Exit→Tm→Hp→Prop} (hmk:∀D,¬J.mark D) {l0:Nat} {xs:List (List AV)} (hY:YSpec P l0 J xs) {id:Nat} {l:List Oper} {dsts:List (Option Tmp)} (hd:l.map (·.dst)=dsts) (hnt:nt≤999999) (hkp:keepOk kp dsts=true) (hnd:l.all noDefer=true)
  (h:gOps P l0 xs nt dsts l T H (Q .normal)):GWp P none J nt kp (.region id l.toArray false) T H Q:=by
 intro hJ kv a w hs;refine wpIn_region_lit ?_;exact gOps_sound hJ hmk hY hnt (ops:=l.toArray) (dsts:=dsts) (K:=Q .normal) (by intro j;rw[←hd];simp) hkp (fun T H a w q s=>⟨T,H,q,s⟩) l (fun o ho=>⟨List.all_eq_true.1 hnd o ho,by rw[←hd];exact List.mem_map_of_mem ho⟩) T H a w h hs
def iterQ (xs:List (List AV)):Exit→Tm→Hp→Prop
 | .ret,T,_=>look T 999999=cntV xs.length∨look T 999999=stpV
 | .normal,T,_=>look T 999999=cntV xs.length∨look T 999999=stpV
 |_,_,_=>False
theorem IterCallW.of_body {H0 : Hp} {f : FuncId} {fn : Func} {c : Code} {caps : List AV} {xs : List (List AV)} (hf : P.funcs[f]? = some fn) (hb : fn.body = some c) (hname : (fn.name == "runtime.NumGoroutine") = false) (hnt : caps.length + 1 ≤ fn.ntmps) (hnt' : fn.ntmps ≤ 999999)
  (hres:fn.results.toList=[]) (h:∀(J:Jt) (l:Nat),(∀D,¬J.mark D)→YSpec P l J xs→GWp P none J fn.ntmps [] c (argT 0 (.v (.func (.yield l) #[] #[])::caps)++[(999999,cntV 0)]) H0 (iterQ xs)):IterCallW P f H0 caps xs:=by
 have hn' : ¬ fn.name = "runtime.NumGoroutine" := by simpa using hname
 refine⟨fun w vs=>by simp[callFunc,hf,hn',hb],?_⟩;intro S0 w ρ vs hh hlen hrep l
 suffices key:∀J:Jt,J.base=[]→JOk J→(∀D,¬J.mark D)→YSpec P l J xs→J.rel (cntV 0) S0 (own ρ) w→
   Calls P f (#[.func (.yield l) #[] #[]]++vs.toArray) w fun e W'=>(∃v,e= .returned v)∧∃S' O',(∀b,S' b→b<W'.heap.size)∧(∀b,O' b→b<W'.heap.size∧¬S' b)∧(J.rel (cntV xs.length) S' O' W'∨J.rel stpV S' O' W')from
  fun J hJ hmk hY hj=>key {J with base:=[]} rfl hJ hmk hY hj
 intro J hJb hJ hmk hY hj;refine callsIn_wide.1 (callsIn_of_wp (n:=0) (F:=Fence.wide) hf hb trivial ?_);have hargs: #[Value.func (.yield l) #[] #[]]++vs.toArray=(Value.func (.yield l) #[] #[]::vs).toArray:=by apply Array.ext';simp
 rw[hargs];obtain⟨us,hus⟩:∃us,us=Value.func (.yield l) #[] #[]::vs:=⟨_,rfl⟩;obtain⟨asq,has⟩:∃asq,asq=AV.v (.func (.yield l) #[] #[])::caps:=⟨_,rfl⟩;have hlen':asq.length=us.length:=by rw[hus,has];simp[hlen]
 have hrep':∀(i:Nat) c x,asq[i]?=some c→us[i]?=some x→RepV w (Sx S0 ρ) ρ (fun r=>r<H0.length) c x:=by
  intro i c x h1 h2;rw[has]at h1;rw[hus]at h2
  cases i with
  |zero=>simp only[List.getElem?_cons_zero,Option.some.injEq]at h1 h2;subst h1 h2;exact .pure _ _ (.v _)
  |succ i=>exact hrep i c x (by simpa using h1) (by simpa using h2)
 have hasl:asq.length≤fn.ntmps:=by rw[has];simpa using hnt
 have hgw:=h J l hmk hY;rw[←has]at hgw;rw[←hus];have hsize:us.toArray.size=asq.length:=by simp[hlen']
 have hst:SG J fn.ntmps [] (fun _=>undef) (argT 0 asq++[(999999,cntV 0)]) H0 {tmps:=us.toArray++Array.replicate (fn.ntmps-us.toArray.size) undef,defers:=[]} w:=by
  have hlk:∀t,look (argT 0 asq++[(999999,cntV 0)]) t=if t=999999 then cntV 0 else look (argT 0 asq) t:=by
   have gen:∀(xs:List AV) (k t:Nat),k+xs.length≤999999→look (argT k xs++[(999999,cntV 0)]) t=if t=999999 then cntV 0 else look (argT k xs) t:=by
    intro xs
    induction xs with
    |nil=>intro k t _;simp[argT,look]
    |cons x xs ih=>
     intro k t hk;simp only[argT,List.cons_append,look];simp only[List.length_cons]at hk;rw[ih (k+1) t (by omega)]
     by_cases e:t=k
     ·subst e;rw[if_pos rfl,if_neg (by omega),if_pos rfl]
     ·rw[if_neg e,if_neg e]
   exact fun t=>gen asq 0 t (by omega)
  refine⟨⟨S0,ρ,fun r=>r<H0.length,⟨hh.wf,?_,rfl,?_,hh.rows,hh.dead⟩,fun r hr=>hr,?_,[],by simp[hJb],List.nodup_nil,by simp⟩,by simp⟩
  ·show(us.toArray++Array.replicate (fn.ntmps-us.toArray.size) undef).size=fn.ntmps;rw[Array.size_append,Array.size_replicate,hsize];omega
  ·intro t;rw[hlk]
   split
   ·rename_i e;subst e;have:(us.toArray++Array.replicate (fn.ntmps-us.toArray.size) undef).getD 999999 undef=undef:=by
     rw[Array.getD_eq_getD_getElem?,Array.getElem?_eq_none (by rw[Array.size_append,Array.size_replicate,hsize];omega)];rfl
    show RepV w _ _ _ _ ((us.toArray++Array.replicate (fn.ntmps-us.toArray.size) undef).getD 999999 undef);rw[this];exact .mayF _ _ rfl
   ·rw[look_argT];simp only[Nat.zero_le,if_true,Nat.sub_zero]
    cases hx:asq[t]? with
    |none=>exact .pure _ _ (.any _)
    | some x=>
     have ht:t<asq.length:=(List.getElem?_eq_some_iff.1 hx).1;have ht':t<us.length:=by omega
     have hget:(us.toArray++Array.replicate (fn.ntmps-us.toArray.size) undef).getD t undef=us[t]:=by
      rw[Array.getD_eq_getD_getElem?,Array.getElem?_append_left (by simpa using ht')];simp[ht']
     show RepV w _ _ _ _ ((us.toArray++Array.replicate (fn.ntmps-us.toArray.size) undef).getD t undef);rw[hget];exact hrep' t x _ hx (List.getElem?_eq_getElem ht')
  ·rw[hlk];simp only[if_true];exact hj
 refine wpIn_mono (hgw hJ (fun _=>undef) _ w hst) ?_;rintro e a' w' ⟨T',H',q,⟨⟨S1,ρ1,L1,hc1,hL1,hj1,Ds,hds,_,hDs⟩,_⟩⟩;have hfin:(look T' 999999=cntV xs.length∨look T' 999999=stpV)→a'.defers=[]∧∃v,(results fn a'.tmps).run P w'= .ok v w'∧(∃v',Ending.returned v= .returned v')∧∃S' O',(∀b,S' b→b<w'.heap.size)∧(∀b,O' b→b<w'.heap.size∧¬S' b)∧(J.rel (cntV xs.length) S' O' w'∨J.rel stpV S' O' w'):=by
  intro hq;refine⟨?_, .tuple #[],?_,⟨_,rfl⟩,S1,own ρ1,hc1.wf.low,hc1.owned,?_⟩
  ·cases Ds with
   |nil=>simpa [hJb]using hds
   |cons D Ds=>exact(hmk D (hDs D (by simp)).2.1).elim
  ·have hrs:fn.results= #[]:=by apply Array.ext';simpa using hres
   unfold results;rw[hrs];simp
  ·rcases hq with hq|hq<;>rw[hq]at hj1
   ·exact Or.inl hj1
   ·exact Or.inr hj1
 cases e with
 |ret=>exact hfin q
 |normal=>exact hfin q
 |exit id=>exact q.elim
 |goto l=>exact q.elim
 |panic ch=>exact q.elim
 |outgrown=>exact q.elim
theorem IterCall.of_body {f : FuncId} {fn : Func} {c : Code} {caps : List AV} {xs : List (List AV)} (hf : P.funcs[f]? = some fn) (hb : fn.body = some c) (hname : (fn.name == "runtime.NumGoroutine") = false) (hnt : caps.length + 1 ≤ fn.ntmps) (hnt' : fn.ntmps ≤ 999999)
  (hres:fn.results.toList=[]) (h:∀(J:Jt) (l:Nat),(∀D,¬J.mark D)→YSpec P l J xs→GWp P none J fn.ntmps [] c (argT 0 (.v (.func (.yield l) #[] #[])::caps)++[(999999,cntV 0)]) [] (iterQ xs)):IterCall P f caps xs:=IterCallW.of_body hf hb hname hnt hnt' hres h
end
end Go.AM
namespace Go.AM
open Go.RowKit
def JR (top:Bool) (w0:World) (S0r:Nat→Prop) (hp:Nat→Option Obj) (B0:Nat→Prop):Jt:=
 {rel:=fun _ S0 O w=>(∀b,S0r b→S0 b∧b<w.heap.size∧w.heap[b]?=hp b)∧Ext B0 w0 w∧(∀b,O b→B0 b),mark:=fun D=>top=true∧w0.heap.size≤D}
def JC (top:Bool) (J:Jt):Prop:=∃w0 S0r hp B0,(∀b,w0.heap.size≤b→B0 b)∧(∀b,S0r b→b<w0.heap.size)∧J=JR top w0 S0r hp B0
theorem JR_ok {top:Bool} {w0:World} {S0r:Nat→Prop} {hp:Nat→Option Obj} {B0:Nat→Prop} (hB:∀b,w0.heap.size≤b→B0 b):JOk (JR top w0 S0r hp B0):=by
 rintro y S0 O O' A A' ⟨h1,h2,h3⟩ hlow hown hext hO;refine⟨fun b hb=>?_,h2.trans (hext.mono fun b _ h=>h3 b h),fun b hb=>?_⟩
 ·obtain⟨k1,k2,k3⟩:=h1 b hb;exact⟨k1,Nat.lt_of_lt_of_le k2 hext.size,(hext.block b k2 (fun h=>(hown b h).2 k1)).trans k3⟩
 ·rcases(hO b hb).2 with h|h
  ·exact h3 b h
  ·exact hB b (Nat.le_trans h2.size h)
theorem JC.ok {top:Bool} {J:Jt} (h:JC top J):JOk J:=by obtain⟨w0,S0r,hp,B0,h1,_,rfl⟩:=h;exact JR_ok h1
def roundQ (nt:Nat) (inv:Nat→Prop) (hp:Nat→Hp) (T1:Tm) (Q:Exit→Tm→Hp→Prop) (n:Nat):Exit→Tm→Hp→Prop
 | .normal,T',H'=>inv (n+1)∧Sub nt T' H' T1 (hp (n+1))
 | .ret,T',H'=>∃Hs,Sub nt T' H' T1 Hs∧Q .ret T1 Hs
 | .exit id,T',H'=>∃Hs,Sub nt T' H' T1 Hs∧Q (.exit id) T1 Hs
 |_,_,_=>False
def onlyN (K:Tm→Hp→Prop):Exit→Tm→Hp→Prop
 | .normal=>K
 |_=>fun _ _=>False
theorem foldl_set_size:∀(l:List (Tmp×Value)) (t:Array Value),(l.foldl (fun t (p:Tmp×Value)=>t.setIfInBounds p.1 p.2) t).size=t.size
 |[],t=>rfl
 |(p,v)::l,t=>by simp only[List.foldl_cons];rw[foldl_set_size l];simp
theorem foldl_set_other:∀(l:List (Tmp×Value)) (t:Array Value) (i:Nat),i∉l.map (·.1)→(l.foldl (fun t (p:Tmp×Value)=>t.setIfInBounds p.1 p.2) t).getD i undef=t.getD i undef
 |[],t,i,_=>rfl
 |(p,v)::l,t,i,h=>by
  simp only[List.map_cons,List.mem_cons,not_or]at h;simp only[List.foldl_cons];rw[foldl_set_other l _ i h.2];simp only[Array.getD_eq_getD_getElem?];rw[Array.getElem?_setIfInBounds_ne (fun e=>h.1 e.symm)]
theorem foldl_set_at:∀(l:List (Tmp×Value)) (t:Array Value) (p:Tmp) (v:Value),(l.map (·.1)).Nodup→(p,v)∈l→p<t.size→(l.foldl (fun t (p:Tmp×Value)=>t.setIfInBounds p.1 p.2) t).getD p undef=v
 | (q,u)::l,t,p,v,hn,hm,hp=>by
  simp only[List.map_cons,List.nodup_cons]at hn;simp only[List.foldl_cons]
  rcases List.mem_cons.1 hm with e|hm
  ·cases e
   rw[foldl_set_other l _ q hn.1];simp only[Array.getD_eq_getD_getElem?];rw[Array.getElem?_setIfInBounds_self_of_lt hp];rfl
  ·exact foldl_set_at l _ p v hn.2 hm (by simpa using hp)
theorem look_zip {R:Nat→AV→Prop}:∀(ps:List Tmp) (x:List AV) (T:Tm) (t:Nat),(t∉ps→R t (look T t))→(∀(i:Nat) (p:Tmp) (c:AV),ps[i]?=some p→x[i]?=some c→R p c)→ps.length=x.length→R t (look (ps.zip x++T) t)
 |[],[],T,t,h,_,_=>by simpa using h
 |p::ps,c::x,T,t,h,hx,hl=>by
  simp only[List.zip_cons_cons,List.cons_append,look]
  split
  ·rename_i e;subst e;exact hx 0 t c rfl rfl
  ·rename_i e;exact look_zip ps x T t (fun hn=>h (by simp[e,hn])) (fun i p c h1 h2=>hx (i+1) p c h1 h2) (by simpa using hl)
def rowOk:Option ARow→Bool
 |some (.els _ es)=>es.all (·.all (AV.noRef 2))
 |_=>false
def capOk (k:Nat) (c:AV):Bool:=match c with| .ptr r _ _=>decide (r<k)|c=>c.noRef 2
section
variable {P:Program} {nt:Nat} {kp:List Nat} {T:Tm} {H:Hp} {Q:Exit→Tm→Hp→Prop}
theorem ext_putObj {B:Nat→Prop} {w:World} {l:Nat} {o:Obj} (hB:B l) (hne:∀c t s,w.heap[l]?≠some (Obj.cells c t s)):Ext B w (w.putObj l o):=by
 refine⟨rfl,rfl,rfl,by simp,fun b hb hn=>World.putObj_heap_other (fun e=>hn (by rw[e];exact hB)),fun b c t s hc=>?_⟩
 by_cases e:b=l
 ·subst e;exact absurd hc (hne c t s)
 ·exact⟨c,t,s,(World.putObj_heap_other e).trans hc,rfl⟩
structure Base (W1 w0 w:World) (S0 B0 N:Nat→Prop) (nt:Nat) (T1:Tm) (a:Act) (D l:Nat) (Hx:Hp) (rec:Loop) (Si O:Nat→Prop) (W:World) (Sc:Nat→Prop) (ρc:Nat→Option Loc) (Lc:Nat→Prop):Prop where
 core:Core anyB Sc nt W ρc Lc (look T1) (hget Hx) (bare a)
 len:∀r,Lc r→r<Hx.length
 its:∀b,O b→Sc b∧N b
 mine:∀b,own ρc b→Si b∧B0 b
 foreign:∀b,(S0 b∨b=D∨b=l)→Sc b∧Si b
 within:∀b,Sc b→Si b∨O b
 record:W.heap[l]?=some (.loop rec)
 mark:W.heap[D]?=some (.deferred (some []))
 ext:Ext B0 w0 W
 size:W1.heap.size≤W.heap.size
 old:∀b,S0 b→W.heap[b]?=w.heap[b]?
theorem Base.step {W1 w0 w:World} {S0 B0 N:Nat→Prop} {nt:Nat} {T1:Tm} {a:Act} {D l:Nat} {Hx:Hp} {rec:Loop} {Si O O':Nat→Prop} {A A':World} {Sc:Nat→Prop} {ρc:Nat→Option Loc} {Lc:Nat→Prop} (h:Base W1 w0 w S0 B0 N nt T1 a D l Hx rec Si O A Sc ρc Lc) (hB:∀b,N b→B0 b) (hN:∀b,W1.heap.size≤b→N b)
  (hlow:∀b,Si b→b<A.heap.size) (hown:∀b,O b→b<A.heap.size∧¬Si b) (hext:Ext O A A') (hO:∀b,O' b→b<A'.heap.size∧(O b∨A.heap.size≤b)):
  Base W1 w0 w S0 B0 N nt T1 a D l Hx rec Si O' A' (fun b=>(Sc b∧Si b)∨O' b) ρc Lc:=by
 have hk:∀b,Si b→A'.heap[b]?=A.heap[b]?:=fun b hb=>hext.block b (hlow b hb) (fun k=>(hown b k).2 hb);refine⟨h.core.foreign hext.size (fun b hb hn=>hext.block b hb (fun k=>hn (h.its b k).1)) ?_,h.len,?_,h.mine,?_,?_,?_,?_,?_,Nat.le_trans h.size hext.size,?_⟩
 ·rintro b (⟨h1,_⟩|h1)
  ·exact⟨Nat.lt_of_lt_of_le (h.core.wf.low b h1) hext.size,Or.inl h1⟩
  ·refine⟨(hO b h1).1,?_⟩
   rcases(hO b h1).2 with h2|h2
   ·exact Or.inl (h.its b h2).1
   ·exact Or.inr h2
 ·intro b hb;refine⟨Or.inr hb,?_⟩
  rcases(hO b hb).2 with h2|h2
  ·exact(h.its b h2).2
  ·exact hN b (Nat.le_trans h.size h2)
 ·intro b hb;exact⟨Or.inl (h.foreign b hb),(h.foreign b hb).2⟩
 ·rintro b (⟨_,h1⟩|h1)
  ·exact Or.inl h1
  ·exact Or.inr h1
 ·rw[hk l (h.foreign l (Or.inr (Or.inr rfl))).2];exact h.record
 ·rw[hk D (h.foreign D (Or.inr (Or.inl rfl))).2];exact h.mark
 ·exact h.ext.trans (hext.mono fun b _ hb=>hB b (h.its b hb).2)
 ·intro b hb;rw[hk b (h.foreign b (Or.inl hb)).2];exact h.old b hb
theorem gwp_rangeW {J:Jt} (hJC:JC true J) {H0 rest:Hp} (hH:H=H0++rest) (hr0:H0.all rowOk=true) (T1:Tm) (kl:List Nat) (hp:Nat→Hp) (inv:Nat→Prop) {g:Operand} {ps:Array Tmp} {assign body:Code} {f:FuncId} {caps:List AV} {xs:List (List AV)} (hg:evT (look T) g= .clo f caps) (hnr:caps.all (capOk H0.length)=true) (hic:IterCallW P f H0 caps xs) (hnt:nt≤999999)
  (hps:ps.toList.Nodup) (hpl:∀p∈ps.toList,p<nt∧p∉kl) (hx:∀x∈xs,x.length=ps.size)
  (h0:inv 0) (hs0:Sub nt T (List.replicate H0.length none++rest) T1 (hp 0)) (hT1:∀t,t∉kl→look T1 t= .any)
  (round:∀n x,xs[n]?=some x→inv n→∀(l:Nat) (J1:Jt),JC false J1→GWp P (some l) J1 nt kl assign (ps.toList.zip x++T1) (hp n) (onlyN fun T' H'=>∀J2:Jt,JC false J2→GWp P (some l) J2 nt kl body T' H' (roundQ nt inv hp T1 Q n)))
  (done:inv xs.length→Q .normal T1 (hp xs.length)):GWp P none J nt kp (.rangeFunc g ps assign body) T H Q:=by
 intro hJ kv a w hs;obtain⟨w0,S0r,hp0,B0,hB0,hlow0,rfl⟩:=hJC;obtain⟨⟨S0,ρ,L,hc,hL,hj,hm⟩,hk⟩:=hs;subst hH;obtain⟨ρi,hρi⟩:∃ρi:Nat→Option Loc,ρi=fun r=>if r<H0.length then ρ r else none:=⟨_,rfl⟩;obtain⟨ρr,hρr⟩:∃ρr:Nat→Option Loc,ρr=fun r=>if r<H0.length then none else ρ r:=⟨_,rfl⟩;have hi1:∀r l,ρi r=some l→r<H0.length∧ρ r=some l:=fun r l h=>by rw[hρi]at h;simp only at h;split at h;exact⟨by assumption,h⟩;cases h
 have hi2:∀r,r<H0.length→ρi r=ρ r:=fun r h=>by rw[hρi];simp only;rw[if_pos h]
 have hq1:∀r l,ρr r=some l→¬r<H0.length∧ρ r=some l:=fun r l h=>by rw[hρr]at h;simp only at h;split at h;cases h;exact⟨by assumption,h⟩
 have hq2:∀r,¬r<H0.length→ρr r=ρ r:=fun r h=>by rw[hρr];simp only;rw[if_neg h]
 have hoi:∀b,own ρi b→own ρ b:=fun b ⟨r,l,h1,h2⟩=>⟨r,l,(hi1 r l h1).2,h2⟩;have hor:∀b,own ρr b→own ρ b:=fun b ⟨r,l,h1,h2⟩=>⟨r,l,(hq1 r l h1).2,h2⟩;have hsplit:∀b,own ρ b→own ρi b∨own ρr b:=fun b ⟨r,l,h1,h2⟩=>by
  by_cases hk:r<H0.length
  ·exact Or.inl ⟨r,l,by rw[hi2 r hk];exact h1,h2⟩
  ·exact Or.inr ⟨r,l,by rw[hq2 r hk];exact h1,h2⟩
 have hdis:∀b,own ρi b→¬own ρr b:=by
  rintro b ⟨r,l,h1,h2⟩ ⟨r',l',h3,h4⟩;obtain⟨k1,k2⟩:=hi1 r l h1;obtain⟨k3,k4⟩:=hq1 r' l' h3;exact k3 (hc.wf.inj r r' l l' b k2 k4 h2 h4▸k1)
 have hg0:∀r,r<H0.length→hget (H0++rest) r=hget H0 r:=fun r h=>by rw[hget_eq,hget_eq,List.getElem?_append_left h]
 have hg1:∀r,r<H0.length→hget (List.replicate H0.length none++rest) r=none:=fun r h=>by rw[hget_eq,List.getElem?_append_left (by simpa using h),List.getElem?_replicate,if_pos h];rfl
 have hg2:∀r,¬r<H0.length→hget (List.replicate H0.length none++rest) r=hget (H0++rest) r:=fun r h=>by rw[hget_eq,hget_eq,List.getElem?_append_right (by simpa using h),List.getElem?_append_right (by omega)];simp
 have hcr:Core anyB (fun b=>S0 b∨own ρi b) nt w ρr L (look T) (hget (List.replicate H0.length none++rest)) (bare a):=by
  have hSx:∀b,¬Sx S0 ρ b→¬Sx (fun b=>S0 b∨own ρi b) ρr b:=by
   rintro b hn ((h|h)|h)
   ·exact hn (Or.inl h)
   ·exact hn (Or.inr (hoi b h))
   ·exact hn (Or.inr (hor b h))
  refine⟨⟨fun r r' l l' b h1 h2=>hc.wf.inj r r' l l' b (hq1 r l h1).2 (hq1 r' l' h2).2,fun r l b h1 h2=>⟨(hc.wf.own r l b (hq1 r l h1).2 h2).1,?_,trivial⟩,fun r l h=>hc.wf.given r l (hq1 r l h).2,?_,fun _ _=>trivial⟩,hc.size,hc.defers,fun t=>(hc.tmps t).ext (Nat.le_refl _) (fun b _ hn=>⟨rfl,hSx b hn⟩) (fun r h=>h) (fun r l _ h=>(hq1 r l h).2),fun r row hr=>?_,fun r hr=>?_⟩
  ·rintro(h|h)
   ·exact(hc.wf.own r l b (hq1 r l h1).2 h2).2.1 h
   ·exact hdis b h ⟨r,l,h1,h2⟩
  ·rintro b (h|h)
   ·exact hc.wf.low b h
   ·exact(hc.owned b (hoi b h)).1
  ·by_cases hk:r<H0.length
   ·rw[hg1 r hk]at hr;cases hr
   ·rw[hg2 r hk]at hr;obtain⟨l,h1,h2⟩:=hc.rows r row hr;exact⟨l,by rw[hq2 r hk];exact h1,h2.ext (Nat.le_refl _) (fun b _ hn=>⟨rfl,hSx b hn⟩) (fun r h=>h) (fun r l _ h=>(hq1 r l h).2) (fun _ _=>rfl)⟩
  ·by_cases hk:r<H0.length
   ·rw[hρr];simp only;rw[if_pos hk]
   ·rw[hq2 r hk];exact hc.dead r (by rw[←hg2 r hk];exact hr)
 obtain⟨ρ1,L1,hc1,hL1,ho1⟩:=hcr.sub (fun r h=>by have:=hL r h;simpa using this) hs0;obtain⟨hj1,hj2,hj3⟩:=hj;have hgv:=eval_repG (a:=a) hc.tmps g;rw[hg]at hgv;obtain⟨vs,hgv,hlen,hcaps⟩:=clo_cells hgv;refine wpIn_rangeFunc (fun fn _=>?_);obtain⟨rec,hrec⟩:∃rec:LoopState→Option Code→Loop,rec=fun st pe=>{state:=st,pending:=pe,fn,tmps:=a.tmps,params:=ps,assign,body,defers:=w.heap.size}:=⟨_,rfl⟩;obtain⟨W1,hW1⟩:∃W1,(w.alloc (.deferred (some []))).alloc (.loop (rec .ready none))=W1:=⟨_,rfl⟩;have hsz1:W1.heap.size=w.heap.size+2:=by rw[←hW1];simp
 have hL1':W1.heap[w.heap.size+1]?=some (.loop (rec .ready none)):=by
  rw[←hW1];have:=World.alloc_heap_new (w.alloc (.deferred (some []))) (.loop (rec .ready none));rwa [World.size_alloc]at this
 have hK1:W1.heap[w.heap.size]?=some (.deferred (some [])):=by
  rw[←hW1];exact(Below.heap_alloc _ _ _ (by simp)).trans (World.alloc_heap_new w _)
 have hold1:∀b,b<w.heap.size→W1.heap[b]?=w.heap[b]?:=by
  intro b hb;rw[←hW1];exact(Below.heap_alloc _ _ _ (by simp;omega)).trans (Below.heap_alloc _ _ _ hb)
 have hext1:Ext (fun _=>False) w W1:=Ext.of_same (by rw[←hW1];rfl) (by rw[←hW1];rfl) (by rw[←hW1];rfl) (by omega) hold1;have hw01:w0.heap.size≤w.heap.size:=hj2.size;have hBW:∀b,w.heap.size≤b→B0 b:=fun b hb=>hB0 b (Nat.le_trans hw01 hb);have hevx:a.eval g= .func (.func f) #[] vs.toArray:=hgv;refine⟨w.heap.size+1,[markOf w.heap.size],W1,{target:= .fn (.func f) vs.toArray,args:= #[.func (.yield (w.heap.size+1)) #[] #[]]},W1,f,
  #[.func (.yield (w.heap.size+1)) #[] #[]]++vs.toArray,W1,?_,?_,fun _ _=>trivial,?_,fr_depth,?_⟩
 ·rw[←hW1,hrec];exact run_enterLoop_outer _ _ _ _ _
 ·simp only[resolve,hevx];simp[go_sem]
 ·have eg:=hic.1;simp[invoke,go_sem,eg]
 have hBW1:∀b,W1.heap.size≤b→B0 b:=fun b hb=>hBW b (by omega)
 let N:Nat→Prop:=fun b=>W1.heap.size≤b∨own ρi b
 have hNB:∀b,N b→B0 b:=by
  rintro b (h|h)
  ·exact hBW1 b h
  ·exact hj3 b (hoi b h)
 let B:=Base W1 w0 w S0 B0 N nt T1 a w.heap.size (w.heap.size+1)
 let Jit:Jt:=
  {rel:=fun y Si O W=>(∃n,y=cntV n∧inv n∧∃Sc ρc Lc,B (hp n) (rec .ready none) Si O W Sc ρc Lc)∨
    (y=stpV∧∃c Hs,((c= .ret∧Q .ret T1 Hs)∨∃id,c= .exit id∧Q (.exit id) T1 Hs)∧∃Sc ρc Lc,B Hs (rec .done (some c)) Si O W Sc ρc Lc),mark:=fun _=>False}
 have hJit:JOk Jit:=by
  rintro y Si O O' A A' hr hlow hown hext hO
  rcases hr with⟨n,rfl,hi,Sc,ρc,Lc,hb⟩|⟨rfl,c,Hs,hq,Sc,ρc,Lc,hb⟩
  ·exact Or.inl ⟨n,rfl,hi,_,_,_,hb.step hNB (fun b h=>Or.inl h) hlow hown hext hO⟩
  ·exact Or.inr ⟨rfl,c,Hs,hq,_,_,_,hb.step hNB (fun b h=>Or.inl h) hlow hown hext hO⟩
 let Sit:Nat→Prop:=fun b=>S0 b∨own ρr b∨b=w.heap.size∨b=w.heap.size+1
 have hSitlow:∀b,Sit b→b<W1.heap.size:=by
  rintro b (h|h|h|h)
  ·have:=hc.wf.low b h;omega
  ·have:=(hc.owned b (hor b h)).1;omega
  ·omega
  ·omega
 have hSit:∀b,b<w.heap.size→¬Sx S0 ρ b→¬Sx Sit ρi b:=by
  rintro b hlt hn ((h|h|h|h)|h)
  ·exact hn (Or.inl h)
  ·exact hn (Or.inr (hor b h))
  ·omega
  ·omega
  ·exact hn (Or.inr (hoi b h))
 have hheld:Held Sit W1 ρi H0:=by
  refine⟨⟨fun r r' l l' b h1 h2=>hc.wf.inj r r' l l' b (hi1 r l h1).2 (hi1 r' l' h2).2,fun r l b h1 h2=>?_,fun r l h=>(hi1 r l h).1,hSitlow,fun _ _=>trivial⟩,fun r row hr=>?_,fun r hr=>?_⟩
  ·have hob:own ρi b:=⟨r,l,h1,h2⟩;obtain⟨k1,k2⟩:=hc.owned b (hoi b hob);refine⟨by omega,?_,trivial⟩;rintro(h|h|h|h)
   ·exact k2 h
   ·exact hdis b hob h
   ·omega
   ·omega
  ·have hk:r<H0.length:=by
    rcases Nat.lt_or_ge r H0.length with h|h
    ·exact h
    ·rw[hget_none _ _ h]at hr;cases hr
   obtain⟨l,h1,h2⟩:=hc.rows r row (by rw[hg0 r hk];exact hr);refine⟨l,by rw[hi2 r hk];exact h1,?_⟩;have hok:rowOk (some row)=true:=List.all_eq_true.1 hr0 _ (by rw[hget_eq,List.getElem?_eq_getElem hk]at hr;simp only[Option.getD_some]at hr;rw[←hr];exact List.getElem_mem hk)
   cases row with
   |els sz es=>
    obtain⟨q1,q2,q3,q4⟩:=h2;refine⟨q1,q2,q3,fun b hb=>?_⟩;obtain⟨c,t,p1,p2,p3,p4⟩:=q4 b hb;refine⟨c,t,(hold1 b (hc.owned b ⟨r,l,h1,hb⟩).1).trans p1,p2,p3,fun i av hi=>?_⟩;obtain⟨x,s1,s2,s3⟩:=p4 i av hi;refine⟨x,s1,s2, .pure _ _ ((noRef_rep 2 _ _ ?_ s3).ext hext1.size (fun b hb hn=>⟨hold1 b hb,hSit b hb hn⟩))⟩;simp only[rowOk,List.all_eq_true]at hok;obtain⟨e,he,hae⟩:=List.mem_flatten.1 (List.mem_of_getElem? hi);exact hok e he av hae
   |map ag kts kvs=>cases hok
   |itr ag kts left cur=>cases hok
   |mpa ag kts kvs=>cases hok
  ·by_cases hk:r<H0.length
   ·rw[hi2 r hk];exact hc.dead r (by rw[hg0 r hk];exact hr)
   ·rw[hρi];simp only;rw[if_neg hk]
 refine callsIn_fr.2 (Calls.mono (hic.2 Sit W1 ρi vs hheld hlen ?_ (w.heap.size+1) Jit hJit (fun _ h=>h) ?_ ?_) ?_)
 ·intro i c x h1 h2;have hok:=List.all_eq_true.1 hnr _ (List.mem_of_getElem? h1);have hrp:=hcaps i c x h1 h2;have hE:∀b,b<w.heap.size→¬Sx S0 ρ b→W1.heap[b]?=w.heap[b]?∧¬Sx Sit ρi b:=fun b hb hn=>⟨hold1 b hb,hSit b hb hn⟩;unfold capOk at hok
  split at hok
  ·have hr:=of_decide_eq_true hok
   cases hrp with
   |pure _ _ h=>cases h
   |ptr _ _ _ _ h3 h4 h5=>exact .ptr _ _ _ _ hr h4 (fun l hl=>h5 l (hi1 _ l hl).2)
  ·exact .pure _ _ ((noRef_rep 2 _ _ hok hrp).ext hext1.size hE)
 ·
  intro n x hxn Si O W vs' hrel hlow howned hlen' hreps;obtain⟨hi,Sc,ρc,Lc,hb⟩:inv n∧∃Sc ρc Lc,B (hp n) (rec .ready none) Si O W Sc ρc Lc:=by
   rcases hrel with⟨n',e,hi,hb⟩|⟨e,_⟩
   ·rw[cntV_inj]at e;subst e;exact⟨hi,hb⟩
   ·exact absurd e (cnt_stp n)
  have hxl:x.length=ps.size:=hx x (List.mem_of_getElem? hxn);have hy:=run_yield (P:=P) (args:=vs'.toArray) hb.record (by simp only[hrec,List.size_toArray];omega);rw[hrec]at hy;refine⟨fn,_,assign,body,hy,roundIn_of_wpIn (F:=Fence.wide) trivial ?_⟩;obtain⟨tm,htm⟩:∃tm,tm=(ps.zip vs'.toArray).foldl (fun tmps (t,a)=>tmps.setIfInBounds t a) a.tmps:=⟨_,rfl⟩;have htm':tm=((ps.toList.zip vs').foldl (fun t (p:Tmp×Value)=>t.setIfInBounds p.1 p.2) a.tmps):=by rw[htm,←Array.foldl_toList];simp
  have hzip:∀p∈(ps.toList.zip vs').map (·.1),p∈ps.toList:=by
   intro p hp';obtain⟨q,hq,rfl⟩:=List.mem_map.1 hp';exact(List.of_mem_zip hq).1
  have hzl:(ps.toList.zip vs').map (·.1)=ps.toList:=by
   rw[List.map_fst_zip];simp;omega
  have hother:∀t,t∉ps.toList→tm.getD t undef=a.tmps.getD t undef:=by
   intro t ht;rw[htm'];exact foldl_set_other _ _ _ (by rw[hzl];exact ht)
  have hsize:tm.size=nt:=by rw[htm',foldl_set_size];exact hc.size
  have hat:∀(i:Nat) p v,ps.toList[i]?=some p→vs'[i]?=some v→tm.getD p undef=v:=by
   intro i p v h1 h2;rw[htm'];refine foldl_set_at _ _ p v (by rw[hzl];exact hps) ?_ (by have:=hc.size;have h3:=(hpl p (List.mem_of_getElem? h1)).1;show p<a.tmps.size;rw[show a.tmps.size=nt from hc.size];exact h3);exact List.mem_of_getElem? (i:=i) (by rw[List.getElem?_zip_eq_some];exact⟨h1,h2⟩)
  show assign.wpIn (fr (some (w.heap.size+1))) 0 P _ {tmps:=(ps.zip vs'.toArray).foldl (fun tmps (t,a)=>tmps.setIfInBounds t a) a.tmps,defers:=[]} W;rw[←htm]
  let J1:Jt:=JR false W Sc (fun b=>W.heap[b]?) (fun b=>own ρc b∨W.heap.size≤b)
  have hJ1:JC false J1:=⟨W,Sc,_,_,fun b hb=>Or.inr hb,hb.core.wf.low,rfl⟩;have hsg:SG J1 nt kl (fun t=>a.tmps.getD t undef) (ps.toList.zip x++T1) (hp n) {tmps:=tm,defers:=[]} W:=by
   refine⟨⟨Sc,ρc,Lc,⟨hb.core.wf,hsize,rfl,fun t=>?_,hb.core.rows,hb.core.dead⟩,hb.len,⟨fun b h=>⟨h,hb.core.wf.low b h,rfl⟩,Ext.refl _ _,fun b h=>Or.inl h⟩,[],rfl,List.nodup_nil,by simp⟩,fun t ht=>?_⟩
   ·refine look_zip (R:=fun t c=>RepV W (Sx Sc ρc) ρc Lc c (tm.getD t undef)) ps.toList x T1 t (fun ht=>?_) (fun i p c h1 h2=>?_) (by simp[hxl])
    ·rw[hother t ht];exact hb.core.tmps t
    ·obtain⟨v,hv⟩:∃v,vs'[i]?=some v:=⟨_,List.getElem?_eq_getElem (by have:=(List.getElem?_eq_some_iff.1 h2).1;omega)⟩;rw[hat i p v h1 hv];refine .pure _ _ ((hreps i c v h2 hv).ext (Nat.le_refl _) (fun b _ hn=>⟨rfl,?_⟩));rintro(h|h)
     ·exact hn (hb.within b h)
     ·exact hn (Or.inl (hb.mine b h).1)
   ·exact hother t (fun h=>(hpl t h).2 ht)
  refine wpIn_mono (round n x hxn hi (w.heap.size+1) J1 hJ1 hJ1.ok _ _ W hsg) ?_;rintro e a1 w1 ⟨T',H',q,s⟩
  cases e with
  | normal=>
   obtain⟨⟨S1,ρ1',L1',hc2,hL2,⟨hk1,hk2,hk3⟩,hmk1⟩,hkeep1⟩:=s;have hsW1:W.heap.size≤w1.heap.size:=hk2.size;have hlS:Sc (w.heap.size+1):=(hb.foreign _ (Or.inr (Or.inr rfl))).1;have hDS:Sc w.heap.size:=(hb.foreign _ (Or.inr (Or.inl rfl))).1;have hl1:w1.heap[w.heap.size+1]?=some (.loop (rec .ready none)):=(hk1 _ hlS).2.2.trans hb.record;have hbr:=run_beginRound (P:=P) hl1 (by rw[hrec]);refine⟨_,hbr,?_⟩;obtain⟨w2,hw2⟩:∃w2,w2=w1.putObj (w.heap.size+1) (.loop {rec .ready none with state:= .busy}):=⟨_,rfl⟩;rw[←hw2];have hsz2:w2.heap.size=w1.heap.size:=by rw[hw2];simp
   have hne2:∀b,b≠w.heap.size+1→w2.heap[b]?=w1.heap[b]?:=fun b hb=>by rw[hw2];exact World.putObj_heap_other hb
   have hl2:w2.heap[w.heap.size+1]?=some (.loop {rec .ready none with state:= .busy}):=by rw[hw2];exact World.putObj_heap_same (hk1 _ hlS).2.1
   have hc3:Core anyB S1 nt w2 ρ1' L1' (look T') (hget H') (bare a1):=hc2.foreign (by omega) (fun b hb' hn=>hne2 b (fun e=>hn (by rw[e];exact(hk1 _ hlS).1))) (fun b h=>⟨by rw[hsz2];exact hc2.wf.low b h,Or.inl h⟩)
   let J2:Jt:=JR false w2 S1 (fun b=>w2.heap[b]?) (fun b=>own ρ1' b∨w2.heap.size≤b)
   have hJ2:JC false J2:=⟨w2,S1,_,_,fun b hb=>Or.inr hb,fun b h=>by rw[hsz2];exact hc2.wf.low b h,rfl⟩;have hmk2:Marks J2 a1.defers S1 w2:=by
    obtain⟨Ds,h1,h2,h3⟩:=hmk1
    cases Ds with
    |nil=>exact⟨[],h1,h2,by simp⟩
    |cons D Ds=>exact absurd (h3 D (by simp)).2.1.1 (by simp)
   have hsg2:SG J2 nt kl (fun t=>a.tmps.getD t undef) T' H' a1 w2:=
    ⟨⟨S1,ρ1',L1',hc3,hL2,⟨fun b h=>⟨h,by rw[hsz2];exact hc2.wf.low b h,rfl⟩,Ext.refl _ _,fun b h=>Or.inl h⟩,hmk2⟩,hkeep1⟩
   refine wpIn_mono (q J2 hJ2 hJ2.ok _ a1 w2 hsg2) ?_;rintro e a3 w3 ⟨T3,H3,q3,⟨⟨S3,ρ3,L3,hc4,hL4,⟨hn1,hn2,hn3⟩,_⟩,hkeep3⟩⟩;have hsz3:w2.heap.size≤w3.heap.size:=hn2.size;have hlS1:S1 (w.heap.size+1):=(hk1 _ hlS).1;have hl3:w3.heap[w.heap.size+1]?=some (.loop {rec .ready none with state:= .busy}):=(hn1 _ hlS1).2.2.trans hl2;have hbsize:=hb.size;have fin:∀(Hx:Hp),Sub nt T3 H3 T1 Hx→∀(st:LoopState) (pe:Option Code) (w4:World),w4=w3.putObj (w.heap.size+1) (.loop (rec st pe))→
     W.heap.size≤w4.heap.size∧(∀b,b<W.heap.size→¬Si b→w4.heap[b]?=W.heap[b]?)∧∃Sc ρc Lc,B Hx (rec st pe) (Grown Si W w4) O w4 Sc ρc Lc:=by
    intro Hx hsub st pe w4 hw4;obtain⟨ρ4,L4,hc5,hL5,ho4⟩:=hc4.sub hL4 hsub;have hsz4:w4.heap.size=w3.heap.size:=by rw[hw4];simp
    have hne4:∀b,b≠w.heap.size+1→w4.heap[b]?=w3.heap[b]?:=fun b hb=>by rw[hw4];exact World.putObj_heap_other hb
    have hl4:w4.heap[w.heap.size+1]?=some (.loop (rec st pe)):=by rw[hw4];exact World.putObj_heap_same (hn1 _ hlS1).2.1
    have hlSi:Si (w.heap.size+1):=(hb.foreign _ (Or.inr (Or.inr rfl))).2;have hunch:∀b,b<W.heap.size→¬Si b→w4.heap[b]?=W.heap[b]?:=by
     intro b hlt hnS;have e1:w1.heap[b]?=W.heap[b]?:=hk2.block b hlt (by
      rintro(h|h)
      ·exact hnS (hb.mine b h).1
      ·omega)
     have hne:b≠w.heap.size+1:=fun e=>hnS (by rw[e];exact hlSi);have e3:w3.heap[b]?=w2.heap[b]?:=hn2.block b (by omega) (by
      rintro(h|h)
      ·rcases hk3 b h with h'|h'
       ·exact hnS (hb.mine b h').1
       ·omega
      ·omega)
     rw[hne4 b hne,e3,hne2 b hne,e1]
    have hfor:∀b,Sc b→b≠w.heap.size+1→w4.heap[b]?=W.heap[b]?:=by
     intro b hS hne;have k1:=hk1 b hS;rw[hne4 b hne];refine((hn1 b k1.1).2.2).trans ?_;show w2.heap[b]?=_;rw[hne2 b hne];exact k1.2.2
    refine⟨by omega,hunch,fun b=>S3 b∧(Grown Si W w4 b∨O b),ρ4,L4,⟨?_,hL5,?_,?_,?_,fun b h=>h.2,hl4,?_,?_,by omega,?_⟩⟩
    ·have hcore:Core anyB S3 nt w3 ρ4 L4 (look T1) (hget Hx) (bare a):=by
      refine⟨hc5.wf,hc.size,rfl,fun t=>?_,hc5.rows,hc5.dead⟩
      by_cases ht:t∈kl
      ·have h1:=hc5.tmps t;have h2:(bare a3).tmps.getD t undef=a.tmps.getD t undef:=hkeep3 t ht;rw[h2]at h1;exact h1
      ·rw[hT1 t ht];exact .pure _ _ (.any _)
     refine hcore.foreign (by omega) (fun b hb' hn=>hne4 b (fun e=>hn (by rw[e];exact(hn1 _ hlS1).1))) (fun b h=>⟨by rw[hsz4];exact hc5.wf.low b h.1,Or.inl h.1⟩)
    ·intro b hO;have h1:=hb.its b hO;exact⟨⟨(hn1 b (hk1 b h1.1).1).1,Or.inr hO⟩,h1.2⟩
    ·intro b ho;have h3:=hc4.owned b (ho4 b ho)
     rcases hn3 b (ho4 b ho)with h|h
     ·rcases hk3 b h with h'|h'
      ·exact⟨Or.inl (hb.mine b h').1,(hb.mine b h').2⟩
      ·exact⟨Or.inr ⟨h',by omega⟩,hBW1 b (by omega)⟩
     ·exact⟨Or.inr ⟨by omega,by omega⟩,hBW1 b (by omega)⟩
    ·intro b h;have h1:=hb.foreign b h;exact⟨⟨(hn1 b (hk1 b h1.1).1).1,Or.inl (Or.inl h1.2)⟩,Or.inl h1.2⟩
    ·rw[hfor _ hDS (by omega)];exact hb.mark
    ·refine hb.ext.trans ((hk2.mono (fun b _ h=>?_)).trans (?_:Ext B0 w1 w4))
     ·rcases h with h|h
      ·exact(hb.mine b h).2
      ·exact hBW1 b (by omega)
     ·have e2:Ext B0 w1 w2:=by rw[hw2];exact ext_putObj (hBW _ (by omega)) (by intro c t s h;rw[hl1]at h;cases h)
      have e4:Ext B0 w3 w4:=by rw[hw4];exact ext_putObj (hBW _ (by omega)) (by intro c t s h;rw[hl3]at h;cases h)
      refine e2.trans ((hn2.mono (fun b _ h=>?_)).trans e4)
      rcases h with h|h
      ·rcases hk3 b h with h'|h'
       ·exact(hb.mine b h').2
       ·exact hBW1 b (by omega)
      ·exact hBW1 b (by omega)
    ·intro b h;have hlt:=hc.wf.low b h;rw[hfor b (hb.foreign b (Or.inl h)).1 (by omega)];exact hb.old b h
   cases e with
   | normal=>
    obtain⟨hi',hsub⟩:=q3;obtain⟨f1,f2,f3⟩:=fin _ hsub .ready none _ rfl;refine⟨_,_,run_endRound (P:=P) none hl3,?_⟩;have:∀W',W'=w3.putObj (w.heap.size+1) (.loop (rec .ready none))→W.heap.size≤W'.heap.size∧(∀b,b<W.heap.size→¬Si b→W'.heap[b]?=W.heap[b]?)∧
      ((Ending.returned (.bool true)= .returned (.bool true)∧Jit.rel (cntV (n+1)) (Grown Si W W') O W')∨(Ending.returned (.bool true)= .returned (.bool false)∧Jit.rel stpV (Grown Si W W') O W')):=by
     rintro W' rfl;exact⟨f1,f2,Or.inl ⟨rfl,Or.inl ⟨n+1,rfl,hi',f3⟩⟩⟩
    exact this _ (by rw[hrec];simp)
   | ret=>
    obtain⟨Hs,hsub,hq⟩:=q3;obtain⟨f1,f2,f3⟩:=fin _ hsub .done (some .ret) _ rfl;refine⟨_,_,run_endRound (P:=P) (some .ret) hl3,?_⟩;have:∀W',W'=w3.putObj (w.heap.size+1) (.loop (rec .done (some .ret)))→W.heap.size≤W'.heap.size∧(∀b,b<W.heap.size→¬Si b→W'.heap[b]?=W.heap[b]?)∧
      ((Ending.returned (.bool false)= .returned (.bool true)∧Jit.rel (cntV (n+1)) (Grown Si W W') O W')∨(Ending.returned (.bool false)= .returned (.bool false)∧Jit.rel stpV (Grown Si W W') O W')):=by
     rintro W' rfl;exact⟨f1,f2,Or.inr ⟨rfl,Or.inr ⟨rfl,_,Hs,Or.inl ⟨rfl,hq⟩,f3⟩⟩⟩
    exact this _ (by rw[hrec];simp)
   | exit id=>
    obtain⟨Hs,hsub,hq⟩:=q3;obtain⟨f1,f2,f3⟩:=fin _ hsub .done (some (.exit id)) _ rfl;refine⟨_,_,run_endRound (P:=P) (some (.exit id)) hl3,?_⟩;have:∀W',W'=w3.putObj (w.heap.size+1) (.loop (rec .done (some (.exit id))))→W.heap.size≤W'.heap.size∧(∀b,b<W.heap.size→¬Si b→W'.heap[b]?=W.heap[b]?)∧
      ((Ending.returned (.bool false)= .returned (.bool true)∧Jit.rel (cntV (n+1)) (Grown Si W W') O W')∨(Ending.returned (.bool false)= .returned (.bool false)∧Jit.rel stpV (Grown Si W W') O W')):=by
     rintro W' rfl;exact⟨f1,f2,Or.inr ⟨rfl,Or.inr ⟨rfl,_,Hs,Or.inr ⟨id,rfl,hq⟩,f3⟩⟩⟩
    exact this _ (by rw[hrec];simp)
   |goto t=>exact q3.elim
   |panic chain=>exact q3.elim
   |outgrown=>exact q3.elim
  |exit id=>exact q.elim
  |goto t=>exact q.elim
  |ret=>exact q.elim
  |panic chain=>exact q.elim
  |outgrown=>exact q.elim
 ·
  refine Or.inl ⟨0,rfl,h0,fun b=>(S0 b∨own ρi b)∨b=w.heap.size∨b=w.heap.size+1,ρ1,L1,⟨hc1.foreign hext1.size (fun b hb _=>hold1 b hb) ?_,hL1,fun b h=>⟨Or.inl (Or.inr h),Or.inr h⟩,fun b hb=>⟨Or.inr (Or.inl (ho1 b hb)),hj3 b (hor b (ho1 b hb))⟩,?_,?_,hL1',hK1,hj2.trans (hext1.mono fun b _ h=>h.elim),Nat.le_refl _,fun b hb=>hold1 b (hc.wf.low b hb)⟩⟩
  ·rintro b (h|h|h)
   ·have:=hcr.wf.low b h;exact⟨by omega,Or.inl h⟩
   ·exact⟨by omega,Or.inr (by omega)⟩
   ·exact⟨by omega,Or.inr (by omega)⟩
  ·rintro b (h|h|h)
   ·exact⟨Or.inl (Or.inl h),Or.inl h⟩
   ·exact⟨Or.inr (Or.inl h),Or.inr (Or.inr (Or.inl h))⟩
   ·exact⟨Or.inr (Or.inr h),Or.inr (Or.inr (Or.inr h))⟩
  ·rintro b ((h|h)|h|h)
   ·exact Or.inl (Or.inl h)
   ·exact Or.inr h
   ·exact Or.inl (Or.inr (Or.inr (Or.inl h)))
   ·exact Or.inl (Or.inr (Or.inr (Or.inr h)))
 ·
  rintro e W2 ⟨⟨v,rfl⟩,S',O',hl',ho',hrel⟩;have fin:∀(Hx:Hp) (rc:Loop) (Sc:Nat→Prop) (ρc:Nat→Option Loc) (Lc:Nat→Prop),B Hx rc S' O' W2 Sc ρc Lc→∀o,SG (JR true w0 S0r hp0 B0) nt kp kv T1 Hx {a with defers:=[markOf w.heap.size]++a.defers} (W2.putObj (w.heap.size+1) o):=by
   intro Hx rc Sc ρc Lc hb o;obtain⟨w4,hw4⟩:∃w4,w4=W2.putObj (w.heap.size+1) o:=⟨_,rfl⟩;rw[←hw4];have hsz4:w4.heap.size=W2.heap.size:=by rw[hw4];simp
   have hne4:∀b,b≠w.heap.size+1→w4.heap[b]?=W2.heap[b]?:=fun b hb=>by rw[hw4];exact World.putObj_heap_other hb
   have hlS:Sc (w.heap.size+1):=(hb.foreign _ (Or.inr (Or.inr rfl))).1;obtain⟨Ds,hd1,hd2,hd3⟩:=hm;refine⟨⟨Sc,ρc,Lc,?_,hb.len,⟨?_,?_,fun b h=>(hb.mine b h).2⟩,w.heap.size::Ds,by simp[hd1],?_,?_⟩,hk⟩
   ·exact hb.core.foreign (by omega) (fun b hb' hn=>hne4 b (fun e=>hn (by rw[e];exact hlS))) (fun b h=>⟨by rw[hsz4];exact hb.core.wf.low b h,Or.inl h⟩)
   ·intro b h;obtain⟨k1,k2,k3⟩:=hj1 b h;refine⟨(hb.foreign b (Or.inl k1)).1,by have:=hb.size;omega,?_⟩;rw[hne4 b (by omega),hb.old b k1];exact k3
   ·rw[hw4];exact hb.ext.trans (ext_putObj (hBW _ (by omega)) (by intro c t s h;rw[hb.record]at h;cases h))
   ·rw[List.nodup_cons];exact⟨fun h=>by have:=hc.wf.low _ (hd3 _ h).1;omega,hd2⟩
   ·intro D hD
    rcases List.mem_cons.1 hD with rfl|hD
    ·exact⟨(hb.foreign _ (Or.inr (Or.inl rfl))).1,⟨rfl,hw01⟩,by rw[hne4 _ (by omega)];exact hb.mark⟩
    ·obtain⟨k1,k2,k3⟩:=hd3 D hD;have:=hc.wf.low D k1;exact⟨(hb.foreign D (Or.inl k1)).1,k2,by rw[hne4 _ (by omega),hb.old D k1];exact k3⟩
  have hcase:(inv xs.length∧∃Sc ρc Lc,B (hp xs.length) (rec .ready none) S' O' W2 Sc ρc Lc)∨
    (∃c Hs,((c= .ret∧Q .ret T1 Hs)∨∃id,c= .exit id∧Q (.exit id) T1 Hs)∧∃Sc ρc Lc,B Hs (rec .done (some c)) S' O' W2 Sc ρc Lc):=by
   rcases hrel with hrel|hrel
   ·rcases hrel with⟨n',e,hi,hb⟩|⟨e,_⟩
    ·rw[cntV_inj]at e;subst e;exact Or.inl ⟨hi,hb⟩
    ·exact absurd e (cnt_stp _)
   ·rcases hrel with⟨n',e,hi,hb⟩|⟨_,h⟩
    ·exact absurd e.symm (cnt_stp _)
    ·exact Or.inr h
  rcases hcase with⟨hi,Sc,ρc,Lc,hb⟩|⟨c,Hs,hq,Sc,ρc,Lc,hb⟩
  ·exact⟨none,_,by have:=run_endLoop (P:=P) hb.record (by rw[hrec];simp);rw[show(rec .ready none).pending=none by rw[hrec]]at this;exact this,T1,_,done hi,fin _ _ _ _ _ hb _⟩
  ·refine⟨some c,_,by have:=run_endLoop (P:=P) hb.record (by rw[hrec];simp);rw[show(rec .done (some c)).pending=some c by rw[hrec]]at this;exact this,?_⟩;have hsg:=fin _ _ _ _ _ hb
   rcases hq with⟨rfl,hq⟩|⟨id,rfl,hq⟩
   ·exact wpIn_ret ⟨T1,Hs,hq,hsg _⟩
   ·exact wpIn_exit ⟨T1,Hs,hq,hsg _⟩
theorem gwp_range {J:Jt} (hJC:JC true J) (T1:Tm) (kl:List Nat) (hp:Nat→Hp) (inv:Nat→Prop) {g:Operand} {ps:Array Tmp} {assign body:Code} {f:FuncId} {caps:List AV} {xs:List (List AV)} (hg:evT (look T) g= .clo f caps) (hnr:caps.all (AV.noRef 2)=true) (hic:IterCall P f caps xs) (hnt:nt≤999999)
  (hps:ps.toList.Nodup) (hpl:∀p∈ps.toList,p<nt∧p∉kl) (hx:∀x∈xs,x.length=ps.size)
  (h0:inv 0) (hs0:Sub nt T H T1 (hp 0)) (hT1:∀t,t∉kl→look T1 t= .any)
  (round:∀n x,xs[n]?=some x→inv n→∀(l:Nat) (J1:Jt),JC false J1→GWp P (some l) J1 nt kl assign (ps.toList.zip x++T1) (hp n) (onlyN fun T' H'=>∀J2:Jt,JC false J2→GWp P (some l) J2 nt kl body T' H' (roundQ nt inv hp T1 Q n)))
  (done:inv xs.length→Q .normal T1 (hp xs.length)):GWp P none J nt kp (.rangeFunc g ps assign body) T H Q:=
 gwp_rangeW hJC (H0:=[]) rfl rfl T1 kl hp inv hg (by
  rw[List.all_eq_true]at hnr ⊢;intro c hc;have h:=hnr c hc;unfold capOk
  split
  ·simp[AV.noRef]at h
  ·exact h) hic hnt hps hpl hx h0 hs0 hT1 round done
theorem leaves_marks {fn:Func} {tmps:Array Value} {R:Ending→World→Prop}:∀(Ds:List Nat) (w':World),Ds.Nodup→(∀D∈Ds,w'.heap[D]?=some (.deferred (some [])))→
  (∀w'',Ext (fun b=>b∈Ds) w' w''→w''.heap.size=w'.heap.size→∃v,(results fn tmps).run P w''= .ok v w''∧R (.returned v) w'')→LeavesInM Fence.wide 0 P fn tmps R (Ds.map markOf) .returning w'
 |[],w',_,_,h=>h w' (Ext.refl _ _) rfl
 |D::Ds,w',hn,hD,h=>by
  rw[List.nodup_cons]at hn;refine⟨by simp,Or.inl ⟨D,_,rfl,run_takeDeferred (hD D (by simp)),?_⟩⟩;refine leaves_marks Ds _ hn.2 (fun D' hD'=>?_) (fun w'' hx hs=>h w'' ?_ ?_)
  ·rw[World.putObj_heap_other (fun e=>hn.1 (by rw[←e];exact hD'))];exact hD D' (by simp[hD'])
  ·exact(ext_putObj (B:=fun b=>b∈D::Ds) (by simp) (by intro c t s h;rw[hD D (by simp)]at h;cases h)).trans (hx.mono fun b _ hb=>by simp[hb])
  ·rw[hs];simp
theorem look_argT' (xs:List AV) (t:Nat):look (argT 0 xs) t=(xs[t]?).getD .any:=by rw[look_argT];simp
theorem PureCall.of_bodyG {f : FuncId} {fn : Func} {c : Code} {args : List AV} {res : AV} (hf : P.funcs[f]? = some fn) (hb : fn.body = some c) (hname : (fn.name == "runtime.NumGoroutine") = false) (hnt : args.length ≤ fn.ntmps)
  (h:∀J:Jt,JC true J→GWp P none J fn.ntmps [] c (argT 0 args) [] (retQ P fn.results.toList res)):PureCall P f args res:=by
 have hn' : ¬ fn.name = "runtime.NumGoroutine" := by simpa using hname
 refine Or.inl ⟨fun w vs=>by simp[callFunc,hf,hn',hb],?_⟩;intro S0 w vs hlow hlen hrep;refine callsIn_wide.1 (callsIn_of_wp_marks (n:=0) (F:=Fence.wide) hf hb trivial ?_)
 let ρ:Nat→Option Loc:=fun _=>none
 have hS:∀b,Sx S0 ρ b↔S0 b:=by
  intro b;constructor
  ·rintro(h|⟨r,l,h1,_⟩)
   ·exact h
   ·cases h1
  ·exact Or.inl
 have hsize:vs.toArray.size=args.length:=by simp[hlen]
 let J:Jt:=JR true w S0 (fun b=>w.heap[b]?) (fun b=>w.heap.size≤b)
 have hJ:JC true J:=⟨w,S0,_,_,fun b h=>h,hlow,rfl⟩;have hst:SG J fn.ntmps [] (fun _=>undef) (argT 0 args) [] {tmps:=vs.toArray++Array.replicate (fn.ntmps-vs.toArray.size) undef,defers:=[]} w:=by
  refine⟨⟨S0,ρ,fun _=>False,⟨⟨?_,?_,?_,hlow,fun b h=>trivial⟩,?_,rfl,?_,?_,?_⟩,fun r hr=>hr.elim,⟨fun b h=>⟨h,hlow b h,rfl⟩,Ext.refl _ _,?_⟩,[],rfl,List.nodup_nil,by simp⟩,by simp⟩
  ·intro r r' l l' b h1;cases h1
  ·intro r l b h1;cases h1
  ·intro r l h1;cases h1
  ·show(vs.toArray++Array.replicate (fn.ntmps-vs.toArray.size) undef).size=fn.ntmps;rw[Array.size_append,Array.size_replicate,hsize];omega
  ·intro t;rw[look_argT']
   cases hx:args[t]? with
   |none=>exact .pure _ _ (.any _)
   | some x=>
    have ht:t<args.length:=(List.getElem?_eq_some_iff.1 hx).1;have ht':t<vs.length:=by omega
    have hget:(vs.toArray++Array.replicate (fn.ntmps-vs.toArray.size) undef).getD t undef=vs[t]:=by
     rw[Array.getD_eq_getD_getElem?,Array.getElem?_append_left (by simpa using ht')];simp[ht']
    show RepV w _ _ _ _ ((vs.toArray++Array.replicate (fn.ntmps-vs.toArray.size) undef).getD t undef);rw[hget];exact .pure _ _ ((hrep t x _ hx (List.getElem?_eq_getElem ht')).ext (Nat.le_refl _) (fun b _ hn=>⟨rfl,fun k=>hn ((hS b).1 k)⟩))
  ·intro r row hr;cases r<;>cases hr
  ·intro r _;rfl
  ·rintro b ⟨r,l,h1,_⟩;cases h1
 refine wpIn_mono (h J hJ hJ.ok (fun _=>undef) _ w hst) ?_;rintro e a' w' ⟨T',H',q,⟨⟨S1,ρ1,L1,hc1,hL1,⟨hj1,hj2,hj3⟩,Ds,hds,hnd,hDs⟩,_⟩⟩;have hfin:(resP P T' H' fn.results.toList fun xs=>frzP H' 6 (tupOf xs)=res)→LeavesInM Fence.wide 0 P fn a'.tmps (fun e w'=>∃v,e= .returned v∧RepP w' S0 res v∧Ext (fun _=>False) w w') a'.defers .returning w':=by
  intro hr;rw[hds,show Ds.map markOf++J.base=Ds.map markOf from List.append_nil _];refine leaves_marks Ds w' hnd (fun D hD=>(hDs D hD).2.2) (fun w'' hx hsz=>?_);have hc2:Core anyB S1 fn.ntmps w'' ρ1 L1 (look T') (hget H') (bare a'):=hc1.foreign hx.size (fun b hb hn=>hx.block b hb (fun hD=>hn (hDs b hD).1)) (fun b hb=>⟨by rw[hsz];exact hc1.wf.low b hb,Or.inl hb⟩);obtain⟨xs,vs',h1,h2,h3,h4,h5⟩:=run_results hc2 fn.results.toList _ hr;have hm:(fn.results.mapM fun(x:ResultVar)=>(match x with
    | .tmp t=>pure (a'.tmps.getD t undef)
    | .cell ad t=>do loadVar t (←asAddr (a'.tmps.getD ad undef)):Sem Value)).run P w''= .ok vs'.toArray w'':=by
   rw[Array.mapM_eq_mapM_toList,Sem.run_map];have h1':(fn.results.toList.mapM fun(x:ResultVar)=>(match x with
    | .tmp t=>pure (a'.tmps.getD t undef)
    | .cell ad t=>do loadVar t (←asAddr (a'.tmps.getD ad undef)):Sem Value)).run P w''= .ok vs' w'':=h1
   rw[h1'];rfl
  have hrun:(results fn a'.tmps).run P w''= .ok (if h:vs'.toArray.size=1 then vs'.toArray[0]else .tuple vs'.toArray) w'':=by
   unfold results;rw[Sem.run_bind];exact congrArg (fun(r:Result (Array Value))=>r.andThen fun a w'=>Sem.run P (pure (if h:a.size=1 then a[0]else Value.tuple a)) w') hm
  refine⟨_,hrun,_,rfl,?_,?_⟩
  ·have hfz:RepP w'' S1 res (if h:vs'.toArray.size=1 then vs'.toArray[0]else .tuple vs'.toArray):=by
    rw[←h5];refine frzP_rep hc2.wf hc2.rows 6 _ _ ?_
    match xs,vs',h2,h3 with
    |[],[],_,_=>simp only[tupOf];rw[dif_neg (by simp)];exact .tup [] [] rfl (by simp)
    |[x],[v],_,h3=>simp only[tupOf];rw[dif_pos (by simp)];exact h3 0 x v rfl rfl
    |x::y::xs,v::u::vs',h2,h3=>simp only[tupOf];rw[dif_neg (by simp)];exact .tup _ (v::u::vs') h2 h3
   exact hfz.ext (Nat.le_refl _) (fun b _ hn=>⟨rfl,fun hb=>hn (hj1 b hb).1⟩)
  ·refine Ext.of_same (hx.os.trans hj2.os) (hx.tape.trans hj2.tape) (hx.output.trans hj2.output) (Nat.le_trans hj2.size hx.size) fun b hb=>?_;rw[hx.block b (Nat.lt_of_lt_of_le hb hj2.size) (fun hD=>?_),hj2.block b hb (by omega)];have:=(hDs b hD).2.1.2;omega
 cases e with
 |ret=>exact hfin q
 |normal=>exact hfin q
 |exit id=>exact q.elim
 |goto l=>exact q.elim
 |panic ch=>exact q.elim
 |outgrown=>exact q.elim
end
end Go.AM
namespace Go.AM
attribute [simp] gOps guardM yArgs onlyN roundQ iterQ
@[simp] theorem renAV_cnt (g:List (Option Nat)) (n k:Nat):renAV g (n+1) (cntV k)=cntV k:=by cases n<;>rfl
section
variable {P:Program} {ro:Option Nat} {J:Jt} {nt:Nat} {kp:List Nat} {l:List Oper} {dsts:List (Option Tmp)} {T:Tm} {H:Hp} {Q:Exit→Tm→Hp→Prop} {id:Nat} {y c:Code}
theorem gwp_sr (hd:l.map (·.dst)=dsts) (hnt:nt≤999999) (hkp:keepOk kp dsts=true) (hnd:l.all noDefer=true) (h:∀K:Tm→Hp→Prop,(∀T' H',GWp P ro J nt kp y T' H' Q→K T' H')→vcOps P nt dsts l T H K):GWp P ro J nt kp (.seq (.region id l.toArray false) y) T H Q:=
 gwp_seq (gwp_region hd hnt hkp hnd (h _ fun _ _ h=>h))
theorem gwp_r (hd:l.map (·.dst)=dsts) (hnt:nt≤999999) (hkp:keepOk kp dsts=true) (hnd:l.all noDefer=true) (h:∀K:Tm→Hp→Prop,(∀T' H',Q .normal T' H'→K T' H')→vcOps P nt dsts l T H K):GWp P ro J nt kp (.region id l.toArray false) T H Q:=
 gwp_region hd hnt hkp hnd (h _ fun _ _ h=>h)
theorem gwp_sd (hm:P.follows .mixedOrders=true) (hd:l.map (·.dst)=dsts) (hnt:nt≤999999) (hkp:keepOk kp dsts=true) (hnd:l.all noDefer=true)
  (h:∀K:Tm→Hp→List Tr→Prop,(∀T' H' tr,drawB l tr=true→GWp P ro J nt kp y T' H' Q→K T' H' tr)→vcOpsD P nt dsts l T H [] K):GWp P ro J nt kp (.seq (.region id l.toArray true) y) T H Q:=
 gwp_seq (gwp_draw hm hd hnt hkp hnd h)
theorem gwp_sy (hmk:∀D,¬J.mark D) {l0:Nat} {xs:List (List AV)} (hY:YSpec P l0 J xs) (hd:l.map (·.dst)=dsts) (hnt:nt≤999999) (hkp:keepOk kp dsts=true) (hnd:l.all noDefer=true)
  (h:∀K:Tm→Hp→Prop,(∀T' H',GWp P none J nt kp y T' H' Q→K T' H')→gOps P l0 xs nt dsts l T H K):GWp P none J nt kp (.seq (.region id l.toArray false) y) T H Q:=
 gwp_seq (gwp_yields hmk hY hd hnt hkp hnd (h _ fun _ _ h=>h))
theorem gsub {T':Tm} {H':Hp} (h:Sub nt T H T' H') (hy:look T' 999999=look T 999999):GSub nt T H T' H':=⟨h,hy⟩
theorem gwp_flag (hnt:nt≤999998) (h:GWp P ro J nt kp c ((999998,flagV)::T) H Q):GWp P ro J nt kp c T H Q:=gwp_weak (gsub (sub_flag hnt) (by simp[look])) h
theorem look_prune (T:Tm) (t:Nat):∀live:List Nat,t∈live→look (prune T live) t=look T t
 |[],h=>by cases h
 |q::l,h=>by
  simp only[prune,List.map_cons,look]
  split
  ·rename_i e;rw[e]
  ·rename_i e;exact look_prune T t l ((List.mem_cons.1 h).resolve_left e)
theorem gwp_prune (live:List Nat) (hy:live.contains 999999=true∨look T 999999= .any) (h:GWp P ro J nt kp c (prune T live) H Q):GWp P ro J nt kp c T H Q:=by
 refine gwp_weak ⟨sub_same (subE_prune T live),?_⟩ h
 by_cases hl:999999∈live
 ·exact look_prune T _ live hl
 ·rcases hy with hy|hy
  ·exact absurd (by simpa using hy) hl
  ·rw[hy];have gen:∀live:List Nat,999999∉live→look (prune T live) 999999= .any:=by
    intro live
    induction live with
    |nil=>intro _;rfl
    |cons q l ih=>
     intro h;simp only[List.mem_cons,not_or]at h;simp only[prune,List.map_cons,look];rw[if_neg h.1];exact ih h.2
   exact gen live hl
theorem gwp_loop_l {α:Type} (live:List Nat) (upd:α→Tm) (hp:α→Hp) (inv:α→Prop) (μ:α→Nat) (x0:α) (h0:inv x0) (hs0:GSub nt T H (upd x0++prune T live) (hp x0))
  (round:∀x,inv x→GWp P ro J nt kp c (upd x++prune T live) (hp x) (thenA (fun T' H'=>∃y,inv y∧μ y<μ x∧GSub nt T' H' (upd y++prune T live) (hp y)) Q)):GWp P ro J nt kp (.loop c) T H Q:=
 gwp_loop (fun x=>(upd x++prune T live,hp x)) inv μ x0 h0 hs0 round
theorem gwp_seq_j {x:Code} (live:List Nat) (upd:Tm) (H':Hp)
  (h:GWp P ro J nt kp x T H (thenA (fun T1 H1=>GSub nt T1 H1 (upd++prune T live) H') Q)) (k:GWp P ro J nt kp y (upd++prune T live) H' Q):GWp P ro J nt kp (.seq x y) T H Q:=
 gwp_seq (gwp_mono h fun e T1 H1 q=>by
  cases e with
  |normal=>exact gwp_weak q k
  |_=>exact q)
theorem keysAny {kl:List Nat} (h:T.map (·.1)=kl):∀t,t∉kl→look T t= .any:=by
 subst h;intro t ht
 induction T with
 |nil=>rfl
 |cons p T ih=>
  obtain⟨i,x⟩:=p;simp only[List.map_cons,List.mem_cons,not_or]at ht;simp only[look];rw[if_neg ht.1];exact ih ht.2
theorem gwp_range_s {J:Jt} (hJC:JC true J) (kl:List Nat) (hp:Nat→Hp) (inv:Nat→Prop) {g:Operand} {ps:Array Tmp} {assign body:Code} {f:FuncId} {caps:List AV} {xs:List (List AV)} (hT1:T.map (·.1)=kl) (hic:IterCall P f caps xs) (hg:evT (look T) g= .clo f caps) (hnr:caps.all (AV.noRef 2)=true) (hnt:nt≤999999)
  (hps:ps.toList.Nodup) (hpl:∀p∈ps.toList,p<nt∧p∉kl) (hx:∀x∈xs,x.length=ps.size)
  (h0:inv 0) (hs0:Sub nt T H T (hp 0))
  (round:∀n x,xs[n]?=some x→inv n→∀(l:Nat) (J1:Jt),JC false J1→GWp P (some l) J1 nt kl assign (ps.toList.zip x++T) (hp n) (onlyN fun T' H'=>∀J2:Jt,JC false J2→GWp P (some l) J2 nt kl body T' H' (roundQ nt inv hp T Q n)))
  (done:inv xs.length→Q .normal T (hp xs.length)):GWp P none J nt kp (.rangeFunc g ps assign body) T H Q:=
 gwp_range hJC T kl hp inv hg hnr hic hnt hps hpl hx h0 hs0 (keysAny hT1) round done
end
end Go.AM
namespace Go.AM
def pinPs:List AV→Nat→Prop
 |[],_=>False
 | .ptr q _ _::cs,r=>q=r∨pinPs cs r
 |_::cs,r=>pinPs cs r
def pinCs:List AV→Nat→Prop
 |[],_=>False
 | .clo _ caps::cs,r=>pinPs caps r∨pinCs cs r
 | .row q _ n::cs,r=>(q=r∧1≤n)∨pinCs cs r
 |_::cs,r=>pinCs cs r
def pinP:AV→Nat→Prop
 | .ptr q _ _,r=>q=r
 | .vptr cs,r=>pinCs cs r
 | .row q _ n,r=>q=r∧1≤n
 | .ifc _ (.ptr q _ _),r=>q=r
 |_,_=>False
def sameSz:Option ARow→Option ARow→Prop
 |some (.els s _),some (.els s' _)=>s=s'
 |some _,none=>True
 |_,_=>False
def pinL (T0:Tm) (H0:Hp) (T:Tm) (H:Hp):Nat→List Nat→Prop
 |_,[]=>True
 |r,t::ts=>pinP (look T0 t) r∧look T t=look T0 t∧sameSz (hget H0 r) (hget H r)∧pinL T0 H0 T H (r+1) ts
attribute [simp] pinP pinCs pinPs sameSz pinL
def renT (g:List (Option Nat)) (T:Tm):Tm:=T.map fun p=>(p.1,renAV g 40 (look T p.1))
attribute [simp] renT
theorem sub_renM {nt:Nat} {T:Tm} {H:Hp} (g:List (Option Nat)) (hn:nodupB g=true):Sub nt T H (renT g T) (renH H g):=by
 refine sub_rb g hn ?_ rfl;have gen:∀l:Tm,subT g T (l.map fun p=>(p.1,renAV g 40 (look T p.1))):=by
  intro l
  induction l with
  |nil=>trivial
  |cons x l ih=>exact⟨Or.inr rfl,ih⟩
 exact gen T
def endM (P:Program) (pins:List Nat) (T0:Tm) (H0:Hp) (rs:List ResultVar) (res:AV) (H':Hp) (T:Tm) (H:Hp):Prop:=
 ∃g,nodupB g=true∧look (renT g T) 999999=look T 999999∧renH H g=H'∧pinL T0 H0 (renT g T) H' 0 pins∧resP P (renT g T) H' rs fun xs=>tupOf xs=res
def retM (P:Program) (pins:List Nat) (T0:Tm) (H0:Hp) (rs:List ResultVar) (res:AV) (H':Hp):Exit→Tm→Hp→Prop
 | .ret,T,H=>endM P pins T0 H0 rs res H' T H
 | .normal,T,H=>endM P pins T0 H0 rs res H' T H
 |_,_,_=>False
section
variable {P:Program}
theorem pinL_at {T0:Tm} {H0:Hp} {T:Tm} {H:Hp}:∀{ts:List Nat} {r0 r t:Nat},pinL T0 H0 T H r0 ts→ts[r]?=some t→pinP (look T0 t) (r0+r)∧look T t=look T0 t∧sameSz (hget H0 (r0+r)) (hget H (r0+r))
 |[],r0,r,t,_,h=>by simp at h
 |t0::ts,r0,0,t,h,ht=>by
  simp only[List.getElem?_cons_zero,Option.some.injEq]at ht;subst ht;exact⟨h.1,h.2.1,h.2.2.1⟩
 |t0::ts,r0,r+1,t,h,ht=>by
  have:=pinL_at h.2.2.2 (by simpa using ht)
  rwa [show r0+1+r=r0+(r+1)by omega]at this
theorem pinPs_get:∀{cs:List AV} {r:Nat},pinPs cs r→∃(i j o:Nat),cs[i]?=some (AV.ptr r j o)
 |[],r,h=>h.elim
 | x::cs,r,h=>by
  have tail:pinPs cs r→∃(i j o:Nat),(x::cs)[i]?=some (AV.ptr r j o):=fun h=>by
   obtain⟨i,j,n,h1⟩:=pinPs_get h;exact⟨i+1,j,n,by simpa using h1⟩
  cases x with
  |ptr q j n=>
   simp only[pinPs]at h
   rcases h with rfl|h
   ·exact⟨0,j,n,rfl⟩
   ·exact tail h
  |_=>exact tail h
theorem pinCs_get:∀{cs:List AV} {r:Nat},pinCs cs r→(∃(i j n:Nat),cs[i]?=some (AV.row r j n)∧1≤n)∨∃(i:Nat) (f:FuncId) (caps:List AV),cs[i]?=some (AV.clo f caps)∧pinPs caps r
 |[],r,h=>h.elim
 | x::cs,r,h=>by
  have tail:pinCs cs r→(∃(i j n:Nat),(x::cs)[i]?=some (AV.row r j n)∧1≤n)∨∃(i:Nat) (f:FuncId) (caps:List AV),(x::cs)[i]?=some (AV.clo f caps)∧pinPs caps r:=fun h=>by
   rcases pinCs_get h with⟨i,j,n,h1,h2⟩|⟨i,f,caps,h1,h2⟩
   ·exact Or.inl ⟨i+1,j,n,by simpa using h1,h2⟩
   ·exact Or.inr ⟨i+1,f,caps,by simpa using h1,h2⟩
  cases x with
  |row q j n=>
   simp only[pinCs]at h
   rcases h with⟨rfl,h⟩|h
   ·exact Or.inl ⟨0,j,n,rfl,h⟩
   ·exact tail h
  |clo f caps=>
   simp only[pinCs]at h
   rcases h with h|h
   ·exact Or.inr ⟨0,f,caps,rfl,h⟩
   ·exact tail h
  |_=>exact tail h
theorem pin_loc {w w':World} {S S':Nat→Prop} {ρ ρ':Nat→Option Loc} {L L':Nat→Prop} {x:AV} {r:Nat} {v:Value} {l l':Loc} {sz:Nat} {es es':List (List AV)} (hp:pinP x r) (h:RepV w S ρ L x v) (h':RepV w' S' ρ' L' x v) (hl:ρ r=some l) (hl':ρ' r=some l')
  (hr:RowRep w S ρ L l (.els sz es)) (hr':RowRep w' S' ρ' L' l' (.els sz es')) (hc:∀(b:Nat) c t s,w.heap[b]?=some (Obj.cells c t s)→∃c' t' s',w'.heap[b]?=some (Obj.cells c' t' s')∧c'.size=c.size)
  (hsame:∀b,b<w.heap.size→¬S b→w'.heap[b]?=w.heap[b]?):l'=l:=by
 have fin:∀b,l.b=some b→l'.b=some b→l.o=l'.o→l'=l:=by
  intro b h1 h2 h3;obtain⟨e1,_,_,e4⟩:=hr;obtain⟨f1,_,_,f4⟩:=hr';obtain⟨c,t,p1,p2,_⟩:=e4 b h1;obtain⟨c',t',q1,q2,_⟩:=f4 b h2;obtain⟨c'',t'',s'',k1,k2⟩:=hc b c t _ p1;rw[q1]at k1;simp only[Option.some.injEq,Obj.cells.injEq]at k1;have hm:l'.m=l.m:=by rw[←q2,←p2,k1.1,k2]
  cases l;cases l'
  simp only at h1 h2 h3 e1 f1 hm;subst h1 h2 h3 e1 f1 hm
  rfl
 have hsz:l.sz=l'.sz:=hr.1.trans hr'.1.symm;have ptr:∀{i off:Nat} {v:Value},RepV w S ρ L (.ptr r i off) v→RepV w' S' ρ' L' (.ptr r i off) v→l'=l:=by
  intro i off v h h'
  cases h with
  |pure _ _ h=>cases h
  | ptr _ _ _ _ _ _ h=>
   cases h' with
   |pure _ _ h'=>cases h'
   |ptr _ _ _ _ _ _ h'=>
    obtain⟨b,h1,h2⟩:=h l hl;obtain⟨b',k1,k2⟩:=h' l' hl';rw[h2]at k2;simp only[Value.pointer.injEq,Option.some.injEq,Addr.mk.injEq,and_true]at k2;obtain⟨rfl,k2⟩:=k2;rw[hsz]at k2;exact fin b h1 k1 (by omega)
 have row:∀{i n:Nat} {v:Value},1≤n→RepV w S ρ L (.row r i n) v→RepV w' S' ρ' L' (.row r i n) v→l'=l:=by
  intro i n v hn h h'
  cases h with
  |pure _ _ h=>cases h
  | row _ _ _ _ _ _ h=>
   cases h' with
   |pure _ _ h'=>cases h'
   | row _ _ _ _ _ _ h'=>
    obtain⟨h0,h1⟩:=h l hl;obtain⟨k0,k1⟩:=h' l' hl'
    cases hb:l.b with
    |none=>have:=(h0 hb).2.1;omega
    | some b=>
     obtain⟨off,cap,h2,h3,h4⟩:=h1 b hb
     cases hb':l'.b with
     |none=>have:=(k0 hb').2.1;omega
     |some b'=>
      obtain⟨off',cap',k2,k3,k4⟩:=k1 b' hb';rw[h2]at k2;simp only[Value.slice.injEq,Option.some.injEq,Addr.mk.injEq,and_true]at k2;obtain⟨⟨rfl,rfl⟩,_,rfl⟩:=k2;have e1:=h4.resolve_left (by omega);have e2:=k4.resolve_left (by omega);rw[←hsz]at e2;exact fin b hb hb' (by omega)
 cases x with
 | vptr cs=>
  obtain⟨b,off,vs,rfl,hSb,hb,hln,hv,hc1⟩:=vptr_cells h;obtain⟨b',off',vs',e,hSb',hb',hln',hv',hc1'⟩:=vptr_cells h';simp only[Value.pointer.injEq,Option.some.injEq,Addr.mk.injEq,and_true]at e;obtain⟨rfl,rfl⟩:=e
  rcases pinCs_get hp with⟨i,j,n,h1,h2⟩|⟨i,f,caps,h1,h2⟩
  rotate_left
  ·have hi:i<cs.length:=(List.getElem?_eq_some_iff.1 h1).1;have g1:=List.getElem?_eq_getElem (l:=vs) (i:=i) (by omega);have g2:=List.getElem?_eq_getElem (l:=vs') (i:=i) (by omega);have q1:=(hv i _ g1).1;have q2:=(hv' i _ g2).1;rw[cell_of_block (hsame b hb hSb),q1]at q2;simp only[Option.some.injEq]at q2;have r1:=hc1 i _ _ h1 g1;have r2:=hc1' i _ _ h1 g2;rw[←q2]at r2;obtain⟨ks,e1,l1,m1⟩:=clo_cells r1;obtain⟨ks',e2,l2,m2⟩:=clo_cells r2;rw[e1]at e2;simp only[Value.func.injEq,true_and]at e2;have e3:ks=ks':=by simpa using congrArg Array.toList e2
   subst e3;obtain⟨u,ju,ou,hu⟩:=pinPs_get h2;have hul:u<caps.length:=(List.getElem?_eq_some_iff.1 hu).1;have g3:=List.getElem?_eq_getElem (l:=ks) (i:=u) (by omega);exact ptr (m1 u _ _ hu g3) (m2 u _ _ hu g3)
  have hi:i<cs.length:=(List.getElem?_eq_some_iff.1 h1).1;have g1:=List.getElem?_eq_getElem (l:=vs) (i:=i) (by omega);have g2:=List.getElem?_eq_getElem (l:=vs') (i:=i) (by omega);have q1:=(hv i _ g1).1;have q2:=(hv' i _ g2).1;rw[cell_of_block (hsame b hb hSb),q1]at q2;simp only[Option.some.injEq]at q2;have r1:=hc1 i _ _ h1 g1;have r2:=hc1' i _ _ h1 g2;rw[←q2]at r2;exact row h2 r1 r2
 |ptr q i off=>
  simp only[pinP]at hp;subst hp;exact ptr h h'
 | ifc t x=>
  obtain⟨y,e1,h⟩:=ifc_cells h;obtain⟨y',e2,h'⟩:=ifc_cells h';rw[e1]at e2;simp only[Value.iface.injEq,true_and]at e2;subst e2
  cases x with
  |ptr q i off=>
   simp only[pinP]at hp;subst hp;exact ptr h h'
  |_=>exact hp.elim
 |row q i n=>
  simp only[pinP]at hp;obtain⟨rfl,hn⟩:=hp;exact row hn h h'
 |_=>exact hp.elim
theorem MutCall.of_bodyG {f : FuncId} {fn : Func} {c : Code} {args : List AV} {Hk Hd : Hp} {res : AV} {Hk' Hn : Hp} (pins : List Nat) (hf : P.funcs[f]? = some fn) (hb : fn.body = some c) (hname : (fn.name == "runtime.NumGoroutine") = false) (hnt : args.length ≤ fn.ntmps) (hlk : Hk.length = Hk'.length) (hpl : pins.length = Hk.length)
    (h:∀J:Jt,JC true J→GWp P none J fn.ntmps pins c (argT 0 args) (Hk++Hd) (retM P pins (argT 0 args) (Hk++Hd) fn.results.toList res (Hk'++Hn))):MutCall P f args Hk Hd res Hk' Hn:=by
  have hn' : ¬ fn.name = "runtime.NumGoroutine" := by simpa using hname
  refine⟨fun w vs=>by simp[callFunc,hf,hn',hb],hlk,?_⟩
  intro S0 w ρ vs hh hlen hrep
  refine callsIn_wide.1 (callsIn_of_wp_marks (n:=0) (F:=Fence.wide) hf hb trivial ?_)
  have hsize:vs.toArray.size=args.length:=by simp[hlen]
  let J:Jt:=JR true w S0 (fun b=>w.heap[b]?) (fun b=>own ρ b∨w.heap.size≤b)
  have hJ:JC true J:=⟨w,S0,_,_,fun b h=>Or.inr h,hh.wf.low,rfl⟩
  obtain⟨tm,htm⟩:∃tm,tm=vs.toArray++Array.replicate (fn.ntmps-vs.toArray.size) undef:=⟨_,rfl⟩
  have htmps:∀t,RepV w (Sx S0 ρ) ρ (fun r=>r<(Hk++Hd).length) (look (argT 0 args) t) (tm.getD t undef):=by
    intro t
    rw[look_argT']
    cases hx:args[t]? with
    |none=>exact .pure _ _ (.any _)
    | some x=>
      have ht:t<args.length:=(List.getElem?_eq_some_iff.1 hx).1
      have ht':t<vs.length:=by omega
      have hget:tm.getD t undef=vs[t]:=by
        rw[htm,Array.getD_eq_getD_getElem?,Array.getElem?_append_left (by simpa using ht')]
        simp[ht']
      rw[hget]
      exact hrep t x _ hx (List.getElem?_eq_getElem ht')
  have hst:SG J fn.ntmps pins (fun t=>tm.getD t undef) (argT 0 args) (Hk++Hd) {tmps:=vs.toArray++Array.replicate (fn.ntmps-vs.toArray.size) undef,defers:=[]} w:=by
    rw[←htm]
    refine⟨⟨S0,ρ,fun r=>r<(Hk++Hd).length,⟨hh.wf,?_,rfl,htmps,hh.rows,hh.dead⟩,fun r hr=>hr,⟨fun b h=>⟨h,hh.wf.low b h,rfl⟩,Ext.refl _ _,fun b hb=>Or.inl hb⟩,[],rfl,List.nodup_nil,by simp⟩,fun t _=>rfl⟩
    show tm.size=fn.ntmps
    rw[htm,Array.size_append,Array.size_replicate,hsize];omega
  refine wpIn_mono (h J hJ hJ.ok (fun t=>tm.getD t undef) _ w hst) ?_
  rintro e a' w' ⟨T',H',q,hsg⟩
  have hfin : endM P pins (argT 0 args) (Hk++Hd) fn.results.toList res (Hk'++Hn) T' H'→LeavesInM Fence.wide 0 P fn a'.tmps (fun e w'=>∃v ρ',e= .returned v∧Held S0 w' ρ' (Hk'++Hn)∧RepV w' (Sx S0 ρ') ρ' (fun r=>r<(Hk'++Hn).length) res v∧
        (∀r l,r<Hk.length→ρ' r=some l→ρ r=some l)∧(∀b,own ρ' b→own ρ b∨w.heap.size≤b)∧Ext (own ρ) w w') a'.defers .returning w':=by
    rintro⟨g,hgn,hgy,hH,hpin,hr⟩
    have hsg':=hsg.sub hJ.ok ⟨sub_renM g hgn,hgy⟩
    rw[hH]at hsg'
    obtain⟨H2,hH2⟩:∃H2,H2=Hk'++Hn:=⟨_,rfl⟩
    rw[←hH2]at hsg' hpin hr
    clear hH
    have hH:=hH2
    generalize renT g T'=T' at hsg' hpin hr
    obtain⟨⟨S1,ρ1,L1,hc1,hL1,⟨hj1,hj2,hj3⟩,Ds,hds,hnd,hDs⟩,hkeep⟩:=hsg'
    rw[hds,show Ds.map markOf++J.base=Ds.map markOf from List.append_nil _]
    refine leaves_marks Ds w' hnd (fun D hD=>(hDs D hD).2.2) (fun w'' hx hsz=>?_)
    have hc2:Core anyB S1 fn.ntmps w'' ρ1 L1 (look T') (hget H2) (bare a'):=hc1.foreign hx.size (fun b hb hn=>hx.block b hb (fun hD=>hn (hDs b hD).1)) (fun b hb=>⟨by rw[hsz];exact hc1.wf.low b hb,Or.inl hb⟩)
    obtain⟨xs,vs',h1,h2,h3,h4,h5⟩:=run_results hc2 fn.results.toList _ hr
    have hm:(fn.results.mapM fun(x:ResultVar)=>(match x with
        | .tmp t=>pure (a'.tmps.getD t undef)
        | .cell ad t=>do loadVar t (←asAddr (a'.tmps.getD ad undef)):Sem Value)).run P w''= .ok vs'.toArray w'':=by
      rw[Array.mapM_eq_mapM_toList,Sem.run_map]
      have h1':(fn.results.toList.mapM fun(x:ResultVar)=>(match x with
        | .tmp t=>pure (a'.tmps.getD t undef)
        | .cell ad t=>do loadVar t (←asAddr (a'.tmps.getD ad undef)):Sem Value)).run P w''= .ok vs' w'':=h1
      rw[h1'];rfl
    have hrun:(results fn a'.tmps).run P w''= .ok (if h:vs'.toArray.size=1 then vs'.toArray[0]else .tuple vs'.toArray) w'':=by
      unfold results
      rw[Sem.run_bind]
      exact congrArg (fun(r:Result (Array Value))=>r.andThen fun a w'=>Sem.run P (pure (if h:a.size=1 then a[0]else Value.tuple a)) w') hm
    have hSx:∀b,¬Sx S1 ρ1 b→¬Sx S0 ρ1 b:=by
      rintro b hn (h|h)
      · exact hn (Or.inl (hj1 b h).1)
      · exact hn (Or.inr h)
    have hLb:∀r,L1 r→r<(Hk'++Hn).length:=fun r hr=>by rw[←hH];exact hL1 r hr
    have hrows:∀r row,hget (Hk'++Hn) r=some row→∃l,ρ1 r=some l∧RowRep w'' (Sx S0 ρ1) ρ1 (fun r=>r<(Hk'++Hn).length) l row:=by
      intro r row hr
      obtain⟨l,g1,g2⟩:=hc2.rows r row (by rw[hH];exact hr)
      exact⟨l,g1,g2.ext (Nat.le_refl _) (fun b _ hn=>⟨rfl,hSx b hn⟩) hLb (fun r l _ h=>h) (fun _ _=>rfl)⟩
    have hold:∀b,b<w.heap.size→¬own ρ b→w''.heap[b]?=w.heap[b]?:=by
      intro b hb hno
      rw[hx.block b (Nat.lt_of_lt_of_le hb hj2.size) (fun hD=>?_),hj2.block b hb (by rintro(h|h);exact hno h;omega)]
      have:=(hDs b hD).2.1.2
      omega
    have hcells:∀(b:Nat) c t s,w.heap[b]?=some (Obj.cells c t s)→∃c' t' s',w''.heap[b]?=some (Obj.cells c' t' s')∧c'.size=c.size:=(hj2.trans (hx.mono (M':=fun b=>own ρ b∨w.heap.size≤b) (fun b _ hD=>Or.inr (hDs b hD).2.1.2))).cells
    refine⟨_,hrun,_,ρ1,rfl,⟨⟨hc2.wf.inj,fun r l b g1 g2=>?_,fun r l g1=>hLb r (hc2.wf.given r l g1),fun b hb=>?_,fun _ _=>trivial⟩,hrows,fun r hr=>hc2.dead r (by rw[hH];exact hr)⟩,?_,?_,hj3,?_⟩
    · obtain⟨g3,g4,_⟩:=hc2.wf.own r l b g1 g2
      exact⟨g3,fun h=>g4 (hj1 b h).1,trivial⟩
    · exact Nat.lt_of_lt_of_le (hj1 b hb).2.1 (Nat.le_of_eq hsz.symm)
    · rw[←h5]
      have hz:RepV w'' (Sx S1 ρ1) ρ1 L1 (tupOf xs) (if h:vs'.toArray.size=1 then vs'.toArray[0]else .tuple vs'.toArray):=by
        match xs,vs',h2,h3 with
        |[],[],_,_=>simp only[tupOf];rw[dif_neg (by simp)];exact .tup [] [] rfl (by simp)
        |[x],[v],_,h3=>simp only[tupOf];rw[dif_pos (by simp)];exact h3 0 x v rfl rfl
        |x::y::xs,v::u::vs',h2,h3=>simp only[tupOf];rw[dif_neg (by simp)];exact .tup _ (v::u::vs') h2 h3
      exact hz.ext (Nat.le_refl _) (fun b _ hn=>⟨rfl,hSx b hn⟩) hLb (fun r l _ h=>h)
    · intro r l' hrk hl'
      obtain⟨t,ht⟩:∃t,pins[r]?=some t:=⟨_,List.getElem?_eq_getElem (by omega)⟩
      obtain⟨p1,p2,p3⟩:=pinL_at hpin ht
      rw[Nat.zero_add]at p1 p3
      have hv:=hc2.tmps t
      rw[p2]at hv
      have hk:=hkeep t (List.mem_of_getElem? ht)
      have hv':(bare a').tmps.getD t undef=tm.getD t undef:=hk
      rw[hv']at hv
      cases h0:hget (Hk++Hd) r with
      |none=>rw[h0]at p3;simp only[sameSz]at p3
      | some row=>
        cases row with
        | map=>
          rw[h0]at p3
          cases h8:hget H2 r with
          |none=>have:=hc2.dead r h8;rw[this]at hl';cases hl'
          |some row'=>rw[h8]at p3;simp only[sameSz]at p3
        | itr=>
          rw[h0]at p3
          cases h8:hget H2 r with
          |none=>have:=hc2.dead r h8;rw[this]at hl';cases hl'
          |some row'=>rw[h8]at p3;simp only[sameSz]at p3
        | mpa=>
          rw[h0]at p3
          cases h8:hget H2 r with
          |none=>have:=hc2.dead r h8;rw[this]at hl';cases hl'
          |some row'=>rw[h8]at p3;simp only[sameSz]at p3
        | els sz es=>
          rw[h0]at p3
          cases h8:hget H2 r with
          |none=>have:=hc2.dead r h8;rw[this]at hl';cases hl'
          | some row'=>
            rw[h8]at p3
            cases row' with
            |map=>simp only[sameSz]at p3
            |itr=>simp only[sameSz]at p3
            |mpa=>simp only[sameSz]at p3
            | els sz' es'=>
              simp only[sameSz]at p3
              subst p3
              obtain⟨l,g1,g2⟩:=hh.rows r _ h0
              obtain⟨l2,g3,g4⟩:=hc2.rows r _ h8
              rw[hl']at g3
              simp only[Option.some.injEq]at g3
              subst g3
              rw[pin_loc p1 (htmps t) hv g1 hl' g2 g4 hcells (fun b hb hn=>hold b hb (fun⟨r,l,k1,k2⟩=>hn (Or.inr ⟨r,l,k1,k2⟩)))];exact g1
    · have he:=hj2.trans (hx.mono (M':=fun b=>own ρ b∨w.heap.size≤b) (fun b _ hD=>Or.inr (hDs b hD).2.1.2))
      exact⟨he.os,he.tape,he.output,he.size,hold,he.cells⟩
  cases e with
  |ret=>exact hfin q
  |normal=>exact hfin q
  |exit id=>exact q.elim
  |goto l=>exact q.elim
  |panic ch=>exact q.elim
  |outgrown=>exact q.elim
end
end Go.AM
namespace Go.AM
theorem filter_erase:∀(l:List MapEntry) (i:Nat) (e:MapEntry),(l.map (·.born)).Nodup→l[i]?=some e→l.filter (fun x=> !(x.born==e.born))=l.eraseIdx i
 |[],i,e,_,h=>by simp at h
 |x::l,0,e,hn,h=>by
  simp only[List.getElem?_cons_zero,Option.some.injEq]at h;subst h;simp only[List.map_cons,List.nodup_cons]at hn;simp only[List.filter_cons,beq_self_eq_true,Bool.not_true,Bool.false_eq_true,if_false,List.eraseIdx_cons_zero];rw[List.filter_eq_self];intro y hy;have:y.born≠x.born:=fun e=>hn.1 (by rw[←e];exact List.mem_map_of_mem hy);simp[this]
 |x::l,i+1,e,hn,h=>by
  simp only[List.getElem?_cons_succ]at h;simp only[List.map_cons,List.nodup_cons]at hn;have hx:x.born≠e.born:=fun k=>hn.1 (by rw[k];exact List.mem_map_of_mem (List.mem_of_getElem? h));have ih:=filter_erase l i e hn.2 h;have hb:(!(x.born==e.born))=true:=by simp[hx]
  rw[List.filter_cons,if_pos hb,ih,List.eraseIdx_cons_succ]
theorem map_eraseIdx' {α β:Type} (f:α→β):∀(l:List α) (j:Nat),(l.eraseIdx j).map f=(l.map f).eraseIdx j
 |[],_=>by simp
 |_::_,0=>by simp
 |x::l,j+1=>by simp[map_eraseIdx' f l j]
section
variable {P:Program} {nt:Nat}
theorem itr_next {w:World} {S:Nat→Prop} {b:Nat} {ag:Bool} {kts:List KT} {left:List (List KC×Value)} {cur:Option (List KC×Value)} (h:ItrRep w S b ag kts left cur) (hSb:S b) (ty:TypeId):
  (left=[]∧(Instr.next (.pointer (some ⟨b,0,none⟩)) false ty).run P w= .ok (.tuple #[.bool false]) w)∨
  ∃i p,left[i]?=some p∧∃(w1:World) (ob:Obj),(w1=w∨w1=w.drew)∧(Instr.next (.pointer (some ⟨b,0,none⟩)) false ty).run P w= .ok (.tuple #[.bool true,keyVal ag p.1,p.2]) {w1 with heap:=w1.heap.setIfInBounds b ob}∧
   (∀c t s,w.heap[b]?≠some (Obj.cells c t s))∧ItrRep {w1 with heap:=w1.heap.setIfInBounds b ob} S b ag kts (left.eraseIdx i) (some p):=by
 obtain⟨mb,since,seen,c0,es,clock,h1,h2,h3,h4,h5,h6,h7,h8,h9,h10⟩:=h;have hne:b≠mb:=by rintro rfl;exact h2 hSb
 have hlt:b<w.heap.size:=(Array.getElem?_eq_some_iff.1 h1).1
 rcases run_next_at w ty b mb since c0 seen es clock h1 h4 h7 h5.1 with⟨k1,k2⟩|⟨e,he,w1,hw1,hrun⟩
 ·left
  refine⟨?_,k2⟩;have:(leftOf es seen).toList.length=0:=by rw[Array.length_toList];exact k1
  have h8':=congrArg List.length h8;simp only[List.length_map]at h8';exact List.eq_nil_of_length_eq_zero (by omega)
 ·right
  obtain⟨i,hi⟩:=List.getElem?_of_mem he;have hi2:((leftOf es seen).toList.map (fun e=>(e.key,e.val)))[i]?=some (e.key,e.val):=by rw[List.getElem?_map,hi];rfl
  rw[h8,List.getElem?_map,Option.map_eq_some_iff]at hi2;obtain⟨p,hp,hpe⟩:=hi2;simp only[Prod.mk.injEq]at hpe;have hm:=mem_left he;refine⟨i,p,hp,w1, .mapIter (some mb) since (seen.push e.born) clock,hw1,?_,?_,?_⟩
  ·rw[hpe.1,hpe.2];exact hrun
  ·intro c t s hc;rw[h1]at hc;cases hc
  ·have hheap:w1.heap=w.heap:=by rcases hw1 with rfl|rfl<;>rfl
   refine⟨mb,since,seen.push e.born,clock,es,clock,?_,h2,?_,?_,?_,h6,h7,?_,?_,?_⟩
   ·show(w1.heap.setIfInBounds b _)[b]?=_;rw[hheap];simp[hlt]
   ·show mb<(w1.heap.setIfInBounds b _).size;rw[hheap];simpa using h3
   ·show(w1.heap.setIfInBounds b _)[mb]?=_;rw[hheap,Array.getElem?_setIfInBounds_ne hne];exact h4
   ·exact⟨h5.2,h5.2⟩
   ·have hl:(leftOf es (seen.push e.born)).toList=(leftOf es seen).toList.eraseIdx i:=by
     have hnd:((leftOf es seen).toList.map (·.born)).Nodup:=by
      unfold leftOf;rw[Array.toList_filter];exact List.Nodup.sublist ((List.filter_sublist).map _) h6
     rw[←filter_erase _ i e hnd hi];unfold leftOf;simp only[Array.toList_filter,List.filter_filter]
     congr 1
     funext x
     rw[contains_push]
     cases seen.contains x.born<;>cases (x.born==e.born)<;>rfl
    rw[hl,map_eraseIdx',h8,map_eraseIdx']
   ·intro q hq;exact h9 q (List.mem_of_mem_eraseIdx hq)
   ·intro q hq;simp only[Option.some.injEq]at hq;subst hq;exact⟨e,hm.1,seen,rfl,rfl,hpe.1.symm,hpe.2.symm⟩
theorem SG.next {J:Jt} (hJ:JOk J) {o:Oper} {kp:List Nat} {kv:Nat→Value} {T:Tm} {H:Hp} {a:Act} {w:World} (hs:SG J nt kp kv T H a w) (hnt:nt≤999999) {it:Operand} {r:Nat} {ag:Bool} {kts:List KT} {left:List (List KC×Value)} {cur:Option (List KC×Value)}
  (ho:o.op= .next it false) (hx:evT (look T) it= .ptr r 0 0) (hr:hget H r=some (.itr ag kts left cur)) (hrl:r<H.length)
  (hd:∀d,o.dst=some d→d<nt) (hkp:∀d,o.dst=some d→∀t∈kp,d≠t) {K:Act→World→Prop} {Q:Exit→Act→World→Prop}
  (h0:left=[]→∀a' w',SG J nt kp kv (putT T o.dst (.tup [.v (.bool false)])) H a' w'→K a' w')
  (h1:∀i p,left[i]?=some p→∀a' w',SG J nt kp kv (putT T o.dst (.tup [.v (.bool true), .v (keyVal ag p.1), .v p.2])) (hset H r (some (.itr ag kts (left.eraseIdx i) (some p)))) a' w'→K a' w'):o.wp P a w K Q:=by
 obtain⟨⟨S0,ρ,L,hc,hL,hj,hm⟩,hk⟩:=hs;obtain⟨l,hl,b,hb,ho0,hrep⟩:=hc.rows r _ hr;have hy:a.eval it= .pointer (some ⟨b,0,none⟩):=by
  have he:=eval_repG (a:=a) hc.tmps it;rw[hx]at he;generalize a.eval it=y at he
  cases he with
  |pure _ _ h=>cases h
  |ptr _ _ _ y q1 q2 q3=>
   obtain⟨b',hb',hy⟩:=q3 l hl;rw[hb]at hb';simp only[Option.some.injEq]at hb';subst hb';rw[hy,ho0];simp
 have hSb:Sx S0 ρ b:=Or.inr ⟨r,l,hl,hb⟩
 rcases itr_next (P:=P) hrep hSb o.type with⟨k1,k2⟩|⟨i,p,hp,w1,ob,hw1,hrun,hnc,hrep'⟩
 ·unfold Oper.wp;have:(execOp a.eval o).run P w= .ok (.value (.tuple #[.bool false])) w:=by
   simp only[execOp,ho,hy,Sem.run_bind,k2,Result.andThen_ok,Sem.run_pure]
  rw[this];refine h0 k1 _ _ (SG.post (e:=⟨.tup [.v (.bool false)],[],[]⟩) hJ hc hL hj hm hk hnt (post_skip hc.wf ?_) hd hkp trivial rfl);exact .pure _ _ (.tup _ [.bool false] rfl (fun i c y q1 q2=>by
   match i with
   |0=>simp at q1 q2;subst q1 q2;exact .v _
   |n+1=>simp at q1))
 ·unfold Oper.wp;have:(execOp a.eval o).run P w= .ok (.value (.tuple #[.bool true,keyVal ag p.1,p.2])) {w1 with heap:=w1.heap.setIfInBounds b ob}:=by
   simp only[execOp,ho,hy,Sem.run_bind,hrun,Result.andThen_ok,Sem.run_pure]
  rw[this];have hheap:w1.heap=w.heap:=by rcases hw1 with rfl|rfl<;>rfl
  have hos:w1.os=w.os∧w1.tape=w.tape∧w1.output=w.output:=by rcases hw1 with rfl|rfl<;>exact⟨rfl,rfl,rfl⟩
  have hsize:({w1 with heap:=w1.heap.setIfInBounds b ob}:World).heap.size=w.heap.size:=by simp[hheap]
  have hother:∀k,k≠b→({w1 with heap:=w1.heap.setIfInBounds b ob}:World).heap[k]?=w.heap[k]?:=by
   intro k hk;show(w1.heap.setIfInBounds b ob)[k]?=_;rw[hheap,Array.getElem?_setIfInBounds_ne (Ne.symm hk)]
  have hin:upsIn H [(r,some (ARow.itr ag kts (left.eraseIdx i) (some p)))]:=⟨Nat.le_of_lt hrl,trivial⟩;refine h1 i p hp _ _ (SG.post (e:=⟨.tup [.v (.bool true), .v (keyVal ag p.1), .v p.2],[(r,some (.itr ag kts (left.eraseIdx i) (some p)))],[]⟩) (ρ':=ρ) hJ hc hL hj hm hk hnt ?_ hd hkp hin rfl);exact
   {wf:=⟨hc.wf.inj,fun r l b h1 h2=>by rw[hsize];exact hc.wf.own r l b h1 h2,fun r l h1=>Or.inl (hc.wf.given r l h1),fun b h=>by rw[hsize];exact hc.wf.low b h,fun b h=>trivial⟩
    rep:= .pure _ _ (.tup _ [.bool true,keyVal ag p.1,p.2] rfl (fun i c y q1 q2=>by
     match i with
     |0=>simp at q1 q2;subst q1 q2;exact .v _
     |1=>simp at q1 q2;subst q1 q2;exact .v _
     |2=>simp at q1 q2;subst q1 q2;exact .v _
     |n+3=>simp at q1))
    ups:=by
     intro r' o' hm;simp only[List.mem_singleton,Prod.mk.injEq]at hm;obtain⟨rfl,rfl⟩:=hm;exact⟨l,hl,b,hb,ho0,hrep'⟩
    others:=fun r _=>rfl
    only:=fun r l hl=>Or.inl hl
    ext:=⟨hos.1,hos.2.1,hos.2.2,by omega,fun k hk hm=>hother k (by rintro rfl;exact hm ⟨r,l,some (.itr ag kts (left.eraseIdx i) (some p)),by simp,hl,hb⟩),fun k c t s hc=>by
     by_cases e:k=b
     ·subst e;exact absurd hc (hnc c t s)
     ·exact⟨c,t,s,(hother k e).trans hc,rfl⟩⟩}
theorem gwp_sn {ro:Option Nat} {J:Jt} {kp:List Nat} {T:Tm} {H:Hp} {Q:Exit→Tm→Hp→Prop} {id:Nat} {o:Oper} {l:List Oper} {y:Code} {dsts:List (Option Tmp)} (it:Operand) (r:Nat) {ag:Bool} {kts:List KT} {left:List (List KC×Value)} {cur:Option (List KC×Value)}
  (hd:(o::l).map (·.dst)=dsts) (hnt:nt≤999999) (hkp:keepOk kp dsts=true) (hnd:(o::l).all noDefer=true) (ho:o.op= .next it false) (hg:o.guard=none) (hdk:dstOk nt o.dst)
  (hx:evT (look T) it= .ptr r 0 0) (hr:hget H r=some (.itr ag kts left cur))
  (h0:left=[]→∀K:Tm→Hp→Prop,(∀T' H',GWp P ro J nt kp y T' H' Q→K T' H')→vcOps P nt dsts l (putT T o.dst (.tup [.v (.bool false)])) H K)
  (h1:∀i p,left[i]?=some p→∀K:Tm→Hp→Prop,(∀T' H',GWp P ro J nt kp y T' H' Q→K T' H')→vcOps P nt dsts l (putT T o.dst (.tup [.v (.bool true), .v (keyVal ag p.1), .v p.2])) (hset H r (some (.itr ag kts (left.eraseIdx i) (some p)))) K):
  GWp P ro J nt kp (.seq (.region id (o::l).toArray false) y) T H Q:=by
 refine gwp_seq ?_;intro hJ kv a w hs;refine wpIn_region_lit ?_;have hrl:r<H.length:=by
  rcases Nat.lt_or_ge r H.length with h|h
  ·exact h
  ·rw[hget_none H r h]at hr;cases hr
 have hall:=List.all_eq_true.1 hnd;have hrest:∀o'∈l,noDefer o'=true∧o'.dst∈dsts:=fun o' ho'=>⟨hall o' (by simp[ho']),by rw[←hd];exact List.mem_map_of_mem (by simp[ho'])⟩;have hdst:o.dst∈dsts:=by rw[←hd];exact List.mem_map_of_mem (by simp)
 have snd:=fun T H a w=>vcOps_soundG (P:=P) (ro:=ro) (QQ:=fun e a' w'=>∃T' H',thenA (fun T' H'=>GWp P ro J nt kp y T' H' Q) Q e T' H'∧SG J nt kp kv T' H' a' w') hJ hnt (ops:=(o::l).toArray) (dsts:=dsts) (K:=fun T' H'=>GWp P ro J nt kp y T' H' Q) (by intro j;rw[←hd,List.getElem?_map,List.getElem?_toArray]) hkp (fun T H a w q s=>⟨T,H,q,s⟩) l hrest T H a w;have:=hs.next (P:=P) (o:=o) (K:=fun a w=>wpListIn (fr ro) 0 P (o::l).toArray (fun e a' w'=>∃T' H',thenA (fun T' H'=>GWp P ro J nt kp y T' H' Q) Q e T' H'∧SG J nt kp kv T' H' a' w') l a w) (Q:=fun e a' w'=>∃T' H',thenA (fun T' H'=>GWp P ro J nt kp y T' H' Q) Q e T' H'∧SG J nt kp kv T' H' a' w')
  hJ hnt ho hx hr hrl (fun d hd=>by rw[hd]at hdk;exact hdk) (fun d hd'=>keepOk_spec hkp (by rw[←hd'];exact hdst))
  (fun hl0 a' w' hs'=>snd _ _ a' w' (h0 hl0 _ fun _ _ h=>h) hs') (fun i p hp a' w' hs'=>snd _ _ a' w' (h1 i p hp _ fun _ _ h=>h) hs')
 unfold wpListIn
 split
 ·exact wpIn_of_op (hall o (by simp)) this
 ·rename_i hw;exact absurd (by simp[Region.wanted,hg]) hw
end
theorem MutCall.eat2 {P:Program} {f:FuncId} {args args':List AV} {Hk Hd1 Hd Hk' Hn:Hp} {res:AV} (dep k:Nat) (hk:k=(Hk++Hd1).length) (hren:(List.range k).map (fun r=>(hget (Hk++(Hd1++Hd)) r).map (renRow ((List.range k).map some)))=Hk++Hd1) (ha:args.map (renC (hget (Hk++(Hd1++Hd))) (List.range k) dep)=args')
  (h:MutCall P f args' Hk Hd1 res Hk' Hn):MutCall P f args Hk (Hd1++Hd) res Hk' Hn:=by
 subst ha;obtain⟨hcf,hkl,hcall⟩:=h;refine⟨hcf,hkl,?_⟩;intro S0 w ρ vs hh hlen hrep;obtain⟨G,hG⟩:∃G,G=(List.range k).map some:=⟨_,rfl⟩;have hGs:∀(r q:Nat),G[r]?=some (some q)↔(r<k∧q=r):=by
  intro r q;rw[hG,List.getElem?_map]
  by_cases hr:r<k
  ·rw[List.getElem?_range hr];simp[hr,eq_comm]
  ·rw[List.getElem?_eq_none (by simp;omega)];simp[hr]
 have hlt:∀r:Nat,(∃q,G[r]?=some (some q))→r<(Hk++Hd1).length:=by
  rintro r ⟨q,hq⟩;have:=((hGs r q).1 hq).1;omega
 have hS:∀b,Sx S0 (renρ ρ G) b→Sx S0 ρ b:=by
  rintro b (h|⟨r,l,h1,h2⟩)
  ·exact Or.inl h
  ·obtain⟨q,_,h3⟩:=renρ_spec h1;exact Or.inr ⟨q,l,h3,h2⟩
 have hown:∀b,own (renρ ρ G) b→own ρ b:=by
  rintro b ⟨r,l,h1,h2⟩;obtain⟨q,_,h3⟩:=renρ_spec h1;exact⟨q,l,h3,h2⟩
 have hh2:Held S0 w (renρ ρ G) (Hk++Hd1):=by
  refine⟨⟨?_,?_,?_,hh.wf.low,fun _ _=>trivial⟩,?_,?_⟩
  ·intro r r' l l' b h1 h2 k1 k2;obtain⟨q,g1,p1⟩:=renρ_spec h1;obtain⟨q',g2,p2⟩:=renρ_spec h2;have:=hh.wf.inj q q' l l' b p1 p2 k1 k2;have e1:=((hGs _ _).1 g1).2;have e2:=((hGs _ _).1 g2).2;omega
  ·intro r l b h1 k1;obtain⟨q,g1,p1⟩:=renρ_spec h1;exact hh.wf.own q l b p1 k1
  ·intro r l h1;obtain⟨q,g1,_⟩:=renρ_spec h1;exact hlt r ⟨q,g1⟩
  ·intro r row hr;rw[←hren,hget_map]at hr
   split at hr
   ·rename_i q hq;have hqk:q<k∧q=r:=by
     have hr':r<k:=by
      have:=(List.getElem?_eq_some_iff.1 hq).1;simpa using this
     rw[List.getElem?_range hr']at hq;simp only[Option.some.injEq]at hq;omega
    simp only[Option.map_eq_some_iff]at hr;obtain⟨row0,h0,rfl⟩:=hr;obtain⟨l,hl,hrow⟩:=hh.rows q row0 h0;refine⟨l,?_,?_⟩
    ·simp only[renρ,(hGs r q).2 ⟨by omega,by omega⟩];exact hl
    ·rw[←hG];exact(renRow_rep hS hrow).ext (Nat.le_refl _) (fun b _ hnb=>⟨rfl,hnb⟩) hlt (fun r l _ h=>h) (fun _ _=>rfl)
   ·cases hr
  ·intro r hr
   cases h2:renρ ρ G r with
   |none=>rfl
   |some l=>
    exfalso;obtain⟨q,g1,p1⟩:=renρ_spec h2;obtain⟨e1,e2⟩:=(hGs _ _).1 g1;subst e2;rw[←hren,hget_map,List.getElem?_range e1]at hr;simp only[Option.map_eq_none_iff]at hr;have:=hh.dead q hr;rw[this]at p1;cases p1
 refine(hcall S0 w (renρ ρ G) vs hh2 (by simpa using hlen) (fun i c y h1 h2=>?_)).mono ?_
 ·simp only[List.getElem?_map,Option.map_eq_some_iff]at h1;obtain⟨c',h1,rfl⟩:=h1;rw[hG];refine(renC_rep hh.wf dep c' y (fun r _ row hr=>hh.rows r row hr) (hrep i c' y h1 h2)).ext (Nat.le_refl _) (fun b _ hnb=>⟨rfl,hnb⟩) ?_ (fun r l _ h=>h);rw[←hG];exact hlt
 ·rintro e w' ⟨v,ρ',rfl,h1,h2,h3,h4,h5⟩;refine⟨v,ρ',rfl,h1,h2,fun r l hr hl=>?_,fun b hb=>(h4 b hb).imp (hown b) id,h5.mono fun b _ hb=>hown b hb⟩;obtain⟨q,g1,p1⟩:=renρ_spec (h3 r l hr hl);have:=((hGs _ _).1 g1).2;subst this;exact p1
theorem MutCall.eat {P:Program} {f:FuncId} {args args':List AV} {Hk Hd Hk' Hn:Hp} {res:AV} (dep k:Nat) (hk:k=Hk.length) (hren:(List.range k).map (fun r=>(hget (Hk++Hd) r).map (renRow ((List.range k).map some)))=Hk) (ha:args.map (renC (hget (Hk++Hd)) (List.range k) dep)=args')
  (h:MutCall P f args' Hk [] res Hk' Hn):MutCall P f args Hk Hd res Hk' Hn:=
 MutCall.eat2 (Hd1:=[]) dep k (by simpa using hk) (by simpa using hren) ha h
end Go.AM
namespace Go.AM
section
variable {P:Program}
theorem leaves_marksP {fn:Func} {tmps:Array Value} {R:Ending→World→Prop} {ch:List PanicEntry}:∀(Ds:List Nat) (w':World),Ds.Nodup→(∀D∈Ds,w'.heap[D]?=some (.deferred (some [])))→
  (∀w'',Ext (fun b=>b∈Ds) w' w''→w''.heap.size=w'.heap.size→R (.panicked ch) w'')→LeavesInM Fence.wide 0 P fn tmps R (Ds.map markOf) (.panicking ch) w'
 |[],w',_,_,h=>h w' (Ext.refl _ _) rfl
 |D::Ds,w',hn,hD,h=>by
  rw[List.nodup_cons]at hn;refine⟨by simp,Or.inl ⟨D,_,rfl,run_takeDeferred (hD D (by simp)),?_⟩⟩;refine leaves_marksP Ds _ hn.2 (fun D' hD'=>?_) (fun w'' hx hs=>h w'' ?_ ?_)
  ·rw[World.putObj_heap_other (fun e=>hn.1 (by rw[←e];exact hD'))];exact hD D' (by simp[hD'])
  ·exact(ext_putObj (B:=fun b=>b∈D::Ds) (by simp) (by intro c t s h;rw[hD D (by simp)]at h;cases h)).trans (hx.mono fun b _ hb=>by simp[hb])
  ·rw[hs];simp
def MutPanic (P:Program) (f:FuncId) (args:List AV) (Hk Hd:Hp) (v:Value) (Hk' Hn:Hp):Prop:=
 (∀ (w:World) (vs:Array Value),(callFunc f vs).run P w= .ok (.enter f vs) w)∧Hk.length=Hk'.length∧
  ∀ (S0:Nat→Prop) (w:World) (ρ:Nat→Option AM.Loc) (vs:List Value),Held S0 w ρ (Hk++Hd)→args.length=vs.length→
   (∀(i:Nat) c x,args[i]?=some c→vs[i]?=some x→RepV w (Sx S0 ρ) ρ (fun r=>r<(Hk++Hd).length) c x)→
   Calls P f vs.toArray w fun e w'=>e= .panicked [{v:=v,recovered:=false}]∧∃ρ',Held S0 w' ρ' (Hk'++Hn)∧
    (∀r l,r<Hk.length→ρ' r=some l→ρ r=some l)∧(∀b,own ρ' b→own ρ b∨w.heap.size≤b)∧Ext (own ρ) w w'
def endP (pins:List Nat) (T0:Tm) (H0:Hp) (H':Hp) (T:Tm) (H:Hp):Prop:=
 ∃g,nodupB g=true∧look (renT g T) 999999=look T 999999∧renH H g=H'∧pinL T0 H0 (renT g T) H' 0 pins
def retP (pins:List Nat) (T0:Tm) (H0:Hp) (v:Value) (H':Hp):Exit→Tm→Hp→Prop
 | .panic ch,T,H=>ch=[{v:=v,recovered:=false}]∧endP pins T0 H0 H' T H
 |_,_,_=>False
theorem MutPanic.of_bodyG {f : FuncId} {fn : Func} {c : Code} {args : List AV} {Hk Hd : Hp} {v : Value} {Hk' Hn : Hp} (pins : List Nat) (hf : P.funcs[f]? = some fn) (hb : fn.body = some c) (hname : (fn.name == "runtime.NumGoroutine") = false) (hnt : args.length ≤ fn.ntmps) (hlk : Hk.length = Hk'.length) (hpl : pins.length = Hk.length)
    (h:∀J:Jt,JC true J→GWp P none J fn.ntmps pins c (argT 0 args) (Hk++Hd) (retP pins (argT 0 args) (Hk++Hd) v (Hk'++Hn))):MutPanic P f args Hk Hd v Hk' Hn:=by
  have hn' : ¬ fn.name = "runtime.NumGoroutine" := by simpa using hname
  refine⟨fun w vs=>by simp[callFunc,hf,hn',hb],hlk,?_⟩
  intro S0 w ρ vs hh hlen hrep
  refine callsIn_wide.1 (callsIn_of_wp_marks (n:=0) (F:=Fence.wide) hf hb trivial ?_)
  have hsize:vs.toArray.size=args.length:=by simp[hlen]
  let J:Jt:=JR true w S0 (fun b=>w.heap[b]?) (fun b=>own ρ b∨w.heap.size≤b)
  have hJ:JC true J:=⟨w,S0,_,_,fun b h=>Or.inr h,hh.wf.low,rfl⟩
  obtain⟨tm,htm⟩:∃tm,tm=vs.toArray++Array.replicate (fn.ntmps-vs.toArray.size) undef:=⟨_,rfl⟩
  have htmps:∀t,RepV w (Sx S0 ρ) ρ (fun r=>r<(Hk++Hd).length) (look (argT 0 args) t) (tm.getD t undef):=by
    intro t
    rw[look_argT']
    cases hx:args[t]? with
    |none=>exact .pure _ _ (.any _)
    | some x=>
      have ht:t<args.length:=(List.getElem?_eq_some_iff.1 hx).1
      have ht':t<vs.length:=by omega
      have hget:tm.getD t undef=vs[t]:=by
        rw[htm,Array.getD_eq_getD_getElem?,Array.getElem?_append_left (by simpa using ht')]
        simp[ht']
      rw[hget]
      exact hrep t x _ hx (List.getElem?_eq_getElem ht')
  have hst:SG J fn.ntmps pins (fun t=>tm.getD t undef) (argT 0 args) (Hk++Hd) {tmps:=vs.toArray++Array.replicate (fn.ntmps-vs.toArray.size) undef,defers:=[]} w:=by
    rw[←htm]
    refine⟨⟨S0,ρ,fun r=>r<(Hk++Hd).length,⟨hh.wf,?_,rfl,htmps,hh.rows,hh.dead⟩,fun r hr=>hr,⟨fun b h=>⟨h,hh.wf.low b h,rfl⟩,Ext.refl _ _,fun b hb=>Or.inl hb⟩,[],rfl,List.nodup_nil,by simp⟩,fun t _=>rfl⟩
    show tm.size=fn.ntmps
    rw[htm,Array.size_append,Array.size_replicate,hsize];omega
  refine wpIn_mono (h J hJ hJ.ok (fun t=>tm.getD t undef) _ w hst) ?_
  rintro e a' w' ⟨T',H',q,hsg⟩
  have hfin : ∀ch,ch=[{v:=v,recovered:=false}]→endP pins (argT 0 args) (Hk++Hd) (Hk'++Hn) T' H'→LeavesInM Fence.wide 0 P fn a'.tmps (fun e w'=>e= .panicked [{v:=v,recovered:=false}]∧∃ρ',Held S0 w' ρ' (Hk'++Hn)∧
        (∀r l,r<Hk.length→ρ' r=some l→ρ r=some l)∧(∀b,own ρ' b→own ρ b∨w.heap.size≤b)∧Ext (own ρ) w w') a'.defers (.panicking ch) w':=by
    rintro ch rfl ⟨g,hgn,hgy,hH,hpin⟩
    have hsg':=hsg.sub hJ.ok ⟨sub_renM g hgn,hgy⟩
    rw[hH]at hsg'
    obtain⟨H2,hH2⟩:∃H2,H2=Hk'++Hn:=⟨_,rfl⟩
    rw[←hH2]at hsg' hpin
    clear hH
    have hH:=hH2
    generalize renT g T'=T' at hsg' hpin
    obtain⟨⟨S1,ρ1,L1,hc1,hL1,⟨hj1,hj2,hj3⟩,Ds,hds,hnd,hDs⟩,hkeep⟩:=hsg'
    rw[hds,show Ds.map markOf++J.base=Ds.map markOf from List.append_nil _]
    refine leaves_marksP Ds w' hnd (fun D hD=>(hDs D hD).2.2) (fun w'' hx hsz=>?_)
    have hc2:Core anyB S1 fn.ntmps w'' ρ1 L1 (look T') (hget H2) (bare a'):=hc1.foreign hx.size (fun b hb hn=>hx.block b hb (fun hD=>hn (hDs b hD).1)) (fun b hb=>⟨by rw[hsz];exact hc1.wf.low b hb,Or.inl hb⟩)
    have hSx:∀b,¬Sx S1 ρ1 b→¬Sx S0 ρ1 b:=by
      rintro b hn (h|h)
      · exact hn (Or.inl (hj1 b h).1)
      · exact hn (Or.inr h)
    have hLb:∀r,L1 r→r<(Hk'++Hn).length:=fun r hr=>by rw[←hH];exact hL1 r hr
    have hrows:∀r row,hget (Hk'++Hn) r=some row→∃l,ρ1 r=some l∧RowRep w'' (Sx S0 ρ1) ρ1 (fun r=>r<(Hk'++Hn).length) l row:=by
      intro r row hr
      obtain⟨l,g1,g2⟩:=hc2.rows r row (by rw[hH];exact hr)
      exact⟨l,g1,g2.ext (Nat.le_refl _) (fun b _ hn=>⟨rfl,hSx b hn⟩) hLb (fun r l _ h=>h) (fun _ _=>rfl)⟩
    have hold:∀b,b<w.heap.size→¬own ρ b→w''.heap[b]?=w.heap[b]?:=by
      intro b hb hno
      rw[hx.block b (Nat.lt_of_lt_of_le hb hj2.size) (fun hD=>?_),hj2.block b hb (by rintro(h|h);exact hno h;omega)]
      have:=(hDs b hD).2.1.2
      omega
    have hcells:∀(b:Nat) c t s,w.heap[b]?=some (Obj.cells c t s)→∃c' t' s',w''.heap[b]?=some (Obj.cells c' t' s')∧c'.size=c.size:=(hj2.trans (hx.mono (M':=fun b=>own ρ b∨w.heap.size≤b) (fun b _ hD=>Or.inr (hDs b hD).2.1.2))).cells
    refine⟨rfl,ρ1,⟨⟨hc2.wf.inj,fun r l b g1 g2=>?_,fun r l g1=>hLb r (hc2.wf.given r l g1),fun b hb=>?_,fun _ _=>trivial⟩,hrows,fun r hr=>hc2.dead r (by rw[hH];exact hr)⟩,?_,hj3,?_⟩
    · obtain⟨g3,g4,_⟩:=hc2.wf.own r l b g1 g2
      exact⟨g3,fun h=>g4 (hj1 b h).1,trivial⟩
    · exact Nat.lt_of_lt_of_le (hj1 b hb).2.1 (Nat.le_of_eq hsz.symm)
    · intro r l' hrk hl'
      obtain⟨t,ht⟩:∃t,pins[r]?=some t:=⟨_,List.getElem?_eq_getElem (by omega)⟩
      obtain⟨p1,p2,p3⟩:=pinL_at hpin ht
      rw[Nat.zero_add]at p1 p3
      have hv:=hc2.tmps t
      rw[p2]at hv
      have hk:=hkeep t (List.mem_of_getElem? ht)
      have hv':(bare a').tmps.getD t undef=tm.getD t undef:=hk
      rw[hv']at hv
      cases h0:hget (Hk++Hd) r with
      |none=>rw[h0]at p3;simp only[sameSz]at p3
      | some row=>
        cases row with
        | map=>
          rw[h0]at p3
          cases h8:hget H2 r with
          |none=>have:=hc2.dead r h8;rw[this]at hl';cases hl'
          |some row'=>rw[h8]at p3;simp only[sameSz]at p3
        | itr=>
          rw[h0]at p3
          cases h8:hget H2 r with
          |none=>have:=hc2.dead r h8;rw[this]at hl';cases hl'
          |some row'=>rw[h8]at p3;simp only[sameSz]at p3
        | mpa=>
          rw[h0]at p3
          cases h8:hget H2 r with
          |none=>have:=hc2.dead r h8;rw[this]at hl';cases hl'
          |some row'=>rw[h8]at p3;simp only[sameSz]at p3
        | els sz es=>
          rw[h0]at p3
          cases h8:hget H2 r with
          |none=>have:=hc2.dead r h8;rw[this]at hl';cases hl'
          | some row'=>
            rw[h8]at p3
            cases row' with
            |map=>simp only[sameSz]at p3
            |itr=>simp only[sameSz]at p3
            |mpa=>simp only[sameSz]at p3
            | els sz' es'=>
              simp only[sameSz]at p3
              subst p3
              obtain⟨l,g1,g2⟩:=hh.rows r _ h0
              obtain⟨l2,g3,g4⟩:=hc2.rows r _ h8
              rw[hl']at g3
              simp only[Option.some.injEq]at g3
              subst g3
              rw[pin_loc p1 (htmps t) hv g1 hl' g2 g4 hcells (fun b hb hn=>hold b hb (fun⟨r,l,k1,k2⟩=>hn (Or.inr ⟨r,l,k1,k2⟩)))];exact g1
    · have he:=hj2.trans (hx.mono (M':=fun b=>own ρ b∨w.heap.size≤b) (fun b _ hD=>Or.inr (hDs b hD).2.1.2))
      exact⟨he.os,he.tape,he.output,he.size,hold,he.cells⟩
  cases e with
  |ret=>exact q.elim
  |normal=>exact q.elim
  |exit id=>exact q.elim
  |goto l=>exact q.elim
  |panic ch=>exact hfin ch q.1 q.2
  |outgrown=>exact q.elim
theorem SG.putAny {J:Jt} (hJ:JOk J) {nt:Nat} {kp:List Nat} {kv:Nat→Value} {T:Tm} {H:Hp} {a:Act} {w:World} (hs:SG J nt kp kv T H a w) (hnt:nt≤999999) {d:Tmp} {v:Value} (hd:d<nt) (hk:∀t∈kp,d≠t):SG J nt kp kv (putT T (some d) .any) H (a.put (some d) v) w:=by
 obtain⟨⟨S0,ρ,L,hc,hL,hj,hm⟩,hkp⟩:=hs;exact SG.post (e:=⟨.any,[],[]⟩) hJ hc hL hj hm hkp hnt (post_skip hc.wf (.pure _ _ (.any _))) (fun d' e=>by cases e;exact hd) (fun d' e=>by cases e;exact hk) trivial rfl
theorem gwp_panic3 {J:Jt} {nt:Nat} {kp:List Nat} {T:Tm} {H:Hp} {Q:Exit→Tm→Hp→Prop} {id:Nat} {o1 o2 o3:Oper} {d1 d2:Tmp} {v1 v2:Value} (hnt:nt≤999999)
  (e1:o1.dst=some d1) (e2:o2.dst=some d2) (g1:o1.guard=none) (g2:o2.guard=none) (g3:o3.guard=none) (n1:noDefer o1=true) (n2:noDefer o2=true) (n3:noDefer o3=true)
  (k1:d1<nt) (k2:d2<nt) (m1:kp.contains d1=false) (m2:kp.contains d2=false)
  (h1:∀ev w,(execOp ev o1).run P w= .ok (.value v1) w) (h2:∀ev w,ev (.tmp d1)=v1→(execOp ev o2).run P w= .ok (.value v2) w) (h3:∀ev w,ev (.tmp d2)=v2→(execOp ev o3).run P w= .halt (.panic v2) w)
  (hq:Q (.panic [{v:=v2,recovered:=false}]) (putT (putT T (some d1) .any) (some d2) .any) H):GWp P none J nt kp (.region id [o1,o2,o3].toArray false) T H Q:=by
 intro hJ kv a w hs;have ne:∀{d:Tmp},kp.contains d=false→∀t∈kp,d≠t:=by
  intro d h t ht e;subst e;rw[List.contains_eq_mem,decide_eq_false_iff_not]at h;exact h ht
 have sz:∀{T H a w},SG J nt kp kv T H a w→a.tmps.size=nt:=fun⟨⟨_,_,_,hc,_⟩,_⟩=>hc.size;have ev:∀{T H a w d v},SG J nt kp kv T H a w→d<nt→(a.put (some d) v).eval (.tmp d)=v:=by
  intro T H a w d v h hd;have:=getD_put a (some d) v d (fun k e=>by cases e;rw[sz h];exact hd);simpa [Act.eval]using this
 refine wpIn_region_lit ?_;have s1:=hs.putAny hJ hnt (v:=v1) k1 (ne m1);have s2:=s1.putAny hJ hnt (v:=v2) k2 (ne m2);refine wpListIn_plain g1 fun K hK=>wpIn_of_op n1 ?_;unfold Oper.wp;rw[h1,Oper.upon_value,e1];refine hK _ _ (wpListIn_plain g2 fun K hK=>wpIn_of_op n2 ?_);unfold Oper.wp;rw[h2 _ _ (ev hs k1),Oper.upon_value,e2];refine hK _ _ (wpListIn_plain g3 fun K hK=>wpIn_of_op n3 ?_);unfold Oper.wp;rw[h3 _ _ (ev s1 k2),Oper.upon_panic];exact⟨_,_,hq,s2⟩
theorem Core.row {B S0:Nat→Prop} {nt:Nat} {w:World} {ρ:Nat→Option Loc} {L:Nat→Prop} {T:Nat→AV} {H:Hp} {a:Act} (hc:Core B S0 nt w ρ L T (hget H) a) {r:Nat} {row row':ARow} (hr:hget H r=some row) (hlt:r<H.length)
  (h:∀l,ρ r=some l→RowRep w (Sx S0 ρ) ρ L l row→RowRep w (Sx S0 ρ) ρ L l row'):Core B S0 nt w ρ L T (hget (hset H r (some row'))) a:=by
 refine⟨hc.wf,hc.size,hc.defers,hc.tmps,fun q row0 hq=>?_,fun q hq=>?_⟩
 ·rw[hget_hset H r _ q (Nat.le_of_lt hlt)]at hq
  split at hq
  ·rename_i e;subst e;simp only[Option.some.injEq]at hq;subst hq;obtain⟨l,h1,h2⟩:=hc.rows q row hr;exact⟨l,h1,h l h1 h2⟩
  ·exact hc.rows q row0 hq
 ·rw[hget_hset H r _ q (Nat.le_of_lt hlt)]at hq
  split at hq
  ·cases hq
  ·exact hc.dead q hq
theorem sub_row {nt:Nat} {T:Tm} {H:Hp} (r:Nat) {row row':ARow} (hr:hget H r=some row) (hlt:r<H.length) (h:∀w S ρ L l,RowRep w S ρ L l row→RowRep w S ρ L l row'):Sub nt T H T (hset H r (some row')):=by
 rintro w0 B S0 a w ⟨⟨ρ,L,hc,hL⟩,hext⟩;exact⟨⟨ρ,L,hc.row hr hlt fun l _ hrow=>h _ _ _ _ l hrow,fun q hq=>by rw[hset_len H r _ hlt];exact hL q hq⟩,hext⟩
theorem mpa_nil {w:World} {S:Nat→Prop} {ρ:Nat→Option Loc} {L:Nat→Prop} {l:Loc} {ag:Bool} {kts:List KT} (h:RowRep w S ρ L l (.map ag kts [])):RowRep w S ρ L l (.mpa ag kts []):=by
 obtain⟨b,hb,h1⟩:=h;exact⟨b,hb,[],[],h1,List.Perm.refl _,by simp,rfl,by simp⟩
end
end Go.AM
end
section
namespace Go.AM
theorem zP : (∀ (T : Tm) (L : List Nat), prune T L = L.map fun t => (t, look T t)) ∧ (∀ {α β : Type} (f : α → β) (a : α) (l : List α), List.map f (a :: l) = f a :: List.map f l) ∧ (∀ {α β : Type} (f : α → β), List.map f [] = []) ∧
 (∀ t, look [] t = .any) ∧ (∀ i x r t, look ((i, x) :: r) t = if t = i then x else look r t) ∧ (∀ {α : Type} (a : α) (l r : List α), a :: l ++ r = a :: (l ++ r)) ∧ (∀ {α : Type} (l : List α), [] ++ l = l) :=
 ⟨fun _ _ => rfl, fun _ _ _ => rfl, fun _ => rfl, fun _ => rfl, fun _ _ _ _ => rfl, fun _ _ _ => rfl, fun _ => rfl⟩
theorem zT : (∀ (n : Tm → Hp → Prop) Q, thenA n Q .normal = n) ∧ (∀ (n : Tm → Hp → Prop) Q k, thenA n Q (.exit k) = Q (.exit k)) ∧ (∀ (n : Tm → Hp → Prop) Q, thenA n Q .ret = Q .ret) ∧
 (∀ (i : Nat) Q k, inBlockA i Q (.exit k) = if k = i then Q .normal else Q (.exit k)) ∧ (∀ (i : Nat) Q, inBlockA i Q .normal = Q .normal) ∧ (∀ (i : Nat) Q, inBlockA i Q .ret = Q .ret) ∧
 (∀ Q, noGotoA Q .normal = Q .normal) ∧ (∀ Q k, noGotoA Q (.exit k) = Q (.exit k)) ∧ (∀ Q, noGotoA Q .ret = Q .ret) ∧ (∀ {α : Type} (a : α), (a = a) = True) :=
 ⟨fun _ _ => rfl, fun _ _ _ => rfl, fun _ _ => rfl, fun _ _ _ => rfl, fun _ _ => rfl, fun _ _ => rfl, fun _ => rfl, fun _ _ => rfl, fun _ => rfl, fun _ => eq_self _⟩
theorem zW (k : Nat) (h : k ≤ 9223372036854775806) : IntKind.i64.wrap ((k : Int) + 1) = (k : Int) + 1 := IntWalk.i64_in _ ⟨by omega, by omega⟩
section
variable {P : Program} {ro : Option Nat} {J : Jt} {nt : Nat} {kp : List Nat} {dsts : List (Option Tmp)} {l : List Oper} {y : Code} {id : Nat} {T : Tm} {H : Hp} {Q : Exit → Tm → Hp → Prop}
theorem gS (h : ∀ K : Tm → Hp → Prop, (∀ T' H', GWp P ro J nt kp y T' H' Q → K T' H') → vcOps P nt dsts l T H K) (hd : l.map (·.dst) = dsts := by rfl) (hnt : nt ≤ 999999 := by decide) (hkp : keepOk kp dsts = true := by rfl) (hnd : l.all noDefer = true := by rfl) : GWp P ro J nt kp (.seq (.region id l.toArray false) y) T H Q := gwp_sr hd hnt hkp hnd h
theorem gR (h : ∀ K : Tm → Hp → Prop, (∀ T' H', Q .normal T' H' → K T' H') → vcOps P nt dsts l T H K) (hd : l.map (·.dst) = dsts := by rfl) (hnt : nt ≤ 999999 := by decide) (hkp : keepOk kp dsts = true := by rfl) (hnd : l.all noDefer = true := by rfl) : GWp P ro J nt kp (.region id l.toArray false) T H Q := gwp_r hd hnt hkp hnd h
theorem aS (h : ∀ K : Tm → Hp → Prop, (∀ T' H', AWp P nt y T' H' Q → K T' H') → vcOps P nt dsts l T H K) (hd : l.map (·.dst) = dsts := by rfl) : AWp P nt (.seq (.region id l.toArray false) y) T H Q := awp_sr hd h
theorem aR (h : ∀ K : Tm → Hp → Prop, (∀ T' H', Q .normal T' H' → K T' H') → vcOps P nt dsts l T H K) (hd : l.map (·.dst) = dsts := by rfl) : AWp P nt (.region id l.toArray false) T H Q := awp_r hd h
end
end Go.AM
end
section
namespace Go.AM
open Go.Proofs
@[simp] theorem td3:tdOf Tryz.prog 3= .cell (.int .i64 0):=by kernel_rfl
@[simp] theorem bt3:Tryz.prog.bytesOf 3=8:=by kernel_rfl
@[simp] theorem td4:tdOf Tryz.prog 4= .cell (.bool false):=by kernel_rfl
@[simp] theorem td9:tdOf Tryz.prog 9= .cell (.string ByteArray.empty):=by kernel_rfl
@[simp] theorem td22:tdOf Tryz.prog 22= .slice 152:=by kernel_rfl
@[simp] theorem td23:tdOf Tryz.prog 23= .slice 154:=by kernel_rfl
@[simp] theorem td25:tdOf Tryz.prog 25= .agg [.slice none 0 0, .slice none 0 0] [(0,1,22),(1,1,23)]:=by kernel_rfl
@[simp] theorem td26:tdOf Tryz.prog 26= .slice 77:=by kernel_rfl
@[simp] theorem td27:tdOf Tryz.prog 27= .slice 156:=by kernel_rfl
@[simp] theorem td29:tdOf Tryz.prog 29= .agg [.slice none 0 0, .slice none 0 0, .slice none 0 0, .slice none 0 0] [(0,2,25),(2,1,26),(3,1,27)]:=by kernel_rfl
@[simp] theorem td31:tdOf Tryz.prog 31= .cell (.nilFunc):=by kernel_rfl
@[simp] theorem td37:tdOf Tryz.prog 37= .slice 299:=by kernel_rfl
@[simp] theorem td41:tdOf Tryz.prog 41= .slice 3:=by kernel_rfl
@[simp] theorem bt41:Tryz.prog.bytesOf 41=24:=by kernel_rfl
@[simp] theorem td49:tdOf Tryz.prog 49= .slice 56:=by kernel_rfl
@[simp] theorem td56:tdOf Tryz.prog 56= .agg [.int .i64 0, .bool false] [(0,1,3),(1,1,4)]:=by kernel_rfl
@[simp] theorem bt56:Tryz.prog.bytesOf 56=16:=by kernel_rfl
@[simp] theorem td62:tdOf Tryz.prog 62= .agg [.int .i64 0, .int .i64 0] [(0,1,60),(1,1,3)]:=by kernel_rfl
@[simp] theorem td77:tdOf Tryz.prog 77= .agg [.int .i64 0, .int .i64 0] [(0,1,3),(1,1,3)]:=by kernel_rfl
@[simp] theorem bt77:Tryz.prog.bytesOf 77=16:=by kernel_rfl
@[simp] theorem td78:tdOf Tryz.prog 78= .cell (.pointer none):=by kernel_rfl
@[simp] theorem td81:tdOf Tryz.prog 81= .slice 220:=by kernel_rfl
@[simp] theorem td82:tdOf Tryz.prog 82= .slice 41:=by kernel_rfl
@[simp] theorem td83:tdOf Tryz.prog 83= .slice 225:=by kernel_rfl
@[simp] theorem td85:tdOf Tryz.prog 85= .agg [.slice none 0 0, .slice none 0 0, .slice none 0 0, .slice none 0 0, .int .i64 0, .slice none 0 0] [(0,1,81),(1,1,82),(2,1,82),(3,1,41),(4,1,3),(5,1,83)]:=by kernel_rfl
@[simp] theorem td89:tdOf Tryz.prog 89= .agg [.slice none 0 0, .slice none 0 0, .slice none 0 0, .slice none 0 0, .int .i64 0, .slice none 0 0] [(0,6,85)]:=by kernel_rfl
@[simp] theorem td90:tdOf Tryz.prog 90= .slice 217:=by kernel_rfl
@[simp] theorem td91:tdOf Tryz.prog 91= .cell (.map none):=by kernel_rfl
@[simp] theorem td93:tdOf Tryz.prog 93= .agg [.slice none 0 0, .slice none 0 0, .slice none 0 0, .slice none 0 0, .int .i64 0, .slice none 0 0, .bool false, .int .i64 0, .int .i64 0, .bool false, .int .i64 0, .slice none 0 0, .slice none 0 0, .map none, .map none] [(0,6,89),(6,1,4),(7,1,3),(8,1,3),(9,1,4),(10,1,3),(11,1,90),(12,1,41),(13,1,91),(14,1,91)]:=by kernel_rfl
@[simp] theorem td94:tdOf Tryz.prog 94= .cell (.pointer none):=by kernel_rfl
@[simp] theorem td96:tdOf Tryz.prog 96= .agg [.pointer none] [(0,1,94)]:=by kernel_rfl
@[simp] theorem td106:tdOf Tryz.prog 106= .slice 111:=by kernel_rfl
@[simp] theorem td111:tdOf Tryz.prog 111= .agg [.bool false, .int .i64 0] [(0,1,4),(1,1,3)]:=by kernel_rfl
@[simp] theorem bt111:Tryz.prog.bytesOf 111=16:=by kernel_rfl
@[simp] theorem td114:tdOf Tryz.prog 114= .slice 117:=by kernel_rfl
@[simp] theorem td117:tdOf Tryz.prog 117= .agg [.int .i64 0, .int .i64 0] [(0,1,3),(1,1,3)]:=by kernel_rfl
@[simp] theorem bt117:Tryz.prog.bytesOf 117=16:=by kernel_rfl
@[simp] theorem td149:tdOf Tryz.prog 149= .cell (.int .i64 0):=by kernel_rfl
@[simp] theorem td150:tdOf Tryz.prog 150= .slice 213:=by kernel_rfl
@[simp] theorem td152:tdOf Tryz.prog 152= .agg [.int .i64 0, .int .i64 0, .int .i64 0, .slice none 0 0, .int .i64 0] [(0,2,117),(2,1,149),(3,1,150),(4,1,3)]:=by kernel_rfl
@[simp] theorem bt152:Tryz.prog.bytesOf 152=56:=by kernel_rfl
@[simp] theorem td154:tdOf Tryz.prog 154= .agg [.int .i64 0, .int .i64 0, .slice none 0 0, .int .i64 0, .int .i64 0] [(0,1,3),(1,1,3),(2,1,114),(3,1,3),(4,1,3)]:=by kernel_rfl
@[simp] theorem bt154:Tryz.prog.bytesOf 154=56:=by kernel_rfl
@[simp] theorem td156:tdOf Tryz.prog 156= .agg [.slice none 0 0] [(0,1,49)]:=by kernel_rfl
@[simp] theorem bt156:Tryz.prog.bytesOf 156=24:=by kernel_rfl
@[simp] theorem td161:tdOf Tryz.prog 161= .cell (.map none):=by kernel_rfl
@[simp] theorem td162:tdOf Tryz.prog 162= .cell (.map none):=by kernel_rfl
@[simp] theorem td163:tdOf Tryz.prog 163= .cell (.map none):=by kernel_rfl
@[simp] theorem td167:tdOf Tryz.prog 167= .agg [.slice none 0 0, .slice none 0 0, .slice none 0 0, .slice none 0 0, .map none, .map none, .map none, .map none, .map none] [(0,4,29),(4,1,161),(5,1,162),(6,1,163),(7,1,164),(8,1,165)]:=by kernel_rfl
@[simp] theorem td170:tdOf Tryz.prog 170= .agg [.pointer none, .map none, .slice none 0 0] [(0,1,158),(1,1,168),(2,1,41)]:=by kernel_rfl
@[simp] theorem td207:tdOf Tryz.prog 207= .agg [.int .i64 0, .slice none 0 0, .slice none 0 0] [(0,1,3),(1,1,41),(2,1,41)]:=by kernel_rfl
@[simp] theorem td213:tdOf Tryz.prog 213= .agg [.int .i64 0, .bool false] [(0,1,3),(1,1,4)]:=by kernel_rfl
@[simp] theorem bt213:Tryz.prog.bytesOf 213=16:=by kernel_rfl
@[simp] theorem td217:tdOf Tryz.prog 217= .agg [.bool false, .int .i64 0] [(0,2,111)]:=by kernel_rfl
@[simp] theorem bt217:Tryz.prog.bytesOf 217=16:=by kernel_rfl
@[simp] theorem td218:tdOf Tryz.prog 218= .cell (.int .i64 0):=by kernel_rfl
@[simp] theorem td220:tdOf Tryz.prog 220= .agg [.int .i64 0, .int .i64 0] [(0,1,218),(1,1,3)]:=by kernel_rfl
@[simp] theorem bt220:Tryz.prog.bytesOf 220=16:=by kernel_rfl
@[simp] theorem td225:tdOf Tryz.prog 225= .agg [.int .i64 0, .bool false, .int .i64 0] [(0,2,56),(2,1,3)]:=by kernel_rfl
@[simp] theorem bt225:Tryz.prog.bytesOf 225=24:=by kernel_rfl
@[simp] theorem td234:tdOf Tryz.prog 234= .slice 31:=by kernel_rfl
@[simp] theorem td240:tdOf Tryz.prog 240= .cell (.pointer none):=by kernel_rfl
@[simp] theorem td244:tdOf Tryz.prog 244= .slice 252:=by kernel_rfl
@[simp] theorem bt244:Tryz.prog.bytesOf 244=24:=by kernel_rfl
@[simp] theorem td248:tdOf Tryz.prog 248= .agg [.int .i64 0, .int .i64 0] [(0,1,3),(1,1,3)]:=by kernel_rfl
@[simp] theorem td250:tdOf Tryz.prog 250= .agg [.int .i64 0, .int .i64 0, .int .i64 0, .int .i64 0] [(0,2,117),(2,2,117)]:=by kernel_rfl
@[simp] theorem td252:tdOf Tryz.prog 252= .agg [.int .i64 0, .int .i64 0, .int .i64 0, .int .i64 0, .int .i64 0, .int .i64 0, .slice none 0 0, .int .i64 0, .int .i64 0] [(0,2,248),(2,4,250),(6,1,114),(7,1,3),(8,1,3)]:=by kernel_rfl
@[simp] theorem bt252:Tryz.prog.bytesOf 252=88:=by kernel_rfl
@[simp] theorem td253:tdOf Tryz.prog 253= .cell (.nilFunc):=by kernel_rfl
@[simp] theorem td264:tdOf Tryz.prog 264= .cell (.map none):=by kernel_rfl
@[simp] theorem td266:tdOf Tryz.prog 266= .agg [.slice none 0 0, .slice none 0 0, .slice none 0 0, .map none] [(0,2,25),(2,1,41),(3,1,264)]:=by kernel_rfl
@[simp] theorem td299:tdOf Tryz.prog 299= .agg [.int .i64 0, .int .i64 0, .int .i64 0, .int .i64 0] [(0,1,3),(1,1,3),(2,1,3),(3,1,3)]:=by kernel_rfl
@[simp] theorem bt299:Tryz.prog.bytesOf 299=32:=by kernel_rfl
@[simp] theorem td300:tdOf Tryz.prog 300= .arr [.int .i64 0, .int .i64 0, .int .i64 0, .int .i64 0] 4 3:=by kernel_rfl
@[simp] theorem td329:tdOf Tryz.prog 329= .cell (.nilFunc):=by kernel_rfl
@[simp] theorem td335:tdOf Tryz.prog 335= .arr [.nilFunc, .nilFunc, .nilFunc, .nilFunc] 4 31:=by kernel_rfl
@[simp] theorem td345:tdOf Tryz.prog 345= .slice 244:=by kernel_rfl
@[simp] theorem td347:tdOf Tryz.prog 347= .agg [.slice none 0 0, .slice none 0 0, .slice none 0 0] [(0,2,25),(2,1,345)]:=by kernel_rfl
@[simp] theorem td352:tdOf Tryz.prog 352= .agg [.int .i64 0, .int .i64 0] [(0,1,3),(1,1,3)]:=by kernel_rfl
@[simp] theorem td358:tdOf Tryz.prog 358= .slice 361:=by kernel_rfl
@[simp] theorem td361:tdOf Tryz.prog 361= .agg [.nilFunc] [(0,1,253)]:=by kernel_rfl
@[simp] theorem td454:tdOf Tryz.prog 454= .arr [.int .i64 0, .int .i64 0, .int .i64 0, .int .i64 0, .int .i64 0, .int .i64 0, .int .i64 0] 7 3:=by kernel_rfl
@[simp] theorem td475:tdOf Tryz.prog 475= .slice 114:=by kernel_rfl
@[simp] theorem td490:tdOf Tryz.prog 490= .cell (.int .u64 0):=by kernel_rfl
@[simp] theorem td512:tdOf Tryz.prog 512= .arr [.int .u64 0, .int .u64 0] 2 490:=by kernel_rfl
@[simp] theorem nm22:namedB Tryz.prog 22=false:=by kernel_rfl
@[simp] theorem nm23:namedB Tryz.prog 23=false:=by kernel_rfl
@[simp] theorem nm26:namedB Tryz.prog 26=false:=by kernel_rfl
@[simp] theorem nm27:namedB Tryz.prog 27=false:=by kernel_rfl
@[simp] theorem nm37:namedB Tryz.prog 37=false:=by kernel_rfl
@[simp] theorem nm41:namedB Tryz.prog 41=false:=by kernel_rfl
@[simp] theorem nm49:namedB Tryz.prog 49=false:=by kernel_rfl
@[simp] theorem nm81:namedB Tryz.prog 81=false:=by kernel_rfl
@[simp] theorem nm82:namedB Tryz.prog 82=false:=by kernel_rfl
@[simp] theorem nm83:namedB Tryz.prog 83=false:=by kernel_rfl
@[simp] theorem nm106:namedB Tryz.prog 106=false:=by kernel_rfl
@[simp] theorem nm114:namedB Tryz.prog 114=false:=by kernel_rfl
@[simp] theorem nm150:namedB Tryz.prog 150=false:=by kernel_rfl
@[simp] theorem nm234:namedB Tryz.prog 234=false:=by kernel_rfl
@[simp] theorem nm244:namedB Tryz.prog 244=false:=by kernel_rfl
@[simp] theorem nm345:namedB Tryz.prog 345=false:=by kernel_rfl
@[simp] theorem nm358:namedB Tryz.prog 358=false:=by kernel_rfl
@[simp] theorem nm475:namedB Tryz.prog 475=false:=by kernel_rfl
@[simp] theorem kt3:ktOf Tryz.prog 3=some (.i .i64):=by kernel_rfl
@[simp] theorem mk91:mkOf Tryz.prog 91=some (false,[.i .i64], .bool false):=by kernel_rfl
@[simp] theorem skB111:sk2Of Tryz.prog 111=some [.b, .i .i64]:=by kernel_rfl
@[simp] theorem mk161:mkOf Tryz.prog 161=some (true,[.i .i64, .i .i64, .i .i64, .i .i64], .bool false):=by kernel_rfl
@[simp] theorem mk162:mkOf Tryz.prog 162=some (false,[.i .i64], .int .i64 0):=by kernel_rfl
@[simp] theorem mk163:mkOf Tryz.prog 163=some (true,[.i .i64, .b], .bool false):=by kernel_rfl
@[simp] theorem mk164:mkOf Tryz.prog 164=some (true,[.i .i64, .b, .i .i64, .b], .bool false):=by kernel_rfl
@[simp] theorem mk165:mkOf Tryz.prog 165=some (true,[.i .i64, .b, .i .i64, .b], .agg [.int .i64 0, .int .i64 0, .bool false].toArray):=by kernel_rfl
@[simp] theorem mk168:mkOf Tryz.prog 168=some (false,[.i .i64], .agg [.int .i64 0, .int .i64 0, .slice none 0 0, .int .i64 0].toArray):=by kernel_rfl
@[simp] theorem mk264:mkOf Tryz.prog 264=some (true,[.i .i64, .b], .int .i64 0):=by kernel_rfl
@[simp] theorem mk397:mkOf Tryz.prog 397=some (true,[.i .i64, .b], .bool false):=by kernel_rfl
theorem mixed:Tryz.prog.follows .mixedOrders=true:=by kernel_rfl
end Go.AM
end
section
namespace Go.Street
open Go.AM
structure Strm where
 Kind:Int
 Least:Int
 deriving DecidableEq,Inhabited
structure Mv where
 Rail:Int
 Back:Bool
 deriving DecidableEq,Inhabited
structure Gt where
 M:Mv
 Stream:Int
 deriving DecidableEq,Inhabited
structure Jn where
 Streams:List Strm
 Clears:List (List Int)
 Phases:List (List Int)
 Longest:List Int
 Skips:Int
 Gates:List Gt
 deriving Inhabited
structure Pg where
 Cycle:Int
 Begins:List Int
 Lasts:List Int
 deriving Inhabited
structure Lt where
 Green:Bool
 Since:Int
 deriving DecidableEq,Inhabited
@[simp] def nCell (n:Int):List AV:=[I n]
abbrev iL (l:List Int):AV:= .lst 1 (l.map nCell)
@[simp] def rCell (l:List Int):List AV:=[iL l]
@[simp] def Strm.cells (s:Strm):List AV:=[I s.Kind,I s.Least]
@[simp] def Mv.cells (s:Mv):List AV:=[I s.Rail,Bo s.Back]
@[simp] def Gt.cells (s:Gt):List AV:=[I s.M.Rail,Bo s.M.Back,I s.Stream]
@[simp] def Jn.cells (j:Jn):List AV:=[.lst 2 (j.Streams.map Strm.cells), .lst 1 (j.Clears.map rCell), .lst 1 (j.Phases.map rCell),iL j.Longest,I j.Skips, .lst 3 (j.Gates.map Gt.cells)]
@[simp] def Pg.cells (p:Pg):List AV:=[I p.Cycle,iL p.Begins,iL p.Lasts]
@[simp] def Lt.cells (l:Lt):List AV:=[Bo l.Green,I l.Since]
abbrev Jn.av (j:Jn):AV:= .agg j.cells
abbrev Pg.av (p:Pg):AV:= .agg p.cells
theorem wrap_in {n:Int} (h1:-9223372036854775808≤n) (h2:n≤9223372036854775807):IntKind.i64.wrap n=n:=IntWalk.i64_in n ⟨h1,h2⟩
def inr (x lo hi:Int):Bool:=decide (lo≤x)&&decide (x≤hi)
theorem inr_iff {x lo hi:Int}:inr x lo hi=true↔lo≤x∧x≤hi:=by simp[inr]
def at0 (l:List Int) (i:Int):Int:=(l[i.toNat]?).getD 0
theorem at0_get {l:List Int} {i:Int} (h0:0≤i) (h:i<l.length):l[i.toNat]?=some (at0 l i):=by
 unfold at0;rw[List.getElem?_eq_getElem (by omega)];rfl
theorem at0_nat {l:List Int} {k:Nat} (h:k<l.length):l[k]?=some (at0 l k):=by
 have:=at0_get (l:=l) (i:=k) (by omega) (by omega);simpa using this
theorem at0_of {l:List Int} {k:Nat} {x:Int} (h:l[k]?=some x):at0 l k=x:=by simp[at0,h]
def rowAt (m:List (List Int)) (i:Int):List Int:=(m[i.toNat]?).getD []
theorem rowAt_get {m:List (List Int)} {i:Int} (h0:0≤i) (h:i<m.length):m[i.toNat]?=some (rowAt m i):=by
 unfold rowAt;rw[List.getElem?_eq_getElem (by omega)];rfl
theorem rowAt_nat {m:List (List Int)} {k:Nat} (h:k<m.length):m[k]?=some (rowAt m k):=by
 have:=rowAt_get (m:=m) (i:=k) (by omega) (by omega);simpa using this
theorem rowAt_of {m:List (List Int)} {k:Nat} {x:List Int} (h:m[k]?=some x):rowAt m k=x:=by simp[rowAt,h]
theorem take_all' {α:Type} {l:List α} {f:α→Bool} {k:Nat} {x:α} (h:l[k]?=some x):(l.take (k+1)).all f=((l.take k).all f&&f x):=by
 rw[List.take_add_one,List.all_append,h];simp
theorem all_of_take {α:Type} {l:List α} {f:α→Bool} {k:Nat} (hk:l.length≤k) (h:(l.take k).all f=true):l.all f=true:=by rwa [List.take_of_length_le hk]at h
theorem all_ff {α:Type} {l:List α} {f:α→Bool} {k:Nat} {x:α} (h:l[k]?=some x) (hf:f x=false):l.all f=false:=by
 rw[List.all_eq_false];exact⟨x,List.mem_of_getElem? h,by simp[hf]⟩
theorem any_take {α:Type} {l:List α} {q:α→Bool} {k:Nat} {x:α} (h:l[k]?=some x):(l.take (k+1)).any q=((l.take k).any q||q x):=by
 rw[List.take_add_one,List.any_append,h];simp
theorem any_of_take {α:Type} {l:List α} {q:α→Bool} {k:Nat} (hk:l.length≤k) (h:(l.take k).any q=false):l.any q=false:=by rwa [List.take_of_length_le hk]at h
@[simp] theorem take_map_len {α β:Type} (f:α→β) (l:List α):List.take l.length (l.map f)=l.map f:=List.take_of_length_le (by simp)
@[simp] theorem take_take_self {α:Type} (k:Nat) (l:List α):List.take k (List.take k l)=List.take k l:=by rw[List.take_take,Nat.min_self]
def ipts:List (List AV)→List AV
 |[]=>[]
 |c::cs=> .iptr c::ipts cs
@[simp] theorem ipts_frz (H:Nat→Option ARow) (n:Nat):∀cl:List (List AV),(ipts cl).map (frz H n)=ipts cl
 |[]=>rfl
 |c::cs=>by simp only[ipts,List.map_cons,ipts_frz H n cs,List.cons.injEq,and_true];cases n<;>rfl
@[simp] theorem ipts_noRef (n:Nat):∀cl:List (List AV),(ipts cl).all (AV.noRef n)=true
 |[]=>rfl
 |c::cs=>by simp only[ipts,List.all_cons,ipts_noRef n cs,Bool.and_true];cases n<;>rfl
@[simp] theorem ipts_rd (H:Nat→Option ARow) (n:Nat):∀cl:List (List AV),(ipts cl).flatMap (frzRd H n)=[]
 |[]=>rfl
 |c::cs=>by simp only[ipts,List.flatMap_cons,ipts_rd H n cs,List.append_nil];cases n<;>rfl
def flatC:AV→Bool
 | .v _=>true
 | .lst _ _=>true
 | .full _ _=>true
 | .iptr _=>true
 | .mpc _ _ _=>true
 |_=>false
theorem flatC_ren {x:AV} (h:flatC x=true) (g:List (Option Nat)) (n:Nat):renAV g n x=x:=by cases x<;>first|(cases n<;>rfl)|cases h
theorem flatC_renF {x:AV} (h:flatC x=true) (H:Nat→Option ARow) (g:List (Option Nat)) (n:Nat):renF H g n x=x:=by cases x<;>first|(cases n<;>rfl)|cases h
theorem flatC_frzP {x:AV} (h:flatC x=true) (H:Hp) (n:Nat):frzP H n x=x:=by cases x<;>first|(cases n<;>rfl)|cases h
theorem map_flatC {f:AV→AV} (hf:∀x,flatC x=true→f x=x) {es:List (List AV)} (h:es.all (fun e=>e.all flatC)=true):es.map (fun e=>e.map f)=es:=by
 have:es.map (fun e=>e.map f)=es.map id:=by
  refine List.map_congr_left fun e he=>?_;have he':=List.all_eq_true.1 h e he;have:e.map f=e.map id:=List.map_congr_left fun x hx=>hf x (List.all_eq_true.1 he' x hx);simpa using this
 simpa using this
def numC:AV→Bool
 | .v _=>true
 |_=>false
theorem numC_flatV {x:AV} (h:numC x=true) (n:Nat):x.flatV n=true:=by cases x<;>first|(cases n<;>rfl)|cases h
theorem flatV_rows {es:List (List AV)} (h:es.all (fun e=>e.all numC)=true) (n:Nat):(es.all fun e=>e.all (AV.flatV n))=true:=by
 rw[List.all_eq_true]at h ⊢;intro e he;have:=h e he;rw[List.all_eq_true]at this ⊢;intro x hx;exact numC_flatV (this x hx) n
theorem flat_nCell (l:List Int):(l.map nCell).all (fun e=>e.all flatC)=true:=by simp[flatC]
@[simp high] theorem flat_nCell_ren (l:List Int) (g:List (Option Nat)) (n:Nat):(l.map nCell).map (fun e=>e.map (renAV g n))=l.map nCell:=map_flatC (fun x h=>flatC_ren h g n) (flat_nCell l)
@[simp high] theorem flat_nCell_renF (l:List Int) (H:Nat→Option ARow) (g:List (Option Nat)) (n:Nat):(l.map nCell).map (fun e=>e.map (renF H g n))=l.map nCell:=map_flatC (fun x h=>flatC_renF h H g n) (flat_nCell l)
@[simp high] theorem flat_nCell_frzP (l:List Int) (H:Hp) (n:Nat):(l.map nCell).map (fun e=>e.map (frzP H n))=l.map nCell:=map_flatC (fun x h=>flatC_frzP h H n) (flat_nCell l)
theorem flat_rCell (l:List (List Int)):(l.map rCell).all (fun e=>e.all flatC)=true:=by simp[flatC]
@[simp high] theorem flat_rCell_ren (l:List (List Int)) (g:List (Option Nat)) (n:Nat):(l.map rCell).map (fun e=>e.map (renAV g n))=l.map rCell:=map_flatC (fun x h=>flatC_ren h g n) (flat_rCell l)
@[simp high] theorem flat_rCell_frzP (l:List (List Int)) (H:Hp) (n:Nat):(l.map rCell).map (fun e=>e.map (frzP H n))=l.map rCell:=map_flatC (fun x h=>flatC_frzP h H n) (flat_rCell l)
theorem flat_Strm.cells (l:List Strm):(l.map Strm.cells).all (fun e=>e.all flatC)=true:=by simp[flatC]
@[simp high] theorem flat_Strm.cells_ren (l:List Strm) (g:List (Option Nat)) (n:Nat):(l.map Strm.cells).map (fun e=>e.map (renAV g n))=l.map Strm.cells:=map_flatC (fun x h=>flatC_ren h g n) (flat_Strm.cells l)
@[simp high] theorem flat_Strm.cells_renF (l:List Strm) (H:Nat→Option ARow) (g:List (Option Nat)) (n:Nat):(l.map Strm.cells).map (fun e=>e.map (renF H g n))=l.map Strm.cells:=map_flatC (fun x h=>flatC_renF h H g n) (flat_Strm.cells l)
@[simp high] theorem flat_Strm.cells_frzP (l:List Strm) (H:Hp) (n:Nat):(l.map Strm.cells).map (fun e=>e.map (frzP H n))=l.map Strm.cells:=map_flatC (fun x h=>flatC_frzP h H n) (flat_Strm.cells l)
theorem flat_Gt.cells (l:List Gt):(l.map Gt.cells).all (fun e=>e.all flatC)=true:=by simp[flatC]
@[simp high] theorem flat_Gt.cells_ren (l:List Gt) (g:List (Option Nat)) (n:Nat):(l.map Gt.cells).map (fun e=>e.map (renAV g n))=l.map Gt.cells:=map_flatC (fun x h=>flatC_ren h g n) (flat_Gt.cells l)
@[simp high] theorem flat_Gt.cells_renF (l:List Gt) (H:Nat→Option ARow) (g:List (Option Nat)) (n:Nat):(l.map Gt.cells).map (fun e=>e.map (renF H g n))=l.map Gt.cells:=map_flatC (fun x h=>flatC_renF h H g n) (flat_Gt.cells l)
@[simp high] theorem flat_Gt.cells_frzP (l:List Gt) (H:Hp) (n:Nat):(l.map Gt.cells).map (fun e=>e.map (frzP H n))=l.map Gt.cells:=map_flatC (fun x h=>flatC_frzP h H n) (flat_Gt.cells l)
theorem flat_Lt.cells (l:List Lt):(l.map Lt.cells).all (fun e=>e.all flatC)=true:=by simp[flatC]
@[simp high] theorem flat_Lt.cells_ren (l:List Lt) (g:List (Option Nat)) (n:Nat):(l.map Lt.cells).map (fun e=>e.map (renAV g n))=l.map Lt.cells:=map_flatC (fun x h=>flatC_ren h g n) (flat_Lt.cells l)
@[simp high] theorem flat_Lt.cells_renF (l:List Lt) (H:Nat→Option ARow) (g:List (Option Nat)) (n:Nat):(l.map Lt.cells).map (fun e=>e.map (renF H g n))=l.map Lt.cells:=map_flatC (fun x h=>flatC_renF h H g n) (flat_Lt.cells l)
@[simp high] theorem flat_Lt.cells_frzP (l:List Lt) (H:Hp) (n:Nat):(l.map Lt.cells).map (fun e=>e.map (frzP H n))=l.map Lt.cells:=map_flatC (fun x h=>flatC_frzP h H n) (flat_Lt.cells l)
@[simp high] theorem num_nCell (l:List Int) (n:Nat):((l.map nCell).all fun e=>e.all (AV.flatV n))=true:=flatV_rows (by simp[numC]) n
@[simp high] theorem num_Strm.cells (l:List Strm) (n:Nat):((l.map Strm.cells).all fun e=>e.all (AV.flatV n))=true:=flatV_rows (by simp[numC]) n
@[simp high] theorem num_Gt.cells (l:List Gt) (n:Nat):((l.map Gt.cells).all fun e=>e.all (AV.flatV n))=true:=flatV_rows (by simp[numC]) n
@[simp high] theorem num_Lt.cells (l:List Lt) (n:Nat):((l.map Lt.cells).all fun e=>e.all (AV.flatV n))=true:=flatV_rows (by simp[numC]) n
def firstI {α:Type} (l:List α) (q:α→Bool):Int:=match l.findIdx? q with|some i=>i|none=>-1
theorem firstI_none {α:Type} {l:List α} {q:α→Bool} (h:l.any q=false):firstI l q=-1:=by
 have:l.findIdx? q=none:=by
  rw[List.findIdx?_eq_none_iff];intro x hx;rw[List.any_eq_false]at h;simpa using h x hx
 unfold firstI;rw[this]
theorem firstI_hit {α:Type} {l:List α} {q:α→Bool} {k:Nat} {x:α} (hx:l[k]?=some x) (hq:q x=true) (hn:(l.take k).any q=false):firstI l q=k:=by
 obtain⟨hk,he⟩:=List.getElem?_eq_some_iff.1 hx;have:l.findIdx? q=some k:=by
  rw[List.findIdx?_eq_some_iff_getElem];refine⟨hk,by rw[he];exact hq,fun j hj=>?_⟩;rw[List.any_eq_false]at hn;have:=hn l[j] (by rw[List.mem_take_iff_getElem];exact⟨j,by omega,rfl⟩);simpa using this
 unfold firstI;rw[this]
theorem firstI_nn {α:Type} (l:List α) (q:α→Bool):decide (0≤firstI l q)=l.any q:=by
 cases h:l.any q with
 |false=>rw[firstI_none h];rfl
 |true=>
  rw[List.any_eq_true]at h;obtain⟨x,hx,hq⟩:=h;unfold firstI
  cases hi:l.findIdx? q with
  |none=>rw[List.findIdx?_eq_none_iff]at hi;exact absurd hq (by simp[hi x hx])
  |some i=>simp
def dd (l:List Int):List Int:=l.foldl (fun s x=>if x∈s then s else s++[x]) []
def metK (l:List Int):List (List KC×Value):=(dd l).map fun x=>([.i .i64 x], .bool true)
theorem dd_snoc (l:List Int) (x:Int):dd (l++[x])=if x∈dd l then dd l else dd l++[x]:=by unfold dd;rw[List.foldl_append];rfl
theorem dd_mem (l:List Int) (x:Int):x∈dd l↔x∈l:=by
 have gen:∀(l s:List Int),x∈l.foldl (fun s x=>if x∈s then s else s++[x]) s↔x∈s∨x∈l:=by
  intro l
  induction l with
  |nil=>simp
  | cons y l ih=>
   intro s;rw[List.foldl_cons,ih]
   split
   ·rename_i h;constructor
    ·rintro(h|h)<;>simp[h]
    ·rintro(h1|h1)
     ·exact Or.inl h1
     ·rcases List.mem_cons.1 h1 with rfl|h1
      ·exact Or.inl h
      ·exact Or.inr h1
   ·simp only[List.mem_append,List.mem_cons,List.not_mem_nil,or_false,or_assoc]
 have:=gen l [];simpa [dd]using this
theorem dd_nodup (l:List Int):(dd l).Nodup:=by
 have gen:∀(l s:List Int),s.Nodup→(l.foldl (fun s x=>if x∈s then s else s++[x]) s).Nodup:=by
  intro l
  induction l with
  |nil=>intro s h;exact h
  |cons y l ih=>
   intro s h;rw[List.foldl_cons];refine ih _ ?_
   split
   ·exact h
   ·rename_i hy;rw[List.nodup_append];exact⟨h,by simp,fun a ha b hb=>by simp at hb;subst hb;rintro rfl;exact hy ha⟩
 exact gen l [] List.nodup_nil
theorem kvSet_in (s:List Int) (x:Int) (h:x∈s):kvSet (s.map fun x=>([KC.i .i64 x],Value.bool true)) [.i .i64 x] (.bool true)=s.map fun x=>([KC.i .i64 x],Value.bool true):=by
 induction s with
 |nil=>cases h
 |cons y s ih=>
  simp only[List.map_cons,kvSet,List.cons.injEq,KC.i.injEq,true_and,and_true]
  split
  ·rename_i e;subst e;rfl
  ·rename_i e;rw[ih ((List.mem_cons.1 h).resolve_left e)]
theorem kvSet_out (s:List Int) (x:Int) (h:x∉s):kvSet (s.map fun x=>([KC.i .i64 x],Value.bool true)) [.i .i64 x] (.bool true)=(s++[x]).map fun x=>([KC.i .i64 x],Value.bool true):=by
 induction s with
 |nil=>rfl
 |cons y s ih=>
  simp only[List.map_cons,kvSet,List.cons.injEq,KC.i.injEq,true_and,and_true];rw[if_neg (fun e=>h (by simp[e])),ih (fun k=>h (by simp[k]))]
  rfl
theorem metK_snoc (l:List Int) (x:Int):kvSet (metK l) [.i .i64 x] (.bool true)=metK (l++[x]):=by
 unfold metK;rw[dd_snoc]
 split
 ·rename_i h;exact kvSet_in _ _ h
 ·rename_i h;exact kvSet_out _ _ h
theorem metK_get (l:List Int) (x:Int):kvGet (metK l) [.i .i64 x]=if x∈l then some (.bool true)else none:=by
 have gen:∀s:List Int,kvGet (s.map fun x=>([KC.i .i64 x],Value.bool true)) [.i .i64 x]=if x∈s then some (.bool true)else none:=by
  intro s
  induction s with
  |nil=>rfl
  |cons y s ih=>
   simp only[List.map_cons,kvGet,List.cons.injEq,KC.i.injEq,true_and,and_true,List.mem_cons]
   by_cases e:x=y
   ·simp[e]
   ·simp[e,ih]
 unfold metK;rw[gen];simp only[dd_mem]
theorem metK_look (l:List Int) (x:Int):((kvGet (metK l) [.i .i64 x]).getD (.bool false))= .bool (decide (x∈l)):=by
 rw[metK_get]
 split<;>simp[*]
theorem metK_len (l:List Int):(metK l).length=(dd l).length:=by simp[metK]
@[simp] theorem metK_nil:metK []=[]:=rfl
theorem sub_len:∀(u t:List Nat),u.Nodup→(∀x∈u,x∈t)→u.length≤t.length
 |[],t,_,_=>Nat.zero_le _
 |x::u,t,hn,hs=>by
  rw[List.nodup_cons]at hn;have hx:=hs x (by simp);have:=sub_len u (t.erase x) hn.2 (fun y hy=>(List.mem_erase_of_ne (by rintro rfl;exact hn.1 hy)).2 (hs y (by simp[hy])));rw[List.length_erase_of_mem hx]at this;have:=List.length_pos_of_mem hx;simp only[List.length_cons];omega
theorem full_iff {s:List Int} {n:Nat} (hn:s.Nodup) (hb:∀x∈s,0≤x∧x<n):s.length=n↔∀a:Nat,a<n→(a:Int)∈s:=by
 have e:(s.map Int.toNat).Nodup:=by
  refine(List.pairwise_map.2 ?_:List.Pairwise (· ≠ ·) (s.map Int.toNat))
  refine hn.imp_of_mem fun {a b} ha hb' hab h=>hab ?_;have:=hb a ha;have:=hb b hb';omega
 have hlt:∀x∈s.map Int.toNat,x<n:=fun x hx=>by
  obtain⟨y,hy,rfl⟩:=List.mem_map.1 hx;have:=hb y hy;omega
 have hle:∀t:List Nat,t.Nodup→(∀x∈t,x<n)→t.length≤n:=by
  intro t ht hx;have:=sub_len t (List.range n) ht (fun x hx'=>List.mem_range.2 (hx x hx'));simpa using this
 constructor
 ·intro hl a ha
  by_cases hm:a∈s.map Int.toNat
  ·obtain⟨y,hy,rfl⟩:=List.mem_map.1 hm;have:=hb y hy
   rwa [Int.toNat_of_nonneg this.1]
  ·have:=hle (a::s.map Int.toNat) (List.nodup_cons.2 ⟨hm,e⟩) (fun x hx=>by
    rcases List.mem_cons.1 hx with rfl|hx
    ·exact ha
    ·exact hlt x hx)
   simp at this;omega
 ·intro hall;refine Nat.le_antisymm ?_ ?_
  ·have:=hle (s.map Int.toNat) e hlt;simpa using this
  ·have:=sub_len (List.range n) (s.map Int.toNat) List.nodup_range (fun a ha=>List.mem_map.2 ⟨(a:Int),hall a (List.mem_range.1 ha),by simp⟩);simpa using this
theorem beq_d (x y:Int):(x==y)=decide (x=y):=by by_cases h:x=y<;>simp[h]
theorem len_beq0 (n:Nat):(((n:Int))==0)=(n==0):=by
 rw[beq_d]
 cases n with
 |zero=>rfl
 |succ n=>exact decide_eq_false (by omega)
open Go.Proofs
theorem und_bool:(Tryz.prog).underlying 4=some .bool:=by kernel_rfl
theorem kt_bool:ktOf Tryz.prog 4=some .b:=by kernel_rfl
theorem ne_guard (t:TypeId) (x y:Operand) (a b:Bool) (w:World) (ht:(Tryz.prog).underlying t=some .bool):(eqGuard .neq t x y (.bool a) (.bool b)).run Tryz.prog w= .ok () w:=by
 simp[eqGuard,run_underlying ht]
theorem ne_bool (t:TypeId) (a b:Bool) (w:World) (hk:ktOf Tryz.prog t=some .b):(binOp .neq t (.bool a) (.bool b)).run Tryz.prog w= .ok (.bool (a !=b)) w:=by
 have h:=run_equalIn_kc (P:=Tryz.prog) (w:=w) hk (Op.maxDepth-1) (a:= .b a) (b:= .b b) rfl rfl;rw[show Op.maxDepth-1+1=Op.maxDepth from rfl]at h;simp only[KC.val]at h;simp[binOp,Op.equal,h]
 cases a<;>cases b<;>rfl
end Go.Street
end
