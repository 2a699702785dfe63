import Derived.Test.YtibddmpaklcleaaP2
import Derived.Below
import Derived.OrdersIn
import Derived.RangeFuncLeaves
import Derived.RangeFuncNested
import Derived.RangeFuncSeq
import Derived.Test.YtibddmpaklcleaaProg
set_option maxRecDepth 100000
set_option maxHeartbeats 8000000
set_option linter.unusedVariables false
set_option linter.unusedSimpArgs false
section
namespace Go.AM
abbrev Tm:=List (Nat×AV)
def l6:Tm→Nat→AV
 |[],_=> .any
 |(i,x)::r,t=>if t=i then x else l6 r t
def a1r (T:Tm) (d:Option Tmp) (x:AV):Tm:=
 match d with
 |some d=>(d,x)::T
 |none=>T
theorem B4 (T:Tm) (d:Option Tmp) (x:AV) (t:Nat):l6 (a1r T d x) t=if d=some t then x else l6 T t:=by
 cases d with
 |none=>simp[a1r]
 |some d=>
  simp only[a1r,l6,Option.some.injEq]
  by_cases h:t=d
  ·subst h;simp
  ·rw[if_neg h,if_neg (fun e=>h e.symm)]
def D9:Hp→Nat→Option l7→Hp
 |[],_,o=>[o]
 |_::xs,0,o=>o::xs
 |x::xs,n+1,o=>x::D9 xs n o
def a3g (H:Hp):List (Nat×Option l7)→Hp
 |[]=>H
 |(r,o)::ups=>a3g (D9 H r o) ups
theorem I3:∀(H:Hp) (r:Nat) (o:Option l7) (k:Nat),r≤H.length→m6 (D9 H r o) k=if k=r then o else m6 H k
 |[],r,o,k,h=>by
  have:r=0:=by simpa using h
  subst this
  cases k with
  |zero=>rfl
  |succ k=>simp[D9,m6]
 |x::xs,0,o,k,h=>by cases k<;>simp[D9,m6]
 |x::xs,n+1,o,k,h=>by
  cases k with
  |zero=>simp[D9,m6]
  |succ k=>simp only[D9,m6,Nat.add_right_cancel_iff];exact I3 xs n o k (by simpa using h)
theorem a2L:∀(H:Hp) (r:Nat) (o:Option l7),r≤H.length→(D9 H r o).length=max H.length (r+1)
 |[],r,o,h=>by
  have:r=0:=by simpa using h
  subst this;rfl
 |x::xs,0,o,h=>by simp[D9]
 |x::xs,n+1,o,h=>by simp only[D9,List.length_cons,a2L xs n o (by simpa using h)];omega
def W8 (H:Hp):List (Nat×Option l7)→Prop
 |[]=>True
 |(r,o)::ups=>r≤H.length∧W8 (D9 H r o) ups
def E2:List (Nat×Option l7)→Bool
 |[]=>true
 |(r,_)::ups=>(ups.all fun q=>q.1 !=r)&&E2 ups
theorem I2:∀(ups:List (Nat×Option l7)) (H:Hp),W8 H ups→E2 ups=true→∀k,(∀o,(k,o)∈ups→m6 (a3g H ups) k=o)∧((∀o,(k,o)∉ups)→m6 (a3g H ups) k=m6 H k)
 |[],H,_,_,k=>⟨fun o h=>(by cases h),fun _=>rfl⟩
 | (r,o)::ups,H,hi,ho,k=>by
  simp only[E2,Bool.and_eq_true,List.all_eq_true,bne_iff_ne,ne_eq]at ho;obtain⟨h1,h2⟩:=I2 ups (D9 H r o) hi.2 ho.2 k;constructor
  ·intro o' hm;simp only[List.mem_cons,Prod.mk.injEq]at hm
   rcases hm with⟨rfl,rfl⟩|hm
   ·have:∀q,(k,q)∉ups:=fun q hq=>ho.1 (k,q) hq rfl;simp only[a3g];rw[h2 this,I3 H k o' k hi.1,if_pos rfl]
   ·exact h1 o' hm
  ·intro hn;simp only[List.mem_cons,Prod.mk.injEq,not_or,not_and]at hn;simp only[a3g];rw[h2 (fun q hq=>(hn q).2 hq),I3 H r o k hi.1,if_neg (fun e=>(hn o).1 e rfl)]
theorem D3:∀(ups:List (Nat×Option l7)) (H:Hp),W8 H ups→H.length≤(a3g H ups).length∧∀r o,(r,o)∈ups→r<(a3g H ups).length
 |[],H,_=>⟨Nat.le_refl _,fun r o h=>(by cases h)⟩
 |(r,o)::ups,H,hi=>by
  obtain⟨h1,h2⟩:=D3 ups (D9 H r o) hi.2;rw[a2L H r o hi.1]at h1;refine⟨by simp only[a3g];omega,fun r' o' hm=>?_⟩;simp only[List.mem_cons,Prod.mk.injEq]at hm
  rcases hm with⟨rfl,rfl⟩|hm
  ·simp only[a3g];omega
  ·exact h2 r' o' hm
def a5k:Value→AV
 | .agg cs=>if cs.toList.all Value.oneCell'=true then .agg (cs.toList.map .v)else .v (.agg cs)
 |x=> .v x
theorem N9 {w:World} {S:Nat→Prop} (x:Value):q8 w S (a5k x) x:=by
 cases x with
 | agg cs=>
  simp only[a5k]
  split
  ·rename_i h;have e:cs=cs.toList.toArray:=by simp
   rw[e];refine .agg _ _ (by simp) (fun u hu=>?_) (fun i c u h1 h2=>?_)
   ·exact List.all_eq_true.1 h u hu
   ·simp only[List.getElem?_map,Option.map_eq_some_iff]at h1;obtain⟨q,h1,rfl⟩:=h1;have h2':cs.toList[i]?=some u:=by simpa using h2
    have h1':cs.toList[i]?=some q:=by simpa using h1
    rw[h1']at h2';simp only[Option.some.injEq]at h2';subst h2';exact .v q
  ·exact .v _
 |_=>exact .v _
def evT (T:Nat→AV):Operand→AV
 | .tmp t=>T t
 | .const x=>a5k x
 | .global g=> .v (.pointer (some ⟨g,0,none⟩))
 | .func f=> .clo f []
def AV.strip:AV→AV
 | .may _ x=>x
 |x=>x
def c2x (m l:List Bool):Prop:=m.all id=true→l.all id=true
def okm (m:List Bool):AV→Prop
 | .may l _=>c2x m l
 |_=>True
def b0E (m:List Bool):List AV→Prop
 |[]=>True
 |x::xs=>okm m x∧b0E m xs
theorem L7 {w:World} {S:Nat→Prop} {ρ:Nat→Option Loc} {L:Nat→Prop} {m:List Bool} {x:AV} {y:Value} (hm:m.all id=true) (ho:okm m x) (h:k7 w S ρ L x y):k7 w S ρ L x.strip y:=by
 cases x with
 | may l x=>
  have hl:=ho hm
  cases h with
  |pure _ _ h=>cases h with
   |mayT _ _ _ _ h=>exact .pure _ _ h
   |mayF _ _ hf=>rw[hl]at hf;cases hf
  |mayT _ _ _ _ h=>exact h
  |mayF _ _ hf=>rw[hl]at hf;cases hf
 |_=>exact h
theorem Y7 {m:List Bool} {x:AV}:∀{l:List AV},b0E m l→x∈l→okm m x
 |y::l,h,hx=>by
  rcases List.mem_cons.1 hx with rfl|hx
  ·exact h.1
  ·exact Y7 h.2 hx
def b1i:List Bool→AV→AV
 |[],x=>x
 |l,x=> .may l x
theorem a5v {w:World} {S:Nat→Prop} {ρ:Nat→Option Loc} {L:Nat→Prop} {m:List Bool} {x:AV} {y:Value} (hm:m.all id=true) (h:k7 w S ρ L x y):k7 w S ρ L (b1i m x) y:=by
 cases m with
 |nil=>exact h
 |cons b m=>exact .mayT _ _ _ hm h
theorem a0k {w:World} {S:Nat→Prop} {ρ:Nat→Option Loc} {L:Nat→Prop} {m:List Bool} {x:AV} (hm:m.all id=false):k7 w S ρ L (b1i m x) undef:=by
 cases m with
 |nil=>simp at hm
 |cons b m=>exact .mayF _ _ hm
def b9X:AV→Option (List Bool×Bool)
 | .v (.bool b)=>some ([],b)
 | .may l (.v (.bool b))=>some (l,b)
 |_=>none
def b8W (b want:Bool):Bool:=if want then b else !b
def c3e (dsts:List (Option Tmp)) (j:Nat):Nat:=match dsts[j]? with|some (some d)=>d|_=>0
def c1B (m:List Bool) (c x y:AV) (K:AV→Prop):Prop:=
 okm m c∧match c.strip,x.strip,y.strip with
 | .v (.bool t), .v (.bool p), .v (.bool q)=>okm (m++[t]) x∧okm (m++[!t]) y∧K (.v (.bool (cond t p q)))
 |_,_,_=>False
def c2F (m:List Bool) (ups:List (Nat×Option l7)):Prop:=m.all id=true∨ups=[]
def b3G (nt:Nat):Option Tmp→Prop
 |none=>True
 |some d=>d<nt
def a6Y (P:Program) (m:List Bool) (op:Op) (T:Nat→AV) (H:Nat→Option l7) (N:Nat) (K:Eff→Prop):Prop:=
 match op with
 | .pick c x y=>c1B m (evT T c) (evT T x) (evT T y) (ct (fun r=>K ⟨b1i m r,[],[]⟩) ⟨⟩)
 |op=>b0E m (op.operands.toList.map (evT T))∧aop P m op (fun x=>(evT T x).strip) H N (ct (fun e=>c2F m e.ups∧K ⟨b1i m e.av,e.ups,e.reads⟩) ⟨⟩)
def a6B (P:Program) (ops:Array Oper) (o:Oper) (T:Nat→AV) (H:Nat→Option l7) (N:Nat) (e:Eff):Prop:=
 ∀ (B S0:Nat→Prop) (a:Act) (w:World) (ρ:Nat→Option Loc) (L:Nat→Prop),WF B S0 w ρ L→a2o L N e→
  (∀t∈o.looksAt ops,k7 w (Sx S0 ρ) ρ L (T t) (a.tmps.getD t undef))→
  (∀r∈e.reads,∀row,H r=some row→∃l,ρ r=some l∧n5 w (Sx S0 ρ) ρ L l row)→
  ∀(K:Act→World→Prop) (Q:Exit→Act→World→Prop),(∀v w' ρ',a3d B S0 w ρ L N e w' ρ' v→K (a.put o.dst v) w')→
   if Region.wanted o (yielded ops a.tmps)then o.wp P a w K Q else K (a.put o.dst undef) w
section
variable {P:Program} {ops:Array Oper} {o:Oper} {T:Nat→AV} {H:Nat→Option l7} {N:Nat}
theorem a9h {w:World} {S:Nat→Prop} {ρ:Nat→Option Loc} {L:Nat→Prop} {a:Act} (h:∀t∈o.looksAt ops,k7 w S ρ L (T t) (a.tmps.getD t undef)):
  ∀x∈o.op.operands,k7 w S ρ L (evT T x) (a.eval x):=by
 intro x hx
 cases x with
 |tmp t=>
  refine h t ?_;simp only[Oper.looksAt,List.mem_append,List.mem_filterMap];exact Or.inl ⟨.tmp t,by simpa using hx,rfl⟩
 |const v=>exact .pure _ _ (N9 v)
 |global g=>exact .pure _ _ (.v _)
 |func f=>exact .pure _ _ (.clo f [] [] rfl (by simp))
theorem Z9 {B S0:Nat→Prop} {w:World} {ρ:Nat→Option Loc} {L:Nat→Prop} (hw:WF B S0 w ρ L) {av:AV} {v:Value} {rd:List Nat} (h:k7 w (Sx S0 ρ) ρ L av v):a3d B S0 w ρ L N ⟨av,[],rd⟩ w ρ v:=
 {wf:=hw.more fun r=>Or.inl,rep:=h.ext (Nat.le_refl _) (fun b _ hn=>⟨rfl,hn⟩) (fun r=>Or.inl) (fun r l _ hl=>hl),ups:=(by intro r o hm;cases hm),others:=fun r _=>rfl,only:=fun r l hl=>Or.inl hl,ext:=Ext.refl _ _}
theorem a3d.remay {B S0:Nat→Prop} {w:World} {ρ:Nat→Option Loc} {L:Nat→Prop} {e:Eff} {w':World} {ρ':Nat→Option Loc} {v:Value} (h:a3d B S0 w ρ L N e w' ρ' v) {m:List Bool} (hm:m.all id=true):
  a3d B S0 w ρ L N ⟨b1i m e.av,e.ups,e.reads⟩ w' ρ' v:=
 {wf:=h.wf,rep:=a5v hm h.rep,ups:=h.ups,others:=h.others,only:=h.only,ext:=h.ext}
theorem a1k {m:List Bool} {K:Eff→Prop}
  (hg:∀(w:World) (S:Nat→Prop) (ρ:Nat→Option Loc) (L:Nat→Prop) (a:Act),(∀t∈o.looksAt ops,k7 w S ρ L (T t) (a.tmps.getD t undef))→(Region.wanted o (yielded ops a.tmps)=true↔m.all id=true))
  (h:a6Y P m o.op T H N K):∃e,a6B P ops o T H N e∧K e:=by
 by_cases hp:∃c x y,o.op= .pick c x y
 ·obtain⟨c,x,y,ho⟩:=hp;rw[ho]at h;obtain⟨hc,h⟩:=h
  split at h
  ·rename_i t p q e1 e2 e3;obtain⟨hx,hy,h⟩:=h;refine⟨_,fun B S0 a w ρ L hw hN hl hrd K' Q hK=>?_,h⟩;have hops:=a9h (o:=o) hl
   split
   ·rename_i hwant;have hm:=(hg w _ ρ L a hl).1 hwant;have hcv:a.eval c= .bool t:=by
     have:=L7 hm hc (hops c (by simp[ho,Op.operands]));rw[e1]at this;exact m7 this
    have hrun:(execOp a.eval o).run P w= .ok (.value (if t then a.eval x else a.eval y)) w:=by
     simp only[execOp,ho,hcv];cases t<;>rfl
    unfold Oper.wp;rw[hrun];refine hK _ _ ρ (Z9 hw (a5v hm ?_))
    cases t with
    |true=>
     have:=L7 (m:=m++[true]) (by simp[hm]) hx (hops x (by simp[ho,Op.operands]));rw[e2]at this;exact this
    |false=>
     have:=L7 (m:=m++[!false]) (by simp[hm]) hy (hops y (by simp[ho,Op.operands]));rw[e3]at this;exact this
   ·rename_i hwant;have hm:m.all id=false:=by
     cases hmm:m.all id with
     |false=>rfl
     |true=>exact absurd ((hg w _ ρ L a hl).2 hmm) hwant
    exact hK _ _ ρ (Z9 hw (a0k hm))
  ·exact h.elim
 ·have h':b0E m (o.op.operands.toList.map (evT T))∧aop P m o.op (fun x=>(evT T x).strip) H N (ct (fun e=>c2F m e.ups∧K ⟨b1i m e.av,e.ups,e.reads⟩) ⟨⟩):=by
   unfold a6Y at h
   split at h
   ·rename_i c x y ho;exact absurd ⟨c,x,y,ho⟩ hp
   ·exact h
  obtain⟨hok,h'⟩:=h';obtain⟨e,he,hu,hk⟩:=b1y h';refine⟨_,fun B S0 a w ρ L hw hN hl hrd K' Q hK=>?_,hk⟩;have hops:=a9h (o:=o) hl
  split
  ·rename_i hwant;have hm:=(hg w _ ρ L a hl).1 hwant;exact he hm B S0 a w ρ L hw hN (fun x hx=>L7 hm (Y7 hok (List.mem_map_of_mem (by simpa using hx))) (hops x hx)) hrd K' Q (fun v w' ρ' hp=>hK v w' ρ' (hp.remay hm))
  ·rename_i hwant;have hm:m.all id=false:=by
    cases hmm:m.all id with
    |false=>rfl
    |true=>exact absurd ((hg w _ ρ L a hl).2 hmm) hwant
   have hups:e.ups=[]:=hu.resolve_left (by rw[hm];simp);have:=Z9 (N:=N) (rd:=e.reads) hw (a0k (x:=e.av) hm) (v:=undef);rw[hups]at hK;exact hK _ _ ρ this
def a0t (P:Program) (dsts:List (Option Tmp)) (o:Oper) (T:Nat→AV) (H:Nat→Option l7) (N:Nat) (K:Eff→Prop):Prop:=
 match o.guard with
 |none=>a6Y P [] o.op T H N K
 | some (j,want)=>match dsts[j]? with
  |some (some d)=>match b9X (T d)with
   |some (l,b)=>a6Y P (l++[b8W b want]) o.op T H N K
   |none=>False
  |_=>False
theorem G3 {dsts:List (Option Tmp)} (hd:∀j:Nat,dsts[j]?=(ops[j]?).map (·.dst)) {K:Eff→Prop} (h:a0t P dsts o T H N K) (hsz:∀(a:Act),True):∃e,a6B P ops o T H N e∧K e:=by
  unfold a0t at h
  split at h
  · rename_i hg
    exact a1k (fun w S ρ L a _=>by simp[Region.wanted,hg]) h
  · rename_i j want hg
    split at h
    · rename_i d hdj
      split at h
      · rename_i l b hgv
        refine a1k (fun w S ρ L a hl=>?_) h;have hdo:(ops[j]?).bind (·.dst)=some d:=by
          have:=hd j;rw[hdj]at this
          cases ho:ops[j]? with
          |none=>rw[ho]at this;cases this
          |some oj=>rw[ho]at this;simp only[Option.map_some,Option.some.injEq]at this;simp[this]
        have hrep:=hl d (by
          simp only[Oper.looksAt,List.mem_append]
          right
          rw[hg];simp[hdo])
        have hcell : ∀v,a.tmps.getD d undef=v→(∀bb,v= .bool bb→yielded ops a.tmps j=some bb)∧(v=undef→yielded ops a.tmps j=none):=by
          intro v hv;unfold yielded;rw[hdo];simp only[Option.bind_some]
          cases ht:a.tmps[d]? with
          |none=>simp[Array.getD_eq_getD_getElem?,ht]at hv;subst hv;simp[undef]
          | some u => simp[Array.getD_eq_getD_getElem?,ht]at hv;subst hv;constructor
                      · rintro bb rfl;rfl
                      · rintro rfl;rfl
        simp only[Region.wanted,hg];generalize hT:T d=td at hrep hgv;unfold b9X at hgv
        split at hgv
        · simp only[Option.some.injEq,Prod.mk.injEq]at hgv
          obtain⟨rfl,rfl⟩:=hgv;have:=(hcell _ rfl).1 _ (m7 hrep);rw[this];rename_i b'
          cases b'<;>cases want<;>simp[b8W]
        · simp only[Option.some.injEq,Prod.mk.injEq]at hgv
          obtain⟨rfl,rfl⟩:=hgv;rename_i l' b';have hcase:(l'.all id=true∧k7 w S ρ L (.v (.bool b')) (a.tmps.getD d undef))∨(l'.all id=false∧a.tmps.getD d undef=undef):=by
            generalize a.tmps.getD d undef=u at hrep
            cases hrep with
            | pure _ _ h=>cases h with
              |mayT _ _ _ ht h=>exact Or.inl ⟨ht, .pure _ _ h⟩
              |mayF _ _ hf=>exact Or.inr ⟨hf,rfl⟩
            |mayT _ _ _ ht h=>exact Or.inl ⟨ht,h⟩
            |mayF _ _ hf=>exact Or.inr ⟨hf,rfl⟩
          rcases hcase with⟨hl',hr⟩|⟨hl',hu⟩
          · have:=(hcell _ rfl).1 _ (m7 hr)
            rw[this,List.all_append,hl']
            cases b'<;>cases want<;>simp[b8W]
          · have:=(hcell _ rfl).2 hu
            rw[this,List.all_append,hl'];simp
        · cases hgv
      · exact h.elim
    · exact h.elim
structure M5 (B S0:Nat→Prop) (nt:Nat) (w:World) (ρ:Nat→Option Loc) (L:Nat→Prop) (T:Nat→AV) (H:Nat→Option l7) (a:Act):Prop where
 wf:WF B S0 w ρ L
 size:a.tmps.size=nt
 defers:a.defers=[]
 tmps:∀t,k7 w (Sx S0 ρ) ρ L (T t) (a.tmps.getD t undef)
 rows:∀r row,H r=some row→∃l,ρ r=some l∧n5 w (Sx S0 ρ) ρ L l row
 dead:∀r,H r=none→ρ r=none
theorem a4Z (a:Act) (d:Option Tmp) (v:Value) (t:Nat):(∀k,d=some k→k<a.tmps.size)→(a.put d v).tmps.getD t undef=if d=some t then v else a.tmps.getD t undef:=by
 intro h
 cases d with
 |none=>simp[Act.put]
 |some d=>
  simp only[Act.put,Array.getD_eq_getD_getElem?,Option.some.injEq]
  by_cases e:d=t
  ·subst e;rw[if_pos rfl,Array.getElem?_setIfInBounds_self_of_lt (h d rfl)];rfl
  ·rw[if_neg e,Array.getElem?_setIfInBounds_ne e]
theorem M5.step {B S0:Nat→Prop} {nt:Nat} {w:World} {ρ:Nat→Option Loc} {L:Nat→Prop} {T T':Nat→AV} {H H':Nat→Option l7} {a:Act} (hc:M5 B S0 nt w ρ L T H a) {e:Eff} {w':World} {ρ':Nat→Option Loc} {v:Value} {dst:Option Tmp}
  (hN:a2o L N e) (hp:a3d B S0 w ρ L N e w' ρ' v) (hd:∀k,dst=some k→k<nt)
  (hT:∀t,T' t=if dst=some t then e.av else T t) (hH:∀k,(∀o,(k,o)∈e.ups→H' k=o)∧((∀o,(k,o)∉e.ups)→H' k=H k)):
  M5 B S0 nt w' ρ' (nL L e) T' H' (a.put dst v):=by
 refine⟨hp.wf,?_,?_,fun t=>?_,fun r row hr=>?_,fun r hr=>?_⟩
 ·cases dst with
  |none=>exact hc.size
  |some d=>simp[Act.put,hc.size]
 ·cases dst with
  |none=>exact hc.defers
  |some d=>exact hc.defers
 ·rw[a4Z a dst v t (by rw[hc.size];exact hd),hT]
  split
  ·exact hp.rep
  ·exact hp.keepsV hN (hc.tmps t)
 ·by_cases hm:∃o,(r,o)∈e.ups
  ·obtain⟨o,hm⟩:=hm;have:=(hH r).1 o hm;rw[hr]at this;subst this;exact hp.ups r _ hm
  ·have hm':∀o,(r,o)∉e.ups:=fun o h=>hm ⟨o,h⟩;have:=(hH r).2 hm';rw[this]at hr;obtain⟨l,hl,hrow⟩:=hc.rows r row hr;exact⟨l,by rw[hp.others r hm'];exact hl,hp.keepsRow hc.wf hN hm' hl hrow⟩
 ·by_cases hm:∃o,(r,o)∈e.ups
  ·obtain⟨o,hm⟩:=hm;have:=(hH r).1 o hm;rw[hr]at this;subst this;exact hp.ups r _ hm
  ·have hm':∀o,(r,o)∉e.ups:=fun o h=>hm ⟨o,h⟩;have:=(hH r).2 hm';rw[this]at hr;rw[hp.others r hm'];exact hc.dead r hr
def X4 (P:Program) (nt:Nat) (dsts:List (Option Tmp)):List Oper→Tm→Hp→(Tm→Hp→Prop)→Prop
 |[],T,H,K=>K T H
 | o::rest,T,H,K=>a0t P dsts o (l6 T) (m6 H) H.length (ct (fun e=>
   b3G nt o.dst∧W8 H e.ups∧E2 e.ups=true∧X4 P nt dsts rest (a1r T o.dst e.av) (a3g H e.ups) K) ⟨⟩)
structure St (w0:World) (B S0:Nat→Prop) (nt:Nat) (T:Tm) (H:Hp) (a:Act) (w:World):Prop where
 ex:∃ρ L,M5 B S0 nt w ρ L (l6 T) (m6 H) a∧∀r,L r→r<H.length
 ext:Ext B w0 w
theorem a9q {w0 w w':World} {B S0:Nat→Prop} {ρ:Nat→Option Loc} {L:Nat→Prop} {e:Eff} {ρ':Nat→Option Loc} {v:Value} (h:Ext B w0 w) (hw:WF B S0 w ρ L) (hp:a3d B S0 w ρ L N e w' ρ' v):Ext B w0 w':=
 h.trans (hp.ext.mono (by rintro b hb ⟨r,l,o,_,h1,h2⟩;exact(hw.own r l b h1 h2).2.2))
theorem St.step {w0:World} {B S0:Nat→Prop} {nt:Nat} {T:Tm} {H:Hp} {a:Act} {w:World} (hs:St w0 B S0 nt T H a w) {e:Eff} (hst:a6B P ops o (l6 T) (m6 H) H.length e)
  (hd:∀d,o.dst=some d→d<nt) (hin:W8 H e.ups) (ho:E2 e.ups=true) {K:Act→World→Prop} {Q:Exit→Act→World→Prop}
  (hK:∀a' w',St w0 B S0 nt (a1r T o.dst e.av) (a3g H e.ups) a' w'→K a' w'):if Region.wanted o (yielded ops a.tmps)then o.wp P a w K Q else K (a.put o.dst undef) w:=by
 obtain⟨⟨ρ,L,hc,hL⟩,hext⟩:=hs;have hN:a2o L H.length e:=fun r hr _ h=>Nat.lt_irrefl _ (Nat.lt_of_le_of_lt hr (hL r h));refine hst B S0 a w ρ L hc.wf hN (fun t _=>hc.tmps t) (fun r _ row hr=>hc.rows r row hr) K Q (fun v w' ρ' hp=>hK _ _ ⟨⟨ρ',_,hc.step hN hp hd (fun t=>B4 T o.dst e.av t) (fun k=>I2 e.ups H hin ho k),?_⟩,a9q hext hc.wf hp⟩);obtain⟨h1,h2⟩:=D3 e.ups H hin;rintro r (hr|⟨o',hr⟩)
 ·exact Nat.lt_of_lt_of_le (hL r hr) h1
 ·exact h2 r o' hr
theorem a2z {w0:World} {B S0:Nat→Prop} {nt:Nat} {dsts:List (Option Tmp)} (hd:∀j:Nat,dsts[j]?=(ops[j]?).map (·.dst)) {Q:Exit→Act→World→Prop} {K:Tm→Hp→Prop}
  (hK:∀T H a w,K T H→St w0 B S0 nt T H a w→Q .normal a w):∀(l:List Oper) (T:Tm) (H:Hp) (a:Act) (w:World),X4 P nt dsts l T H K→St w0 B S0 nt T H a w→wpList P ops Q l a w
 |[],T,H,a,w,h,hs=>hK T H a w h hs
 |o::rest,T,H,a,w,h,hs=>by
  obtain⟨e,hst,h1,h2,h3,h4⟩:=G3 hd h (fun _=>trivial);have:=hs.step (K:=wpList P ops Q rest) (Q:=Q) hst (fun d hd=>by rw[hd]at h1;exact h1) h2 h3 (fun a' w' hs'=>a2z hd hK rest _ _ a' w' h4 hs');unfold wpList
  split
  ·rename_i hw;rw[if_pos hw]at this;exact Or.inl this
  ·rename_i hw;rw[if_neg hw]at this;exact this
end
end Go.AM
namespace Go.AM
def AWp (P:Program) (nt:Nat) (c:Code) (T:Tm) (H:Hp) (Q:Exit→Tm→Hp→Prop):Prop:=
 ∀w0 B S0 a w,St w0 B S0 nt T H a w→c.wp P (fun e a' w'=>∃T' H',Q e T' H'∧St w0 B S0 nt T' H' a' w') a w
def Q8 (next:Tm→Hp→Prop) (Q:Exit→Tm→Hp→Prop):Exit→Tm→Hp→Prop
 | .normal=>next
 |e=>Q e
def B9 (id:Nat) (Q:Exit→Tm→Hp→Prop):Exit→Tm→Hp→Prop
 | .exit k=>if k=id then Q .normal else Q (.exit k)
 |e=>Q e
def Sub (nt:Nat) (T:Tm) (H:Hp) (T':Tm) (H':Hp):Prop:=∀w0 B S0 a w,St w0 B S0 nt T H a w→St w0 B S0 nt T' H' a w
theorem Sub.refl (nt:Nat) (T:Tm) (H:Hp):Sub nt T H T H:=fun _ _ _ _ _ h=>h
theorem Sub.trans {nt:Nat} {T T' T'':Tm} {H H' H'':Hp} (h:Sub nt T H T' H') (k:Sub nt T' H' T'' H''):Sub nt T H T'' H'':=fun w0 B S0 a w s=>k w0 B S0 a w (h w0 B S0 a w s)
section
variable {P:Program} {nt:Nat} {T:Tm} {H:Hp} {Q:Exit→Tm→Hp→Prop}
theorem N7 {c:Code} {T':Tm} {H':Hp} (hs:Sub nt T H T' H') (h:AWp P nt c T' H' Q):AWp P nt c T H Q:=
 fun w0 B S0 a w s=>h w0 B S0 a w (hs w0 B S0 a w s)
theorem f5 (h:Q .normal T H):AWp P nt .skip T H Q:=fun w0 B S0 a w hs=>wp_skip ⟨T,H,h,hs⟩
theorem g7 (h:Q .ret T H):AWp P nt .ret T H Q:=fun w0 B S0 a w hs=>wp_ret ⟨T,H,h,hs⟩
theorem j8 {id:Nat} (h:Q (.exit id) T H):AWp P nt (.exit id) T H Q:=fun w0 B S0 a w hs=>wp_exit ⟨T,H,h,hs⟩
theorem a7R {x y:Code} (h:AWp P nt x T H (Q8 (fun T' H'=>AWp P nt y T' H' Q) Q)):AWp P nt (.seq x y) T H Q:=by
 intro w0 B S0 a w hs;refine wp_seq (wp_mono (h w0 B S0 a w hs) ?_);rintro e a' w' ⟨T',H',q,s⟩
 cases e with
 |normal=>exact q w0 B S0 a' w' s
 |exit id=>exact⟨T',H',q,s⟩
 |goto l=>exact⟨T',H',q,s⟩
 |ret=>exact⟨T',H',q,s⟩
 |panic c=>exact⟨T',H',q,s⟩
 |outgrown=>exact⟨T',H',q,s⟩
theorem b8 {x y:Code} (h:∀K:Tm→Hp→Prop,(∀T' H',AWp P nt y T' H' Q→K T' H')→AWp P nt x T H (Q8 K Q)):AWp P nt (.seq x y) T H Q:=
 a7R (h _ fun _ _ h=>h)
theorem e8 {id:Nat} {c:Code} (h:AWp P nt c T H (B9 id Q)):AWp P nt (.block id c) T H Q:=by
 intro w0 B S0 a w hs;refine wp_block (wp_mono (h w0 B S0 a w hs) ?_);rintro e a' w' ⟨T',H',q,s⟩
 cases e with
 |exit k=>
  simp only[B9]at q;simp only[Exit.inBlock]
  split
  ·rename_i e;rw[if_pos e]at q;exact⟨T',H',q,s⟩
  ·rename_i e;rw[if_neg e]at q;exact⟨T',H',q,s⟩
 |normal=>exact⟨T',H',q,s⟩
 |goto l=>exact⟨T',H',q,s⟩
 |ret=>exact⟨T',H',q,s⟩
 |panic c=>exact⟨T',H',q,s⟩
 |outgrown=>exact⟨T',H',q,s⟩
theorem d8 {c:Operand} {x y:Code} {b:Bool} (hc:evT (l6 T) c= .v (.bool b)) (hx:b=true→AWp P nt x T H Q) (hy:b=false→AWp P nt y T H Q):AWp P nt (.cond c x y) T H Q:=by
 intro w0 B S0 a w hs;have hv:a.eval c= .bool b:=by
  obtain⟨⟨ρ,L,hc',_⟩,_⟩:=hs
  cases c with
  |tmp t=>
   have:=hc'.tmps t;simp only[evT]at hc;rw[hc]at this;exact m7 this
  |const v=>
   simp only[evT]at hc;have:=N9 (w:=w) (S:=fun _=>False) v;rw[hc]at this
   cases this
   rfl
  |global g=>simp only[evT]at hc;cases hc
  |func f=>simp only[evT]at hc;cases hc
 exact wp_cond_split hv (fun h=>hx h w0 B S0 a w hs) (fun h=>hy h w0 B S0 a w hs)
theorem a3H {id:Nat} {l:List Oper} {dsts:List (Option Tmp)} (hd:l.map (·.dst)=dsts) (h:X4 P nt dsts l T H (Q .normal)):AWp P nt (.region id l.toArray false) T H Q:=by
 intro w0 B S0 a w hs;refine wp_region_lit ?_;refine a2z (ops:=l.toArray) (dsts:=dsts) (nt:=nt) (w0:=w0) (B:=B) (S0:=S0) ?_ (K:=Q .normal) (fun T H a w q s=>⟨T,H,q,s⟩) l T H a w h hs;intro j;rw[←hd];simp
theorem b5B {c:Code} {α:Type} (st:α→Tm×Hp) (inv:α→Prop) (μ:α→Nat) (x0:α) (h0:inv x0) (hs0:Sub nt T H (st x0).1 (st x0).2)
  (round:∀x,inv x→AWp P nt c (st x).1 (st x).2 (Q8 (fun T' H'=>∃y,inv y∧μ y<μ x∧Sub nt T' H' (st y).1 (st y).2) Q)):AWp P nt (.loop c) T H Q:=by
 intro w0 B S0 a w hs b k cs;have key:∀n x a w,μ x=n→inv x→St w0 B S0 nt (st x).1 (st x).2 a w→
   ∃e a' w',(∃T' H',Q e T' H'∧St w0 B S0 nt T' H' a' w')∧Arrives P (lone (b.at a (.code c:: .inLoop c::k)) cs w) b k cs e a' w':=by
  intro n
  induction n using Nat.strongRecOn with
  | _ n ih=>
   intro x a w hn hI hst;obtain⟨e,a₁,w₁,⟨T1,H1,hq,hst1⟩,harr⟩:=round x hI w0 B S0 a w hst b (.inLoop c::k) cs
   cases e with
   |normal=>
    obtain⟨y,hy,hlt,hsub⟩:=hq;obtain⟨e₂,a₂,w₂,hq₂,harr₂⟩:=ih (μ y) (hn▸hlt) y a₁ w₁ rfl hy (hsub w0 B S0 a₁ w₁ hst1);exact⟨e₂,a₂,w₂,hq₂, .of_steps (Steps.trans harr (.one step_inLoop)) harr₂⟩
   |exit id=>exact⟨_,a₁,w₁,⟨T1,H1,hq,hst1⟩, .pass (x:= .inLoop c) rfl (fun _ _=> .inl (by simp)) harr⟩
   |goto l=>exact⟨_,a₁,w₁,⟨T1,H1,hq,hst1⟩, .pass (x:= .inLoop c) rfl (fun _ _=> .inl (by simp)) harr⟩
   |ret=>exact⟨_,a₁,w₁,⟨T1,H1,hq,hst1⟩, .pass (x:= .inLoop c) rfl (fun _ _=> .inl (by simp)) harr⟩
   |panic ch=>exact⟨_,a₁,w₁,⟨T1,H1,hq,hst1⟩, .pass (x:= .inLoop c) rfl (fun _ _=> .inl (by simp)) harr⟩
   |outgrown=>exact⟨_,a₁,w₁,⟨T1,H1,hq,hst1⟩, .pass (x:= .inLoop c) rfl (fun _ _=> .inl (by simp)) harr⟩
 obtain⟨e,a',w',hq,harr⟩:=key _ x0 a w rfl h0 (hs0 w0 B S0 a w hs);exact⟨e,a',w',hq, .of_steps (.one step_loop) harr⟩
end
def b4A (H:Hp) (g:List (Option Nat)):Hp:=g.map fun q=>match q with|some r=>(m6 H r).map (v7 g)|none=>none
def b7C (g:List (Option Nat)) (T:Tm):Tm→Prop
 |[]=>True
 |(i,x)::r=>(x= .any∨m9 g 40 (l6 T i)=x)∧b7C g T r
theorem b4d {nt:Nat} {T T':Tm} {H H':Hp} (g:List (Option Nat)) (hn:∀(i j q:Nat),g[i]?=some (some q)→g[j]?=some (some q)→i=j) (hT:b7C g T T') (hH:b4A H g=H'):Sub nt T H T' H':=by
 rintro w0 B S0 a w ⟨⟨ρ,L,hc,hL⟩,hext⟩;subst hH;have hS:∀b,Sx S0 (m5 ρ g) b→Sx S0 ρ b:=by
  rintro b (h|⟨r,l,h1,h2⟩)
  ·exact Or.inl h
  ·obtain⟨q,_,h3⟩:=i7 h1;exact Or.inr ⟨q,l,h3,h2⟩
 refine⟨⟨m5 ρ g,fun r=>r<g.length,⟨⟨?_,?_,?_,hc.wf.low,hc.wf.new⟩,hc.size,hc.defers,?_,?_,?_⟩,?_⟩,hext⟩
 ·intro r r' l l' b h1 h2 k1 k2;obtain⟨q,g1,p1⟩:=i7 h1;obtain⟨q',g2,p2⟩:=i7 h2;have:=hc.wf.inj q q' l l' b p1 p2 k1 k2;subst this;exact hn _ _ _ g1 g2
 ·intro r l b h1 k1;obtain⟨q,g1,p1⟩:=i7 h1;exact hc.wf.own q l b p1 k1
 ·intro r l h1;obtain⟨q,g1,p1⟩:=i7 h1;exact(List.getElem?_eq_some_iff.1 g1).1
 ·intro t;have gen:∀(T':Tm),b7C g T T'→k7 w (Sx S0 (m5 ρ g)) (m5 ρ g) (fun r=>r<g.length) (l6 T' t) (a.tmps.getD t undef):=by
   intro T'
   induction T' with
   |nil=>intro _;exact .pure _ _ (.any _)
   | cons p T' ih=>
    obtain⟨i,x⟩:=p;rintro⟨h1,h2⟩;simp only[l6]
    split
    ·rename_i e;subst e
     rcases h1 with rfl|rfl
     ·exact .pure _ _ (.any _)
     ·exact a5V hS 40 _ _ (hc.tmps t)
    ·exact ih h2
  exact gen T' hT
 ·intro r row hr;simp only[b4A,A6]at hr
  split at hr
  ·rename_i q hq
   split at hr
   ·rename_i q';simp only[Option.map_eq_some_iff]at hr;obtain⟨row0,h0,rfl⟩:=hr;obtain⟨l,hl,hrow⟩:=hc.rows q' row0 h0;refine⟨l,by simp only[m5,hq];exact hl,?_⟩
    cases row0 with
    |map kvs=>exact hrow
    |itr ag kts left cur=>
     obtain⟨b,h1,h0,h2⟩:=hrow;exact⟨b,h1,h0,h2.same rfl (Nat.le_refl _) (fun b _ hn=>⟨rfl,fun k=>hn (hS b k)⟩)⟩
    |els sz es=>
     obtain⟨h1,h2,h3,h4⟩:=hrow;refine⟨h1,?_,fun hb=>by rw[h3 hb];rfl,fun b hb=>?_⟩
     ·intro e he;simp only[List.mem_map]at he;obtain⟨e',he',rfl⟩:=he;simpa using h2 e' he'
     ·obtain⟨c,t,k1,k2,k3,k4⟩:=h4 b hb;refine⟨c,t,k1,k2,by simpa using k3,fun i av hi=>?_⟩;rw[←List.map_flatten]at hi;simp only[List.getElem?_map,Option.map_eq_some_iff]at hi;obtain⟨av0,hi,rfl⟩:=hi;obtain⟨x,p1,p2,p3⟩:=k4 i av0 hi;exact⟨x,p1,p2,a5V hS 3 _ _ p3⟩
   ·cases hr
  ·cases hr
 ·intro r hr;simp only[b4A,A6]at hr;simp only[m5]
  split
  ·rename_i q hq;rw[hq]at hr;simp only[Option.map_eq_none_iff]at hr;exact hc.dead q hr
  ·rfl
 ·intro r hr;simpa [b4A]using hr
theorem H4 {nt:Nat} {T:Tm} {H:Hp} (t sz:Nat) (h:l6 T t= .v (.slice none 0 0)):Sub nt T H ((t, .row H.length 0 0)::T) (H++[some (.els sz [])]):=by
 rintro w0 B S0 a w ⟨⟨ρ,L,hc,hL⟩,hext⟩;have hN:¬L H.length:=fun h=>Nat.lt_irrefl _ (hL _ h)
 let l:Loc:=⟨none,0,sz,0⟩
 have hnone:∀r l',Loc.fresh ρ H.length l r=some l'→l'.b≠none→ρ r=some l':=by
  intro r l' h1 h2;simp only[Loc.fresh]at h1
  split at h1
  ·simp only[Option.some.injEq]at h1;subst h1;exact absurd rfl h2
  ·exact h1
 have hS:∀b,Sx S0 (Loc.fresh ρ H.length l) b→Sx S0 ρ b:=by
  rintro b (h1|⟨r,l',h1,h2⟩)
  ·exact Or.inl h1
  ·exact Or.inr ⟨r,l',hnone r l' h1 (by rw[h2];simp),h2⟩
 have hk:∀x y,k7 w (Sx S0 ρ) ρ L x y→k7 w (Sx S0 (Loc.fresh ρ H.length l)) (Loc.fresh ρ H.length l) (fun r=>L r∨r=H.length) x y:=fun x y k=>
  k.ext (Nat.le_refl _) (fun b _ hn=>⟨rfl,fun q=>hn (hS b q)⟩) (fun r=>Or.inl) (fun r l' hr hl'=>by
   simp only[Loc.fresh]at hl'
   split at hl'
   ·rename_i e;subst e;exact absurd hr hN
   ·exact hl')
 have hwf:=a1T hc.wf hN l (w':=w) (Nat.le_refl _) (by intro b hb;cases hb);have hap:∀r,m6 (H++[some (.els sz [])]) r=if r=H.length then some (.els sz [])else m6 H r:=by
  have gen:∀(H:Hp) (r:Nat),m6 (H++[some (.els sz [])]) r=if r=H.length then some (.els sz [])else m6 H r:=by
   intro H
   induction H with
   |nil=>intro r;cases r<;>simp[m6]
   |cons x xs ih=>
    intro r
    cases r with
    |zero=>simp[m6]
    |succ r=>simp only[List.cons_append,m6,List.length_cons,Nat.add_right_cancel_iff];exact ih r
  exact gen H
 refine⟨⟨Loc.fresh ρ H.length l,fun r=>L r∨r=H.length,⟨hwf,hc.size,hc.defers,?_,?_,?_⟩,?_⟩,hext⟩
 ·intro t';simp only[l6]
  split
  ·rename_i e;subst e;have:=hc.tmps t';rw[h]at this;rw[m7 this];refine .row _ _ _ _ (Or.inr rfl) rfl (fun l' hl'=>?_);simp only[Loc.fresh,if_true,Option.some.injEq]at hl';subst hl';exact⟨fun _=>⟨rfl,rfl,rfl⟩,fun b hb=>by cases hb⟩
  ·exact hk _ _ (hc.tmps t')
 ·intro r row hr;rw[hap]at hr
  split at hr
  ·rename_i e;simp only[Option.some.injEq]at hr;subst hr;exact⟨l,by simp[Loc.fresh,e],rfl,by simp,by simp,by intro b hb;cases hb⟩
  ·rename_i e;obtain⟨l',hl',hrow⟩:=hc.rows r row hr;refine⟨l',by simp[Loc.fresh,e,hl'],hrow.ext (Nat.le_refl _) (fun b _ hn=>⟨rfl,fun q=>hn (hS b q)⟩) (fun r=>Or.inl) (fun r l' hr hl'=>by
    simp only[Loc.fresh]at hl'
    split at hl'
    ·rename_i e;subst e;exact absurd hr hN
    ·exact hl') (fun _ _=>rfl)⟩
 ·intro r hr;rw[hap]at hr
  split at hr
  ·cases hr
  ·rename_i e;simp[Loc.fresh,e,hc.dead r hr]
 ·rintro r (hr|rfl)
  ·simp;have:=hL r hr;omega
  ·simp
def V9 (H:Hp):Nat→AV→AV
 |n+1, .row r i k=>match m6 H r with
  |some (.els sz es)=>if i+k≤es.length∧sz≠0 then .lst sz (((es.drop i).take k).map fun e=>e.map (V9 H n))else .any
  |_=> .any
 | n+1, .ptr r i o=>match m6 H r with
  |some (.els sz es)=>match es[i]? with
   |some e=>if o≤e.length then .iptr ((e.drop o).map (V9 H n))else .any
   |none=> .any
  |_=> .any
 |n+1, .agg cs=> .agg (cs.map (V9 H n))
 |n+1, .tup cs=> .tup (cs.map (V9 H n))
 |n+1, .clo f cs=> .clo f (cs.map (V9 H n))
 |n+1, .bnd f cs=> .bnd f (cs.map (V9 H n))
 |n+1, .vptr cs=> .iptr (cs.map (V9 H n))
 |n+1, .ifc t x=> .ifc t (V9 H n x)
 |n+1, .may l x=> .may l (V9 H n x)
 |_, .v x=> .v x
 |_, .lst sz els=> .lst sz els
 |_, .full sz els=> .full sz els
 |_, .iptr cs=> .iptr cs
 |_, .mpc ag kts kvs=> .mpc ag kts kvs
 |_, .mp r=>match m6 H r with
  |some (.map ag kts kvs)=> .mpc ag kts kvs
  |_=> .any
 |_,_=> .any
theorem a9F {w:World} {S0:Nat→Prop} {B:Nat→Prop} {ρ:Nat→Option Loc} {L:Nat→Prop} {H:Hp} (hw:WF B S0 w ρ L) (hrows:∀r row,m6 H r=some row→∃l,ρ r=some l∧n5 w (Sx S0 ρ) ρ L l row):
  ∀(n:Nat) (x:AV) (y:Value),k7 w (Sx S0 ρ) ρ L x y→q8 w S0 (V9 H n x) y:=by
 have hP:∀{x y},q8 w (Sx S0 ρ) x y→q8 w S0 x y:=fun h=>h.ext (Nat.le_refl _) (fun b _ hn=>⟨rfl,fun k=>hn (Or.inl k)⟩);have mp:∀(n r:Nat) (y:Value),k7 w (Sx S0 ρ) ρ L (.mp r) y→q8 w S0 (V9 H n (.mp r)) y:=by
  intro n r y h;have e:V9 H n (.mp r)=match m6 H r with|some (.map ag kts kvs)=> .mpc ag kts kvs|_=> .any:=by cases n<;>rfl
  rw[e]
  split
  ·rename_i ag kts kvs hH;obtain⟨l,hl,b,hb,hm⟩:=hrows r _ hH
   cases h with
   |pure _ _ h=>cases h
   |mp _ _ h1 h2 h3=>
    obtain⟨b',hb',rfl⟩:=h3 l hl;rw[hb]at hb';simp only[Option.some.injEq]at hb';subst hb';exact .mpc _ _ _ b (hw.own r l b hl hb).2.1 (hw.own r l b hl hb).1 hm
  ·exact .any _
 intro n
 induction n with
 |zero=>
  intro x y h
  cases x with
  |v x=>cases h with|pure _ _ h=>exact hP h
  |lst sz els=>cases h with|pure _ _ h=>exact hP h
  |full sz els=>cases h with|pure _ _ h=>exact hP h
  |iptr cs=>cases h with|pure _ _ h=>exact hP h
  |mpc ag kts kvs=>cases h with|pure _ _ h=>exact hP h
  |mp r=>exact mp _ r y h
  |_=>exact .any _
 | succ n ih=>
  intro x y h
  cases x with
  |fptr c r i o=>exact .any _
  |v x=>cases h with|pure _ _ h=>exact hP h
  |lst sz els=>cases h with|pure _ _ h=>exact hP h
  |full sz els=>cases h with|pure _ _ h=>exact hP h
  |iptr cs=>cases h with|pure _ _ h=>exact hP h
  |mpc ag kts kvs=>cases h with|pure _ _ h=>exact hP h
  |mp r=>exact mp _ r y h
  |any=>exact .any _
  | row r i k=>
   simp only[V9]
   split
   ·rename_i sz es hH
    split
    ·rename_i hc;obtain⟨hin,hsz⟩:=hc;obtain⟨l,hl,hrow⟩:=hrows r _ hH;have hz:=hrow.1;subst hz;have hlen:((es.drop i).take k).length=k:=by rw[List.length_take,List.length_drop,Nat.min_eq_left];omega
     cases h with
     |pure _ _ h=>cases h
     | row _ _ _ _ h1 h2 h3=>
      obtain⟨h4,h5⟩:=h3 l hl
      cases hb:l.b with
      |none=>
       obtain⟨rfl,rfl,rfl⟩:=h4 hb;simp only[List.drop_zero,List.take_zero,List.map_nil];exact .lstNil _ _ _
      | some b=>
       obtain⟨off,cap,rfl,hcap,hoff⟩:=h5 b hb
       by_cases hk0:k=0
       ·subst hk0;simp only[List.take_zero,List.map_nil];exact .lstNil _ _ _
       ·obtain⟨rfl,_⟩:=hoff.resolve_left (by omega);have hlies:=a1V hrow hsz hin hb;obtain⟨g1,g2⟩:=hlies
        rcases g2 with g2|⟨b',off',vs,g2,g3,g4,g5⟩
        ·rw[g2]at hlen;simp at hlen;omega
        ·simp only[Option.some.injEq,Addr.mk.injEq]at g2;obtain⟨rfl,rfl,_⟩:=g2;have hlen':(((es.drop i).take k).map fun e=>e.map (V9 H n)).length=k:=by rw[List.length_map];exact hlen
         have:=q8.lst (w:=w) (S:=S0) l.sz (((es.drop i).take k).map fun e=>e.map (V9 H n)) b (l.o+i*l.sz) cap vs (hw.own r l b hl hb).2.1 (hw.own r l b hl hb).1 (by omega) (by
          intro e he;simp only[List.mem_map]at he;obtain⟨e',he',rfl⟩:=he;simpa using g1 e' he') (by rw[←List.map_flatten,List.length_map,l5 g1,g3]) g4 (by
          intro j c u hj hu;rw[←List.map_flatten]at hj;simp only[List.getElem?_map,Option.map_eq_some_iff]at hj;obtain⟨c',hj,rfl⟩:=hj;exact ih c' u (g5 j c' u hj hu))
         rw[hlen']at this;exact this
    ·exact .any _
   ·exact .any _
  | ptr r i o=>
   simp only[V9]
   split
   ·rename_i sz es hH
    split
    ·rename_i e he
     split
     ·rename_i ho;obtain⟨l,hl,hrow⟩:=hrows r _ hH;obtain⟨b,hb⟩:=T9 hrow he;obtain⟨c,t,k1,k2,k3,k4⟩:=S5 hrow he hb
      cases h with
      |pure _ _ h=>cases h
      | ptr _ _ _ _ h1 h2 h3=>
       obtain⟨b',hb',rfl⟩:=h3 l hl;rw[hb]at hb';simp only[Option.some.injEq]at hb';subst hb';have hsz:(i+1)*sz=i*sz+sz:=Nat.succ_mul _ _;refine .iptr _ b (l.o+i*l.sz+o) ((c.toList.drop (l.o+i*sz+o)).take (e.length-o)) (hw.own r l b hl hb).2.1 (hw.own r l b hl hb).1 ?_ ?_ ?_
       ·have hcl:(c.toList.drop (l.o+i*sz+o)).length=c.size-(l.o+i*sz+o):=by rw[List.length_drop,Array.length_toList]
        have hel:(e.drop o).length=e.length-o:=List.length_drop ..;rw[List.length_map,hel,List.length_take,hcl,Nat.min_eq_left];omega
       ·intro j u hj;rw[List.getElem?_take]at hj
        split at hj
        ·rename_i hjl;rw[List.getElem?_drop]at hj;obtain⟨x,p1,p2,p3,p4⟩:=k4 (o+j) _ (List.getElem?_eq_getElem (by omega));have hju:c[l.o+i*sz+o+j]?=some u:=by simpa using hj
         rw[←Nat.add_assoc]at p1;rw[hju]at p1;simp only[Option.some.injEq]at p1;subst p1;refine⟨?_,p3⟩;rw[hrow.1];rw[←Nat.add_assoc]at p2;exact p2
        ·cases hj
       ·intro j cc u hj hu;simp only[List.getElem?_map,Option.map_eq_some_iff]at hj;obtain⟨c',hj,rfl⟩:=hj;rw[List.getElem?_drop]at hj;rw[List.getElem?_take]at hu
        split at hu
        ·rw[List.getElem?_drop]at hu;obtain⟨x,p1,p2,p3,p4⟩:=k4 (o+j) c' hj;have hju:c[l.o+i*sz+o+j]?=some u:=by simpa using hu
         rw[←Nat.add_assoc]at p1;rw[hju]at p1;simp only[Option.some.injEq]at p1;subst p1;exact ih c' u p4
        ·cases hu
     ·exact .any _
    ·exact .any _
   ·exact .any _
  |agg cs=>
   obtain⟨vs,rfl,hl,hc⟩:=B7 h;refine .agg _ vs (by simpa using hl) (fun u hu=>?_) (fun i c u h1 h2=>?_)
   ·obtain⟨i,hi,rfl⟩:=List.getElem_of_mem hu;exact(hc i _ _ (List.getElem?_eq_getElem (by omega)) (List.getElem?_eq_getElem hi)).1
   ·simp only[List.getElem?_map,Option.map_eq_some_iff]at h1;obtain⟨c',h1,rfl⟩:=h1;exact ih c' u (hc i c' u h1 h2).2
  |tup cs=>
   obtain⟨vs,rfl,hl,hc⟩:=I5 h;refine .tup _ vs (by simpa using hl) (fun i c u h1 h2=>?_);simp only[List.getElem?_map,Option.map_eq_some_iff]at h1;obtain⟨c',h1,rfl⟩:=h1;exact ih c' u (hc i c' u h1 h2)
  |clo f cs=>
   obtain⟨vs,rfl,hl,hc⟩:=C8 h;refine .clo f _ vs (by simpa using hl) (fun i c u h1 h2=>?_);simp only[List.getElem?_map,Option.map_eq_some_iff]at h1;obtain⟨c',h1,rfl⟩:=h1;exact ih c' u (hc i c' u h1 h2)
  |bnd f cs=>
   obtain⟨vs,rfl,hl,hc⟩:=H9 h;refine .bnd f _ vs (by simpa using hl) (fun i c u h1 h2=>?_);simp only[List.getElem?_map,Option.map_eq_some_iff]at h1;obtain⟨c',h1,rfl⟩:=h1;exact ih c' u (hc i c' u h1 h2)
  |vptr cs=>
   obtain⟨b,off,vs,rfl,hSb,hb,hl,hv,hc⟩:=u5 h;refine .iptr _ b off vs (fun k=>hSb (Or.inl k)) hb (by simpa using hl) hv (fun i c u h1 h2=>?_);simp only[List.getElem?_map,Option.map_eq_some_iff]at h1;obtain⟨c',h1,rfl⟩:=h1;exact ih c' u (hc i c' u h1 h2)
  |ifc t x=>
   obtain⟨v,rfl,h'⟩:=B8 h;exact .ifc t _ _ (ih x v h')
  | may l x=>
   cases h with
   |pure _ _ h=>cases h with
    |mayT _ _ _ ht h=>exact .mayT _ _ _ ht (ih x y (.pure _ _ h))
    |mayF _ _ hf=>exact .mayF _ _ hf
   |mayT _ _ _ ht h=>exact .mayT _ _ _ ht (ih x y h)
   |mayF _ _ hf=>exact .mayF _ _ hf
end Go.AM
namespace Go.AM
def a1y:Nat→List AV→Tm
 |_,[]=>[]
 |k,x::xs=>(k,x)::a1y (k+1) xs
theorem Q6:∀(xs:List AV) (k t:Nat),l6 (a1y k xs) t=if k≤t then(xs[t-k]?).getD .any else .any
 |[],k,t=>by simp[a1y,l6]
 | x::xs,k,t=>by
  simp only[a1y,l6]
  split
  ·rename_i e;subst e;simp
  ·rename_i e;rw[Q6 xs (k+1) t]
   by_cases h:k≤t
   ·rw[if_pos (by omega),if_pos h,show t-k=t-(k+1)+1 by omega,List.getElem?_cons_succ]
   ·rw[if_neg (by omega),if_neg h]
def n6:List AV→AV
 |[x]=>x
 |xs=> .tup xs
def C2 (P:Program) (T:Tm) (H:Hp):List ResultVar→(List AV→Prop)→Prop
 |[],K=>K []
 | .tmp t::rest,K=>C2 P T H rest fun xs=>K (l6 T t::xs)
 | .cell a t::rest,K=>b9r (i5 P t) (l6 T a) (m6 H) fun e=>C2 P T H rest fun xs=>K (e.av::xs)
def c2K (P:Program) (rs:List ResultVar) (res:AV):Exit→Tm→Hp→Prop
 | .ret,T,H=>C2 P T H rs fun xs=>V9 H 6 (n6 xs)=res
 | .normal,T,H=>C2 P T H rs fun xs=>V9 H 6 (n6 xs)=res
 |_,_,_=>False
section
variable {P:Program}
theorem b3w {B S0:Nat→Prop} {nt:Nat} {w:World} {ρ:Nat→Option Loc} {L:Nat→Prop} {T:Nat→AV} {H:Nat→Option l7} {a:Act} (hc:M5 B S0 nt w ρ L T H a) {s:Nat} {t:TypeId} {K:Eff→Prop}
  (h:b9r (i5 P t) (T s) H K):∃ad v e,a.tmps.getD s undef= .pointer (some ad)∧(loadVar t ad).run P w= .ok v w∧k7 w (Sx S0 ρ) ρ L e.av v∧K e:=by
 obtain⟨hne,h⟩:=h;have hr:=hc.tmps s
 split at h
 ·rename_i r i off hx;rw[hx]at hr
  split at h
  ·rename_i sz es hH
   split at h
   ·rename_i e he;obtain⟨l,hl,hrow⟩:=hc.rows r _ hH;obtain⟨ad,v,h1,h2,h3⟩:=R6 (P:=P) hne hr hl hrow he h.1;exact⟨ad,v,_,h1,h2,h3,h.2⟩
   ·exact h.elim
  ·exact h.elim
 ·rename_i cs hx;rw[hx]at hr;obtain⟨ad,v,h1,h2,h3⟩:=M8 (P:=P) hne hr h.1;exact⟨ad,v,_,h1,h2,h3,h.2⟩
 ·rename_i cs hx;rw[hx]at hr;obtain⟨ad,v,h1,h2,h3⟩:=N0 (P:=P) hne hr h.1;exact⟨ad,v,_,h1,h2,h3,h.2⟩
 ·exact h.elim
theorem I4 {B S0:Nat→Prop} {nt:Nat} {w:World} {ρ:Nat→Option Loc} {L:Nat→Prop} {T:Tm} {H:Hp} {a:Act} (hc:M5 B S0 nt w ρ L (l6 T) (m6 H) a):
  ∀ (rs:List ResultVar) (K:List AV→Prop),C2 P T H rs K→
   ∃(xs:List AV) (vs:List Value),(rs.mapM (fun(x:ResultVar)=>(match x with
    | .tmp t=>pure (a.tmps.getD t undef)
    | .cell ad t=>do loadVar t (←asAddr (a.tmps.getD ad undef)):Sem Value)):Sem (List Value)).run P w= .ok vs w∧xs.length=vs.length∧
    (∀(i:Nat) c x,xs[i]?=some c→vs[i]?=some x→k7 w (Sx S0 ρ) ρ L c x)∧xs.length=rs.length∧K xs
 |[],K,h=>⟨[],[],by simp,rfl,by simp,rfl,h⟩
 | .tmp t::rest,K,h=>by
  obtain⟨xs,vs,h1,h2,h3,h4,h5⟩:=I4 hc rest _ h;refine⟨l6 T t::xs,a.tmps.getD t undef::vs,?_,by simp[h2],?_,by simp[h4],h5⟩
  ·simp only[List.mapM_cons,Sem.run_bind,Sem.run_pure,Result.andThen_ok,h1]
  ·intro i c x q1 q2
   cases i with
   |zero=>simp only[List.getElem?_cons_zero,Option.some.injEq]at q1 q2;subst q1 q2;exact hc.tmps t
   |succ i=>exact h3 i c x q1 q2
 | .cell ad t::rest,K,h=>by
  obtain⟨adr,v,e,k1,k2,k3,k4⟩:=b3w hc h;obtain⟨xs,vs,h1,h2,h3,h4,h5⟩:=I4 hc rest _ k4;refine⟨e.av::xs,v::vs,?_,by simp[h2],?_,by simp[h4],h5⟩
  ·have ka:(asAddr (a.tmps.getD ad undef)).run P w= .ok adr w:=by rw[k1];rfl
   simp only[List.mapM_cons,Sem.run_bind,Sem.run_pure,Result.andThen_ok,ka,k2,h1]
  ·intro i c x q1 q2
   cases i with
   |zero=>simp only[List.getElem?_cons_zero,Option.some.injEq]at q1 q2;subst q1 q2;exact k3
   |succ i=>exact h3 i c x q1 q2
theorem d6.of_body {f : FuncId} {fn : Func} {c : Code} {args : List AV} {res : AV} (hf : P.funcs[f]? = some fn) (hb : fn.body = some c) (hname : (fn.name == "runtime.NumGoroutine") = false) (hnt : args.length ≤ fn.ntmps)
  (h:AWp P fn.ntmps c (a1y 0 args) [] (c2K P fn.results.toList res)):d6 P f args res:=by
 have hn' : ¬ fn.name = "runtime.NumGoroutine" := by simpa using hname
 refine Or.inl ⟨fun w vs=>by simp[callFunc,hf,hn',hb],?_⟩;intro S0 w vs hlow hlen hrep;refine calls_of_wp hf hb ?_
 let ρ:Nat→Option Loc:=fun _=>none
 have hS:∀b,Sx S0 ρ b↔S0 b:=by
  intro b;constructor
  ·rintro(h|⟨r,l,h1,_⟩)
   ·exact h
   ·cases h1
  ·exact Or.inl
 have hsize:vs.toArray.size=args.length:=by simp[hlen]
 have hst:St w (fun b=>w.heap.size≤b) S0 fn.ntmps (a1y 0 args) [] {tmps:=vs.toArray++Array.replicate (fn.ntmps-vs.toArray.size) undef,defers:=[]} w:=by
  refine⟨⟨ρ,fun _=>False,⟨⟨?_,?_,?_,hlow,fun b h=>h⟩,?_,rfl,?_,?_,?_⟩,fun r hr=>hr.elim⟩,Ext.refl _ _⟩
  ·intro r r' l l' b h1;cases h1
  ·intro r l b h1;cases h1
  ·intro r l h1;cases h1
  ·rw[Array.size_append,Array.size_replicate,hsize];omega
  ·intro t;rw[Q6];simp only[Nat.zero_le,if_true,Nat.sub_zero]
   cases hx:args[t]? with
   |none=>exact .pure _ _ (.any _)
   | some x=>
    have ht:t<args.length:=(List.getElem?_eq_some_iff.1 hx).1;have ht':t<vs.length:=by omega
    have m6:(vs.toArray++Array.replicate (fn.ntmps-vs.toArray.size) undef).getD t undef=vs[t]:=by
     rw[Array.getD_eq_getD_getElem?,Array.getElem?_append_left (by simpa using ht')];simp[ht']
    rw[m6];exact .pure _ _ ((hrep t x _ hx (List.getElem?_eq_getElem ht')).ext (Nat.le_refl _) (fun b _ hn=>⟨rfl,fun k=>hn ((hS b).1 k)⟩))
  ·intro r row hr;cases r<;>cases hr
  ·intro r _;rfl
 refine wp_mono (h w _ S0 _ w hst) ?_;rintro e a' w' ⟨T',H',q,⟨⟨ρ',L',hc,hL⟩,hext⟩⟩;have hfin:(C2 P T' H' fn.results.toList fun xs=>V9 H' 6 (n6 xs)=res)→a'.defers=[]∧∃v,(results fn a'.tmps).run P w'= .ok v w'∧∃v',Ending.returned v= .returned v'∧q8 w' S0 res v'∧Ext (fun _=>False) w w':=by
  intro hr;obtain⟨xs,vs',h1,h2,h3,h4,h5⟩:=I4 hc fn.results.toList _ hr;refine⟨hc.defers,?_⟩;have hm:(fn.results.mapM fun(x:ResultVar)=>(match x with
    | .tmp t=>pure (a'.tmps.getD t undef)
    | .cell ad t=>do loadVar t (←asAddr (a'.tmps.getD ad undef)):Sem Value)).run P w'= .ok vs'.toArray w':=by
   rw[Array.mapM_eq_mapM_toList,Sem.run_map,h1];rfl
  have hrun:(results fn a'.tmps).run P w'= .ok (if h:vs'.toArray.size=1 then vs'.toArray[0]else .tuple vs'.toArray) w':=by
   unfold results;rw[Sem.run_bind];exact congrArg (fun(r:Result (Array Value))=>r.andThen fun a w'=>Sem.run P (pure (if h:a.size=1 then a[0]else Value.tuple a)) w') hm
  refine⟨_,hrun,_,rfl,?_,⟨hext.os,hext.tape,hext.output,hext.size,fun b hb _=>hext.block b hb (by omega),hext.cells⟩⟩;rw[←h5];refine a9F hc.wf hc.rows 6 _ _ ?_
  match xs,vs',h2,h3 with
  |[],[],_,_=>simp only[n6];rw[dif_neg (by simp)];exact .tup [] [] rfl (by simp)
  |[x],[v],_,h3=>simp only[n6];rw[dif_pos (by simp)];exact h3 0 x v rfl rfl
  |x::y::xs,v::u::vs',h2,h3=>simp only[n6];rw[dif_neg (by simp)];exact .tup _ (v::u::vs') h2 h3
 cases e with
 |ret=>exact hfin q
 |normal=>exact hfin q
 |exit id=>exact q.elim
 |goto l=>exact q.elim
 |panic ch=>exact q.elim
 |outgrown=>exact q.elim
def c2U (rs:List ResultVar) (i k sz:Nat) (es:List (List AV)):Exit→Tm→Hp→Prop
 | .ret,T,H=>∃t r,rs=[.tmp t]∧l6 T t= .row r i k∧m6 H r=some (.els sz es)
 |_,_,_=>False
theorem O1.of_body {f : FuncId} {fn : Func} {c : Code} {args : List AV} {i k sz : Nat} {es : List (List AV)} (hf : P.funcs[f]? = some fn) (hb : fn.body = some c) (hname : (fn.name == "runtime.NumGoroutine") = false) (hnt : args.length ≤ fn.ntmps)
  (hpl:y6 es=true) (hne:es≠[]) (h:AWp P fn.ntmps c (a1y 0 args) [] (c2U fn.results.toList i k sz es)):O1 P f args i k sz es:=by
 have hn' : ¬ fn.name = "runtime.NumGoroutine" := by simpa using hname
 refine⟨fun w vs=>by simp[callFunc,hf,hn',hb],hpl,?_⟩;intro S0 w vs hlow hlen hrep;refine calls_of_wp hf hb ?_
 let ρ:Nat→Option Loc:=fun _=>none
 have hS:∀b,Sx S0 ρ b↔S0 b:=by
  intro b;constructor
  ·rintro(h|⟨r,l,h1,_⟩)
   ·exact h
   ·cases h1
  ·exact Or.inl
 have hsize:vs.toArray.size=args.length:=by simp[hlen]
 have hst:St w (fun b=>w.heap.size≤b) S0 fn.ntmps (a1y 0 args) [] {tmps:=vs.toArray++Array.replicate (fn.ntmps-vs.toArray.size) undef,defers:=[]} w:=by
  refine⟨⟨ρ,fun _=>False,⟨⟨?_,?_,?_,hlow,fun b h=>h⟩,?_,rfl,?_,?_,?_⟩,fun r hr=>hr.elim⟩,Ext.refl _ _⟩
  ·intro r r' l l' b h1;cases h1
  ·intro r l b h1;cases h1
  ·intro r l h1;cases h1
  ·rw[Array.size_append,Array.size_replicate,hsize];omega
  ·intro t;rw[Q6];simp only[Nat.zero_le,if_true,Nat.sub_zero]
   cases hx:args[t]? with
   |none=>exact .pure _ _ (.any _)
   | some x=>
    have ht:t<args.length:=(List.getElem?_eq_some_iff.1 hx).1;have ht':t<vs.length:=by omega
    have m6:(vs.toArray++Array.replicate (fn.ntmps-vs.toArray.size) undef).getD t undef=vs[t]:=by
     rw[Array.getD_eq_getD_getElem?,Array.getElem?_append_left (by simpa using ht')];simp[ht']
    rw[m6];exact .pure _ _ ((hrep t x _ hx (List.getElem?_eq_getElem ht')).ext (Nat.le_refl _) (fun b _ hn=>⟨rfl,fun k=>hn ((hS b).1 k)⟩))
  ·intro r row hr;cases r<;>cases hr
  ·intro r _;rfl
 refine wp_mono (h w _ S0 _ w hst) ?_;rintro e a' w' ⟨T',H',q,⟨⟨ρ',L',hc,hL⟩,hext⟩⟩
 cases e with
 | ret=>
  obtain⟨t,r,hrs,ht,hH⟩:=q;refine⟨hc.defers,?_⟩;have hrun:(results fn a'.tmps).run P w'= .ok (a'.tmps.getD t undef) w':=by
   have hrs':fn.results= #[.tmp t]:=by apply Array.ext';simpa using hrs
   unfold results;rw[hrs'];simp
  have hv:=hc.tmps t;rw[ht]at hv;obtain⟨l,hl,hrow⟩:=hc.rows r _ hH;obtain⟨el,hel⟩:∃el,es[0]?=some el:=by
   cases es with
   |nil=>exact absurd rfl hne
   |cons x l=>exact⟨x,rfl⟩
  obtain⟨b,hb'⟩:=T9 hrow hel;have hown:=hc.wf.own r l b hl hb';have hSx:∀c,Sx S0 (ρ1 l) c→Sx S0 ρ' c:=by
   rintro c (h1|⟨r',l',h1,h2⟩)
   ·exact Or.inl h1
   ·simp only[ρ1]at h1
    split at h1
    ·simp only[Option.some.injEq]at h1;subst h1;exact Or.inr ⟨r,l,hl,h2⟩
    ·cases h1
  refine⟨_,hrun,_,l,b,rfl,hb',hown.2.2,hown.1,⟨hext.os,hext.tape,hext.output,hext.size,fun b hb _=>hext.block b hb (by omega),hext.cells⟩,?_,?_⟩
  ·cases hv with
   |pure _ _ h=>cases h
   |row _ _ _ _ h1 h2 h3=>
    refine .row _ _ _ _ rfl h2 (fun l' hl'=>?_);simp only[ρ1,if_true,Option.some.injEq]at hl';subst hl';exact h3 l hl
  ·obtain⟨q1,q2,q3,q4⟩:=hrow;refine⟨q1,q2,q3,fun c hc'=>?_⟩;obtain⟨cs,t',p1,p2,p3,p4⟩:=q4 c hc';refine⟨cs,t',p1,p2,p3,fun j av hj=>?_⟩;obtain⟨y,g1,g2,g3⟩:=p4 j av hj;refine⟨y,g1,g2,?_⟩;have hmem:=List.mem_of_getElem? hj;rw[List.mem_flatten]at hmem;obtain⟨el',hel',hcel⟩:=hmem;simp only[y6,List.all_eq_true]at hpl;exact .pure _ _ ((F5 2 av y (hpl el' hel' av hcel) g3).ext (Nat.le_refl _) (fun c _ hnc=>⟨rfl,fun h=>hnc (hSx c h)⟩))
 |normal=>exact q.elim
 |exit id=>exact q.elim
 |goto l=>exact q.elim
 |panic ch=>exact q.elim
 |outgrown=>exact q.elim
end
end Go.AM
namespace Go.AM
attribute [simp] b6p X4 a0t a6Y b0E okm AV.strip evT l6 a5k aop a1r a3g D9 m6 W8 E2 c2F b3G a1y b1i Q8 B9
attribute [simp] b4c b2B a1u U9 C1 Hx AV.flatV a0S cnd c2j b8V b8j c2a b9D a8h a2C b1A a8u b8q a8G b1F c2Z b7V a9g kcs KC.ofAV p8 KC.fits b1w b3I c2m b2U c1Y b9r b7x b6G c2D c2h aUn b7H a2X b2w a0m b1Q b3n c2e a8C b7J a5s c1B b9X b8W mk
attribute [simp] TD.size TD.isAgg TD.zero AV.cells AV.noRef U4 a4m a0W a3v a5m I1 a7a a8n J6 G5 Z2
attribute [simp] c2U c2K C2 n6 V9 b7C m9 b4A v7 l4 c0b a4E Op.operands Call.operands frz z5 AV.flat y6 AV.isFull List.findIdx?_cons
@[simp] theorem c1P (m:List Bool):c2x m []:=fun _=>rfl
@[simp] theorem c0o (m:List Bool):c2x m m:=fun h=>h
abbrev I (n:Int):AV:= .v (.int .i64 n)
abbrev Bo (b:Bool):AV:= .v (.bool b)
theorem d5 {P:Program} {f:FuncId} {args:List AV} {fl:Bool} {rd rd0:List Nat} {raw:List AV} {H:Nat→Option l7} {N:Nat} {K:Eff→Prop} (res:AV) (h:d6 P f args res) (hn:fl=true∨res.flat 3=true) (hk:K ⟨res,[],rd⟩):a1v P [] f args fl rd rd0 raw H N K:=Or.inl ⟨res,h,hn,hk⟩
theorem g8 {P:Program} {m:List Bool} {f:FuncId} {args:List AV} {fl:Bool} {rd rd0:List Nat} {raw:List AV} {H:Nat→Option l7} {N:Nat} {K:Eff→Prop} (res:AV) (h:m.all id=true→d6 P f args res) (hn:fl=true∨res.flat 3=true) (hk:K ⟨res,[],rd⟩):a1v P m f args fl rd rd0 raw H N K:=by
 refine Or.inl ⟨res,?_,hn,hk⟩
 cases m with
 |nil=>exact h rfl
 |cons b m=>exact h
theorem L6 {P:Program} {m:List Bool} {f:FuncId} {args:List AV} {rd rd0:List Nat} {raw:List AV} {H:Nat→Option l7} {N:Nat} {K:Eff→Prop} {i k sz:Nat} {es:List (List AV)} (h:O1 P f args i k sz es) (hk:K ⟨.row N i k,[(N,some (.els sz es))],rd0⟩):a1v P m f args true rd rd0 raw H N K:=Or.inr (Or.inl ⟨rfl,i,k,sz,es,h,hk⟩)
theorem k9 {P:Program} {m:List Bool} {f:FuncId} {args:List AV} {fl:Bool} {rd rd0:List Nat} {raw:List AV} {H:Nat→Option l7} {N:Nat} {K:Eff→Prop} (gk gd:List Nat) (bg:List (Option Nat)) {args':List AV} {Hk Hd:Hp} {res:AV} {Hk' Hn:Hp} (h:g6 P f args' Hk Hd res Hk' Hn)
  (hnd:b8A (gk++gd) N=true) (hbg:z9 gk N Hn.length=bg) (ha:raw.map (m9 ((gk++gd).map some) 40)=args') (hH:(gk++gd).map (fun r=>(H r).map (v7 ((gk++gd).map some)))=Hk++Hd) (hkl:gk.length=Hk.length) (hall:(Hk++Hd).all Option.isSome=true)
  (hk:K ⟨m9 bg 3 res,t8 bg gk Hk'++(x9 gd++A7 bg N Hn),rd0++(gk++gd)⟩):a1v P m f args fl rd rd0 raw H N K:=by
 subst hbg ha;exact Or.inr (Or.inr (Or.inl ⟨gk,gd,Hk,Hd,Hk',Hn,res,hnd,hH.symm,hkl,hall,h,hk⟩))
theorem F0 {P:Program} {m:List Bool} {f:FuncId} {args:List AV} {fl:Bool} {rd rd0:List Nat} {raw:List AV} {H:Nat→Option l7} {N:Nat} {K:Eff→Prop} (gk gd:List Nat) (bg:List (Option Nat)) {args':List AV} {Hk Hd:Hp} {res:AV} {Hk' Hn:Hp} (h:g6 P f args' Hk Hd res Hk' Hn)
  (hnd:b8A (gk++gd) N=true) (hbg:z9 gk N Hn.length=bg) (ha:raw.map (U9 H (gk++gd) 3)=args') (hH:(gk++gd).map (fun r=>(H r).map (v7 ((gk++gd).map some)))=Hk++Hd) (hkl:gk.length=Hk.length) (hall:(Hk++Hd).all Option.isSome=true)
  (hfl:res.flatV 2=true) (hrf:(Hk'++Hn).all a0S=true)
  (hk:K ⟨m9 bg 3 res,t8 bg gk Hk'++(x9 gd++A7 bg N Hn),rd0++((gk++gd)++raw.flatMap (C1 H (gk++gd) 3))⟩):a1v P m f args fl rd rd0 raw H N K:=by
 subst hbg ha;exact Or.inr (Or.inr (Or.inr (Or.inl ⟨gk,gd,Hk,Hd,Hk',Hn,res,hnd,hH.symm,hkl,hall,h,hfl,hrf,hk⟩)))
theorem b0n {P:Program} {m:List Bool} {f:FuncId} {args:List AV} {fl:Bool} {rd rd0:List Nat} {raw:List AV} {H:Nat→Option l7} {N:Nat} {K:Eff→Prop} (res:AV) (h:m.all id=true→d6 P f (raw.map (a1u 4)) res) (hk:K ⟨res,[],rd0⟩):a1v P m f args fl rd rd0 raw H N K:=by
 refine Or.inr (Or.inr (Or.inr (Or.inr ⟨res,?_,hk⟩)))
 cases m with
 |nil=>exact h rfl
 |cons b m=>exact h
@[congr] theorem b9Q {m m':List Bool} {els els':List (List AV)} {n n':Nat} {K:Eff→Prop} (hm:m=m') (h:els=els') (hn:n=n'):c1Q m els n K=c1Q m' els' n' K:=by rw[hm,h,hn]
theorem l3 {m:List Bool} {els:List (List AV)} {n:Nat} {K:Eff→Prop} (el:List AV) (h:m.all id=true→els[n]?=some el) (hk:K ⟨.iptr el,[],[]⟩):c1Q m els n K:=⟨el,h,hk⟩
theorem o4 {m:List Bool} {val:AV} {rd:List Nat} {K:Eff→Prop} (av:AV) (h:m.all id=true→val=av) (hk:K ⟨av,[],rd⟩):c1u m val rd K:=⟨av,h,hk⟩
attribute [simp] t8 x9 A7
@[simp] theorem c1R (k:IntKind) (n:Int):o3 false [.i k n]= .int k n:=rfl
section
variable {P:Program} {K:Eff→Prop} {H H':Nat→Option l7} {N N':Nat} {td td':TD} {x x' y y':AV} {m m':List Bool} {ev:Operand→AV}
@[congr] theorem b9T {m m':List Bool} {rd rd':List Nat} (hm:m=m') (hx:x=x') (hr:rd=rd'):c1u m x rd K=c1u m' x' rd' K:=by rw[hm,hx,hr]
end
end Go.AM
namespace Go.AM
def a2j:List Operand→List Nat
 |[]=>[]
 | .tmp t::xs=>2*t::a2j xs
 |_::xs=>a2j xs
def a5l (dsts:List (Option Tmp)) (g:Option (Nat×Bool)):List Nat:=
 match g with
 |none=>[]
 |some (j,_)=>match dsts[j]? with
  |some (some d)=>[2*d]
  |_=>[]
def a8s:Option Tmp→List Nat
 |none=>[]
 |some d=>[2*d]
def a7H:List (Nat×Option l7)→List Nat
 |[]=>[]
 |(r,_)::u=>(2*r+1)::a7H u
def a0P:List Nat→List Nat
 |[]=>[]
 |r::u=>(2*r+1)::a0P u
abbrev Tr:=List Nat×List Nat
def E6 (dsts:List (Option Tmp)) (o:Oper) (e:Eff):Tr:=
 (a2j o.op.operands.toList++(a5l dsts o.guard++(a8s o.dst++(a0P e.reads++a7H e.ups))),a8s o.dst++a7H e.ups)
def a1f (P:Program) (nt:Nat) (dsts:List (Option Tmp)):List Oper→Tm→Hp→List Tr→(Tm→Hp→List Tr→Prop)→Prop
 |[],T,H,tr,K=>K T H tr
 | o::rest,T,H,tr,K=>a0t P dsts o (l6 T) (m6 H) H.length (ct (fun e=>
   b3G nt o.dst∧W8 H e.ups∧E2 e.ups=true∧a1f P nt dsts rest (a1r T o.dst e.av) (a3g H e.ups) (tr++[E6 dsts o e]) K) ⟨⟩)
def c0w (acc:List Nat) (o:Oper):Nat:=o.after.toList.foldl (fun s e=>if Region.binds .any e then s|||2^e.on|||acc.getD e.on 0 else s) 0
def b0U:List Oper→List Nat→List Nat
 |[],acc=>acc
 |o::r,acc=>b0U r (acc++[c0w acc o])
def b2R:List Oper→Nat→Bool
 |[],_=>true
 |o::r,k=>(o.after.toList.all fun e=> !Region.binds .any e||decide (e.on<k))&&b2R r (k+1)
def a0l (a b:Tr):Bool:=(a.2.any fun x=>b.1.contains x)||b.2.any fun x=>a.1.contains x
def a3p (l:List Oper) (tr:List Tr):Bool:=
 b2R l 0&&(List.range l.length).all fun k=>(List.range k).all fun j=>
  !a0l (tr.getD j ([],[])) (tr.getD k ([],[]))||((b0U l []).getD k 0).testBit j
def X3 {α:Type} (D wr:Nat→Bool) (f:Nat→α):Nat→α
 |0=>f 0
 |k+1=>if D k&&wr k then f (k+1)else X3 D wr f k
theorem u7 {α : Type} {D wr:Nat→Bool} {f:Nat→α}:∀(n i:Nat),i≤n→(∀k,k<n→wr k=false→f (k+1)=f k)→(∀k,k<n→wr k=true→(D k=true↔k<i))→X3 D wr f n=f i
  | 0, i, hi, _, _ => by have:i=0:=by omega
                         subst this;rfl
  | n + 1,i,hi,h1,h2=>by
    have ih:=fun i hi h=>u7 (D:=D) (wr:=wr) (f:=f) n i hi (fun k hk=>h1 k (by omega)) h;simp only[X3]
    cases hw:wr n with
    | true=>
      have hD:=h2 n (by omega) hw
      by_cases e:i=n+1
      · subst e
        rw[hD.2 (by omega)];rfl
      · have:D n=false:=by cases hd:D n with
          |false=>rfl
          |true=>have:=hD.1 hd;omega
        rw[this];simp only[Bool.false_and,Bool.false_eq_true,if_false];exact ih i (by omega) (fun k hk=>h2 k (by omega))
    | false=>
      simp only[Bool.and_false,Bool.false_eq_true,if_false]
      by_cases e:i=n+1
      · subst e
        rw[h1 n (by omega) hw];exact ih n (Nat.le_refl _) (fun k hk hw=>⟨fun _=>hk,fun _=>(h2 k (by omega) hw).2 (by omega)⟩)
      · exact ih i (by omega) (fun k hk=>h2 k (by omega))
theorem G8 {α:Type} {D D' wr:Nat→Bool} {f:Nat→α}:∀(n:Nat),(∀k,k<n→wr k=true→D k=D' k)→X3 D wr f n=X3 D' wr f n
 |0,_=>rfl
 |n+1,h=>by
  simp only[X3];rw[G8 n (fun k hk=>h k (by omega))]
  cases hw:wr n with
  |true=>rw[h n (by omega) hw]
  |false=>simp
def b0Y (ops:Array Oper) (D:Nat→Bool):Prop:=∀(k:Nat) o,ops[k]?=some o→D k=true→∀e∈o.after,Region.binds .any e=true→D e.on=true
theorem a5Z {acc:List Nat} {D:Nat→Bool} {j:Nat} (hacc:∀k,D k=true→(acc.getD k 0).testBit j=true→D j=true):∀(es:List Edge) (s:Nat),(∀e∈es,Region.binds .any e=true→D e.on=true)→
  (s.testBit j=true→D j=true)→((es.foldl (fun s e=>if Region.binds .any e then s|||2^e.on|||acc.getD e.on 0 else s) s).testBit j=true→D j=true)
 |[],s,_,hs=>hs
 | e::es,s,h,hs=>by
  simp only[List.foldl_cons];refine a5Z hacc es _ (fun e' he'=>h e' (by simp[he'])) ?_
  split
  ·rename_i hb;have hon:=h e (by simp) hb;rw[Nat.testBit_or,Nat.testBit_or,Nat.testBit_two_pow];intro ht;simp only[Bool.or_eq_true,decide_eq_true_eq]at ht
   rcases ht with(ht|ht)|ht
   ·exact hs ht
   ·subst ht;exact hon
   ·exact hacc _ hon ht
  ·exact hs
theorem a3a {ops:Array Oper} {D:Nat→Bool} (hD:b0Y ops D):∀(l:List Oper) (acc:List Nat),(∀j:Nat,l[j]?=ops[acc.length+j]?)→
  (∀k j,D k=true→(acc.getD k 0).testBit j=true→D j=true)→∀k j,D k=true→((b0U l acc).getD k 0).testBit j=true→D j=true
 |[],acc,_,h=>h
 | o::r,acc,hl,h=>by
  simp only[b0U];refine a3a hD r _ (fun j=>?_) ?_
  ·have:=hl (j+1);simp only[List.getElem?_cons_succ]at this;rw[this];simp;congr 1;omega
  ·intro k j hk ht
   by_cases hlt:k<acc.length
   ·rw[List.getD_eq_getElem?_getD,List.getElem?_append_left hlt,←List.getD_eq_getElem?_getD]at ht;exact h k j hk ht
   ·by_cases he:k=acc.length
    ·subst he;rw[List.getD_eq_getElem?_getD,List.getElem?_append_right (Nat.le_refl _)]at ht;simp only[Nat.sub_self,List.getElem?_cons_zero,Option.getD_some]at ht;have h0:=hl 0;simp only[List.getElem?_cons_zero,Nat.add_zero]at h0;exact a5Z (fun k hk=>h k j hk) o.after.toList 0 (fun e he=>hD acc.length o h0.symm hk e (by simpa using he)) (by simp) ht
    ·rw[List.getD_eq_getElem?_getD,List.getElem?_eq_none (by simp;omega)]at ht;simp at ht
theorem a2N:∀(l:List Oper) (k:Nat),b2R l k=true→∀(j:Nat) o,l[j]?=some o→∀e∈o.after,Region.binds .any e=true→e.on<k+j
 |[],k,_,j,o,h=>by simp at h
 | o::r,k,hb,j,o',h=>by
  simp only[b2R,Bool.and_eq_true,List.all_eq_true]at hb
  cases j with
  |zero=>
   simp only[List.getElem?_cons_zero,Option.some.injEq]at h;subst h;intro e he hbd;have:=hb.1 e (by simpa using he);simp only[hbd,Bool.not_true,Bool.false_or,decide_eq_true_eq]at this;omega
  |succ j=>
   simp only[List.getElem?_cons_succ]at h;intro e he hbd;have:=a2N r (k+1) hb.2 j o' h e he hbd;omega
structure Lex (P:Program) (nt:Nat) (ops:Array Oper) (dsts:List (Option Tmp)) (l:List Oper) (Ts:Nat→Tm) (Hs:Nat→Hp) (es:Nat→Eff):Prop where
 ok:∀(k:Nat) o,l[k]?=some o→a6B P ops o (l6 (Ts k)) (m6 (Hs k)) (Hs k).length (es k)∧b3G nt o.dst∧W8 (Hs k) (es k).ups∧E2 (es k).ups=true∧
  Ts (k+1)=a1r (Ts k) o.dst (es k).av∧Hs (k+1)=a3g (Hs k) (es k).ups
theorem b4i {P:Program} {nt:Nat} {ops:Array Oper} {dsts:List (Option Tmp)} (hd:∀j:Nat,dsts[j]?=(ops[j]?).map (·.dst)) {K:Tm→Hp→List Tr→Prop}:∀(l:List Oper) (T:Tm) (H:Hp) (tr:List Tr),a1f P nt dsts l T H tr K→
  ∃Ts Hs es,Ts 0=T∧Hs 0=H∧Lex P nt ops dsts l Ts Hs es∧K (Ts l.length) (Hs l.length) (tr++(l.zipIdx.map fun(p:Oper×Nat)=>E6 dsts p.1 (es p.2)))
 |[],T,H,tr,h=>⟨fun _=>T,fun _=>H,fun _=>⟨.any,[],[]⟩,rfl,rfl,⟨fun k o h=>by simp at h⟩,by simpa [a1f]using h⟩
 | o::r,T,H,tr,h=>by
  obtain⟨e,hst,h1,h2,h3,h4⟩:=G3 hd h (fun _=>trivial);obtain⟨Ts,Hs,es,t0,hh0,hlex,hk⟩:=b4i hd r _ _ _ h4;refine⟨fun k=>match k with|0=>T|k+1=>Ts k,fun k=>match k with|0=>H|k+1=>Hs k,fun k=>match k with|0=>e|k+1=>es k,rfl,rfl,⟨fun k o' hk=>?_⟩,?_⟩
  ·cases k with
   |zero=>
    simp only[List.getElem?_cons_zero,Option.some.injEq]at hk;subst hk;exact⟨hst,h1,h2,h3,t0,hh0⟩
   |succ k=>exact hlex.ok k o' hk
  ·simp only[List.length_cons,List.zipIdx_cons,List.map_cons];rw[List.append_assoc]at hk;have:(r.zipIdx (0+1)).map (fun(p:Oper×Nat)=>E6 dsts p.1 ((fun k=>match k with|0=>e|k+1=>es k:Nat→Eff) p.2))=r.zipIdx.map fun(p:Oper×Nat)=>E6 dsts p.1 (es p.2):=by
    rw[List.zipIdx_succ,List.map_map];apply List.map_congr_left;intro p _
    rfl
   rw[this];exact hk
theorem a4l {t:Nat}:∀{l:List Operand}, .tmp t∈l→2*t∈a2j l
 | x::l,h=>by
  rcases List.mem_cons.1 h with h|h
  ·subst h;simp[a2j]
  ·have ih:=a4l h
   cases x<;>simp[a2j,ih]
theorem a2G {r:Nat} {o:Option l7}:∀{l:List (Nat×Option l7)},(r,o)∈l→2*r+1∈a7H l
 |(q,_)::l,h=>by
  rcases List.mem_cons.1 h with h|h
  ·simp only[Prod.mk.injEq]at h;obtain⟨rfl,_⟩:=h;simp[a7H]
  ·simp[a7H,a2G h]
theorem a2T {r:Nat}:∀{l:List Nat},r∈l→2*r+1∈a0P l
 |q::l,h=>by
  rcases List.mem_cons.1 h with h|h
  ·subst h;simp[a0P]
  ·simp[a0P,a2T h]
section
variable {P:Program} {nt:Nat} {l:List Oper} {dsts:List (Option Tmp)} {Ts:Nat→Tm} {Hs:Nat→Hp} {es:Nat→Eff}
def wS (l:List Oper) (t k:Nat):Bool:=match l[k]? with|some o=>o.dst==some t|none=>false
def wR (es:Nat→Eff) (r k:Nat):Bool:=(es k).ups.any fun q=>q.1==r
theorem a3t {t k:Nat} {o:Oper} (h:l[k]?=some o):wS l t k=true↔o.dst=some t:=by simp[wS,h]
theorem P5 {r k:Nat}:wR es r k=true↔∃o,(r,o)∈(es k).ups:=by
 simp only[wR,List.any_eq_true,beq_iff_eq];constructor
 ·rintro⟨⟨q,o⟩,h1,h2⟩;simp only at h2;subst h2;exact⟨o,h1⟩
 ·rintro⟨o,h⟩;exact⟨(r,o),h,rfl⟩
theorem b0G {w0:World} {B S0:Nat→Prop} (hlex:Lex P nt l.toArray dsts l Ts Hs es) (hdst:l.map (·.dst)=dsts)
    (hB:a3p l (l.zipIdx.map fun(p:Oper×Nat)=>E6 dsts p.1 (es p.2))=true) {Q:Exit→Act→World→Prop}
    (hQ:∀a w,St w0 B S0 nt (Ts l.length) (Hs l.length) a w→Q .normal a w) {a:Act} {w:World} (hs:St w0 B S0 nt (Ts 0) (Hs 0) a w):
    wpAny P .any l.toArray Q l.toArray.size (Array.replicate l.toArray.size false) a w:=by
  obtain⟨hback,hconf⟩:=Bool.and_eq_true_iff.1 hB;simp only[List.all_eq_true,List.mem_range]at hconf;have htr:∀(k:Nat) o,l[k]?=some o→((l.zipIdx.map fun(p:Oper×Nat)=>E6 dsts p.1 (es p.2)).getD k ([],[]))=E6 dsts o (es k):=by
    intro k o hk;rw[List.getD_eq_getElem?_getD,List.getElem?_map,List.getElem?_zipIdx,hk];simp
  have hord:∀(j k:Nat) oj ok,j<k→l[j]?=some oj→l[k]?=some ok→(∃x,(x∈(E6 dsts oj (es j)).2∧x∈(E6 dsts ok (es k)).1)∨(x∈(E6 dsts ok (es k)).2∧x∈(E6 dsts oj (es j)).1))→
      ∀D,b0Y l.toArray D→D k=true→D j=true:=by
    intro j k oj ok hjk hj hk hx D hD hDk;have hkl:k<l.length:=(List.getElem?_eq_some_iff.1 hk).1;have h1:=hconf k hkl j hjk;rw[htr j oj hj,htr k ok hk]at h1;have hc:a0l (E6 dsts oj (es j)) (E6 dsts ok (es k))=true:=by
      simp only[a0l,Bool.or_eq_true,List.any_eq_true,List.contains_iff_mem];obtain⟨x,hx|hx⟩:=hx
      · exact Or.inl ⟨x,hx.1,hx.2⟩
      · exact Or.inr ⟨x,hx.1,hx.2⟩
    rw[hc]at h1;simp only[Bool.not_true,Bool.false_or]at h1;exact a3a hD l [] (by simp) (by simp) k j hDk h1
  have hlen : ∀i j,i≤j→j≤l.length→(Hs i).length≤(Hs j).length:=by
    intro i j hij
    induction j with
    | zero => intro _;have:i=0:=by omega
              subst this;exact Nat.le_refl _
    | succ j ih=>
      intro hj
      by_cases e:i=j+1
      · subst e;exact Nat.le_refl _
      · have hjl:j<l.length:=by omega
        obtain⟨_,_,hin,_,_,hh⟩:=hlex.ok j _ (List.getElem?_eq_getElem hjl);rw[hh];exact Nat.le_trans (ih (by omega) (by omega)) (D3 _ _ hin).1
  have hupl:∀k r o,k<l.length→(r,o)∈(es k).ups→r<(Hs (k+1)).length:=by
    intro k r o hk hm;obtain⟨_,_,hin,_,_,hh⟩:=hlex.ok k _ (List.getElem?_eq_getElem hk);rw[hh];exact(D3 _ _ hin).2 r o hm
  let vS:(Nat→Bool)→Nat→AV:=fun D t=>X3 D (wS l t) (fun k=>l6 (Ts k) t) l.length
  let vR:(Nat→Bool)→Nat→Option l7:=fun D r=>X3 D (wR es r) (fun k=>m6 (Hs k) r) l.length
  have keepS:∀t k,k<l.length→wS l t k=false→l6 (Ts (k+1)) t=l6 (Ts k) t:=by
    intro t k hk hw;have ho:=List.getElem?_eq_getElem hk;obtain⟨_,_,_,_,ht,_⟩:=hlex.ok k _ ho;rw[ht,B4,if_neg];intro e;rw[(a3t ho).2 e]at hw
    cases hw
  have keepR:∀r k,k<l.length→wR es r k=false→m6 (Hs (k+1)) r=m6 (Hs k) r:=by
    intro r k hk hw;obtain⟨_,_,hin,hon,_,hh⟩:=hlex.ok k _ (List.getElem?_eq_getElem hk);rw[hh];refine(I2 _ _ hin hon r).2 (fun o hm=>?_);rw[P5.2 ⟨o,hm⟩]at hw
    cases hw
  let Inv:(Nat→Bool)→Act→World→Prop:=fun D a w=>(∃ρ L,M5 B S0 nt w ρ L (vS D) (vR D) a∧∀r,L r→r<(Hs 0).length∨∃k,k<l.length∧D k=true∧wR es r k=true)∧Ext B w0 w
  have step :∀(D:Nat→Bool) (i:Nat) (o:Oper) (a:Act) (w:World) (K:Act→World→Prop),b0Y l.toArray D→b0Y l.toArray (fun k=>D k||k==i)→l[i]?=some o→D i=false→Inv D a w→
      (∀a' w',Inv (fun k=>D k||k==i) a' w'→K a' w')→if Region.wanted o (yielded l.toArray a.tmps)then o.wp P a w K Q else K (a.put o.dst undef) w:=by
    intro D i o a w K hD hD' ho hDi hinv hK;obtain⟨⟨ρ,L,hc,hL⟩,hext⟩:=hinv;have hil:i<l.length:=(List.getElem?_eq_some_iff.1 ho).1;obtain⟨hst,hdk,hin,hon,hts,hhs⟩:=hlex.ok i o ho;have ordS:∀t,2*t∈(E6 dsts o (es i)).1→∀k,k<l.length→wS l t k=true→(D k=true↔k<i):=by
      intro t ht k hk hw;have hok:=List.getElem?_eq_getElem hk;have hwd:=(a3t hok).1 hw;have hmem:2*t∈(E6 dsts l[k] (es k)).2:=by simp[E6,hwd,a8s]
      rcases Nat.lt_trichotomy k i with h|h|h
      · have:=hord k i _ o h hok ho ⟨2*t,Or.inl ⟨hmem,ht⟩⟩ _ hD' (by simp)
        simp only[Bool.or_eq_true,beq_iff_eq]at this;exact⟨fun _=>h,fun _=>this.resolve_right (by omega)⟩
      · subst h;simp[hDi]
      · refine⟨fun hDk=>?_,fun hlt=>by omega⟩
        have:=hord i k o _ h ho hok ⟨2*t,Or.inr ⟨hmem,ht⟩⟩ _ hD hDk;rw[hDi]at this;cases this
    have ordR:∀r,2*r+1∈(E6 dsts o (es i)).1→∀k,k<l.length→wR es r k=true→(D k=true↔k<i):=by
      intro r hr k hk hw;have hok:=List.getElem?_eq_getElem hk;obtain⟨q,hm⟩:=P5.1 hw;have hmem:2*r+1∈(E6 dsts l[k] (es k)).2:=by simp only[E6,List.mem_append];exact Or.inr (a2G hm)
      rcases Nat.lt_trichotomy k i with h|h|h
      · have:=hord k i _ o h hok ho ⟨2*r+1,Or.inl ⟨hmem,hr⟩⟩ _ hD' (by simp)
        simp only[Bool.or_eq_true,beq_iff_eq]at this;exact⟨fun _=>h,fun _=>this.resolve_right (by omega)⟩
      · subst h;simp[hDi]
      · refine⟨fun hDk=>?_,fun hlt=>by omega⟩
        have:=hord i k o _ h ho hok ⟨2*r+1,Or.inr ⟨hmem,hr⟩⟩ _ hD hDk;rw[hDi]at this;cases this
    have hdm:∀t,o.dst=some t→2*t∈(E6 dsts o (es i)).1:=by intro t ht;simp[E6,ht,a8s]
    have hum:∀r q,(r,q)∈(es i).ups→2*r+1∈(E6 dsts o (es i)).1:=by
      intro r q hm;simp only[E6,List.mem_append];exact Or.inr (Or.inr (Or.inr (Or.inr (a2G hm))))
    have hrm:∀r,r∈(es i).reads→2*r+1∈(E6 dsts o (es i)).1:=by
      intro r hm;simp only[E6,List.mem_append];exact Or.inr (Or.inr (Or.inr (Or.inl (a2T hm))))
    have hsm:∀t∈o.looksAt l.toArray,2*t∈(E6 dsts o (es i)).1:=by
      intro t ht;simp only[Oper.looksAt,List.mem_append,List.mem_filterMap]at ht;simp only[E6,List.mem_append]
      rcases ht with⟨x,hx,hxt⟩|ht
      · left
        cases x with
        |tmp t'=>simp only[Option.some.injEq]at hxt;subst hxt;exact a4l hx
        |_=>cases hxt
      · right;left
        cases hg:o.guard with
        |none=>rw[hg]at ht;cases ht
        | some g=>
          obtain⟨j,want⟩:=g;rw[hg]at ht;simp only[Option.mem_toList]at ht;simp only[a5l];have:dsts[j]?=some (some t):=by
            rw[←hdst,List.getElem?_map]
            cases hj:l[j]? with
            |none=>simp[hj]at ht
            |some oj=>simp[hj]at ht;simp[ht]
          rw[this];simp
    have vS_at:∀t,2*t∈(E6 dsts o (es i)).1→vS D t=l6 (Ts i) t:=fun t ht=>u7 l.length i (by omega) (keepS t) (ordS t ht);have vR_at:∀r,2*r+1∈(E6 dsts o (es i)).1→vR D r=m6 (Hs i) r:=fun r hr=>u7 l.length i (by omega) (keepR r) (ordR r hr);have hN:a2o L (Hs i).length (es i):=by
      rintro r hr ⟨q,hm⟩ hLN
      rcases hL r hLN with h|⟨k,hk,hDk,hw⟩
      · have:=hlen 0 i (by omega) (by omega);omega
      · have hlt:=(ordR _ (hum _ q hm) k hk hw).1 hDk
        obtain⟨q',hm'⟩:=P5.1 hw;have h1:=hupl k _ q' hk hm';have h2:=hlen (k+1) i (by omega) (by omega);omega
    have hnew:∀(wr:Nat→Bool),(∀k,k<l.length→wr k=true→(D k=true↔k<i))→∀k,k<l.length→wr k=true→((D k||k==i)=true↔k<i+1):=by
      intro wr h k hk hw;have:=h k hk hw;simp only[Bool.or_eq_true,beq_iff_eq,this];omega
    refine hst B S0 a w ρ L hc.wf hN (fun t ht=>by rw[←vS_at t (hsm t ht)];exact hc.tmps t) (fun r hr row hrow=>hc.rows r row (by rw[vR_at r (hrm r hr)];exact hrow)) K Q (fun v w' ρ' hp=>hK _ _ ⟨⟨ρ',_,hc.step hN hp (fun d hd=>by rw[hd]at hdk;exact hdk) (fun t=>?_) (fun r=>⟨fun q hm=>?_,fun hno=>?_⟩),?_⟩,a9q hext hc.wf hp⟩)
    · by_cases e:o.dst=some t
      · rw[if_pos e]
        have:=u7 (D:=fun k=>D k||k==i) (wr:=wS l t) (f:=fun k=>l6 (Ts k) t) l.length (i+1) (by omega) (keepS t) (hnew _ (ordS t (hdm t e)));show X3 _ _ _ _=_;rw[this,hts,B4,if_pos e]
      · rw[if_neg e]
        refine G8 _ (fun k hk hw=>?_);have:k≠i:=by rintro rfl;exact e ((a3t ho).1 hw)
        simp[this]
    · have:=u7 (D:=fun k=>D k||k==i) (wr:=wR es r) (f:=fun k=>m6 (Hs k) r) l.length (i+1) (by omega) (keepR r) (hnew _ (ordR r (hum r q hm)))
      show X3 _ _ _ _=_;rw[this,hhs];exact(I2 _ _ hin hon r).1 q hm
    · refine G8 _ (fun k hk hw=>?_)
      have:k≠i:=by rintro rfl;obtain⟨q,hm⟩:=P5.1 hw;exact hno q hm
      simp[this]
    · rintro r (hr|⟨q,hm⟩)
      · rcases hL r hr with h|⟨k,hk,hDk,hw⟩
        · exact Or.inl h
        · exact Or.inr ⟨k,hk,by simp[hDk],hw⟩
      · exact Or.inr ⟨i,hil,by simp,P5.2 ⟨q,hm⟩⟩
  have all : ∀ (fuel:Nat) (listed:Array Bool) (a:Act) (w:World),listed.size=l.length→listed.toList.count false=fuel→b0Y l.toArray (fun k=>listed.getD k false)→Inv (fun k=>listed.getD k false) a w→
      wpAny P .any l.toArray Q fuel listed a w:=by
    intro fuel;have done:∀(listed:Array Bool) (a:Act) (w:World),listed.size=l.length→b0Y l.toArray (fun k=>listed.getD k false)→Inv (fun k=>listed.getD k false) a w→Region.ready .any l.toArray listed=[]→Q .normal a w:=by
      intro listed a w hsz hD hinv hr;have hall:∀k,k<l.length→listed.getD k false=true:=by
        intro k
        induction k using Nat.strongRecOn with
        | _ k ih=>
          intro hk
          cases hv:listed.getD k false with
          |true=>rfl
          | false=>
            exfalso;have hmem:k∈Region.ready .any l.toArray listed:=by
              refine mem_ready.2 ⟨?_,l[k],by simp[hk],fun e he hb=>?_⟩
              · have hk':k<listed.size:=by omega
                simp only[Array.getD_eq_getD_getElem?,Array.getElem?_eq_getElem hk',Option.getD_some]at hv ⊢;exact hv
              · have:=a2N l 0 hback k l[k] (List.getElem?_eq_getElem hk) e he hb
                exact ih e.on (by omega) (by omega)
            rw[hr]at hmem;cases hmem
      obtain⟨⟨ρ,L,hc,hL⟩,hext⟩:=hinv;have eS:vS (fun k=>listed.getD k false)=l6 (Ts l.length):=by
        funext t
        exact u7 l.length l.length (Nat.le_refl _) (keepS t) (fun k hk _=>⟨fun _=>hk,fun _=>hall k hk⟩)
      have eR:vR (fun k=>listed.getD k false)=m6 (Hs l.length):=by
        funext r
        exact u7 l.length l.length (Nat.le_refl _) (keepR r) (fun k hk _=>⟨fun _=>hk,fun _=>hall k hk⟩)
      rw[eS,eR]at hc;refine hQ a w ⟨⟨ρ,L,hc,fun r hr=>?_⟩,hext⟩
      rcases hL r hr with h|⟨k,hk,_,hw⟩
      · exact Nat.lt_of_lt_of_le h (hlen 0 _ (by omega) (Nat.le_refl _))
      · obtain⟨q,hm⟩:=P5.1 hw
        exact Nat.lt_of_lt_of_le (hupl k r q hk hm) (hlen _ _ (by omega) (Nat.le_refl _))
    induction fuel with
    | zero=>
      intro listed a w hsz hcount hD hinv;have hr:Region.ready .any l.toArray listed=[]:=by
        apply List.eq_nil_iff_forall_not_mem.2;intro k hk;obtain⟨h1,o,ho,_⟩:=mem_ready.1 hk;have hkl:k<listed.size:=by rw[hsz];simpa using(Array.getElem?_eq_some_iff.1 ho).1
        simp only[Array.getD_eq_getD_getElem?,Array.getElem?_eq_getElem hkl,Option.getD_some]at h1;rw[List.count_eq_zero]at hcount;exact hcount (by rw[←h1];simp)
      exact⟨hr,done listed a w hsz hD hinv hr⟩
    | succ fuel ih=>
      intro listed a w hsz hcount hD hinv;refine⟨done listed a w hsz hD hinv,fun i hi=>?_⟩;obtain⟨h1,o,ho,hpre⟩:=mem_ready.1 hi;have ho':l[i]?=some o:=by simpa using ho
      have hil:i<l.length:=(List.getElem?_eq_some_iff.1 ho').1;have hils:i<listed.size:=by omega
      have hDi:listed.getD i false=false:=by
        simp only[Array.getD_eq_getD_getElem?,Array.getElem?_eq_getElem hils,Option.getD_some]at h1 ⊢;exact h1
      have eD:(fun k=>(listed.setIfInBounds i true).getD k false)=fun k=>listed.getD k false||k==i:=by
        funext k
        by_cases e:k=i
        · subst e
          simp[Array.getD_eq_getD_getElem?,Array.getElem?_setIfInBounds_self_of_lt hils]
        · rw[getD_set_ne false (fun h=>e h.symm)]
          simp[e]
      have hD':b0Y l.toArray (fun k=>listed.getD k false||k==i):=by
        intro k ok hok hk e he hb;simp only[Bool.or_eq_true,beq_iff_eq]at hk ⊢
        rcases hk with hk|rfl
        · exact Or.inl (hD k ok hok hk e he hb)
        · rw[ho]at hok
          simp only[Option.some.injEq]at hok;subst hok;exact Or.inl (hpre e he hb)
      have:=step (fun k=>listed.getD k false) i o a w (wpAny P .any l.toArray Q fuel (listed.setIfInBounds i true)) hD hD' ho' hDi hinv (fun a' w' hinv'=>ih _ a' w' (by simp[hsz]) (by
        rw[Array.toList_setIfInBounds,List.count_set (by simpa using hils),hcount];have:listed.toList[i]'(by simpa using hils)=false:=by
          simp only[Array.getD_eq_getD_getElem?,Array.getElem?_eq_getElem hils,Option.getD_some]at hDi;simpa using hDi
        simp[this]) (by rw[eD];exact hD') (by rw[eD];exact hinv'))
      unfold wpOp;simp only[ho]
      split
      · rename_i hw;rw[if_pos hw]at this;exact Or.inl this
      · rename_i hw;rw[if_neg hw]at this;exact this
  obtain⟨⟨ρ,L,hc,hL⟩,hext⟩:=hs;have e0:(fun k=>(Array.replicate l.toArray.size false).getD k false)=fun _=>false:=by
    funext k
    simp only[Array.getD_eq_getD_getElem?,Array.getElem?_replicate]
    split<;>rfl
  refine all _ _ a w (by simp) (by simp) ?_ ?_
  · rw[e0];intro k o _ h;cases h
  · rw[e0]
    refine⟨⟨ρ,L,?_,fun r hr=>Or.inl (hL r hr)⟩,hext⟩;have eS:vS (fun _=>false)=l6 (Ts 0):=by
      funext t
      exact u7 l.length 0 (by omega) (keepS t) (fun k hk _=>by simp)
    have eR:vR (fun _=>false)=m6 (Hs 0):=by
      funext r
      exact u7 l.length 0 (by omega) (keepR r) (fun k hk _=>by simp)
    rw[eS,eR];exact hc
theorem St.draw {w0:World} {B S0:Nat→Prop} {T:Tm} {H:Hp} {a:Act} {w:World} (hs:St w0 B S0 nt T H a w) (n:Nat):St w0 B S0 nt T H a {w with drawn:=n}:=by
 obtain⟨⟨ρ,L,hc,hL⟩,hext⟩:=hs;have hk:∀{x y},k7 w (Sx S0 ρ) ρ L x y→k7 {w with drawn:=n} (Sx S0 ρ) ρ L x y:=fun h=>h.ext (Nat.le_refl _) (fun b _ hn=>⟨rfl,hn⟩) (fun r h=>h) (fun r l _ h=>h);refine⟨⟨ρ,L,⟨⟨hc.wf.inj,hc.wf.own,hc.wf.given,hc.wf.low,hc.wf.new⟩,hc.size,hc.defers,fun t=>hk (hc.tmps t),fun r row hr=>?_,hc.dead⟩,hL⟩,hext.draw n⟩;obtain⟨l,hl,hrow⟩:=hc.rows r row hr;exact⟨l,hl,hrow.ext (Nat.le_refl _) (fun b _ hn=>⟨rfl,hn⟩) (fun r h=>h) (fun r l _ h=>h) (fun _ _=>rfl)⟩
theorem O0 {id:Nat} {T:Tm} {H:Hp} {Q:Exit→Tm→Hp→Prop} (hm:P.follows .mixedOrders=true) (hd:l.map (·.dst)=dsts)
  (h:∀K:Tm→Hp→List Tr→Prop,(∀T' H' tr,a3p l tr=true→Q .normal T' H'→K T' H' tr)→a1f P nt dsts l T H [] K):AWp P nt (.region id l.toArray true) T H Q:=by
 intro w0 B S0 a w hs;have h':=h (fun T' H' tr=>a3p l tr=true∧Q .normal T' H') (fun _ _ _ h1 h2=>⟨h1,h2⟩);have hd':∀j:Nat,dsts[j]?=(l.toArray[j]?).map (·.dst):=by intro j;rw[←hd];simp
 obtain⟨Ts,Hs,es,t0,h0,hlex,hB,hQ⟩:=b4i hd' l T H [] h';refine wp_region_any hm ?_;have:=b0G (w0:=w0) (B:=B) (S0:=S0) hlex hd (by simpa using hB) (Q:=fun e a' w'=>∃T' H',Q e T' H'∧St w0 B S0 nt T' H' a' w') (fun a w hst=>⟨_,_,hQ,hst⟩) (a:=a) (w:={w with drawn:=w.drawn+1}) (by rw[t0,h0];exact hs.draw _);exact this
end
section
variable {P:Program} {nt:Nat} {l:List Oper} {dsts:List (Option Tmp)} {T:Tm} {H:Hp} {Q:Exit→Tm→Hp→Prop} {id:Nat} {y:Code}
theorem c0u (hd:l.map (·.dst)=dsts) (h:∀K:Tm→Hp→Prop,(∀T' H',AWp P nt y T' H' Q→K T' H')→X4 P nt dsts l T H K):AWp P nt (.seq (.region id l.toArray false) y) T H Q:=
 a7R (a3H hd (h _ fun _ _ h=>h))
theorem s9 (hm:P.follows .mixedOrders=true) (hd:l.map (·.dst)=dsts)
  (h:∀K:Tm→Hp→List Tr→Prop,(∀T' H' tr,a3p l tr=true→AWp P nt y T' H' Q→K T' H' tr)→a1f P nt dsts l T H [] K):AWp P nt (.seq (.region id l.toArray true) y) T H Q:=
 a7R (O0 hm hd h)
theorem c2t (hd:l.map (·.dst)=dsts) (h:∀K:Tm→Hp→Prop,(∀T' H',Q .normal T' H'→K T' H')→X4 P nt dsts l T H K):AWp P nt (.region id l.toArray false) T H Q:=
 a3H hd (h _ fun _ _ h=>h)
end
def c0a (T:Tm):Tm→Prop
 |[]=>True
 |(i,x)::r=>(x= .any∨l6 T i=x)∧c0a T r
def Q7 (T:Tm) (live:List Nat):Tm:=live.map fun t=>(t,l6 T t)
theorem j9 {nt:Nat} {T T':Tm} {H:Hp} (h:c0a T T'):Sub nt T H T' H:=by
 rintro w0 B S0 a w ⟨⟨ρ,L,hc,hL⟩,hext⟩;refine⟨⟨ρ,L,⟨hc.wf,hc.size,hc.defers,fun t=>?_,hc.rows,hc.dead⟩,hL⟩,hext⟩;have gen:∀(T':Tm),c0a T T'→k7 w (Sx S0 ρ) ρ L (l6 T' t) (a.tmps.getD t undef):=by
  intro T'
  induction T' with
  |nil=>intro _;exact .pure _ _ (.any _)
  | cons p T' ih=>
   obtain⟨i,x⟩:=p;rintro⟨h1,h2⟩;simp only[l6]
   split
   ·rename_i e;subst e
    rcases h1 with rfl|rfl
    ·exact .pure _ _ (.any _)
    ·exact hc.tmps t
   ·exact ih h2
 exact gen T' h
theorem a0L (T:Tm):∀live:List Nat,c0a T (Q7 T live)
 |[]=>trivial
 |t::l=>⟨Or.inr rfl,a0L T l⟩
section
variable {P:Program} {nt:Nat} {T:Tm} {H:Hp} {Q:Exit→Tm→Hp→Prop} {c:Code}
theorem b7 (live:List Nat) (h:AWp P nt c (Q7 T live) H Q):AWp P nt c T H Q:=N7 (j9 (a0L T live)) h
theorem i4 {α:Type} (live:List Nat) (upd:α→Tm) (hp:α→Hp) (inv:α→Prop) (μ:α→Nat) (x0:α) (h0:inv x0) (hs0:Sub nt T H (upd x0++Q7 T live) (hp x0))
  (round:∀x,inv x→AWp P nt c (upd x++Q7 T live) (hp x) (Q8 (fun T' H'=>∃y,inv y∧μ y<μ x∧Sub nt T' H' (upd y++Q7 T live) (hp y)) Q)):AWp P nt (.loop c) T H Q:=
 b5B (fun x=>(upd x++Q7 T live,hp x)) inv μ x0 h0 hs0 round
end
def C7:List (Option Nat)→Bool
 |[]=>true
 |none::g=>C7 g
 |some q::g=> !g.contains (some q)&&C7 g
theorem O5:∀(g:List (Option Nat)),C7 g=true→∀(i j q:Nat),g[i]?=some (some q)→g[j]?=some (some q)→i=j
 |[],_,i,j,q,h,_=>by simp at h
 | x::g,hn,i,j,q,h1,h2=>by
  have hg:C7 g=true:=by cases x<;>simp[C7]at hn<;>first|exact hn|exact hn.2
  have hx:∀k:Nat,x=some q→g[k]?=some (some q)→False:=by
   rintro k rfl hk;simp only[C7,Bool.and_eq_true,Bool.not_eq_true',List.contains_eq_mem,decide_eq_false_iff_not]at hn;exact hn.1 (List.mem_of_getElem? hk)
  cases i with
  |zero=>
   cases j with
   |zero=>rfl
   |succ j=>simp at h1 h2;exact(hx j h1 h2).elim
  |succ i=>
   cases j with
   |zero=>simp at h1 h2;exact(hx i h2 h1).elim
   |succ j=>simp at h1 h2;rw[O5 g hg i j q h1 h2]
theorem e9 {nt:Nat} {T T':Tm} {H H':Hp} (g:List (Option Nat)) (hn:C7 g=true) (hT:b7C g T T') (hH:b4A H g=H'):Sub nt T H T' H':=b4d g (O5 g hn) hT hH
attribute [simp] c0a Q7
attribute [simp] a1f a2j a5l a8s a7H a0P E6
end Go.AM
namespace Go.AM
def Hxn (H:Nat→Option l7) (g:List (Option Nat)) (r:Nat):Option l7:=match l4 g r with|some _=>none|none=>H r
def S9 (H:Nat→Option l7) (g:List (Option Nat)):Nat→AV→AV
 |_, .row r i n=>match l4 g r with|some q=> .row q i n|none=>frz (Hxn H g) 3 (.row r i n)
 |_, .ptr r i o=>match l4 g r with|some q=> .ptr q i o|none=>frz (Hxn H g) 3 (.ptr r i o)
 |_, .fptr x r i o=>match l4 g r with|some q=> .fptr x q i o|none=>frz (Hxn H g) 3 (.fptr x r i o)
 |_, .mp r=>match l4 g r with|some q=> .mp q|none=>frz (Hxn H g) 3 (.mp r)
 |n+1, .agg cs=> .agg (cs.map (S9 H g n))
 |n+1, .tup cs=> .tup (cs.map (S9 H g n))
 |n+1, .clo f cs=> .clo f (cs.map (S9 H g n))
 |n+1, .bnd f cs=> .bnd f (cs.map (S9 H g n))
 |n+1, .vptr cs=> .vptr (cs.map (S9 H g n))
 |n+1, .ifc t x=> .ifc t (S9 H g n x)
 |n+1, .may l x=> .may l (S9 H g n x)
 |0, .agg _=> .any
 |0, .tup _=> .any
 |0, .clo _ _=> .any
 |0, .bnd _ _=> .any
 |0, .vptr _=> .any
 |0, .ifc _ _=> .any
 |0, .may _ _=> .any
 |_,x=>x
def b3c (H:Nat→Option l7) (g:List (Option Nat)):l7→l7
 | .els sz es=> .els sz (es.map fun e=>e.map (S9 H g 3))
 | .map ag kts kvs=> .map ag kts kvs
 | .itr ag kts left cur=> .itr ag kts left cur
def a0H (H:Hp) (g:List (Option Nat)):Hp:=g.map fun q=>match q with|some r=>(m6 H r).map (b3c (m6 H) g)|none=>none
def a1s (H:Hp) (g:List (Option Nat)) (T:Tm):Tm→Prop
 |[]=>True
 |(i,x)::r=>(x= .any∨S9 (m6 H) g 3 (l6 T i)=x)∧a1s H g T r
theorem a5K {g:List (Option Nat)} {r q:Nat} (h:l4 g r=none):g[q]?≠some (some r):=by
 intro hq;unfold l4 at h;rw[List.findIdx?_eq_none_iff]at h;have:=h (some r) (List.mem_of_getElem? hq);simp at this
theorem b0d {w:World} {S0 B:Nat→Prop} {ρ:Nat→Option Loc} {L:Nat→Prop} {H:Nat→Option l7} {g:List (Option Nat)} (hw:WF B S0 w ρ L)
  (hrows:∀r row,H r=some row→∃l,ρ r=some l∧n5 w (Sx S0 ρ) ρ L l row):∀(n:Nat) (x:AV) (y:Value),k7 w (Sx S0 ρ) ρ L x y→
  k7 w (Sx S0 (m5 ρ g)) (m5 ρ g) (fun r=>r<g.length) (S9 H g n x) y:=by
 have hS:∀b,Sx S0 (m5 ρ g) b→Sx S0 ρ b:=by
  rintro b (h|⟨r,l,h1,h2⟩)
  ·exact Or.inl h
  ·obtain⟨q,_,h3⟩:=i7 h1;exact Or.inr ⟨q,l,h3,h2⟩
 have hX:∀r l b row,Hxn H g r=some row→ρ r=some l→l.b=some b→¬Sx S0 (m5 ρ g) b:=by
  intro r l b row h0 h1 h2;rintro(h|⟨r',l',h3,h4⟩)
  ·exact(hw.own r l b h1 h2).2.1 h
  ·obtain⟨q,hq,h5⟩:=i7 h3;have:=hw.inj r q l l' b h1 h5 h2 h4;subst this;unfold Hxn at h0
   split at h0
   ·cases h0
   ·rename_i hn;exact a5K hn hq
 have fz:∀x y,k7 w (Sx S0 ρ) ρ L x y→q8 w (Sx S0 (m5 ρ g)) (frz (Hxn H g) 3 x) y:=fun x y h=>
  a1K hw (fun b hn k=>hn (hS b k)) hX 3 x y (fun r hr row h0=>hrows r row (by
   unfold Hxn at h0
   split at h0
   ·cases h0
   ·exact h0)) h
 have hP:∀{x y},q8 w (Sx S0 ρ) x y→q8 w (Sx S0 (m5 ρ g)) x y:=fun h=>h.ext (Nat.le_refl _) (fun b _ hn=>⟨rfl,fun k=>hn (hS b k)⟩);have row:∀n r i k y,k7 w (Sx S0 ρ) ρ L (.row r i k) y→k7 w (Sx S0 (m5 ρ g)) (m5 ρ g) (fun r=>r<g.length) (S9 H g n (.row r i k)) y:=by
  intro n r i k y h;have e:S9 H g n (.row r i k)=match l4 g r with|some q=> .row q i k|none=>frz (Hxn H g) 3 (.row r i k):=by cases n<;>rfl
  rw[e]
  split
  ·rename_i q hq;have hg:=u9 hq
   cases h with
   |pure _ _ h=>cases h
   |row _ _ _ _ h1 h2 h3=>
    refine .row _ _ _ _ (List.getElem?_eq_some_iff.1 hg).1 h2 (fun l hl=>h3 l ?_);simp only[m5,hg]at hl;exact hl
  ·exact .pure _ _ (fz _ _ h)
 have ptr:∀n r i k y,k7 w (Sx S0 ρ) ρ L (.ptr r i k) y→k7 w (Sx S0 (m5 ρ g)) (m5 ρ g) (fun r=>r<g.length) (S9 H g n (.ptr r i k)) y:=by
  intro n r i k y h;have e:S9 H g n (.ptr r i k)=match l4 g r with|some q=> .ptr q i k|none=>frz (Hxn H g) 3 (.ptr r i k):=by cases n<;>rfl
  rw[e]
  split
  ·rename_i q hq;have hg:=u9 hq
   cases h with
   |pure _ _ h=>cases h
   |ptr _ _ _ _ h1 h2 h3=>
    refine .ptr _ _ _ _ (List.getElem?_eq_some_iff.1 hg).1 h2 (fun l hl=>h3 l ?_);simp only[m5,hg]at hl;exact hl
  ·exact .pure _ _ (fz _ _ h)
 have fptr:∀n c r i k y,k7 w (Sx S0 ρ) ρ L (.fptr c r i k) y→k7 w (Sx S0 (m5 ρ g)) (m5 ρ g) (fun r=>r<g.length) (S9 H g n (.fptr c r i k)) y:=by
  intro n c r i k y h;have e:S9 H g n (.fptr c r i k)=match l4 g r with|some q=> .fptr c q i k|none=>frz (Hxn H g) 3 (.fptr c r i k):=by cases n<;>rfl
  rw[e]
  split
  ·rename_i q hq
   cases h with
   |pure _ _ h=>cases h
   | fptr _ _ _ _ h=>
    have h2:=ptr 0 r i k _ h;have e2:S9 H g 0 (.ptr r i k)= .ptr q i k:=by
     show(match l4 g r with|some q=>AV.ptr q i k|none=>frz (Hxn H g) 3 (.ptr r i k))=_;rw[hq]
    rw[e2]at h2;exact .fptr _ _ _ _ h2
  ·exact .pure _ _ (fz _ _ h)
 have mp:∀n r y,k7 w (Sx S0 ρ) ρ L (.mp r) y→k7 w (Sx S0 (m5 ρ g)) (m5 ρ g) (fun r=>r<g.length) (S9 H g n (.mp r)) y:=by
  intro n r y h;have e:S9 H g n (.mp r)=match l4 g r with|some q=> .mp q|none=>frz (Hxn H g) 3 (.mp r):=by cases n<;>rfl
  rw[e]
  split
  ·rename_i q hq;have hg:=u9 hq
   cases h with
   |pure _ _ h=>cases h
   |mp _ _ h1 h2 h3=>
    refine .mp _ _ (List.getElem?_eq_some_iff.1 hg).1 h2 (fun l hl=>h3 l ?_);simp only[m5,hg]at hl;exact hl
  ·exact .pure _ _ (fz _ _ h)
 have atom:∀n x y,(match x with| .v _=>True| .lst _ _=>True| .full _ _=>True| .iptr _=>True| .mpc _ _ _=>True| .any=>True|_=>False)→k7 w (Sx S0 ρ) ρ L x y→k7 w (Sx S0 (m5 ρ g)) (m5 ρ g) (fun r=>r<g.length) (S9 H g n x) y:=by
  intro n x y hx h
  cases x<;>simp only at hx<;>(cases h;rename_i h;cases n<;>exact .pure _ _ (hP h))
 intro n
 induction n with
 |zero=>
  intro x y h
  cases x with
  |row r i k=>exact row 0 r i k y h
  |ptr r i k=>exact ptr 0 r i k y h
  |fptr c r i k=>exact fptr 0 c r i k y h
  |mp r=>exact mp 0 r y h
  |agg cs=>exact .pure _ _ (.any _)
  |tup cs=>exact .pure _ _ (.any _)
  |clo f cs=>exact .pure _ _ (.any _)
  |bnd f cs=>exact .pure _ _ (.any _)
  |vptr cs=>exact .pure _ _ (.any _)
  |ifc t x=>exact .pure _ _ (.any _)
  |may l x=>exact .pure _ _ (.any _)
  |_=>exact atom 0 _ y trivial h
 | succ n ih=>
  intro x y h
  cases x with
  |row r i k=>exact row _ r i k y h
  |ptr r i k=>exact ptr _ r i k y h
  |fptr c r i k=>exact fptr _ c r i k y h
  |mp r=>exact mp _ r y h
  |agg cs=>
   obtain⟨vs,rfl,hl,hc⟩:=B7 h;refine .agg _ vs (by simpa using hl) (fun u hu=>?_) (fun i c u h1 h2=>?_)
   ·obtain⟨i,hi,rfl⟩:=List.getElem_of_mem hu;exact(hc i _ _ (List.getElem?_eq_getElem (by omega)) (List.getElem?_eq_getElem hi)).1
   ·simp only[List.getElem?_map,Option.map_eq_some_iff]at h1;obtain⟨c',h1,rfl⟩:=h1;exact ih c' u (hc i c' u h1 h2).2
  |tup cs=>
   obtain⟨vs,rfl,hl,hc⟩:=I5 h;refine .tup _ vs (by simpa using hl) (fun i c u h1 h2=>?_);simp only[List.getElem?_map,Option.map_eq_some_iff]at h1;obtain⟨c',h1,rfl⟩:=h1;exact ih c' u (hc i c' u h1 h2)
  |clo f cs=>
   obtain⟨vs,rfl,hl,hc⟩:=C8 h;refine .clo f _ vs (by simpa using hl) (fun i c u h1 h2=>?_);simp only[List.getElem?_map,Option.map_eq_some_iff]at h1;obtain⟨c',h1,rfl⟩:=h1;exact ih c' u (hc i c' u h1 h2)
  |bnd f cs=>
   obtain⟨vs,rfl,hl,hc⟩:=H9 h;refine .bnd f _ vs (by simpa using hl) (fun i c u h1 h2=>?_);simp only[List.getElem?_map,Option.map_eq_some_iff]at h1;obtain⟨c',h1,rfl⟩:=h1;exact ih c' u (hc i c' u h1 h2)
  |vptr cs=>
   obtain⟨b,off,vs,rfl,hSb,hb,hl,hv,hc⟩:=u5 h;refine .vptr _ b off vs (fun k=>hSb (hS b k)) hb (by simpa using hl) hv (fun i c u h1 h2=>?_);simp only[List.getElem?_map,Option.map_eq_some_iff]at h1;obtain⟨c',h1,rfl⟩:=h1;exact ih c' u (hc i c' u h1 h2)
  |ifc t x=>
   obtain⟨v,rfl,h'⟩:=B8 h;exact .ifc t _ _ (ih x v h')
  | may l x=>
   cases h with
   |pure _ _ h=>cases h with
    |mayT _ _ _ ht h=>exact .mayT _ _ _ ht (ih x y (.pure _ _ h))
    |mayF _ _ hf=>exact .mayF _ _ hf
   |mayT _ _ _ ht h=>exact .mayT _ _ _ ht (ih x y h)
   |mayF _ _ hf=>exact .mayF _ _ hf
  |_=>exact atom _ _ y trivial h
theorem b4N {nt:Nat} {T T':Tm} {H H':Hp} (g:List (Option Nat)) (hn:∀(i j q:Nat),g[i]?=some (some q)→g[j]?=some (some q)→i=j) (hT:a1s H g T T') (hH:a0H H g=H'):Sub nt T H T' H':=by
 rintro w0 B S0 a w ⟨⟨ρ,L,hc,hL⟩,hext⟩;subst hH;have hren:=b0d (g:=g) (H:=m6 H) hc.wf (fun r row hr=>hc.rows r row hr);refine⟨⟨m5 ρ g,fun r=>r<g.length,⟨⟨?_,?_,?_,hc.wf.low,hc.wf.new⟩,hc.size,hc.defers,?_,?_,?_⟩,?_⟩,hext⟩
 ·intro r r' l l' b h1 h2 k1 k2;obtain⟨q,g1,p1⟩:=i7 h1;obtain⟨q',g2,p2⟩:=i7 h2;have:=hc.wf.inj q q' l l' b p1 p2 k1 k2;subst this;exact hn _ _ _ g1 g2
 ·intro r l b h1 k1;obtain⟨q,g1,p1⟩:=i7 h1;exact hc.wf.own q l b p1 k1
 ·intro r l h1;obtain⟨q,g1,p1⟩:=i7 h1;exact(List.getElem?_eq_some_iff.1 g1).1
 ·intro t;have gen:∀(T':Tm),a1s H g T T'→k7 w (Sx S0 (m5 ρ g)) (m5 ρ g) (fun r=>r<g.length) (l6 T' t) (a.tmps.getD t undef):=by
   intro T'
   induction T' with
   |nil=>intro _;exact .pure _ _ (.any _)
   | cons p T' ih=>
    obtain⟨i,x⟩:=p;rintro⟨h1,h2⟩;simp only[l6]
    split
    ·rename_i e;subst e
     rcases h1 with rfl|rfl
     ·exact .pure _ _ (.any _)
     ·exact hren 3 _ _ (hc.tmps t)
    ·exact ih h2
  exact gen T' hT
 ·intro r row hr;simp only[a0H,A6]at hr
  split at hr
  ·rename_i q hq
   split at hr
   ·rename_i q';simp only[Option.map_eq_some_iff]at hr;obtain⟨row0,h0,rfl⟩:=hr;obtain⟨l,hl,hrow⟩:=hc.rows q' row0 h0;refine⟨l,by simp only[m5,hq];exact hl,?_⟩
    cases row0 with
    |map kvs=>exact hrow
    | itr ag kts left cur=>
     obtain⟨b,h1,h0,h2⟩:=hrow;exact⟨b,h1,h0,h2.same rfl (Nat.le_refl _) (fun b _ hn=>⟨rfl,fun k=>hn (by
      rcases k with h|⟨r,l,h1,h2⟩
      ·exact Or.inl h
      ·obtain⟨q,_,h3⟩:=i7 h1;exact Or.inr ⟨q,l,h3,h2⟩)⟩)⟩
    |els sz es=>
     obtain⟨h1,h2,h3,h4⟩:=hrow;refine⟨h1,?_,fun hb=>by rw[h3 hb];rfl,fun b hb=>?_⟩
     ·intro e he;simp only[List.mem_map]at he;obtain⟨e',he',rfl⟩:=he;simpa using h2 e' he'
     ·obtain⟨c,t,k1,k2,k3,k4⟩:=h4 b hb;refine⟨c,t,k1,k2,by simpa using k3,fun i av hi=>?_⟩;rw[←List.map_flatten]at hi;simp only[List.getElem?_map,Option.map_eq_some_iff]at hi;obtain⟨av0,hi,rfl⟩:=hi;obtain⟨x,p1,p2,p3⟩:=k4 i av0 hi;exact⟨x,p1,p2,hren 3 _ _ p3⟩
   ·cases hr
  ·cases hr
 ·intro r hr;simp only[a0H,A6]at hr;simp only[m5]
  split
  ·rename_i q hq;rw[hq]at hr;simp only[Option.map_eq_none_iff]at hr;exact hc.dead q hr
  ·rfl
 ·intro r hr;simpa [a0H]using hr
theorem D5 {nt:Nat} {T T':Tm} {H H':Hp} (g:List (Option Nat)) (hn:C7 g=true) (hT:a1s H g T T') (hH:a0H H g=H'):Sub nt T H T' H':=b4N g (O5 g hn) hT hH
theorem a5x:∀(H:Hp) (r:Nat) (x:Option l7) (q:Nat),r<H.length→m6 (H.set r x) q=if q=r then x else m6 H q
 |[],r,x,q,h=>by simp at h
 |y::H,0,x,0,h=>by simp[m6]
 |y::H,0,x,q+1,h=>by simp[m6]
 |y::H,r+1,x,0,h=>by simp[m6]
 |y::H,r+1,x,q+1,h=>by
  simp only[List.set_cons_succ,m6,Nat.add_right_cancel_iff];exact a5x H r x q (by simpa using h)
theorem a2U:∀{H:Hp} {r:Nat} {row:l7},m6 H r=some row→r<H.length
 |[],r,row,h=>by cases r<;>simp[m6]at h
 |y::H,0,row,h=>by simp
 |y::H,r+1,row,h=>by simp only[m6]at h;have:=a2U h;simp;omega
theorem a6c (H:Hp) (x:Option l7) (r:Nat):m6 (H++[x]) r=if r=H.length then x else m6 H r:=by
 induction H generalizing r with
 |nil=>cases r<;>simp[m6]
 |cons y ys ih=>
  cases r with
  |zero=>simp[m6]
  |succ r=>simp only[List.cons_append,m6,List.length_cons,Nat.add_right_cancel_iff];exact ih r
theorem a5t:∀(H:Hp) (r:Nat) (o:Option l7),r<H.length→(D9 H r o).length=H.length
 |[],_,_,h=>by simp at h
 |_::_,0,_,_=>rfl
 |_::xs,n+1,o,h=>by simp only[D9,List.length_cons];rw[a5t xs n o (by simpa using h)]
theorem b4S {nt:Nat} {T:Tm} {H:Hp} (hnt:nt≤999998):Sub nt T H ((999998,b7V)::T) H:=by
 rintro w0 B S0 a w ⟨⟨ρ,L,hc,hL⟩,hext⟩;refine⟨⟨ρ,L,⟨hc.wf,hc.size,hc.defers,fun t=>?_,hc.rows,hc.dead⟩,hL⟩,hext⟩;simp only[l6]
 split
 ·rename_i e;subst e;have:a.tmps.getD 999998 undef=undef:=by
   rw[Array.getD_eq_getD_getElem?,Array.getElem?_eq_none (by rw[hc.size];exact hnt)];rfl
  rw[this];exact .mayF _ _ rfl
 ·exact hc.tmps t
theorem N3 {nt : Nat} {T : Tm} {H:Hp} (r i j sz:Nat) {sz0:Nat} {es:List (List AV)} {e:List AV} (hr:m6 H r=some (.els sz0 es)) (he:es[i]?=some e) (hj:e[j]?=some (.v (.slice none 0 0))):
    Sub nt T H T (H.set r (some (.els sz0 (es.set i (e.set j (.row H.length 0 0)))))++[some (.els sz [])]):=by
  rintro w0 B S0 a w ⟨⟨ρ,L,hc,hL⟩,hext⟩;have hrl:=a2U hr;have hN:¬L H.length:=fun h=>Nat.lt_irrefl _ (hL _ h)
  let l:Loc:=⟨none,0,sz,0⟩
  have hnone:∀r l',Loc.fresh ρ H.length l r=some l'→l'.b≠none→ρ r=some l':=by
    intro r l' h1 h2;simp only[Loc.fresh]at h1
    split at h1
    · simp only[Option.some.injEq]at h1;subst h1;exact absurd rfl h2
    · exact h1
  have hS:∀b,Sx S0 (Loc.fresh ρ H.length l) b→Sx S0 ρ b:=by
    rintro b (h1|⟨r,l',h1,h2⟩)
    · exact Or.inl h1
    · exact Or.inr ⟨r,l',hnone r l' h1 (by rw[h2];simp),h2⟩
  have hk:∀x y,k7 w (Sx S0 ρ) ρ L x y→k7 w (Sx S0 (Loc.fresh ρ H.length l)) (Loc.fresh ρ H.length l) (fun r=>L r∨r=H.length) x y:=fun x y k=>
    k.ext (Nat.le_refl _) (fun b _ hn=>⟨rfl,fun q=>hn (hS b q)⟩) (fun r=>Or.inl) (fun r l' hr hl'=>by
      simp only[Loc.fresh]at hl'
      split at hl'
      · rename_i e;subst e;exact absurd hr hN
      · exact hl')
  have hnew:k7 w (Sx S0 (Loc.fresh ρ H.length l)) (Loc.fresh ρ H.length l) (fun r=>L r∨r=H.length) (.row H.length 0 0) (.slice none 0 0):=by
    refine .row _ _ _ _ (Or.inr rfl) rfl (fun l' hl'=>?_);simp only[Loc.fresh,if_true,Option.some.injEq]at hl';subst hl';exact⟨fun _=>⟨rfl,rfl,rfl⟩,fun b hb=>by cases hb⟩
  have hwf:=a1T hc.wf hN l (w':=w) (Nat.le_refl _) (by intro b hb;cases hb);have hrowk:∀r row,m6 H r=some row→∃l',Loc.fresh ρ H.length l r=some l'∧n5 w (Sx S0 (Loc.fresh ρ H.length l)) (Loc.fresh ρ H.length l) (fun r=>L r∨r=H.length) l' row:=by
    intro r row hr;obtain⟨l',hl',hrow⟩:=hc.rows r row hr;have hne:r≠H.length:=by have:=a2U hr;omega
    refine⟨l',by simp[Loc.fresh,hne,hl'],hrow.ext (Nat.le_refl _) (fun b _ hn=>⟨rfl,fun q=>hn (hS b q)⟩) (fun r=>Or.inl) (fun r l' hr hl'=>by
        simp only[Loc.fresh]at hl'
        split at hl'
        · rename_i e;subst e;exact absurd hr hN
        · exact hl') (fun _ _=>rfl)⟩
  refine⟨⟨Loc.fresh ρ H.length l,fun r=>L r∨r=H.length,⟨hwf,hc.size,hc.defers,fun t'=>hk _ _ (hc.tmps t'),?_,?_⟩,?_⟩,hext⟩
  · intro q row hq
    rw[a6c,List.length_set]at hq
    split at hq
    · rename_i e
      simp only[Option.some.injEq]at hq;subst hq;exact⟨l,by simp[Loc.fresh,e],rfl,by simp,by simp,by intro b hb;cases hb⟩
    · rename_i e'
      rw[a5x H r _ q hrl]at hq
      split at hq
      · rename_i e''
        subst e'';simp only[Option.some.injEq]at hq;subst hq;obtain⟨l',hl',hrow⟩:=hrowk q _ hr;refine⟨l',hl',?_⟩;obtain⟨h1,h2,h3,h4⟩:=hrow;have hil:i<es.length:=(List.getElem?_eq_some_iff.1 he).1;have helen:=h2 e (List.mem_of_getElem? he);have hjl:j<e.length:=(List.getElem?_eq_some_iff.1 hj).1;have D9:∀x∈es.set i (e.set j (.row H.length 0 0)),x.length=sz0:=by
          intro x hx
          rcases List.mem_or_eq_of_mem_set hx with hx|rfl
          · exact h2 x hx
          · simpa using helen
        refine ⟨h1, D9, fun hb => by have:=h3 hb;subst this;simp at hil,fun b hb=>?_⟩;obtain⟨c,t,k1,k2,k3,k4⟩:=h4 b hb;refine⟨c,t,k1,k2,by simpa using k3,fun u av hu=>?_⟩;have key:(es.set i (e.set j (.row H.length 0 0))).flatten=es.flatten.set (i*sz0+j) (.row H.length 0 0):=by
          apply List.ext_getElem?;intro m
          by_cases hm:m<es.length*sz0
          · have hpos : 0 < sz0 := by rcases Nat.eq_zero_or_pos sz0 with h|h; · rw[h]at hm;simp at hm
                                      · exact h
            have hq:m/sz0<es.length:=by rw[Nat.div_lt_iff_lt_mul hpos];exact hm
            have hmod:=Nat.mod_lt m hpos;have hme:m=m/sz0*sz0+m % sz0:=by rw[Nat.mul_comm];exact(Nat.div_add_mod m sz0).symm
            obtain⟨x,hx⟩:∃x,es[m/sz0]?=some x:=⟨_,List.getElem?_eq_getElem hq⟩
            by_cases hmi:m/sz0=i
            · have hx':(es.set i (e.set j (.row H.length 0 0)))[m/sz0]?=some (e.set j (.row H.length 0 0)):=by rw[hmi];simp[hil]
              rw[hmi,he]at hx;simp only[Option.some.injEq]at hx;subst hx;have f1:=n9 D9 hx' (m % sz0) hmod;have f2:=n9 h2 (by rw[hmi];exact he:es[m/sz0]?=some e) (m % sz0) hmod;rw[←hme]at f1 f2;rw[f1,List.getElem?_set,List.getElem?_set]
              by_cases hjm:j=m % sz0
              · have:i*sz0+j=m:=by rw[←hmi,hjm];exact hme.symm
                rw[if_pos hjm,if_pos this];have hml:m<es.flatten.length:=by rw[l5 h2];exact hm
                have hjm':m % sz0<e.length:=by rw[←hjm];exact hjl
                rw[if_pos (by omega),if_pos (by omega)]
              · have:i*sz0+j≠m:=by
                  intro h;apply hjm;have h':i*sz0+j=i*sz0+m % sz0:=by rw[h,←hmi];exact hme
                  omega
                rw[if_neg hjm,if_neg this,f2]
            · have hx':(es.set i (e.set j (.row H.length 0 0)))[m/sz0]?=some x:=by rw[List.getElem?_set,if_neg (fun h=>hmi h.symm)];exact hx
              have f1:=n9 D9 hx' (m % sz0) hmod;have f2:=n9 h2 hx (m % sz0) hmod;rw[←hme]at f1 f2;have:i*sz0+j≠m:=by
                intro h;apply hmi;have hj':j<sz0:=by omega
                rw[←h,Nat.mul_comm,Nat.mul_add_div hpos,Nat.div_eq_of_lt hj',Nat.add_zero]
              rw[f1,List.getElem?_set,if_neg this,f2]
          · have l1:(es.set i (e.set j (.row H.length 0 0))).flatten.length≤m:=by rw[l5 D9,List.length_set];omega
            have l2:(es.flatten.set (i*sz0+j) (.row H.length 0 0)).length≤m:=by rw[List.length_set,l5 h2];omega
            rw[List.getElem?_eq_none l1,List.getElem?_eq_none l2]
        rw[key,List.getElem?_set]at hu
        split at hu
        · rename_i hu'
          split at hu
          · simp only[Option.some.injEq]at hu
            subst hu;have f2:=n9 h2 he j (by omega);rw[hj,hu']at f2;obtain⟨x,p1,p2,p3⟩:=k4 u _ f2;refine⟨x,p1,p2,?_⟩;rw[m7 p3];exact hnew
          · cases hu
        · exact k4 u av hu
      · exact hrowk q row hq
  · intro q hq
    rw[a6c,List.length_set]at hq
    split at hq
    · cases hq
    · rename_i e'
      rw[a5x H r _ q hrl]at hq
      split at hq
      · cases hq
      · simp[Loc.fresh,e',hc.dead q hq]
  · rintro q (hq|rfl)
    · have:=hL q hq;simp;omega
    · simp
def a1X (Q:Exit→Tm→Hp→Prop):Exit→Tm→Hp→Prop
 | .goto _=>fun _ _=>False
 |e=>Q e
@[simp] theorem c2v (k:IntKind) (n:Int):(Value.int k n).oneCell'=true:=rfl
@[simp] theorem c1J (b:Bool):(Value.bool b).oneCell'=true:=rfl
@[simp] theorem c1m (a:Option Addr) (n m:Nat):(Value.slice a n m).oneCell'=true:=rfl
@[simp] theorem c2c (a:Option Addr):(Value.pointer a).oneCell'=true:=rfl
attribute [simp] a1X a1s S9 a0H b3c Hxn
end Go.AM
namespace Go.AM
theorem d6.res {P:Program} {f:FuncId} {args:List AV} {res res':AV} (h:d6 P f args res) (hr:∀(w:World) (S:Nat→Prop) (y:Value),q8 w S res y→q8 w S res' y):d6 P f args res':=by
 rcases h with⟨h1,h2⟩|h2
 ·exact Or.inl ⟨h1,fun S0 w vs a b c=>(h2 S0 w vs a b c).mono fun e w' ⟨v,q1,q2,q3⟩=>⟨v,q1,hr _ _ _ q2,q3⟩⟩
 ·exact Or.inr fun S0 w vs a b=>by
   obtain⟨v,q1,q2⟩:=h2 S0 w vs a b;exact⟨v,q1,hr _ _ _ q2⟩
end Go.AM
end
section
namespace Go.AM
open Go.Proofs
@[simp] theorem td3:i5 Try.prog 3= .cell (.int .i64 0):=by kernel_rfl
@[simp] theorem bt3:Try.prog.bytesOf 3=8:=by kernel_rfl
@[simp] theorem td4:i5 Try.prog 4= .cell (.bool false):=by kernel_rfl
@[simp] theorem bt4:Try.prog.bytesOf 4=1:=by kernel_rfl
@[simp] theorem td9:i5 Try.prog 9= .cell (.string ByteArray.empty):=by kernel_rfl
@[simp] theorem c3r:i5 Try.prog 22= .slice 54:=by kernel_rfl
@[simp] theorem c3j:i5 Try.prog 23= .slice 52:=by kernel_rfl
@[simp] theorem c1O:i5 Try.prog 25= .agg [.int .i64 0, .slice none 0 0, .slice none 0 0, .int .i64 0] [(0,1,3),(1,1,22),(2,1,23),(3,1,3)]:=by kernel_rfl
@[simp] theorem c3h:i5 Try.prog 26= .slice 4:=by kernel_rfl
@[simp] theorem c1T:i5 Try.prog 28= .agg [.slice none 0 0, .slice none 0 0] [(0,1,26),(1,1,26)]:=by kernel_rfl
@[simp] theorem c1L:i5 Try.prog 29= .slice 66:=by kernel_rfl
@[simp] theorem c3H:i5 Try.prog 31= .cell (.nilFunc):=by kernel_rfl
@[simp] theorem c3I:i5 Try.prog 32= .cell (.int .i64 0):=by kernel_rfl
@[simp] theorem c3C:i5 Try.prog 35= .slice 49:=by kernel_rfl
@[simp] theorem c4a:i5 Try.prog 42= .slice 3:=by kernel_rfl
@[simp] theorem c4c:Try.prog.bytesOf 42=24:=by kernel_rfl
@[simp] theorem c3V:i5 Try.prog 44= .slice 42:=by kernel_rfl
@[simp] theorem c4b:i5 Try.prog 49= .agg [.int .i64 0, .int .i64 0] [(0,1,3),(1,1,3)]:=by kernel_rfl
@[simp] theorem c3S:Try.prog.bytesOf 49=16:=by kernel_rfl
@[simp] theorem c3A:i5 Try.prog 52= .agg [.int .i64 0, .int .i64 0, .int .i64 0, .int .i64 0] [(0,1,3),(1,1,3),(2,1,3),(3,1,3)]:=by kernel_rfl
@[simp] theorem c3u:i5 Try.prog 54= .agg [.int .i64 0, .int .i64 0, .int .i64 0, .bool false] [(0,1,3),(1,1,3),(2,1,3),(3,1,4)]:=by kernel_rfl
@[simp] theorem c3R:i5 Try.prog 56= .slice 92:=by kernel_rfl
@[simp] theorem c3K:i5 Try.prog 58= .agg [.slice none 0 0, .slice none 0 0, .slice none 0 0, .slice none 0 0, .slice none 0 0, .slice none 0 0] [(0,1,35),(1,1,35),(2,2,28),(4,1,26),(5,1,56)]:=by kernel_rfl
@[simp] theorem c3z:i5 Try.prog 66= .agg [.int .i64 0, .int .i64 0, .int .i64 0] [(0,1,3),(1,1,3),(2,1,3)]:=by kernel_rfl
@[simp] theorem c3O:Try.prog.bytesOf 66=24:=by kernel_rfl
@[simp] theorem c3X:i5 Try.prog 81= .slice 87:=by kernel_rfl
@[simp] theorem c3U:i5 Try.prog 87= .agg [.int .i64 0, .int .i64 0, .int .i64 0, .int .i64 0, .int .i64 0, .int .i64 0, .int .i64 0, .int .i64 0] [(0,2,49),(2,2,49),(4,2,49),(6,2,49)]:=by kernel_rfl
@[simp] theorem c4d:Try.prog.bytesOf 87=64:=by kernel_rfl
@[simp] theorem c3M:i5 Try.prog 90= .cell (.int .i64 0):=by kernel_rfl
@[simp] theorem c3P:i5 Try.prog 92= .agg [.int .i64 0, .int .i64 0, .int .i64 0, .int .i64 0] [(0,1,90),(1,1,3),(2,2,49)]:=by kernel_rfl
@[simp] theorem c3Q:Try.prog.bytesOf 92=32:=by kernel_rfl
@[simp] theorem c3J:i5 Try.prog 93= .cell (.pointer none):=by kernel_rfl
@[simp] theorem c3D:i5 Try.prog 97= .agg [.slice none 0 0, .slice none 0 0] [(0,1,35),(1,1,35)]:=by kernel_rfl
@[simp] theorem c3o:i5 Try.prog 100= .cell (.map none):=by kernel_rfl
@[simp] theorem c3q:i5 Try.prog 106= .cell (.nilFunc):=by kernel_rfl
@[simp] theorem c3v:i5 Try.prog 107= .cell (.pointer none):=by kernel_rfl
@[simp] theorem c3k:i5 Try.prog 110= .agg [.pointer none, .slice none 0 0, .slice none 0 0, .slice none 0 0, .slice none 0 0, .slice none 0 0] [(0,1,93),(1,1,29),(2,1,26),(3,2,97),(5,1,56)]:=by kernel_rfl
@[simp] theorem c3i:i5 Try.prog 112= .agg [.int .i64 0, .slice none 0 0, .slice none 0 0, .int .i64 0, .slice none 0 0, .slice none 0 0] [(0,4,25),(4,2,28)]:=by kernel_rfl
@[simp] theorem c3b:i5 Try.prog 117= .cell (.nilFunc):=by kernel_rfl
@[simp] theorem c3t:i5 Try.prog 126= .cell (.map none):=by kernel_rfl
@[simp] theorem c3s:i5 Try.prog 133= .slice 31:=by kernel_rfl
@[simp] theorem c3a:i5 Try.prog 140= .slice 42:=by kernel_rfl
@[simp] theorem c3Z:P8 Try.prog 22=false:=by kernel_rfl
@[simp] theorem c3F:P8 Try.prog 23=false:=by kernel_rfl
@[simp] theorem c3E:P8 Try.prog 26=false:=by kernel_rfl
@[simp] theorem c3W:P8 Try.prog 29=false:=by kernel_rfl
@[simp] theorem c3N:P8 Try.prog 35=false:=by kernel_rfl
@[simp] theorem c3G:P8 Try.prog 42=false:=by kernel_rfl
@[simp] theorem c3L:P8 Try.prog 44=false:=by kernel_rfl
@[simp] theorem c3T:P8 Try.prog 56=false:=by kernel_rfl
@[simp] theorem c3Y:P8 Try.prog 81=false:=by kernel_rfl
@[simp] theorem c3m:P8 Try.prog 133=false:=by kernel_rfl
@[simp] theorem c3x:P8 Try.prog 140=true:=by kernel_rfl
@[simp] theorem c3d:a6d Try.prog 49=some [.i .i64, .i .i64]:=by kernel_rfl
@[simp] theorem c3c:a6d Try.prog 92=some [.i .i64, .i .i64, .i .i64, .i .i64]:=by kernel_rfl
@[simp] theorem c3p:a7f Try.prog 100=some (false,[.i .i64], .int .i64 0):=by kernel_rfl
@[simp] theorem c3B:a7f Try.prog 126=some (false,[.i .i64], .bool false):=by kernel_rfl
theorem l9:Try.prog.follows .mixedOrders=true:=by kernel_rfl
end Go.AM
end
section
namespace Go.AM
def fr (ro:Option Nat):Fence:={Fence.wide with round:=ro}
theorem a1P {ro:Option Nat} {p:Prop}:(fr ro).depth.isSome=true→p:=by intro h;simp[fr,Fence.wide]at h
theorem a4d {ro:Option Nat} {n:Nat} {P:Program} {f:FuncId} {args:Array Value} {w:World} {R:Ending→World→Prop}:CallsIn (fr ro) n P f args w R↔Calls P f args w R:=callsIn_wide (n:=n)
theorem b3T {ro:Option Nat} {n:Nat} {P:Program} {row:String} {args:Array Value} {w:World} {R:Value→World→Prop} (h:Rows P row args w R):RowsIn (fr ro) n P row args w R:=
 fun c cs _=>let ⟨v,w',r,s⟩:=h c cs;⟨v,w',r,(stepsIn_wide (P:=P)).2 s⟩
def D0 (o:Oper):Bool:=match o.op with| .defer _=>false|_=>true
theorem a6H {o:Oper} (h:D0 o=true):∀c,o.op≠ .defer c:=by intro c e;simp[D0,e]at h
theorem a0E {ro:Option Nat} {n:Nat} {P:Program} {o:Oper} {a:Act} {w:World} {K:Act→World→Prop} {Q:Exit→Act→World→Prop} (hd:D0 o=true) (h:o.wp P a w K Q):o.wpIn (fr ro) n P a w K Q:=by
 refine⟨fun _ _=>trivial,?_⟩;rw[Oper.semAt_eq _ _ _ (a6H hd)];unfold Oper.wp at h;generalize (execOp a.eval o).run P w=r at h ⊢
 cases r with
 |ok x w'=>
  cases x with
  |value v=>exact h
  |skip=>exact h
  |defer d=>exact h
  |enter f args=>exact⟨a1P,a4d.2 (Calls.mono h (fun e w'' hh=>by cases e<;>exact hh))⟩
  |row r args=>exact⟨a1P,b3T h⟩
  |_=>exact h.elim
 |halt x w'=>cases x<;>first|exact h|exact h.elim
structure Jt:Type where
 make::
 rel:AV→(Nat→Prop)→(Nat→Prop)→World→Prop
 mark:Nat→Prop
def JOk (J:Jt):Prop:=∀y S0 O O' A A',J.rel y S0 O A→(∀b,S0 b→b<A.heap.size)→(∀b,O b→b<A.heap.size∧¬S0 b)→Ext O A A'→(∀b,O' b→b<A'.heap.size∧(O b∨A.heap.size≤b))→J.rel y S0 O' A'
def a9p (D:Nat):Deferred:={target:= .collected D,args:= #[]}
def a8f (J:Jt) (ds:List Deferred) (S0:Nat→Prop) (w:World):Prop:=
 ∃Ds:List Nat,ds=Ds.map a9p∧Ds.Nodup∧∀D∈Ds,S0 D∧J.mark D∧w.heap[D]?=some (.deferred (some []))
def a5A (a:Act):Act:={a with defers:=[]}
structure SG (J:Jt) (nt:Nat) (kp:List Nat) (kv:Nat→Value) (T:Tm) (H:Hp) (a:Act) (w:World):Prop where
 ex:∃S0 ρ L,M5 a1h S0 nt w ρ L (l6 T) (m6 H) (a5A a)∧(∀r,L r→r<H.length)∧J.rel (l6 T 999999) S0 (own ρ) w∧a8f J a.defers S0 w
 keep:∀t∈kp,a.tmps.getD t undef=kv t
theorem M5.owned {B S0:Nat→Prop} {nt:Nat} {w:World} {ρ:Nat→Option Loc} {L:Nat→Prop} {T:Nat→AV} {H:Nat→Option l7} {a:Act} (hc:M5 B S0 nt w ρ L T H a):∀b,own ρ b→b<w.heap.size∧¬S0 b:=by
 rintro b ⟨r,l,h1,h2⟩;exact⟨(hc.wf.own r l b h1 h2).1,(hc.wf.own r l b h1 h2).2.1⟩
theorem M5.inB {B B' S0:Nat→Prop} {nt:Nat} {w:World} {ρ:Nat→Option Loc} {L:Nat→Prop} {T:Nat→AV} {H:Nat→Option l7} {a:Act} (hc:M5 B S0 nt w ρ L T H a) (h1:∀b,own ρ b→B' b) (h2:∀b,w.heap.size≤b→B' b):M5 B' S0 nt w ρ L T H a:=
 ⟨⟨hc.wf.inj,fun r l b k1 k2=>⟨(hc.wf.own r l b k1 k2).1,(hc.wf.own r l b k1 k2).2.1,h1 b ⟨r,l,k1,k2⟩⟩,hc.wf.given,hc.wf.low,h2⟩,hc.size,hc.defers,hc.tmps,hc.rows,hc.dead⟩
theorem M5.foreign {S0 S0':Nat→Prop} {nt:Nat} {w w':World} {ρ:Nat→Option Loc} {L:Nat→Prop} {T:Nat→AV} {H:Nat→Option l7} {a:Act} (hc:M5 a1h S0 nt w ρ L T H a) (hs:w.heap.size≤w'.heap.size)
  (hsame:∀b,b<w.heap.size→¬S0 b→w'.heap[b]?=w.heap[b]?) (hS:∀b,S0' b→b<w'.heap.size∧(S0 b∨w.heap.size≤b)):M5 a1h S0' nt w' ρ L T H a:=by
 have hb:∀b,b<w.heap.size→¬Sx S0 ρ b→w'.heap[b]?=w.heap[b]?∧¬Sx S0' ρ b:=by
  intro b hlt hn;refine⟨hsame b hlt (fun h=>hn (Or.inl h)),?_⟩;rintro(h|h)
  ·rcases(hS b h).2 with h'|h'
   ·exact hn (Or.inl h')
   ·omega
  ·exact hn (Or.inr h)
 have hown:=hc.owned;refine⟨⟨hc.wf.inj,fun r l b k1 k2=>?_,hc.wf.given,fun b h=>(hS b h).1,fun _ _=>trivial⟩,hc.size,hc.defers,fun t=>(hc.tmps t).ext hs hb (fun r h=>h) (fun r l _ h=>h),fun r row hr=>?_,hc.dead⟩
 ·obtain⟨k3,k4⟩:=hown b ⟨r,l,k1,k2⟩;refine⟨Nat.lt_of_lt_of_le k3 hs,fun h=>?_,trivial⟩
  rcases(hS b h).2 with h'|h'
  ·exact k4 h'
  ·omega
 ·obtain⟨l,hl,hrow⟩:=hc.rows r row hr;refine⟨l,hl,hrow.ext hs hb (fun r h=>h) (fun r l _ h=>h) (fun b hb'=>?_)⟩;obtain⟨k3,k4⟩:=hown b ⟨r,l,hl,hb'⟩;exact hsame b k3 k4
theorem M5.sub {S0:Nat→Prop} {nt:Nat} {w:World} {ρ:Nat→Option Loc} {L:Nat→Prop} {T T':Tm} {H H':Hp} {a:Act} (hc:M5 a1h S0 nt w ρ L (l6 T) (m6 H) a) (hL:∀r,L r→r<H.length) (h:Sub nt T H T' H'):
  ∃ρ' L',M5 a1h S0 nt w ρ' L' (l6 T') (m6 H') a∧(∀r,L' r→r<H'.length)∧∀b,own ρ' b→own ρ b:=by
 obtain⟨⟨ρ',L',hc',hL'⟩,_⟩:=h w (fun b=>own ρ b∨w.heap.size≤b) S0 a w ⟨⟨ρ,L,hc.inB (fun b=>Or.inl) (fun b=>Or.inr),hL⟩,Ext.refl _ _⟩;refine⟨ρ',L',hc'.inB (fun _ _=>trivial) (fun _ _=>trivial),hL',?_⟩;rintro b ⟨r,l,h1,h2⟩;obtain⟨h3,_,h4⟩:=hc'.wf.own r l b h1 h2
 rcases h4 with h4|h4
 ·exact h4
 ·omega
def b9c (nt:Nat) (T:Tm) (H:Hp) (T':Tm) (H':Hp):Prop:=Sub nt T H T' H'∧l6 T' 999999=l6 T 999999
theorem SG.sub {J:Jt} (hJ:JOk J) {nt:Nat} {kp:List Nat} {kv:Nat→Value} {T T':Tm} {H H':Hp} {a:Act} {w:World} (hs:SG J nt kp kv T H a w) (h:b9c nt T H T' H'):SG J nt kp kv T' H' a w:=by
 obtain⟨⟨S0,ρ,L,hc,hL,hj,hm⟩,hk⟩:=hs;obtain⟨ρ',L',hc',hL',ho⟩:=hc.sub hL h.1;refine⟨⟨S0,ρ',L',hc',hL',?_,hm⟩,hk⟩;rw[h.2];exact hJ _ _ _ _ _ _ hj hc.wf.low hc.owned (Ext.refl _ _) (fun b hb=>⟨(hc'.owned b hb).1,Or.inl (ho b hb)⟩)
def J3 (kp:List Nat) (dsts:List (Option Tmp)):Bool:=dsts.all fun d=>match d with|none=>true|some d=> !kp.contains d
theorem V0 {kp:List Nat} {dsts:List (Option Tmp)} (h:J3 kp dsts=true) {d:Tmp} (hd:some d∈dsts):∀t∈kp,d≠t:=by
 intro t ht e;subst e;simp only[J3,List.all_eq_true]at h;have:=h _ hd;simp only[Bool.not_eq_true',List.contains_eq_mem,decide_eq_false_iff_not]at this;exact this ht
theorem SG.post {J:Jt} (hJ:JOk J) {nt:Nat} {kp:List Nat} {kv:Nat→Value} {T:Tm} {H:Hp} {a:Act} {w:World} {S0:Nat→Prop} {ρ:Nat→Option Loc} {L:Nat→Prop} (hc:M5 a1h S0 nt w ρ L (l6 T) (m6 H) (a5A a)) (hL:∀r,L r→r<H.length) (hj:J.rel (l6 T 999999) S0 (own ρ) w) (hm:a8f J a.defers S0 w) (hk:∀t∈kp,a.tmps.getD t undef=kv t)
  (hnt:nt≤999999) {e:Eff} {v:Value} {w':World} {ρ':Nat→Option Loc} {dst:Option Tmp} (hp:a3d a1h S0 w ρ L H.length e w' ρ' v)
  (hd:∀d,dst=some d→d<nt) (hkp:∀d,dst=some d→∀t∈kp,d≠t) (hin:W8 H e.ups) (ho:E2 e.ups=true):SG J nt kp kv (a1r T dst e.av) (a3g H e.ups) (a.put dst v) w':=by
 have hN:a2o L H.length e:=fun r hr _ h=>Nat.lt_irrefl _ (Nat.lt_of_le_of_lt hr (hL r h));refine⟨⟨S0,ρ',nL L e,?_,?_,?_,?_⟩,?_⟩
 ·have:=hc.step (dst:=dst) (T':=l6 (a1r T dst e.av)) (H':=m6 (a3g H e.ups)) hN hp hd (fun t=>B4 T dst e.av t) (fun k=>I2 e.ups H hin ho k);have e1:a5A (a.put dst v)=(a5A a).put dst v:=by cases dst<;>rfl
  rw[e1];exact this
 ·obtain⟨h1,h2⟩:=D3 e.ups H hin;rintro r (hr|⟨o',hr⟩)
  ·exact Nat.lt_of_lt_of_le (hL r hr) h1
  ·exact h2 r o' hr
 ·have hy:l6 (a1r T dst e.av) 999999=l6 T 999999:=by
   rw[B4,if_neg];intro e';exact absurd (hd 999999 e') (Nat.not_lt.2 hnt)
  rw[hy];refine hJ _ _ _ _ _ _ hj hc.wf.low hc.owned (hp.ext.mono (by rintro b hb ⟨r,l,o',_,h1,h2⟩;exact⟨r,l,h1,h2⟩)) ?_;rintro b ⟨r,l,h1,h2⟩;refine⟨(hp.wf.own r l b h1 h2).1,?_⟩
  rcases hp.only r l h1 with h3|⟨_,_,h3⟩
  ·exact Or.inl ⟨r,l,h3,h2⟩
  ·rcases h3 b h2 with h4|⟨r0,l0,q1,q2⟩
   ·exact Or.inr h4
   ·exact Or.inl ⟨r0,l0,q1,q2⟩
 ·obtain⟨Ds,h1,h2,h3⟩:=hm;have e1:(a.put dst v).defers=a.defers:=by cases dst<;>rfl
  rw[e1];refine⟨Ds,h1,h2,fun D hD=>⟨(h3 D hD).1,(h3 D hD).2.1,?_⟩⟩;rw[hp.ext.block D (hc.wf.low D (h3 D hD).1),(h3 D hD).2.2];rintro⟨r,l,o',_,q1,q2⟩;exact(hc.wf.own r l D q1 q2).2.1 (h3 D hD).1
 ·intro t ht;have hsz:a.tmps.size=nt:=hc.size;rw[a4Z a dst v t (by rw[hsz];exact hd),if_neg (fun e'=>hkp _ e' t ht rfl)];exact hk t ht
theorem SG.step {J:Jt} (hJ:JOk J) {P:Program} {ops:Array Oper} {o:Oper} {nt:Nat} {kp:List Nat} {kv:Nat→Value} {T:Tm} {H:Hp} {a:Act} {w:World} (hs:SG J nt kp kv T H a w) (hnt:nt≤999999) {e:Eff} (hst:a6B P ops o (l6 T) (m6 H) H.length e)
  (hd:∀d,o.dst=some d→d<nt) (hkp:∀d,o.dst=some d→∀t∈kp,d≠t) (hin:W8 H e.ups) (ho:E2 e.ups=true) {K:Act→World→Prop} {Q:Exit→Act→World→Prop}
  (hK:∀a' w',SG J nt kp kv (a1r T o.dst e.av) (a3g H e.ups) a' w'→K a' w'):if Region.wanted o (yielded ops a.tmps)then o.wp P a w K Q else K (a.put o.dst undef) w:=by
 obtain⟨⟨S0,ρ,L,hc,hL,hj,hm⟩,hk⟩:=hs;have hN:a2o L H.length e:=fun r hr _ h=>Nat.lt_irrefl _ (Nat.lt_of_le_of_lt hr (hL r h));exact hst a1h S0 a w ρ L hc.wf hN (fun t _=>hc.tmps t) (fun r _ row hr=>hc.rows r row hr) K Q (fun v w' ρ' hp=>hK _ _ (SG.post hJ hc hL hj hm hk hnt hp hd hkp hin ho))
def GWp (P:Program) (ro:Option Nat) (J:Jt) (nt:Nat) (kp:List Nat) (c:Code) (T:Tm) (H:Hp) (Q:Exit→Tm→Hp→Prop):Prop:=
 JOk J→∀kv a w,SG J nt kp kv T H a w→c.wpIn (fr ro) 0 P (fun e a' w'=>∃T' H',Q e T' H'∧SG J nt kp kv T' H' a' w') a w
section
variable {P:Program} {ro:Option Nat} {J:Jt} {nt:Nat} {kp:List Nat} {T:Tm} {H:Hp} {Q:Exit→Tm→Hp→Prop}
theorem p9 {c:Code} {T':Tm} {H':Hp} (hs:b9c nt T H T' H') (h:GWp P ro J nt kp c T' H' Q):GWp P ro J nt kp c T H Q:=
 fun hJ kv a w s=>h hJ kv a w (s.sub hJ hs)
theorem f6 (h:Q .normal T H):GWp P ro J nt kp .skip T H Q:=fun hJ kv a w hs=>wpIn_skip ⟨T,H,h,hs⟩
theorem j6 (h:Q .ret T H):GWp P ro J nt kp .ret T H Q:=fun hJ kv a w hs=>wpIn_ret ⟨T,H,h,hs⟩
theorem i6 {id:Nat} (h:Q (.exit id) T H):GWp P ro J nt kp (.exit id) T H Q:=fun hJ kv a w hs=>wpIn_exit ⟨T,H,h,hs⟩
theorem a4u {x y:Code} (h:GWp P ro J nt kp x T H (Q8 (fun T' H'=>GWp P ro J nt kp y T' H' Q) Q)):GWp P ro J nt kp (.seq x y) T H Q:=by
 intro hJ kv a w hs;refine wpIn_seq (wpIn_mono (h hJ kv a w hs) ?_);rintro e a' w' ⟨T',H',q,s⟩
 cases e with
 |normal=>exact q hJ kv a' w' s
 |exit id=>exact⟨T',H',q,s⟩
 |goto l=>exact⟨T',H',q,s⟩
 |ret=>exact⟨T',H',q,s⟩
 |panic c=>exact⟨T',H',q,s⟩
 |outgrown=>exact⟨T',H',q,s⟩
theorem b9 {x y:Code} (h:∀K:Tm→Hp→Prop,(∀T' H',GWp P ro J nt kp y T' H' Q→K T' H')→GWp P ro J nt kp x T H (Q8 K Q)):GWp P ro J nt kp (.seq x y) T H Q:=
 a4u (h _ fun _ _ h=>h)
theorem d7 {id:Nat} {c:Code} (h:GWp P ro J nt kp c T H (B9 id Q)):GWp P ro J nt kp (.block id c) T H Q:=by
 intro hJ kv a w hs;refine wpIn_block (wpIn_mono (h hJ kv a w hs) ?_);rintro e a' w' ⟨T',H',q,s⟩
 cases e with
 |exit k=>
  simp only[B9]at q;simp only[Exit.inBlock]
  split
  ·rename_i e;rw[if_pos e]at q;exact⟨T',H',q,s⟩
  ·rename_i e;rw[if_neg e]at q;exact⟨T',H',q,s⟩
 |normal=>exact⟨T',H',q,s⟩
 |goto l=>exact⟨T',H',q,s⟩
 |ret=>exact⟨T',H',q,s⟩
 |panic c=>exact⟨T',H',q,s⟩
 |outgrown=>exact⟨T',H',q,s⟩
theorem d9 {c:Operand} {x y:Code} {b:Bool} (hc:evT (l6 T) c= .v (.bool b)) (hx:b=true→GWp P ro J nt kp x T H Q) (hy:b=false→GWp P ro J nt kp y T H Q):GWp P ro J nt kp (.cond c x y) T H Q:=by
 intro hJ kv a w hs;have hv:a.eval c= .bool b:=by
  obtain⟨⟨S0,ρ,L,hc',_⟩,_⟩:=hs
  cases c with
  |tmp t=>
   have:=hc'.tmps t;simp only[evT]at hc;rw[hc]at this;exact m7 this
  |const v=>
   simp only[evT]at hc;have:=N9 (w:=w) (S:=fun _=>False) v;rw[hc]at this
   cases this
   rfl
  |global g=>simp only[evT]at hc;cases hc
  |func f=>simp only[evT]at hc;cases hc
 exact wpIn_cond_split hv (fun h=>hx h hJ kv a w hs) (fun h=>hy h hJ kv a w hs)
def a0v (R:Act→World→Prop):Exit→Act→World→Prop
 | .normal=>R
 |_=>fun _ _=>False
theorem a1c (hJ:JOk J) (hnt:nt≤999999) {ops:Array Oper} {dsts:List (Option Tmp)} (hd:∀j:Nat,dsts[j]?=(ops[j]?).map (·.dst)) (hkp:J3 kp dsts=true) {kv:Nat→Value} {QQ:Exit→Act→World→Prop} {K:Tm→Hp→Prop}
  (hK:∀T H a w,K T H→SG J nt kp kv T H a w→QQ .normal a w):∀(l:List Oper) (hl:∀o∈l,D0 o=true∧o.dst∈dsts) (T:Tm) (H:Hp) (a:Act) (w:World),X4 P nt dsts l T H K→SG J nt kp kv T H a w→wpListIn (fr ro) 0 P ops QQ l a w
 |[],_,T,H,a,w,h,hs=>hK T H a w h hs
 | o::rest,hl,T,H,a,w,h,hs=>by
  obtain⟨e,hst,h1,h2,h3,h4⟩:=G3 hd h (fun _=>trivial);have:=hs.step (K:=wpListIn (fr ro) 0 P ops QQ rest) (Q:=QQ) hJ hnt hst (fun d hd=>by rw[hd]at h1;exact h1) (fun d hd'=>V0 hkp (by rw[←hd'];exact(hl o (by simp)).2)) h2 h3
   (fun a' w' hs'=>a1c hJ hnt hd hkp hK rest (fun o ho=>hl o (by simp[ho])) _ _ a' w' h4 hs')
  unfold wpListIn
  split
  ·rename_i hw;rw[if_pos hw]at this;exact a0E (hl o (by simp)).1 this
  ·rename_i hw;rw[if_neg hw]at this;exact⟨fun _ _=>trivial,this⟩
theorem a3O {id:Nat} {l:List Oper} {dsts:List (Option Tmp)} (hd:l.map (·.dst)=dsts) (hnt:nt≤999999) (hkp:J3 kp dsts=true) (hnd:l.all D0=true) (h:X4 P nt dsts l T H (Q .normal)):GWp P ro J nt kp (.region id l.toArray false) T H Q:=by
 intro hJ kv a w hs;refine wpIn_region_lit ?_;refine a1c hJ hnt (ops:=l.toArray) (dsts:=dsts) (K:=Q .normal) (by intro j;rw[←hd];simp) hkp (fun T H a w q s=>⟨T,H,q,s⟩) l (fun o ho=>⟨List.all_eq_true.1 hnd o ho,by rw[←hd];exact List.mem_map_of_mem ho⟩) T H a w h hs
theorem b0L {ops:Array Oper} {R:Act→World→Prop} (hnd:∀o∈ops.toList,D0 o=true):∀(fuel:Nat) (listed:Array Bool) (a:Act) (w:World),wpAny P .any ops (a0v R) fuel listed a w→wpAnyIn (fr ro) 0 P .any ops (a0v R) fuel listed a w:=by
 intro fuel
 induction fuel with
 |zero=>intro listed a w h;exact h
 | succ fuel ih=>
  intro listed a w h;refine⟨h.1,fun i hi=>?_⟩;have h2:=h.2 i hi;unfold wpOp at h2;unfold wpOpIn
  split
  ·rename_i ho;rw[ho]at h2;exact ih _ _ _ h2
  ·rename_i o ho;rw[ho]at h2;simp only at h2
   split
   ·rename_i hw;rw[if_pos hw]at h2
    rcases h2 with h2|⟨_,⟨_,_,h2⟩⟩
    ·exact a0E (hnd o (by have:=Array.mem_of_getElem? ho;simpa using this)) (Oper.wp_mono (fun a w=>ih _ a w) h2)
    ·exact h2.elim
   ·rename_i hw;rw[if_neg hw]at h2;exact⟨fun _ _=>trivial,ih _ _ _ h2⟩
theorem b5y {c:Code} {α:Type} (st:α→Tm×Hp) (inv:α→Prop) (μ:α→Nat) (x0:α) (h0:inv x0) (hs0:b9c nt T H (st x0).1 (st x0).2)
  (round:∀x,inv x→GWp P ro J nt kp c (st x).1 (st x).2 (Q8 (fun T' H'=>∃y,inv y∧μ y<μ x∧b9c nt T' H' (st y).1 (st y).2) Q)):GWp P ro J nt kp (.loop c) T H Q:=by
 intro hJ kv a w hs b k cs hro hb hr;have key:∀n x a w,μ x=n→inv x→SG J nt kp kv (st x).1 (st x).2 a w→
   ∃e a' w',(∃T' H',Q e T' H'∧SG J nt kp kv T' H' a' w')∧ArrivesIn (Machine.fenced P (fr ro)) P (lone (b.atR a (.code c:: .inLoop c::k)) cs w) b k cs e a' w':=by
  intro n
  induction n using Nat.strongRecOn with
  | _ n ih=>
   intro x a w hn hI hst;obtain⟨e,a₁,w₁,⟨T1,H1,hq,hst1⟩,harr⟩:=round x hI hJ kv a w hst b (.inLoop c::k) cs hro hb hr
   cases e with
   |normal=>
    obtain⟨y,hy,hlt,hsub⟩:=hq;obtain⟨e₂,a₂,w₂,hq₂,harr₂⟩:=ih (μ y) (hn▸hlt) y a₁ w₁ rfl hy (hst1.sub hJ hsub);exact⟨e₂,a₂,w₂,hq₂, .of_steps (StepsIn.trans harr (.one (fenced_calm hb hr rfl) stepR_inLoop)) harr₂⟩
   |exit id=>exact⟨_,a₁,w₁,⟨T1,H1,hq,hst1⟩, .pass (x:= .inLoop c) rfl (fun _ _=> .inl (by simp)) harr⟩
   |goto l=>exact⟨_,a₁,w₁,⟨T1,H1,hq,hst1⟩, .pass (x:= .inLoop c) rfl (fun _ _=> .inl (by simp)) harr⟩
   |ret=>exact⟨_,a₁,w₁,⟨T1,H1,hq,hst1⟩, .pass (x:= .inLoop c) rfl (fun _ _=> .inl (by simp)) harr⟩
   |panic ch=>exact⟨_,a₁,w₁,⟨T1,H1,hq,hst1⟩, .pass (x:= .inLoop c) rfl (fun _ _=> .inl (by simp)) harr⟩
   |outgrown=>exact⟨_,a₁,w₁,⟨T1,H1,hq,hst1⟩, .pass (x:= .inLoop c) rfl (fun _ _=> .inl (by simp)) harr⟩
 obtain⟨e,a',w',hq,harr⟩:=key _ x0 a w rfl h0 (hs.sub hJ hs0);exact⟨e,a',w',hq, .of_steps (.one (fenced_calm hb hr rfl) stepR_loop) harr⟩
end
end Go.AM
namespace Go.AM
theorem a4F (a:Act) (d:Option Tmp) (v:Value):a5A (a.put d v)=(a5A a).put d v:=by cases d<;>rfl
theorem a0j (a:Act) (d:Option Tmp) (v:Value):(a.put d v).defers=a.defers:=by cases d<;>rfl
theorem a2m (a:Act) (d:Option Tmp) (v:Value) (t:Nat) (h:d≠some t):(a.put d v).tmps.getD t undef=a.tmps.getD t undef:=by
 cases d with
 |none=>rfl
 |some d=>simp only[Act.put,Array.getD_eq_getD_getElem?];rw[Array.getElem?_setIfInBounds_ne (fun e=>h (by rw[e]))]
theorem a5O {J:Jt} (hJ:JOk J) {S0:Nat→Prop} {nt:Nat} {w:World} {ρ:Nat→Option Loc} {L:Nat→Prop} {T:Nat→AV} {H:Nat→Option l7} {a:Act} (hc:M5 a1h S0 nt w ρ L T H (a5A a)) {y:AV} (hj:J.rel y S0 (own ρ) w) (hm:a8f J a.defers S0 w)
  {N:Nat} {e:Eff} {w':World} {ρ':Nat→Option Loc} {v:Value} (hp:a3d a1h S0 w ρ L N e w' ρ' v):J.rel y S0 (own ρ') w'∧a8f J a.defers S0 w':=by
 constructor
 ·refine hJ _ _ _ _ _ _ hj hc.wf.low hc.owned (hp.ext.mono (by rintro b hb ⟨r,l,o',_,h1,h2⟩;exact⟨r,l,h1,h2⟩)) ?_;rintro b ⟨r,l,h1,h2⟩;refine⟨(hp.wf.own r l b h1 h2).1,?_⟩
  rcases hp.only r l h1 with h3|⟨_,_,h3⟩
  ·exact Or.inl ⟨r,l,h3,h2⟩
  ·rcases h3 b h2 with h4|⟨r0,l0,q1,q2⟩
   ·exact Or.inr h4
   ·exact Or.inl ⟨r0,l0,q1,q2⟩
 ·obtain⟨Ds,h1,h2,h3⟩:=hm;refine⟨Ds,h1,h2,fun D hD=>⟨(h3 D hD).1,(h3 D hD).2.1,?_⟩⟩;rw[hp.ext.block D (hc.wf.low D (h3 D hD).1),(h3 D hD).2.2];rintro⟨r,l,o',_,q1,q2⟩;exact(hc.wf.own r l D q1 q2).2.1 (h3 D hD).1
theorem M5.stepb {S0:Nat→Prop} {nt:Nat} {w:World} {ρ:Nat→Option Loc} {L:Nat→Prop} {T T':Nat→AV} {H H':Nat→Option l7} {a:Act} (hc:M5 a1h S0 nt w ρ L T H (a5A a)) {N:Nat} {e:Eff} {w':World} {ρ':Nat→Option Loc} {v:Value} {dst:Option Tmp}
  (hN:a2o L N e) (hp:a3d a1h S0 w ρ L N e w' ρ' v) (hd:∀k,dst=some k→k<nt)
  (hT:∀t,T' t=if dst=some t then e.av else T t) (hH:∀k,(∀o,(k,o)∈e.ups→H' k=o)∧((∀o,(k,o)∉e.ups)→H' k=H k)):
  M5 a1h S0 nt w' ρ' (nL L e) T' H' (a5A (a.put dst v)):=by
 rw[a4F];exact hc.step hN hp hd hT hH
theorem b0s {F:Fence} {n:Nat} {P:Program} {o:Oper} {a:Act} {w:World} {K:Act→World→Prop} {Q Q':Exit→Act→World→Prop} (hq:∀e a w,Q e a w→Q' e a w) (h:o.wpIn F n P a w K Q):o.wpIn F n P a w K Q':=by
 refine⟨h.1,?_⟩;have h:=h.2;generalize (o.semAt F.round a.eval).run P w=r at h ⊢
 cases r with
 |ok x w'=>
  cases x with
  |enter f args=>exact⟨h.1,h.2.mono fun e w'' hh=>by cases e<;>first|exact hh|exact hq _ _ _ hh|(obtain⟨a,w,hh⟩:=hh;exact⟨a,w,hq _ _ _ hh⟩)⟩
  |round l f t asq bd=>exact⟨h.1,h.2.mono fun e w'' hh=>by cases e<;>first|exact hh|exact hq _ _ _ hh|(obtain⟨a,w,hh⟩:=hh;exact⟨a,w,hq _ _ _ hh⟩)⟩
  |_=>exact h
 |halt x w'=>cases x<;>first|exact hq _ _ _ h|exact h
theorem a4h {F:Fence} {n:Nat} {P:Program} {ops:Array Oper} {Q Q':Exit→Act→World→Prop} (hq:∀e a w,Q e a w→Q' e a w):∀(fuel:Nat) (listed:Array Bool) (a:Act) (w:World),wpAnyIn F n P .any ops Q fuel listed a w→wpAnyIn F n P .any ops Q' fuel listed a w:=by
 intro fuel
 induction fuel with
 |zero=>intro listed a w h;exact⟨h.1,hq _ _ _ h.2⟩
 | succ fuel ih=>
  intro listed a w h;refine⟨fun e=>hq _ _ _ (h.1 e),fun i hi=>?_⟩;have h2:=h.2 i hi;unfold wpOpIn at h2 ⊢
  split
  ·rename_i ho;rw[ho]at h2;exact ih _ _ _ h2
  ·rename_i o ho;rw[ho]at h2;simp only at h2
   split
   ·rename_i hw;rw[if_pos hw]at h2;exact b0s hq (Oper.wpIn_mono (fun a w=>ih _ a w) h2)
   ·rename_i hw;rw[if_neg hw]at h2;exact⟨h2.1,ih _ _ _ h2.2⟩
section
variable {P:Program} {nt:Nat} {dsts:List (Option Tmp)} {l:List Oper} {Ts:Nat→Tm} {Hs:Nat→Hp} {es:Nat→Eff} {J:Jt} {ro:Option Nat} {kp:List Nat}
theorem a8r (hJ:JOk J) (hnt:nt≤999999) {kp:List Nat} (hkp:J3 kp dsts=true) {kv:Nat→Value} (hlex:Lex P nt l.toArray dsts l Ts Hs es) (hdst:l.map (·.dst)=dsts)
    (hB:a3p l (l.zipIdx.map fun(p:Oper×Nat)=>E6 dsts p.1 (es p.2))=true) {Q:Exit→Act→World→Prop}
    (hQ:∀a w,SG J nt kp kv (Ts l.length) (Hs l.length) a w→Q .normal a w) {a:Act} {w:World} (hs:SG J nt kp kv (Ts 0) (Hs 0) a w):
    wpAny P .any l.toArray Q l.toArray.size (Array.replicate l.toArray.size false) a w:=by
  have hy:∀k,k≤l.length→l6 (Ts k) 999999=l6 (Ts 0) 999999:=by
    intro k
    induction k with
    |zero=>intro _;rfl
    | succ k ih=>
      intro hk;obtain⟨_,hdk,_,_,hts,_⟩:=hlex.ok k _ (List.getElem?_eq_getElem (by omega));rw[hts,B4,if_neg,ih (by omega)];intro e';rw[e']at hdk;exact absurd hdk (Nat.not_lt.2 hnt)
  have hmem:∀(i:Nat) o,l[i]?=some o→∀d,o.dst=some d→∀t∈kp,d≠t:=by
    intro i o ho d hd;refine V0 hkp ?_;rw[←hdst,←hd];exact List.mem_map_of_mem (List.mem_of_getElem? ho)
  obtain⟨hback,hconf⟩:=Bool.and_eq_true_iff.1 hB;simp only[List.all_eq_true,List.mem_range]at hconf;have htr:∀(k:Nat) o,l[k]?=some o→((l.zipIdx.map fun(p:Oper×Nat)=>E6 dsts p.1 (es p.2)).getD k ([],[]))=E6 dsts o (es k):=by
    intro k o hk;rw[List.getD_eq_getElem?_getD,List.getElem?_map,List.getElem?_zipIdx,hk];simp
  have hord:∀(j k:Nat) oj ok,j<k→l[j]?=some oj→l[k]?=some ok→(∃x,(x∈(E6 dsts oj (es j)).2∧x∈(E6 dsts ok (es k)).1)∨(x∈(E6 dsts ok (es k)).2∧x∈(E6 dsts oj (es j)).1))→
      ∀D,b0Y l.toArray D→D k=true→D j=true:=by
    intro j k oj ok hjk hj hk hx D hD hDk;have hkl:k<l.length:=(List.getElem?_eq_some_iff.1 hk).1;have h1:=hconf k hkl j hjk;rw[htr j oj hj,htr k ok hk]at h1;have hc:a0l (E6 dsts oj (es j)) (E6 dsts ok (es k))=true:=by
      simp only[a0l,Bool.or_eq_true,List.any_eq_true,List.contains_iff_mem];obtain⟨x,hx|hx⟩:=hx
      · exact Or.inl ⟨x,hx.1,hx.2⟩
      · exact Or.inr ⟨x,hx.1,hx.2⟩
    rw[hc]at h1;simp only[Bool.not_true,Bool.false_or]at h1;exact a3a hD l [] (by simp) (by simp) k j hDk h1
  have hlen : ∀i j,i≤j→j≤l.length→(Hs i).length≤(Hs j).length:=by
    intro i j hij
    induction j with
    | zero => intro _;have:i=0:=by omega
              subst this;exact Nat.le_refl _
    | succ j ih=>
      intro hj
      by_cases e:i=j+1
      · subst e;exact Nat.le_refl _
      · have hjl:j<l.length:=by omega
        obtain⟨_,_,hin,_,_,hh⟩:=hlex.ok j _ (List.getElem?_eq_getElem hjl);rw[hh];exact Nat.le_trans (ih (by omega) (by omega)) (D3 _ _ hin).1
  have hupl:∀k r o,k<l.length→(r,o)∈(es k).ups→r<(Hs (k+1)).length:=by
    intro k r o hk hm;obtain⟨_,_,hin,_,_,hh⟩:=hlex.ok k _ (List.getElem?_eq_getElem hk);rw[hh];exact(D3 _ _ hin).2 r o hm
  let vS:(Nat→Bool)→Nat→AV:=fun D t=>X3 D (wS l t) (fun k=>l6 (Ts k) t) l.length
  let vR:(Nat→Bool)→Nat→Option l7:=fun D r=>X3 D (wR es r) (fun k=>m6 (Hs k) r) l.length
  have keepS:∀t k,k<l.length→wS l t k=false→l6 (Ts (k+1)) t=l6 (Ts k) t:=by
    intro t k hk hw;have ho:=List.getElem?_eq_getElem hk;obtain⟨_,_,_,_,ht,_⟩:=hlex.ok k _ ho;rw[ht,B4,if_neg];intro e;rw[(a3t ho).2 e]at hw
    cases hw
  have keepR:∀r k,k<l.length→wR es r k=false→m6 (Hs (k+1)) r=m6 (Hs k) r:=by
    intro r k hk hw;obtain⟨_,_,hin,hon,_,hh⟩:=hlex.ok k _ (List.getElem?_eq_getElem hk);rw[hh];refine(I2 _ _ hin hon r).2 (fun o hm=>?_);rw[P5.2 ⟨o,hm⟩]at hw
    cases hw
  let Inv:(Nat→Bool)→Act→World→Prop:=fun D a w=>(∃S0 ρ L,M5 a1h S0 nt w ρ L (vS D) (vR D) (a5A a)∧(∀r,L r→r<(Hs 0).length∨∃k,k<l.length∧D k=true∧wR es r k=true)∧J.rel (l6 (Ts 0) 999999) S0 (own ρ) w∧a8f J a.defers S0 w)∧∀t∈kp,a.tmps.getD t undef=kv t
  have step :∀(D:Nat→Bool) (i:Nat) (o:Oper) (a:Act) (w:World) (K:Act→World→Prop),b0Y l.toArray D→b0Y l.toArray (fun k=>D k||k==i)→l[i]?=some o→D i=false→Inv D a w→
      (∀a' w',Inv (fun k=>D k||k==i) a' w'→K a' w')→if Region.wanted o (yielded l.toArray a.tmps)then o.wp P a w K Q else K (a.put o.dst undef) w:=by
    intro D i o a w K hD hD' ho hDi hinv hK;obtain⟨⟨S0,ρ,L,hc,hL,hj,hmk⟩,hkeep⟩:=hinv;have hil:i<l.length:=(List.getElem?_eq_some_iff.1 ho).1;obtain⟨hst,hdk,hin,hon,hts,hhs⟩:=hlex.ok i o ho;have ordS:∀t,2*t∈(E6 dsts o (es i)).1→∀k,k<l.length→wS l t k=true→(D k=true↔k<i):=by
      intro t ht k hk hw;have hok:=List.getElem?_eq_getElem hk;have hwd:=(a3t hok).1 hw;have hmem:2*t∈(E6 dsts l[k] (es k)).2:=by simp[E6,hwd,a8s]
      rcases Nat.lt_trichotomy k i with h|h|h
      · have:=hord k i _ o h hok ho ⟨2*t,Or.inl ⟨hmem,ht⟩⟩ _ hD' (by simp)
        simp only[Bool.or_eq_true,beq_iff_eq]at this;exact⟨fun _=>h,fun _=>this.resolve_right (by omega)⟩
      · subst h;simp[hDi]
      · refine⟨fun hDk=>?_,fun hlt=>by omega⟩
        have:=hord i k o _ h ho hok ⟨2*t,Or.inr ⟨hmem,ht⟩⟩ _ hD hDk;rw[hDi]at this;cases this
    have ordR:∀r,2*r+1∈(E6 dsts o (es i)).1→∀k,k<l.length→wR es r k=true→(D k=true↔k<i):=by
      intro r hr k hk hw;have hok:=List.getElem?_eq_getElem hk;obtain⟨q,hm⟩:=P5.1 hw;have hmem:2*r+1∈(E6 dsts l[k] (es k)).2:=by simp only[E6,List.mem_append];exact Or.inr (a2G hm)
      rcases Nat.lt_trichotomy k i with h|h|h
      · have:=hord k i _ o h hok ho ⟨2*r+1,Or.inl ⟨hmem,hr⟩⟩ _ hD' (by simp)
        simp only[Bool.or_eq_true,beq_iff_eq]at this;exact⟨fun _=>h,fun _=>this.resolve_right (by omega)⟩
      · subst h;simp[hDi]
      · refine⟨fun hDk=>?_,fun hlt=>by omega⟩
        have:=hord i k o _ h ho hok ⟨2*r+1,Or.inr ⟨hmem,hr⟩⟩ _ hD hDk;rw[hDi]at this;cases this
    have hdm:∀t,o.dst=some t→2*t∈(E6 dsts o (es i)).1:=by intro t ht;simp[E6,ht,a8s]
    have hum:∀r q,(r,q)∈(es i).ups→2*r+1∈(E6 dsts o (es i)).1:=by
      intro r q hm;simp only[E6,List.mem_append];exact Or.inr (Or.inr (Or.inr (Or.inr (a2G hm))))
    have hrm:∀r,r∈(es i).reads→2*r+1∈(E6 dsts o (es i)).1:=by
      intro r hm;simp only[E6,List.mem_append];exact Or.inr (Or.inr (Or.inr (Or.inl (a2T hm))))
    have hsm:∀t∈o.looksAt l.toArray,2*t∈(E6 dsts o (es i)).1:=by
      intro t ht;simp only[Oper.looksAt,List.mem_append,List.mem_filterMap]at ht;simp only[E6,List.mem_append]
      rcases ht with⟨x,hx,hxt⟩|ht
      · left
        cases x with
        |tmp t'=>simp only[Option.some.injEq]at hxt;subst hxt;exact a4l hx
        |_=>cases hxt
      · right;left
        cases hg:o.guard with
        |none=>rw[hg]at ht;cases ht
        | some g=>
          obtain⟨j,want⟩:=g;rw[hg]at ht;simp only[Option.mem_toList]at ht;simp only[a5l];have:dsts[j]?=some (some t):=by
            rw[←hdst,List.getElem?_map]
            cases hj:l[j]? with
            |none=>simp[hj]at ht
            |some oj=>simp[hj]at ht;simp[ht]
          rw[this];simp
    have vS_at:∀t,2*t∈(E6 dsts o (es i)).1→vS D t=l6 (Ts i) t:=fun t ht=>u7 l.length i (by omega) (keepS t) (ordS t ht);have vR_at:∀r,2*r+1∈(E6 dsts o (es i)).1→vR D r=m6 (Hs i) r:=fun r hr=>u7 l.length i (by omega) (keepR r) (ordR r hr);have hN:a2o L (Hs i).length (es i):=by
      rintro r hr ⟨q,hm⟩ hLN
      rcases hL r hLN with h|⟨k,hk,hDk,hw⟩
      · have:=hlen 0 i (by omega) (by omega);omega
      · have hlt:=(ordR _ (hum _ q hm) k hk hw).1 hDk
        obtain⟨q',hm'⟩:=P5.1 hw;have h1:=hupl k _ q' hk hm';have h2:=hlen (k+1) i (by omega) (by omega);omega
    have hnew:∀(wr:Nat→Bool),(∀k,k<l.length→wr k=true→(D k=true↔k<i))→∀k,k<l.length→wr k=true→((D k||k==i)=true↔k<i+1):=by
      intro wr h k hk hw;have:=h k hk hw;simp only[Bool.or_eq_true,beq_iff_eq,this];omega
    refine hst a1h S0 a w ρ L hc.wf hN (fun t ht=>by rw[←vS_at t (hsm t ht)];exact hc.tmps t) (fun r hr row hrow=>hc.rows r row (by rw[vR_at r (hrm r hr)];exact hrow)) K Q (fun v w' ρ' hp=>hK _ _ ⟨⟨S0,ρ',nL L (es i),M5.stepb hc hN hp (fun d hd=>by rw[hd]at hdk;exact hdk) (fun t=>?_) (fun r=>⟨fun q hm=>?_,fun hno=>?_⟩),?_,(a5O hJ hc hj hmk hp).1,by rw[a0j];exact(a5O hJ hc hj hmk hp).2⟩,fun t ht=>by rw[a2m a o.dst v t (fun e'=>hmem i o ho _ e' t ht rfl)];exact hkeep t ht⟩)
    · by_cases e:o.dst=some t
      · rw[if_pos e]
        have:=u7 (D:=fun k=>D k||k==i) (wr:=wS l t) (f:=fun k=>l6 (Ts k) t) l.length (i+1) (by omega) (keepS t) (hnew _ (ordS t (hdm t e)));show X3 _ _ _ _=_;rw[this,hts,B4,if_pos e]
      · rw[if_neg e]
        refine G8 _ (fun k hk hw=>?_);have:k≠i:=by rintro rfl;exact e ((a3t ho).1 hw)
        simp[this]
    · have:=u7 (D:=fun k=>D k||k==i) (wr:=wR es r) (f:=fun k=>m6 (Hs k) r) l.length (i+1) (by omega) (keepR r) (hnew _ (ordR r (hum r q hm)))
      show X3 _ _ _ _=_;rw[this,hhs];exact(I2 _ _ hin hon r).1 q hm
    · refine G8 _ (fun k hk hw=>?_)
      have:k≠i:=by rintro rfl;obtain⟨q,hm⟩:=P5.1 hw;exact hno q hm
      simp[this]
    · rintro r (hr|⟨q,hm⟩)
      · rcases hL r hr with h|⟨k,hk,hDk,hw⟩
        · exact Or.inl h
        · exact Or.inr ⟨k,hk,by simp[hDk],hw⟩
      · exact Or.inr ⟨i,hil,by simp,P5.2 ⟨q,hm⟩⟩
  have all : ∀ (fuel:Nat) (listed:Array Bool) (a:Act) (w:World),listed.size=l.length→listed.toList.count false=fuel→b0Y l.toArray (fun k=>listed.getD k false)→Inv (fun k=>listed.getD k false) a w→
      wpAny P .any l.toArray Q fuel listed a w:=by
    intro fuel;have done:∀(listed:Array Bool) (a:Act) (w:World),listed.size=l.length→b0Y l.toArray (fun k=>listed.getD k false)→Inv (fun k=>listed.getD k false) a w→Region.ready .any l.toArray listed=[]→Q .normal a w:=by
      intro listed a w hsz hD hinv hr;have hall:∀k,k<l.length→listed.getD k false=true:=by
        intro k
        induction k using Nat.strongRecOn with
        | _ k ih=>
          intro hk
          cases hv:listed.getD k false with
          |true=>rfl
          | false=>
            exfalso;have hmem:k∈Region.ready .any l.toArray listed:=by
              refine mem_ready.2 ⟨?_,l[k],by simp[hk],fun e he hb=>?_⟩
              · have hk':k<listed.size:=by omega
                simp only[Array.getD_eq_getD_getElem?,Array.getElem?_eq_getElem hk',Option.getD_some]at hv ⊢;exact hv
              · have:=a2N l 0 hback k l[k] (List.getElem?_eq_getElem hk) e he hb
                exact ih e.on (by omega) (by omega)
            rw[hr]at hmem;cases hmem
      obtain⟨⟨S0,ρ,L,hc,hL,hj,hmk⟩,hkeep⟩:=hinv;have eS:vS (fun k=>listed.getD k false)=l6 (Ts l.length):=by
        funext t
        exact u7 l.length l.length (Nat.le_refl _) (keepS t) (fun k hk _=>⟨fun _=>hk,fun _=>hall k hk⟩)
      have eR:vR (fun k=>listed.getD k false)=m6 (Hs l.length):=by
        funext r
        exact u7 l.length l.length (Nat.le_refl _) (keepR r) (fun k hk _=>⟨fun _=>hk,fun _=>hall k hk⟩)
      rw[eS,eR]at hc;refine hQ a w ⟨⟨S0,ρ,L,hc,fun r hr=>?_,by rw[hy _ (Nat.le_refl _)];exact hj,hmk⟩,hkeep⟩
      rcases hL r hr with h|⟨k,hk,_,hw⟩
      · exact Nat.lt_of_lt_of_le h (hlen 0 _ (by omega) (Nat.le_refl _))
      · obtain⟨q,hm⟩:=P5.1 hw
        exact Nat.lt_of_lt_of_le (hupl k r q hk hm) (hlen _ _ (by omega) (Nat.le_refl _))
    induction fuel with
    | zero=>
      intro listed a w hsz hcount hD hinv;have hr:Region.ready .any l.toArray listed=[]:=by
        apply List.eq_nil_iff_forall_not_mem.2;intro k hk;obtain⟨h1,o,ho,_⟩:=mem_ready.1 hk;have hkl:k<listed.size:=by rw[hsz];simpa using(Array.getElem?_eq_some_iff.1 ho).1
        simp only[Array.getD_eq_getD_getElem?,Array.getElem?_eq_getElem hkl,Option.getD_some]at h1;rw[List.count_eq_zero]at hcount;exact hcount (by rw[←h1];simp)
      exact⟨hr,done listed a w hsz hD hinv hr⟩
    | succ fuel ih=>
      intro listed a w hsz hcount hD hinv;refine⟨done listed a w hsz hD hinv,fun i hi=>?_⟩;obtain⟨h1,o,ho,hpre⟩:=mem_ready.1 hi;have ho':l[i]?=some o:=by simpa using ho
      have hil:i<l.length:=(List.getElem?_eq_some_iff.1 ho').1;have hils:i<listed.size:=by omega
      have hDi:listed.getD i false=false:=by
        simp only[Array.getD_eq_getD_getElem?,Array.getElem?_eq_getElem hils,Option.getD_some]at h1 ⊢;exact h1
      have eD:(fun k=>(listed.setIfInBounds i true).getD k false)=fun k=>listed.getD k false||k==i:=by
        funext k
        by_cases e:k=i
        · subst e
          simp[Array.getD_eq_getD_getElem?,Array.getElem?_setIfInBounds_self_of_lt hils]
        · rw[getD_set_ne false (fun h=>e h.symm)]
          simp[e]
      have hD':b0Y l.toArray (fun k=>listed.getD k false||k==i):=by
        intro k ok hok hk e he hb;simp only[Bool.or_eq_true,beq_iff_eq]at hk ⊢
        rcases hk with hk|rfl
        · exact Or.inl (hD k ok hok hk e he hb)
        · rw[ho]at hok
          simp only[Option.some.injEq]at hok;subst hok;exact Or.inl (hpre e he hb)
      have:=step (fun k=>listed.getD k false) i o a w (wpAny P .any l.toArray Q fuel (listed.setIfInBounds i true)) hD hD' ho' hDi hinv (fun a' w' hinv'=>ih _ a' w' (by simp[hsz]) (by
        rw[Array.toList_setIfInBounds,List.count_set (by simpa using hils),hcount];have:listed.toList[i]'(by simpa using hils)=false:=by
          simp only[Array.getD_eq_getD_getElem?,Array.getElem?_eq_getElem hils,Option.getD_some]at hDi;simpa using hDi
        simp[this]) (by rw[eD];exact hD') (by rw[eD];exact hinv'))
      unfold wpOp;simp only[ho]
      split
      · rename_i hw;rw[if_pos hw]at this;exact Or.inl this
      · rename_i hw;rw[if_neg hw]at this;exact this
  obtain⟨⟨S0,ρ,L,hc,hL,hj,hmk⟩,hkeep⟩:=hs;have e0:(fun k=>(Array.replicate l.toArray.size false).getD k false)=fun _=>false:=by
    funext k
    simp only[Array.getD_eq_getD_getElem?,Array.getElem?_replicate]
    split<;>rfl
  refine all _ _ a w (by simp) (by simp) ?_ ?_
  · rw[e0];intro k o _ h;cases h
  · rw[e0]
    refine⟨⟨S0,ρ,L,?_,fun r hr=>Or.inl (hL r hr),hj,hmk⟩,hkeep⟩;have eS:vS (fun _=>false)=l6 (Ts 0):=by
      funext t
      exact u7 l.length 0 (by omega) (keepS t) (fun k hk _=>by simp)
    have eR:vR (fun _=>false)=m6 (Hs 0):=by
      funext r
      exact u7 l.length 0 (by omega) (keepR r) (fun k hk _=>by simp)
    rw[eS,eR];exact hc
theorem SG.draw {kv:Nat→Value} {T:Tm} {H:Hp} {a:Act} {w:World} (hJ:JOk J) (hs:SG J nt kp kv T H a w) (n:Nat):SG J nt kp kv T H a {w with drawn:=n}:=by
 obtain⟨⟨S0,ρ,L,hc,hL,hj,Ds,h1,h2,h3⟩,hk⟩:=hs;exact⟨⟨S0,ρ,L,hc.foreign (Nat.le_refl _) (fun _ _ _=>rfl) (fun b hb=>⟨hc.wf.low b hb,Or.inl hb⟩),hL,hJ _ _ _ _ _ _ hj hc.wf.low hc.owned ((Ext.refl _ w).draw n) (fun b hb=>⟨(hc.owned b hb).1,Or.inl hb⟩),Ds,h1,h2,h3⟩,hk⟩
theorem o8 {id:Nat} {T:Tm} {H:Hp} {Q:Exit→Tm→Hp→Prop} (hm:P.follows .mixedOrders=true) (hd:l.map (·.dst)=dsts) (hnt:nt≤999999) (hkp:J3 kp dsts=true) (hnd:l.all D0=true)
  (h:∀K:Tm→Hp→List Tr→Prop,(∀T' H' tr,a3p l tr=true→Q .normal T' H'→K T' H' tr)→a1f P nt dsts l T H [] K):GWp P ro J nt kp (.region id l.toArray true) T H Q:=by
 intro hJ kv a w hs;have h':=h (fun T' H' tr=>a3p l tr=true∧Q .normal T' H') (fun _ _ _ h1 h2=>⟨h1,h2⟩);have hd':∀j:Nat,dsts[j]?=(l.toArray[j]?).map (·.dst):=by intro j;rw[←hd];simp
 obtain⟨Ts,Hs,es,t0,h0,hlex,hB,hQ⟩:=b4i hd' l T H [] h';refine wpIn_region_any hm ?_;have:=a8r hJ hnt hkp (kv:=kv) hlex hd (by simpa using hB) (Q:=a0v fun a' w'=>∃T' H',Q .normal T' H'∧SG J nt kp kv T' H' a' w') (fun a w hst=>⟨_,_,hQ,hst⟩) (a:=a) (w:={w with drawn:=w.drawn+1}) (by rw[t0,h0];exact hs.draw hJ _);have h2:=b0L (ro:=ro) (by intro o ho;exact List.all_eq_true.1 hnd o (by simpa using ho)) _ _ _ _ this;exact a4h (fun e a w h=>by cases e<;>first|exact h|exact h.elim) _ _ _ _ h2
end
end Go.AM
namespace Go.AM
def U7 (n:Nat):AV:= .may [false] (.v (.int .i64 n))
def b0v:AV:= .may [false] (.v (.bool false))
@[simp] theorem a9u (a b:Nat):(U7 a=U7 b)↔a=b:=by simp[U7];omega
theorem a8y (a:Nat):U7 a≠b0v:=by simp[U7,b0v]
def a0y (S0:Nat→Prop) (w w':World) (b:Nat):Prop:=S0 b∨(w.heap.size≤b∧b<w'.heap.size)
def b2h (P:Program) (l:Nat) (J:Jt) (xs:List (List AV)):Prop:=
 ∀ n x,xs[n]?=some x→∀(S0 O:Nat→Prop) (W:World) (vs:List Value),J.rel (U7 n) S0 O W→(∀b,S0 b→b<W.heap.size)→(∀b,O b→b<W.heap.size∧¬S0 b)→
  x.length=vs.length→(∀(i:Nat) c y,x[i]?=some c→vs[i]?=some y→q8 W (fun b=>S0 b∨O b) c y)→
  YieldAt Fence.wide 0 P l vs.toArray W fun e W'=>W.heap.size≤W'.heap.size∧(∀b,b<W.heap.size→¬S0 b→W'.heap[b]?=W.heap[b]?)∧
   ((e= .returned (.bool true)∧J.rel (U7 (n+1)) (a0y S0 W W') O W')∨(e= .returned (.bool false)∧J.rel b0v (a0y S0 W W') O W'))
def N2 (P:Program) (f:FuncId) (caps:List AV) (xs:List (List AV)):Prop:=
 (∀(w:World) (vs:Array Value),(callFunc f vs).run P w= .ok (.enter f vs) w)∧
 ∀ (S0:Nat→Prop) (w:World) (vs:List Value),(∀b,S0 b→b<w.heap.size)→caps.length=vs.length→(∀(i:Nat) c x,caps[i]?=some c→vs[i]?=some x→q8 w S0 c x)→
  ∀(l:Nat) (J:Jt),JOk J→(∀D,¬J.mark D)→b2h P l J xs→J.rel (U7 0) S0 (fun _=>False) w→
   Calls P f (#[.func (.yield l) #[] #[]]++vs.toArray) w fun e W'=>(∃v,e= .returned v)∧∃S' O',(∀b,S' b→b<W'.heap.size)∧(∀b,O' b→b<W'.heap.size∧¬S' b)∧(J.rel (U7 xs.length) S' O' W'∨J.rel b0v S' O' W')
def a9v (dsts:List (Option Tmp)) (o:Oper) (T:Nat→AV):Option (List Bool):=
 match o.guard with
 |none=>some []
 | some (j,want)=>match dsts[j]? with
  |some (some d)=>match b9X (T d)with
   |some (l,b)=>some (l++[b8W b want])
   |none=>none
  |_=>none
theorem a7y {ops:Array Oper} {o:Oper} {T:Nat→AV} {dsts:List (Option Tmp)} (hd:∀j:Nat,dsts[j]?=(ops[j]?).map (·.dst)) {m:List Bool} (h:a9v dsts o T=some m) {w:World} {S:Nat→Prop} {ρ:Nat→Option Loc} {L:Nat→Prop} {a:Act}
    (hl:∀t∈o.looksAt ops,k7 w S ρ L (T t) (a.tmps.getD t undef)):Region.wanted o (yielded ops a.tmps)=true↔m.all id=true:=by
  unfold a9v at h
  split at h
  · rename_i hg
    simp only[Option.some.injEq]at h;subst h;simp[Region.wanted,hg]
  · rename_i j want hg
    split at h
    · rename_i d hdj
      split at h
      · rename_i l b hgv
        simp only[Option.some.injEq]at h;subst h;have hdo:(ops[j]?).bind (·.dst)=some d:=by
          have:=hd j;rw[hdj]at this
          cases ho:ops[j]? with
          |none=>rw[ho]at this;cases this
          |some oj=>rw[ho]at this;simp only[Option.map_some,Option.some.injEq]at this;simp[this]
        have hrep:=hl d (by
          simp only[Oper.looksAt,List.mem_append]
          right
          rw[hg];simp[hdo])
        have hcell : ∀v,a.tmps.getD d undef=v→(∀bb,v= .bool bb→yielded ops a.tmps j=some bb)∧(v=undef→yielded ops a.tmps j=none):=by
          intro v hv;unfold yielded;rw[hdo];simp only[Option.bind_some]
          cases ht:a.tmps[d]? with
          |none=>simp[Array.getD_eq_getD_getElem?,ht]at hv;subst hv;simp[undef]
          | some u => simp[Array.getD_eq_getD_getElem?,ht]at hv;subst hv;constructor
                      · rintro bb rfl;rfl
                      · rintro rfl;rfl
        simp only[Region.wanted,hg];generalize hT:T d=td at hrep hgv;unfold b9X at hgv
        split at hgv
        · simp only[Option.some.injEq,Prod.mk.injEq]at hgv
          obtain⟨rfl,rfl⟩:=hgv;have:=(hcell _ rfl).1 _ (m7 hrep);rw[this];rename_i b'
          cases b'<;>cases want<;>simp[b8W]
        · simp only[Option.some.injEq,Prod.mk.injEq]at hgv
          obtain⟨rfl,rfl⟩:=hgv;rename_i l' b';have hcase:(l'.all id=true∧k7 w S ρ L (.v (.bool b')) (a.tmps.getD d undef))∨(l'.all id=false∧a.tmps.getD d undef=undef):=by
            generalize a.tmps.getD d undef=u at hrep
            cases hrep with
            | pure _ _ h=>cases h with
              |mayT _ _ _ ht h=>exact Or.inl ⟨ht, .pure _ _ h⟩
              |mayF _ _ hf=>exact Or.inr ⟨hf,rfl⟩
            |mayT _ _ _ ht h=>exact Or.inl ⟨ht,h⟩
            |mayF _ _ hf=>exact Or.inr ⟨hf,rfl⟩
          rcases hcase with⟨hl',hr⟩|⟨hl',hu⟩
          · have:=(hcell _ rfl).1 _ (m7 hr)
            rw[this,List.all_append,hl']
            cases b'<;>cases want<;>simp[b8W]
          · have:=(hcell _ rfl).2 hu
            rw[this,List.all_append,hl'];simp
        · cases hgv
      · cases h
    · cases h
def b7A (o:Oper) (T:Nat→AV):Option (List Operand×Nat×Operand):=
 match o.op with
 | .call c=>match c.callee with
  | .value x=>match (evT T x).strip with
   | .v (.func (.yield l) first caps)=>if first= #[]∧caps= #[]then some (c.args.toList,l,x)else none
   |_=>none
  |_=>none
 |_=>none
def yK (xs:List (List AV)) (n:Nat) (x:List AV) (K1 K2:Prop):Prop:=xs[n]?=some x∧K1∧K2
theorem b6b {xs:List (List AV)} {n:Nat} {x:List AV} {K1 K2:Prop} (h:xs[n]?=some x) (h1:K1) (h2:K2):yK xs n x K1 K2:=⟨h,h1,h2⟩
def b4I (P:Program) (l0:Nat) (xs:List (List AV)) (nt:Nat) (dsts:List (Option Tmp)):List Oper→Tm→Hp→(Tm→Hp→Prop)→Prop
 |[],T,H,K=>K T H
 | o ::rest,T,H,K=>match b7A o (l6 T)with
  | some (args,l,cx)=>match a9v dsts o (l6 T),o.dst with
   | some m,some d=>l=l0∧d<nt∧b0E m ((cx::args).map (evT (l6 T)))∧(args.map fun x=>(evT (l6 T) x).strip).all (AV.noRef 2)=true∧
     (m.all id=true→∃n,l6 T 999999=U7 n∧yK xs n (args.map fun x=>(evT (l6 T) x).strip)
      (b4I P l0 xs nt dsts rest (a1r (a1r T (some d) (b1i m (.v (.bool true)))) (some 999999) (U7 (n+1))) H K)
      (b4I P l0 xs nt dsts rest (a1r (a1r T (some d) (b1i m (.v (.bool false)))) (some 999999) b0v) H K))∧
     (m.all id=false→b4I P l0 xs nt dsts rest (a1r T (some d) (b1i m (.v (.bool true)))) H K)
   |_,_=>False
  |none=>a0t P dsts o (l6 T) (m6 H) H.length (ct (fun e=>b3G nt o.dst∧W8 H e.ups∧E2 e.ups=true∧b4I P l0 xs nt dsts rest (a1r T o.dst e.av) (a3g H e.ups) K) ⟨⟩)
theorem M5.put1 {S0:Nat→Prop} {nt:Nat} {w:World} {ρ:Nat→Option Loc} {L:Nat→Prop} {T:Tm} {H:Nat→Option l7} {a:Act} (hc:M5 a1h S0 nt w ρ L (l6 T) H a) {d:Tmp} (hd:d<nt) {x:AV} {v:Value} (hv:k7 w (Sx S0 ρ) ρ L x v):
  M5 a1h S0 nt w ρ L (l6 (a1r T (some d) x)) H (a.put (some d) v):=by
 refine⟨hc.wf,by simp[Act.put,hc.size],hc.defers,fun t=>?_,hc.rows,hc.dead⟩;rw[a4Z a (some d) v t (by rw[hc.size];intro k e;cases e;exact hd),B4]
 split
 ·exact hv
 ·exact hc.tmps t
theorem M5.putY {S0:Nat→Prop} {nt:Nat} {w:World} {ρ:Nat→Option Loc} {L:Nat→Prop} {T:Tm} {H:Nat→Option l7} {a:Act} (hc:M5 a1h S0 nt w ρ L (l6 T) H a) (hnt:nt≤999999) (x:AV):
  M5 a1h S0 nt w ρ L (l6 (a1r T (some 999999) (.may [false] x))) H a:=by
 refine⟨hc.wf,hc.size,hc.defers,fun t=>?_,hc.rows,hc.dead⟩;rw[B4]
 split
 ·rename_i e
  cases e
  have:a.tmps.getD 999999 undef=undef:=by
   rw[Array.getD_eq_getD_getElem?,Array.getElem?_eq_none (by rw[hc.size];exact hnt)];rfl
  rw[this];exact .mayF _ _ rfl
 ·exact hc.tmps t
section
variable {P:Program} {nt:Nat}
theorem a5u {o:Oper} {c:Call} {x:Operand} {l:Nat} (ho:o.op= .call c) (hcl:c.callee= .value x) (ev:Operand→Value) (hx:ev x= .func (.yield l) #[] #[]) (w:World):
  (execOp ev o).run P w=(Instr.yield l (c.args.map ev)).run P w:=by
 obtain⟨callee,args,ts⟩:=c;subst hcl;simp[execOp,ho,resolve,hx,invoke,go_sem]
theorem X9 {w:World} {S:Nat→Prop} {ρ:Nat→Option Loc} {L:Nat→Prop} {T:Nat→AV} {a:Act} (h:∀t,k7 w S ρ L (T t) (a.tmps.getD t undef)) (x:Operand):k7 w S ρ L (evT T x) (a.eval x):=by
 cases x with
 |tmp t=>exact h t
 |const v=>exact .pure _ _ (N9 v)
 |global g=>exact .pure _ _ (.v _)
 |func f=>exact .pure _ _ (.clo f [] [] rfl (by simp))
theorem SG.yielded {J:Jt} (hJ:JOk J) (hmk:∀D,¬J.mark D) (hnt:nt≤999999) {kp:List Nat} {kv:Nat→Value} {T:Tm} {H:Hp} {a:Act} {w w':World} {S0:Nat→Prop} {ρ:Nat→Option Loc} {L:Nat→Prop}
  (hc:M5 a1h S0 nt w ρ L (l6 T) (m6 H) (a5A a)) (hL:∀r,L r→r<H.length) (hm:a8f J a.defers S0 w) (hk:∀t∈kp,a.tmps.getD t undef=kv t) {d:Tmp} (hd:d<nt) (hkp:∀t∈kp,d≠t)
  (hs:w.heap.size≤w'.heap.size) (hsame:∀b,b<w.heap.size→¬S0 b→w'.heap[b]?=w.heap[b]?) {b:Bool} {m:List Bool} (hmm:m.all id=true) (y:AV) (hj:J.rel (.may [false] y) (a0y S0 w w') (own ρ) w'):
  SG J nt kp kv (a1r (a1r T (some d) (b1i m (.v (.bool b)))) (some 999999) (.may [false] y)) H (a.put (some d) (.bool b)) w':=by
 have hc1:=hc.foreign (S0':=a0y S0 w w') hs hsame (fun q hq=>by
  rcases hq with hq|hq
  ·exact⟨Nat.lt_of_lt_of_le (hc.wf.low q hq) hs,Or.inl hq⟩
  ·exact⟨hq.2,Or.inr hq.1⟩)
 refine⟨⟨a0y S0 w w',ρ,L,?_,hL,?_,?_⟩,fun t ht=>?_⟩
 ·have:=(hc1.put1 hd (x:=b1i m (.v (.bool b))) (v:= .bool b) (a5v hmm (.pure _ _ (.v _)))).putY hnt y;rw[a4F];exact this
 ·simp only[a1r,l6,if_true];exact hj
 ·rw[a0j];obtain⟨Ds,h1,h2,h3⟩:=hm
  cases Ds with
  |nil=>exact⟨[],h1,h2,by simp⟩
  |cons D Ds=>exact(hmk D (h3 D (by simp)).2.1).elim
 ·rw[a2m a (some d) _ t (fun e=>hkp t ht (Option.some.inj e))];exact hk t ht
theorem a3I {J:Jt} (hJ:JOk J) (hmk:∀D,¬J.mark D) {l0:Nat} {xs:List (List AV)} (hY:b2h P l0 J xs) (hnt:nt≤999999) {ops:Array Oper} {dsts:List (Option Tmp)} (hd:∀j:Nat,dsts[j]?=(ops[j]?).map (·.dst)) {kp:List Nat} (hkp:J3 kp dsts=true) {kv:Nat→Value} {QQ:Exit→Act→World→Prop} {K:Tm→Hp→Prop}
  (hK:∀T H a w,K T H→SG J nt kp kv T H a w→QQ .normal a w):∀(l:List Oper) (hl:∀o∈l,D0 o=true∧o.dst∈dsts) (T:Tm) (H:Hp) (a:Act) (w:World),b4I P l0 xs nt dsts l T H K→SG J nt kp kv T H a w→wpListIn (fr none) 0 P ops QQ l a w
 |[],_,T,H,a,w,h,hs=>hK T H a w h hs
 | o :: rest,hl,T,H,a,w,h,hs=>by
  have ih:∀T H a w,b4I P l0 xs nt dsts rest T H K→SG J nt kp kv T H a w→wpListIn (fr none) 0 P ops QQ rest a w:=fun T H a w h hs=>a3I hJ hmk hY hnt hd hkp hK rest (fun o ho=>hl o (by simp[ho])) T H a w h hs;have hkd:∀d,o.dst=some d→∀t∈kp,d≠t:=fun d hd'=>V0 hkp (by rw[←hd'];exact(hl o (by simp)).2);unfold b4I at h
  split at h
  ·rename_i args l cx hya
   split at h
   ·rename_i m d hm hdst;obtain⟨hl0,hdn,hok,hnr,hyes,hno⟩:=h;subst hl0;obtain⟨c,hop,hcl,hx,rfl⟩:∃c,o.op= .call c∧c.callee= .value cx∧(evT (l6 T) cx).strip= .v (.func (.yield l) #[] #[])∧args=c.args.toList:=by
     unfold b7A at hya
     split at hya
     ·rename_i c hop
      split at hya
      ·rename_i x hcl
       split at hya
       ·rename_i l' first caps hx
        split at hya
        ·rename_i hfc;simp only[Option.some.injEq,Prod.mk.injEq]at hya;obtain⟨rfl,rfl,rfl⟩:=hya;obtain⟨rfl,rfl⟩:=hfc;exact⟨c,hop,hcl,hx,rfl⟩
        ·cases hya
       ·cases hya
      ·cases hya
     ·cases hya
    obtain⟨⟨S0,ρ,L,hc,hL,hj,hmarks⟩,hk⟩:=hs;have hg:=a7y (a:=a) hd hm (fun t _=>hc.tmps t);unfold wpListIn
    split
    ·rename_i hw;have hmm:=hg.1 hw;obtain⟨n,hn,hxn,h1,h2⟩:=hyes hmm;rw[hn]at hj;have hxv:a.eval cx= .func (.yield l) #[] #[]:=by
      have:=L7 hmm (Y7 hok (List.mem_map_of_mem List.mem_cons_self)) (X9 (a:=a) hc.tmps cx);rw[hx]at this;exact m7 this
     have hreps:∀(i:Nat) cc y,(c.args.toList.map fun x=>(evT (l6 T) x).strip)[i]?=some cc→(c.args.toList.map a.eval)[i]?=some y→q8 w (fun b=>S0 b∨own ρ b) cc y:=by
      intro i cc y h1 h2;have hcc:=List.mem_of_getElem? h1;simp only[List.getElem?_map,Option.map_eq_some_iff]at h1 h2;obtain⟨z,h1,rfl⟩:=h1;obtain⟨z',h2,rfl⟩:=h2;rw[h1]at h2
      cases h2
      have hr:=L7 hmm (Y7 hok (List.mem_map_of_mem (List.mem_cons_of_mem _ (List.mem_of_getElem? h1)))) (X9 (a:=a) hc.tmps z);exact F5 2 _ _ (List.all_eq_true.1 hnr _ hcc) hr
     obtain⟨fn,tmps,assign,body,hrun,hround⟩:=hY n _ hxn S0 (own ρ) w (c.args.toList.map a.eval) hj hc.wf.low hc.owned (by simp) hreps;refine⟨fun _ _=>trivial,?_⟩;rw[Oper.semAt_eq _ _ _ (by rw[hop];intro c h;cases h),a5u hop hcl a.eval hxv w];have e1:(c.args.map a.eval)=(c.args.toList.map a.eval).toArray:=by apply Array.ext';simp
     rw[e1,hrun];refine⟨a1P,hround.mono ?_⟩;rintro e w' ⟨hs',hsame,⟨rfl,hj'⟩|⟨rfl,hj'⟩⟩
     ·show wpListIn (fr none) 0 P ops QQ rest (a.put o.dst (.bool true)) w';rw[hdst];exact ih _ _ _ _ h1 (SG.yielded hJ hmk hnt hc hL hmarks hk hdn (hkd d hdst) hs' hsame hmm _ hj')
     ·show wpListIn (fr none) 0 P ops QQ rest (a.put o.dst (.bool false)) w';rw[hdst];exact ih _ _ _ _ h2 (SG.yielded hJ hmk hnt hc hL hmarks hk hdn (hkd d hdst) hs' hsame hmm _ hj')
    ·rename_i hw;have hmm:m.all id=false:=by
      cases hh:m.all id with
      |false=>rfl
      |true=>exact absurd (hg.2 hh) hw
     refine⟨fun _ _=>trivial,?_⟩;rw[hdst];refine ih _ _ _ _ (hno hmm) ⟨⟨S0,ρ,L,?_,hL,?_,by rw[a0j];exact hmarks⟩,fun t ht=>?_⟩
     ·rw[a4F];exact hc.put1 hdn (a0k hmm)
     ·rw[B4,if_neg]
      ·exact hj
      ·intro e;cases e;exact absurd hdn (Nat.not_lt.2 hnt)
     ·rw[a2m a (some d) _ t (fun e=>hkd d hdst t ht (Option.some.inj e))];exact hk t ht
   ·exact h.elim
  ·obtain⟨e,hst,h1,h2,h3,h4⟩:=G3 hd h (fun _=>trivial);have:=hs.step (K:=wpListIn (fr none) 0 P ops QQ rest) (Q:=QQ) hJ hnt hst (fun d hd=>by rw[hd]at h1;exact h1) hkd h2 h3 (fun a' w' hs'=>ih _ _ a' w' h4 hs');unfold wpListIn
   split
   ·rename_i hw;rw[if_pos hw]at this;exact a0E (hl o (by simp)).1 this
   ·rename_i hw;rw[if_neg hw]at this;exact⟨fun _ _=>trivial,this⟩
theorem b0D {J:Jt} {kp:List Nat} {T:Tm} {H:Hp} {Q:Exit→Tm→Hp→Prop} (hmk:∀D,¬J.mark D) {l0:Nat} {xs:List (List AV)} (hY:b2h P l0 J xs) {id:Nat} {l:List Oper} {dsts:List (Option Tmp)} (hd:l.map (·.dst)=dsts) (hnt:nt≤999999) (hkp:J3 kp dsts=true) (hnd:l.all D0=true)
  (h:b4I P l0 xs nt dsts l T H (Q .normal)):GWp P none J nt kp (.region id l.toArray false) T H Q:=by
 intro hJ kv a w hs;refine wpIn_region_lit ?_;exact a3I hJ hmk hY hnt (ops:=l.toArray) (dsts:=dsts) (K:=Q .normal) (by intro j;rw[←hd];simp) hkp (fun T H a w q s=>⟨T,H,q,s⟩) l (fun o ho=>⟨List.all_eq_true.1 hnd o ho,by rw[←hd];exact List.mem_map_of_mem ho⟩) T H a w h hs
def c1f (xs:List (List AV)):Exit→Tm→Hp→Prop
 | .ret,T,_=>l6 T 999999=U7 xs.length∨l6 T 999999=b0v
 | .normal,T,_=>l6 T 999999=U7 xs.length∨l6 T 999999=b0v
 |_,_,_=>False
theorem N2.of_body {f : FuncId} {fn : Func} {c : Code} {caps : List AV} {xs : List (List AV)} (hf : P.funcs[f]? = some fn) (hb : fn.body = some c) (hname : (fn.name == "runtime.NumGoroutine") = false) (hnt : caps.length + 1 ≤ fn.ntmps) (hnt' : fn.ntmps ≤ 999999)
  (hres:fn.results.toList=[]) (h:∀(J:Jt) (l:Nat),(∀D,¬J.mark D)→b2h P l J xs→GWp P none J fn.ntmps [] c (a1y 0 (.v (.func (.yield l) #[] #[])::caps)++[(999999,U7 0)]) [] (c1f xs)):N2 P f caps xs:=by
 have hn' : ¬ fn.name = "runtime.NumGoroutine" := by simpa using hname
 refine⟨fun w vs=>by simp[callFunc,hf,hn',hb],?_⟩;intro S0 w vs hlow hlen hrep l J hJ hmk hY hj;refine callsIn_wide.1 (callsIn_of_wp (n:=0) (F:=Fence.wide) hf hb trivial ?_);have hargs: #[Value.func (.yield l) #[] #[]]++vs.toArray=(Value.func (.yield l) #[] #[]::vs).toArray:=by apply Array.ext';simp
 rw[hargs];obtain⟨us,hus⟩:∃us,us=Value.func (.yield l) #[] #[]::vs:=⟨_,rfl⟩;obtain⟨asq,has⟩:∃asq,asq=AV.v (.func (.yield l) #[] #[])::caps:=⟨_,rfl⟩;have hlen':asq.length=us.length:=by rw[hus,has];simp[hlen]
 have hrep':∀(i:Nat) c x,asq[i]?=some c→us[i]?=some x→q8 w S0 c x:=by
  intro i c x h1 h2;rw[has]at h1;rw[hus]at h2
  cases i with
  |zero=>simp only[List.getElem?_cons_zero,Option.some.injEq]at h1 h2;subst h1 h2;exact .v _
  |succ i=>exact hrep i c x (by simpa using h1) (by simpa using h2)
 have hasl:asq.length≤fn.ntmps:=by rw[has];simpa using hnt
 have hgw:=h J l hmk hY;rw[←has]at hgw;rw[←hus]
 let ρ:Nat→Option Loc:=fun _=>none
 have hS:∀b,Sx S0 ρ b↔S0 b:=by
  intro b;constructor
  ·rintro(h|⟨r,l,h1,_⟩)
   ·exact h
   ·cases h1
  ·exact Or.inl
 have hsize:us.toArray.size=asq.length:=by simp[hlen']
 have hst:SG J fn.ntmps [] (fun _=>undef) (a1y 0 asq++[(999999,U7 0)]) [] {tmps:=us.toArray++Array.replicate (fn.ntmps-us.toArray.size) undef,defers:=[]} w:=by
  have hlk:∀t,l6 (a1y 0 asq++[(999999,U7 0)]) t=if t=999999 then U7 0 else l6 (a1y 0 asq) t:=by
   have gen:∀(xs:List AV) (k t:Nat),k+xs.length≤999999→l6 (a1y k xs++[(999999,U7 0)]) t=if t=999999 then U7 0 else l6 (a1y k xs) t:=by
    intro xs
    induction xs with
    |nil=>intro k t _;simp[a1y,l6]
    |cons x xs ih=>
     intro k t hk;simp only[a1y,List.cons_append,l6];simp only[List.length_cons]at hk;rw[ih (k+1) t (by omega)]
     by_cases e:t=k
     ·subst e;rw[if_pos rfl,if_neg (by omega),if_pos rfl]
     ·rw[if_neg e,if_neg e]
   exact fun t=>gen asq 0 t (by omega)
  refine⟨⟨S0,ρ,fun _=>False,⟨⟨?_,?_,?_,hlow,fun b h=>trivial⟩,?_,rfl,?_,?_,?_⟩,fun r hr=>hr.elim,?_,[],rfl,List.nodup_nil,by simp⟩,by simp⟩
  ·intro r r' l l' b h1;cases h1
  ·intro r l b h1;cases h1
  ·intro r l h1;cases h1
  ·show(us.toArray++Array.replicate (fn.ntmps-us.toArray.size) undef).size=fn.ntmps;rw[Array.size_append,Array.size_replicate,hsize];omega
  ·intro t;rw[hlk]
   split
   ·rename_i e;subst e;have:(us.toArray++Array.replicate (fn.ntmps-us.toArray.size) undef).getD 999999 undef=undef:=by
     rw[Array.getD_eq_getD_getElem?,Array.getElem?_eq_none (by rw[Array.size_append,Array.size_replicate,hsize];omega)];rfl
    show k7 w _ _ _ _ ((us.toArray++Array.replicate (fn.ntmps-us.toArray.size) undef).getD 999999 undef);rw[this];exact .mayF _ _ rfl
   ·rw[Q6];simp only[Nat.zero_le,if_true,Nat.sub_zero]
    cases hx:asq[t]? with
    |none=>exact .pure _ _ (.any _)
    | some x=>
     have ht:t<asq.length:=(List.getElem?_eq_some_iff.1 hx).1;have ht':t<us.length:=by omega
     have m6:(us.toArray++Array.replicate (fn.ntmps-us.toArray.size) undef).getD t undef=us[t]:=by
      rw[Array.getD_eq_getD_getElem?,Array.getElem?_append_left (by simpa using ht')];simp[ht']
     show k7 w _ _ _ _ ((us.toArray++Array.replicate (fn.ntmps-us.toArray.size) undef).getD t undef);rw[m6];exact .pure _ _ ((hrep' t x _ hx (List.getElem?_eq_getElem ht')).ext (Nat.le_refl _) (fun b _ hn=>⟨rfl,fun k=>hn ((hS b).1 k)⟩))
  ·intro r row hr;cases r<;>cases hr
  ·intro r _;rfl
  ·rw[hlk];simp only[if_true];have e1:own ρ=fun _=>False:=by funext b;simp[own,ρ]
   rw[e1];exact hj
 refine wpIn_mono (hgw hJ (fun _=>undef) _ w hst) ?_;rintro e a' w' ⟨T',H',q,⟨⟨S1,ρ1,L1,hc1,hL1,hj1,Ds,hds,_,hDs⟩,_⟩⟩;have hfin:(l6 T' 999999=U7 xs.length∨l6 T' 999999=b0v)→a'.defers=[]∧∃v,(results fn a'.tmps).run P w'= .ok v w'∧(∃v',Ending.returned v= .returned v')∧∃S' O',(∀b,S' b→b<w'.heap.size)∧(∀b,O' b→b<w'.heap.size∧¬S' b)∧(J.rel (U7 xs.length) S' O' w'∨J.rel b0v S' O' w'):=by
  intro hq;refine⟨?_, .tuple #[],?_,⟨_,rfl⟩,S1,own ρ1,hc1.wf.low,hc1.owned,?_⟩
  ·cases Ds with
   |nil=>exact hds
   |cons D Ds=>exact(hmk D (hDs D (by simp)).2.1).elim
  ·have hrs:fn.results= #[]:=by apply Array.ext';simpa using hres
   unfold results;rw[hrs];simp
  ·rcases hq with hq|hq<;>rw[hq]at hj1
   ·exact Or.inl hj1
   ·exact Or.inr hj1
 cases e with
 |ret=>exact hfin q
 |normal=>exact hfin q
 |exit id=>exact q.elim
 |goto l=>exact q.elim
 |panic ch=>exact q.elim
 |outgrown=>exact q.elim
end
end Go.AM
namespace Go.AM
open Go.RowKit
def JR (top:Bool) (w0:World) (S0r:Nat→Prop) (hp:Nat→Option Obj) (B0:Nat→Prop):Jt:=
 {rel:=fun _ S0 O w=>(∀b,S0r b→S0 b∧b<w.heap.size∧w.heap[b]?=hp b)∧Ext B0 w0 w∧(∀b,O b→B0 b),mark:=fun D=>top=true∧w0.heap.size≤D}
def JC (top:Bool) (J:Jt):Prop:=∃w0 S0r hp B0,(∀b,w0.heap.size≤b→B0 b)∧(∀b,S0r b→b<w0.heap.size)∧J=JR top w0 S0r hp B0
theorem c2M {top:Bool} {w0:World} {S0r:Nat→Prop} {hp:Nat→Option Obj} {B0:Nat→Prop} (hB:∀b,w0.heap.size≤b→B0 b):JOk (JR top w0 S0r hp B0):=by
 rintro y S0 O O' A A' ⟨h1,h2,h3⟩ hlow hown hext hO;refine⟨fun b hb=>?_,h2.trans (hext.mono fun b _ h=>h3 b h),fun b hb=>?_⟩
 ·obtain⟨k1,k2,k3⟩:=h1 b hb;exact⟨k1,Nat.lt_of_lt_of_le k2 hext.size,(hext.block b k2 (fun h=>(hown b h).2 k1)).trans k3⟩
 ·rcases(hO b hb).2 with h|h
  ·exact h3 b h
  ·exact hB b (Nat.le_trans h2.size h)
theorem JC.ok {top:Bool} {J:Jt} (h:JC top J):JOk J:=by obtain⟨w0,S0r,hp,B0,h1,_,rfl⟩:=h;exact c2M h1
def a1d (nt:Nat) (inv:Nat→Prop) (hp:Nat→Hp) (T1:Tm) (Q:Exit→Tm→Hp→Prop) (n:Nat):Exit→Tm→Hp→Prop
 | .normal,T',H'=>inv (n+1)∧Sub nt T' H' T1 (hp (n+1))
 | .ret,T',H'=>∃Hs,Sub nt T' H' T1 Hs∧Q .ret T1 Hs
 | .exit id,T',H'=>∃Hs,Sub nt T' H' T1 Hs∧Q (.exit id) T1 Hs
 |_,_,_=>False
def a6z (K:Tm→Hp→Prop):Exit→Tm→Hp→Prop
 | .normal=>K
 |_=>fun _ _=>False
theorem U6:∀(l:List (Tmp×Value)) (t:Array Value),(l.foldl (fun t (p:Tmp×Value)=>t.setIfInBounds p.1 p.2) t).size=t.size
 |[],t=>rfl
 |(p,v)::l,t=>by simp only[List.foldl_cons];rw[U6 l];simp
theorem H8:∀(l:List (Tmp×Value)) (t:Array Value) (i:Nat),i∉l.map (·.1)→(l.foldl (fun t (p:Tmp×Value)=>t.setIfInBounds p.1 p.2) t).getD i undef=t.getD i undef
 |[],t,i,_=>rfl
 |(p,v)::l,t,i,h=>by
  simp only[List.map_cons,List.mem_cons,not_or]at h;simp only[List.foldl_cons];rw[H8 l _ i h.2];simp only[Array.getD_eq_getD_getElem?];rw[Array.getElem?_setIfInBounds_ne (fun e=>h.1 e.symm)]
theorem a1n:∀(l:List (Tmp×Value)) (t:Array Value) (p:Tmp) (v:Value),(l.map (·.1)).Nodup→(p,v)∈l→p<t.size→(l.foldl (fun t (p:Tmp×Value)=>t.setIfInBounds p.1 p.2) t).getD p undef=v
 | (q,u)::l,t,p,v,hn,hm,hp=>by
  simp only[List.map_cons,List.nodup_cons]at hn;simp only[List.foldl_cons]
  rcases List.mem_cons.1 hm with e|hm
  ·cases e
   rw[H8 l _ q hn.1];simp only[Array.getD_eq_getD_getElem?];rw[Array.getElem?_setIfInBounds_self_of_lt hp];rfl
  ·exact a1n l _ p v hn.2 hm (by simpa using hp)
theorem b0i {R:Nat→AV→Prop}:∀(ps:List Tmp) (x:List AV) (T:Tm) (t:Nat),(t∉ps→R t (l6 T t))→(∀(i:Nat) (p:Tmp) (c:AV),ps[i]?=some p→x[i]?=some c→R p c)→ps.length=x.length→R t (l6 (ps.zip x++T) t)
 |[],[],T,t,h,_,_=>by simpa using h
 |p::ps,c::x,T,t,h,hx,hl=>by
  simp only[List.zip_cons_cons,List.cons_append,l6]
  split
  ·rename_i e;subst e;exact hx 0 t c rfl rfl
  ·rename_i e;exact b0i ps x T t (fun hn=>h (by simp[e,hn])) (fun i p c h1 h2=>hx (i+1) p c h1 h2) (by simpa using hl)
section
variable {P:Program} {nt:Nat} {kp:List Nat} {T:Tm} {H:Hp} {Q:Exit→Tm→Hp→Prop}
theorem T4 {B:Nat→Prop} {w:World} {l:Nat} {o:Obj} (hB:B l) (hne:∀c t s,w.heap[l]?≠some (Obj.cells c t s)):Ext B w (w.putObj l o):=by
 refine⟨rfl,rfl,rfl,by simp,fun b hb hn=>World.putObj_heap_other (fun e=>hn (by rw[e];exact hB)),fun b c t s hc=>?_⟩
 by_cases e:b=l
 ·subst e;exact absurd hc (hne c t s)
 ·exact⟨c,t,s,(World.putObj_heap_other e).trans hc,rfl⟩
structure c1M (W1 w0 w:World) (S0 B0:Nat→Prop) (nt:Nat) (T1:Tm) (a:Act) (D l:Nat) (Hx:Hp) (rec:Loop) (Si O:Nat→Prop) (W:World) (Sc:Nat→Prop) (ρc:Nat→Option Loc) (Lc:Nat→Prop):Prop where
 core:M5 a1h Sc nt W ρc Lc (l6 T1) (m6 Hx) (a5A a)
 len:∀r,Lc r→r<Hx.length
 its:∀b,O b→Sc b∧W1.heap.size≤b
 mine:∀b,own ρc b→Si b∧B0 b
 foreign:∀b,(S0 b∨b=D∨b=l)→Sc b∧Si b
 within:∀b,Sc b→Si b∨O b
 record:W.heap[l]?=some (.loop rec)
 mark:W.heap[D]?=some (.deferred (some []))
 ext:Ext B0 w0 W
 size:W1.heap.size≤W.heap.size
 old:∀b,S0 b→W.heap[b]?=w.heap[b]?
theorem c1M.step {W1 w0 w:World} {S0 B0:Nat→Prop} {nt:Nat} {T1:Tm} {a:Act} {D l:Nat} {Hx:Hp} {rec:Loop} {Si O O':Nat→Prop} {A A':World} {Sc:Nat→Prop} {ρc:Nat→Option Loc} {Lc:Nat→Prop} (h:c1M W1 w0 w S0 B0 nt T1 a D l Hx rec Si O A Sc ρc Lc) (hB:∀b,W1.heap.size≤b→B0 b)
  (hlow:∀b,Si b→b<A.heap.size) (hown:∀b,O b→b<A.heap.size∧¬Si b) (hext:Ext O A A') (hO:∀b,O' b→b<A'.heap.size∧(O b∨A.heap.size≤b)):
  c1M W1 w0 w S0 B0 nt T1 a D l Hx rec Si O' A' (fun b=>(Sc b∧Si b)∨O' b) ρc Lc:=by
 have hk:∀b,Si b→A'.heap[b]?=A.heap[b]?:=fun b hb=>hext.block b (hlow b hb) (fun k=>(hown b k).2 hb);refine⟨h.core.foreign hext.size (fun b hb hn=>hext.block b hb (fun k=>hn (h.its b k).1)) ?_,h.len,?_,h.mine,?_,?_,?_,?_,?_,Nat.le_trans h.size hext.size,?_⟩
 ·rintro b (⟨h1,_⟩|h1)
  ·exact⟨Nat.lt_of_lt_of_le (h.core.wf.low b h1) hext.size,Or.inl h1⟩
  ·refine⟨(hO b h1).1,?_⟩
   rcases(hO b h1).2 with h2|h2
   ·exact Or.inl (h.its b h2).1
   ·exact Or.inr h2
 ·intro b hb;refine⟨Or.inr hb,?_⟩
  rcases(hO b hb).2 with h2|h2
  ·exact(h.its b h2).2
  ·exact Nat.le_trans h.size h2
 ·intro b hb;exact⟨Or.inl (h.foreign b hb),(h.foreign b hb).2⟩
 ·rintro b (⟨_,h1⟩|h1)
  ·exact Or.inl h1
  ·exact Or.inr h1
 ·rw[hk l (h.foreign l (Or.inr (Or.inr rfl))).2];exact h.record
 ·rw[hk D (h.foreign D (Or.inr (Or.inl rfl))).2];exact h.mark
 ·exact h.ext.trans (hext.mono fun b _ hb=>hB b (h.its b hb).2)
 ·intro b hb;rw[hk b (h.foreign b (Or.inl hb)).2];exact h.old b hb
theorem b2s {J:Jt} (hJC:JC true J) (T1:Tm) (kl:List Nat) (hp:Nat→Hp) (inv:Nat→Prop) {g:Operand} {ps:Array Tmp} {assign body:Code} {f:FuncId} {caps:List AV} {xs:List (List AV)} (hg:evT (l6 T) g= .clo f caps) (hnr:caps.all (AV.noRef 2)=true) (hic:N2 P f caps xs) (hnt:nt≤999999)
  (hps:ps.toList.Nodup) (hpl:∀p∈ps.toList,p<nt∧p∉kl) (hx:∀x∈xs,x.length=ps.size)
  (h0:inv 0) (hs0:Sub nt T H T1 (hp 0)) (hT1:∀t,t∉kl→l6 T1 t= .any)
  (round:∀n x,xs[n]?=some x→inv n→∀(l:Nat) (J1:Jt),JC false J1→GWp P (some l) J1 nt kl assign (ps.toList.zip x++T1) (hp n) (a6z fun T' H'=>∀J2:Jt,JC false J2→GWp P (some l) J2 nt kl body T' H' (a1d nt inv hp T1 Q n)))
  (done:inv xs.length→Q .normal T1 (hp xs.length)):GWp P none J nt kp (.rangeFunc g ps assign body) T H Q:=by
 intro hJ kv a w hs;obtain⟨w0,S0r,hp0,B0,hB0,hlow0,rfl⟩:=hJC;obtain⟨⟨S0,ρ,L,hc,hL,hj,hm⟩,hk⟩:=hs;obtain⟨ρ1,L1,hc1,hL1,ho1⟩:=hc.sub hL hs0;obtain⟨hj1,hj2,hj3⟩:=hj;have hgv:=X9 (a:=a) hc.tmps g;rw[hg]at hgv;obtain⟨vs,hgv,hlen,hcaps⟩:=C8 hgv;have hcp:∀(i:Nat) c x,caps[i]?=some c→vs[i]?=some x→q8 w (Sx S0 ρ) c x:=fun i c x h1 h2=>F5 2 _ _ (List.all_eq_true.1 hnr _ (List.mem_of_getElem? h1)) (hcaps i c x h1 h2);refine wpIn_rangeFunc (fun fn _=>?_);obtain⟨rec,hrec⟩:∃rec:LoopState→Option Code→Loop,rec=fun st pe=>{state:=st,pending:=pe,fn,tmps:=a.tmps,params:=ps,assign,body,defers:=w.heap.size}:=⟨_,rfl⟩;obtain⟨W1,hW1⟩:∃W1,(w.alloc (.deferred (some []))).alloc (.loop (rec .ready none))=W1:=⟨_,rfl⟩;have hsz1:W1.heap.size=w.heap.size+2:=by rw[←hW1];simp
 have hL1':W1.heap[w.heap.size+1]?=some (.loop (rec .ready none)):=by
  rw[←hW1];have:=World.alloc_heap_new (w.alloc (.deferred (some []))) (.loop (rec .ready none));rwa [World.size_alloc]at this
 have hK1:W1.heap[w.heap.size]?=some (.deferred (some [])):=by
  rw[←hW1];exact(Below.heap_alloc _ _ _ (by simp)).trans (World.alloc_heap_new w _)
 have hold1:∀b,b<w.heap.size→W1.heap[b]?=w.heap[b]?:=by
  intro b hb;rw[←hW1];exact(Below.heap_alloc _ _ _ (by simp;omega)).trans (Below.heap_alloc _ _ _ hb)
 have hext1:Ext (fun _=>False) w W1:=Ext.of_same (by rw[←hW1];rfl) (by rw[←hW1];rfl) (by rw[←hW1];rfl) (by omega) hold1;have hw01:w0.heap.size≤w.heap.size:=hj2.size;have hBW:∀b,w.heap.size≤b→B0 b:=fun b hb=>hB0 b (Nat.le_trans hw01 hb);have hevx:a.eval g= .func (.func f) #[] vs.toArray:=hgv;refine⟨w.heap.size+1,[a9p w.heap.size],W1,{target:= .fn (.func f) vs.toArray,args:= #[.func (.yield (w.heap.size+1)) #[] #[]]},W1,f,
  #[.func (.yield (w.heap.size+1)) #[] #[]]++vs.toArray,W1,?_,?_,fun _ _=>trivial,?_,a1P,?_⟩
 ·rw[←hW1,hrec];exact run_enterLoop_outer _ _ _ _ _
 ·simp only[resolve,hevx];simp[go_sem]
 ·have eg:=hic.1;simp[invoke,go_sem,eg]
 let B:=c1M W1 w0 w S0 B0 nt T1 a w.heap.size (w.heap.size+1)
 let Jit:Jt:=
  {rel:=fun y Si O W=>(∃n,y=U7 n∧inv n∧∃Sc ρc Lc,B (hp n) (rec .ready none) Si O W Sc ρc Lc)∨
    (y=b0v∧∃c Hs,((c= .ret∧Q .ret T1 Hs)∨∃id,c= .exit id∧Q (.exit id) T1 Hs)∧∃Sc ρc Lc,B Hs (rec .done (some c)) Si O W Sc ρc Lc),mark:=fun _=>False}
 have hBW1:∀b,W1.heap.size≤b→B0 b:=fun b hb=>hBW b (by omega);have hJit:JOk Jit:=by
  rintro y Si O O' A A' hr hlow hown hext hO
  rcases hr with⟨n,rfl,hi,Sc,ρc,Lc,hb⟩|⟨rfl,c,Hs,hq,Sc,ρc,Lc,hb⟩
  ·exact Or.inl ⟨n,rfl,hi,_,_,_,hb.step hBW1 hlow hown hext hO⟩
  ·exact Or.inr ⟨rfl,c,Hs,hq,_,_,_,hb.step hBW1 hlow hown hext hO⟩
 let Sit:Nat→Prop:=fun b=>S0 b∨own ρ b∨b=w.heap.size∨b=w.heap.size+1
 have hSitlow:∀b,Sit b→b<W1.heap.size:=by
  rintro b (h|h|h|h)
  ·have:=hc.wf.low b h;omega
  ·have:=(hc.owned b h).1;omega
  ·omega
  ·omega
 refine a4d.2 (Calls.mono (hic.2 Sit W1 vs hSitlow hlen ?_ (w.heap.size+1) Jit hJit (fun _ h=>h) ?_ ?_) ?_)
 ·intro i c x h1 h2;refine(hcp i c x h1 h2).ext hext1.size (fun b hb hn=>⟨hold1 b hb,?_⟩);rintro(h|h|h|h)
  ·exact hn (Or.inl h)
  ·exact hn (Or.inr h)
  ·omega
  ·omega
 ·
  intro n x hxn Si O W vs' hrel hlow howned hlen' hreps;obtain⟨hi,Sc,ρc,Lc,hb⟩:inv n∧∃Sc ρc Lc,B (hp n) (rec .ready none) Si O W Sc ρc Lc:=by
   rcases hrel with⟨n',e,hi,hb⟩|⟨e,_⟩
   ·rw[a9u]at e;subst e;exact⟨hi,hb⟩
   ·exact absurd e (a8y n)
  have hxl:x.length=ps.size:=hx x (List.mem_of_getElem? hxn);have hy:=run_yield (P:=P) (args:=vs'.toArray) hb.record (by simp only[hrec,List.size_toArray];omega);rw[hrec]at hy;refine⟨fn,_,assign,body,hy,roundIn_of_wpIn (F:=Fence.wide) trivial ?_⟩;obtain⟨tm,htm⟩:∃tm,tm=(ps.zip vs'.toArray).foldl (fun tmps (t,a)=>tmps.setIfInBounds t a) a.tmps:=⟨_,rfl⟩;have htm':tm=((ps.toList.zip vs').foldl (fun t (p:Tmp×Value)=>t.setIfInBounds p.1 p.2) a.tmps):=by rw[htm,←Array.foldl_toList];simp
  have hzip:∀p∈(ps.toList.zip vs').map (·.1),p∈ps.toList:=by
   intro p hp';obtain⟨q,hq,rfl⟩:=List.mem_map.1 hp';exact(List.of_mem_zip hq).1
  have hzl:(ps.toList.zip vs').map (·.1)=ps.toList:=by
   rw[List.map_fst_zip];simp;omega
  have hother:∀t,t∉ps.toList→tm.getD t undef=a.tmps.getD t undef:=by
   intro t ht;rw[htm'];exact H8 _ _ _ (by rw[hzl];exact ht)
  have hsize:tm.size=nt:=by rw[htm',U6];exact hc.size
  have hat:∀(i:Nat) p v,ps.toList[i]?=some p→vs'[i]?=some v→tm.getD p undef=v:=by
   intro i p v h1 h2;rw[htm'];refine a1n _ _ p v (by rw[hzl];exact hps) ?_ (by have:=hc.size;have h3:=(hpl p (List.mem_of_getElem? h1)).1;show p<a.tmps.size;rw[show a.tmps.size=nt from hc.size];exact h3);exact List.mem_of_getElem? (i:=i) (by rw[List.getElem?_zip_eq_some];exact⟨h1,h2⟩)
  show assign.wpIn (fr (some (w.heap.size+1))) 0 P _ {tmps:=(ps.zip vs'.toArray).foldl (fun tmps (t,a)=>tmps.setIfInBounds t a) a.tmps,defers:=[]} W;rw[←htm]
  let J1:Jt:=JR false W Sc (fun b=>W.heap[b]?) (fun b=>own ρc b∨W.heap.size≤b)
  have hJ1:JC false J1:=⟨W,Sc,_,_,fun b hb=>Or.inr hb,hb.core.wf.low,rfl⟩;have hsg:SG J1 nt kl (fun t=>a.tmps.getD t undef) (ps.toList.zip x++T1) (hp n) {tmps:=tm,defers:=[]} W:=by
   refine⟨⟨Sc,ρc,Lc,⟨hb.core.wf,hsize,rfl,fun t=>?_,hb.core.rows,hb.core.dead⟩,hb.len,⟨fun b h=>⟨h,hb.core.wf.low b h,rfl⟩,Ext.refl _ _,fun b h=>Or.inl h⟩,[],rfl,List.nodup_nil,by simp⟩,fun t ht=>?_⟩
   ·refine b0i (R:=fun t c=>k7 W (Sx Sc ρc) ρc Lc c (tm.getD t undef)) ps.toList x T1 t (fun ht=>?_) (fun i p c h1 h2=>?_) (by simp[hxl])
    ·rw[hother t ht];exact hb.core.tmps t
    ·obtain⟨v,hv⟩:∃v,vs'[i]?=some v:=⟨_,List.getElem?_eq_getElem (by have:=(List.getElem?_eq_some_iff.1 h2).1;omega)⟩;rw[hat i p v h1 hv];refine .pure _ _ ((hreps i c v h2 hv).ext (Nat.le_refl _) (fun b _ hn=>⟨rfl,?_⟩));rintro(h|h)
     ·exact hn (hb.within b h)
     ·exact hn (Or.inl (hb.mine b h).1)
   ·exact hother t (fun h=>(hpl t h).2 ht)
  refine wpIn_mono (round n x hxn hi (w.heap.size+1) J1 hJ1 hJ1.ok _ _ W hsg) ?_;rintro e a1 w1 ⟨T',H',q,s⟩
  cases e with
  | normal=>
   obtain⟨⟨S1,ρ1',L1',hc2,hL2,⟨hk1,hk2,hk3⟩,hmk1⟩,hkeep1⟩:=s;have hsW1:W.heap.size≤w1.heap.size:=hk2.size;have hlS:Sc (w.heap.size+1):=(hb.foreign _ (Or.inr (Or.inr rfl))).1;have hDS:Sc w.heap.size:=(hb.foreign _ (Or.inr (Or.inl rfl))).1;have hl1:w1.heap[w.heap.size+1]?=some (.loop (rec .ready none)):=(hk1 _ hlS).2.2.trans hb.record;have hbr:=run_beginRound (P:=P) hl1 (by rw[hrec]);refine⟨_,hbr,?_⟩;obtain⟨w2,hw2⟩:∃w2,w2=w1.putObj (w.heap.size+1) (.loop {rec .ready none with state:= .busy}):=⟨_,rfl⟩;rw[←hw2];have hsz2:w2.heap.size=w1.heap.size:=by rw[hw2];simp
   have hne2:∀b,b≠w.heap.size+1→w2.heap[b]?=w1.heap[b]?:=fun b hb=>by rw[hw2];exact World.putObj_heap_other hb
   have hl2:w2.heap[w.heap.size+1]?=some (.loop {rec .ready none with state:= .busy}):=by rw[hw2];exact World.putObj_heap_same (hk1 _ hlS).2.1
   have hc3:M5 a1h S1 nt w2 ρ1' L1' (l6 T') (m6 H') (a5A a1):=hc2.foreign (by omega) (fun b hb' hn=>hne2 b (fun e=>hn (by rw[e];exact(hk1 _ hlS).1))) (fun b h=>⟨by rw[hsz2];exact hc2.wf.low b h,Or.inl h⟩)
   let J2:Jt:=JR false w2 S1 (fun b=>w2.heap[b]?) (fun b=>own ρ1' b∨w2.heap.size≤b)
   have hJ2:JC false J2:=⟨w2,S1,_,_,fun b hb=>Or.inr hb,fun b h=>by rw[hsz2];exact hc2.wf.low b h,rfl⟩;have hmk2:a8f J2 a1.defers S1 w2:=by
    obtain⟨Ds,h1,h2,h3⟩:=hmk1
    cases Ds with
    |nil=>exact⟨[],h1,h2,by simp⟩
    |cons D Ds=>exact absurd (h3 D (by simp)).2.1.1 (by simp)
   have hsg2:SG J2 nt kl (fun t=>a.tmps.getD t undef) T' H' a1 w2:=
    ⟨⟨S1,ρ1',L1',hc3,hL2,⟨fun b h=>⟨h,by rw[hsz2];exact hc2.wf.low b h,rfl⟩,Ext.refl _ _,fun b h=>Or.inl h⟩,hmk2⟩,hkeep1⟩
   refine wpIn_mono (q J2 hJ2 hJ2.ok _ a1 w2 hsg2) ?_;rintro e a3 w3 ⟨T3,H3,q3,⟨⟨S3,ρ3,L3,hc4,hL4,⟨hn1,hn2,hn3⟩,_⟩,hkeep3⟩⟩;have hsz3:w2.heap.size≤w3.heap.size:=hn2.size;have hlS1:S1 (w.heap.size+1):=(hk1 _ hlS).1;have hl3:w3.heap[w.heap.size+1]?=some (.loop {rec .ready none with state:= .busy}):=(hn1 _ hlS1).2.2.trans hl2;have hbsize:=hb.size;have fin:∀(Hx:Hp),Sub nt T3 H3 T1 Hx→∀(st:LoopState) (pe:Option Code) (w4:World),w4=w3.putObj (w.heap.size+1) (.loop (rec st pe))→
     W.heap.size≤w4.heap.size∧(∀b,b<W.heap.size→¬Si b→w4.heap[b]?=W.heap[b]?)∧∃Sc ρc Lc,B Hx (rec st pe) (a0y Si W w4) O w4 Sc ρc Lc:=by
    intro Hx hsub st pe w4 hw4;obtain⟨ρ4,L4,hc5,hL5,ho4⟩:=hc4.sub hL4 hsub;have hsz4:w4.heap.size=w3.heap.size:=by rw[hw4];simp
    have hne4:∀b,b≠w.heap.size+1→w4.heap[b]?=w3.heap[b]?:=fun b hb=>by rw[hw4];exact World.putObj_heap_other hb
    have hl4:w4.heap[w.heap.size+1]?=some (.loop (rec st pe)):=by rw[hw4];exact World.putObj_heap_same (hn1 _ hlS1).2.1
    have hlSi:Si (w.heap.size+1):=(hb.foreign _ (Or.inr (Or.inr rfl))).2;have hunch:∀b,b<W.heap.size→¬Si b→w4.heap[b]?=W.heap[b]?:=by
     intro b hlt hnS;have e1:w1.heap[b]?=W.heap[b]?:=hk2.block b hlt (by
      rintro(h|h)
      ·exact hnS (hb.mine b h).1
      ·omega)
     have hne:b≠w.heap.size+1:=fun e=>hnS (by rw[e];exact hlSi);have e3:w3.heap[b]?=w2.heap[b]?:=hn2.block b (by omega) (by
      rintro(h|h)
      ·rcases hk3 b h with h'|h'
       ·exact hnS (hb.mine b h').1
       ·omega
      ·omega)
     rw[hne4 b hne,e3,hne2 b hne,e1]
    have hfor:∀b,Sc b→b≠w.heap.size+1→w4.heap[b]?=W.heap[b]?:=by
     intro b hS hne;have k1:=hk1 b hS;rw[hne4 b hne];refine((hn1 b k1.1).2.2).trans ?_;show w2.heap[b]?=_;rw[hne2 b hne];exact k1.2.2
    refine⟨by omega,hunch,fun b=>S3 b∧(a0y Si W w4 b∨O b),ρ4,L4,⟨?_,hL5,?_,?_,?_,fun b h=>h.2,hl4,?_,?_,by omega,?_⟩⟩
    ·have hcore:M5 a1h S3 nt w3 ρ4 L4 (l6 T1) (m6 Hx) (a5A a):=by
      refine⟨hc5.wf,hc.size,rfl,fun t=>?_,hc5.rows,hc5.dead⟩
      by_cases ht:t∈kl
      ·have h1:=hc5.tmps t;have h2:(a5A a3).tmps.getD t undef=a.tmps.getD t undef:=hkeep3 t ht;rw[h2]at h1;exact h1
      ·rw[hT1 t ht];exact .pure _ _ (.any _)
     refine hcore.foreign (by omega) (fun b hb' hn=>hne4 b (fun e=>hn (by rw[e];exact(hn1 _ hlS1).1))) (fun b h=>⟨by rw[hsz4];exact hc5.wf.low b h.1,Or.inl h.1⟩)
    ·intro b hO;have h1:=hb.its b hO;exact⟨⟨(hn1 b (hk1 b h1.1).1).1,Or.inr hO⟩,h1.2⟩
    ·intro b ho;have h3:=hc4.owned b (ho4 b ho)
     rcases hn3 b (ho4 b ho)with h|h
     ·rcases hk3 b h with h'|h'
      ·exact⟨Or.inl (hb.mine b h').1,(hb.mine b h').2⟩
      ·exact⟨Or.inr ⟨h',by omega⟩,hBW1 b (by omega)⟩
     ·exact⟨Or.inr ⟨by omega,by omega⟩,hBW1 b (by omega)⟩
    ·intro b h;have h1:=hb.foreign b h;exact⟨⟨(hn1 b (hk1 b h1.1).1).1,Or.inl (Or.inl h1.2)⟩,Or.inl h1.2⟩
    ·rw[hfor _ hDS (by omega)];exact hb.mark
    ·refine hb.ext.trans ((hk2.mono (fun b _ h=>?_)).trans (?_:Ext B0 w1 w4))
     ·rcases h with h|h
      ·exact(hb.mine b h).2
      ·exact hBW1 b (by omega)
     ·have e2:Ext B0 w1 w2:=by rw[hw2];exact T4 (hBW _ (by omega)) (by intro c t s h;rw[hl1]at h;cases h)
      have e4:Ext B0 w3 w4:=by rw[hw4];exact T4 (hBW _ (by omega)) (by intro c t s h;rw[hl3]at h;cases h)
      refine e2.trans ((hn2.mono (fun b _ h=>?_)).trans e4)
      rcases h with h|h
      ·rcases hk3 b h with h'|h'
       ·exact(hb.mine b h').2
       ·exact hBW1 b (by omega)
      ·exact hBW1 b (by omega)
    ·intro b h;have hlt:=hc.wf.low b h;rw[hfor b (hb.foreign b (Or.inl h)).1 (by omega)];exact hb.old b h
   cases e with
   | normal=>
    obtain⟨hi',hsub⟩:=q3;obtain⟨f1,f2,f3⟩:=fin _ hsub .ready none _ rfl;refine⟨_,_,run_endRound (P:=P) none hl3,?_⟩;have:∀W',W'=w3.putObj (w.heap.size+1) (.loop (rec .ready none))→W.heap.size≤W'.heap.size∧(∀b,b<W.heap.size→¬Si b→W'.heap[b]?=W.heap[b]?)∧
      ((Ending.returned (.bool true)= .returned (.bool true)∧Jit.rel (U7 (n+1)) (a0y Si W W') O W')∨(Ending.returned (.bool true)= .returned (.bool false)∧Jit.rel b0v (a0y Si W W') O W')):=by
     rintro W' rfl;exact⟨f1,f2,Or.inl ⟨rfl,Or.inl ⟨n+1,rfl,hi',f3⟩⟩⟩
    exact this _ (by rw[hrec];simp)
   | ret=>
    obtain⟨Hs,hsub,hq⟩:=q3;obtain⟨f1,f2,f3⟩:=fin _ hsub .done (some .ret) _ rfl;refine⟨_,_,run_endRound (P:=P) (some .ret) hl3,?_⟩;have:∀W',W'=w3.putObj (w.heap.size+1) (.loop (rec .done (some .ret)))→W.heap.size≤W'.heap.size∧(∀b,b<W.heap.size→¬Si b→W'.heap[b]?=W.heap[b]?)∧
      ((Ending.returned (.bool false)= .returned (.bool true)∧Jit.rel (U7 (n+1)) (a0y Si W W') O W')∨(Ending.returned (.bool false)= .returned (.bool false)∧Jit.rel b0v (a0y Si W W') O W')):=by
     rintro W' rfl;exact⟨f1,f2,Or.inr ⟨rfl,Or.inr ⟨rfl,_,Hs,Or.inl ⟨rfl,hq⟩,f3⟩⟩⟩
    exact this _ (by rw[hrec];simp)
   | exit id=>
    obtain⟨Hs,hsub,hq⟩:=q3;obtain⟨f1,f2,f3⟩:=fin _ hsub .done (some (.exit id)) _ rfl;refine⟨_,_,run_endRound (P:=P) (some (.exit id)) hl3,?_⟩;have:∀W',W'=w3.putObj (w.heap.size+1) (.loop (rec .done (some (.exit id))))→W.heap.size≤W'.heap.size∧(∀b,b<W.heap.size→¬Si b→W'.heap[b]?=W.heap[b]?)∧
      ((Ending.returned (.bool false)= .returned (.bool true)∧Jit.rel (U7 (n+1)) (a0y Si W W') O W')∨(Ending.returned (.bool false)= .returned (.bool false)∧Jit.rel b0v (a0y Si W W') O W')):=by
     rintro W' rfl;exact⟨f1,f2,Or.inr ⟨rfl,Or.inr ⟨rfl,_,Hs,Or.inr ⟨id,rfl,hq⟩,f3⟩⟩⟩
    exact this _ (by rw[hrec];simp)
   |goto t=>exact q3.elim
   |panic chain=>exact q3.elim
   |outgrown=>exact q3.elim
  |exit id=>exact q.elim
  |goto t=>exact q.elim
  |ret=>exact q.elim
  |panic chain=>exact q.elim
  |outgrown=>exact q.elim
 ·
  refine Or.inl ⟨0,rfl,h0,fun b=>S0 b∨b=w.heap.size∨b=w.heap.size+1,ρ1,L1,⟨hc1.foreign hext1.size (fun b hb _=>hold1 b hb) ?_,hL1,fun b h=>h.elim,fun b hb=>⟨Or.inr (Or.inl (ho1 b hb)),hj3 b (ho1 b hb)⟩,?_,?_,hL1',hK1,hj2.trans (hext1.mono fun b _ h=>h.elim),Nat.le_refl _,fun b hb=>hold1 b (hc.wf.low b hb)⟩⟩
  ·rintro b (h|h|h)
   ·have:=hc.wf.low b h;exact⟨by omega,Or.inl h⟩
   ·exact⟨by omega,Or.inr (by omega)⟩
   ·exact⟨by omega,Or.inr (by omega)⟩
  ·rintro b (h|h|h)
   ·exact⟨Or.inl h,Or.inl h⟩
   ·exact⟨Or.inr (Or.inl h),Or.inr (Or.inr (Or.inl h))⟩
   ·exact⟨Or.inr (Or.inr h),Or.inr (Or.inr (Or.inr h))⟩
  ·rintro b (h|h|h)
   ·exact Or.inl (Or.inl h)
   ·exact Or.inl (Or.inr (Or.inr (Or.inl h)))
   ·exact Or.inl (Or.inr (Or.inr (Or.inr h)))
 ·
  rintro e W2 ⟨⟨v,rfl⟩,S',O',hl',ho',hrel⟩;have fin:∀(Hx:Hp) (rc:Loop) (Sc:Nat→Prop) (ρc:Nat→Option Loc) (Lc:Nat→Prop),B Hx rc S' O' W2 Sc ρc Lc→∀o,SG (JR true w0 S0r hp0 B0) nt kp kv T1 Hx {a with defers:=[a9p w.heap.size]++a.defers} (W2.putObj (w.heap.size+1) o):=by
   intro Hx rc Sc ρc Lc hb o;obtain⟨w4,hw4⟩:∃w4,w4=W2.putObj (w.heap.size+1) o:=⟨_,rfl⟩;rw[←hw4];have hsz4:w4.heap.size=W2.heap.size:=by rw[hw4];simp
   have hne4:∀b,b≠w.heap.size+1→w4.heap[b]?=W2.heap[b]?:=fun b hb=>by rw[hw4];exact World.putObj_heap_other hb
   have hlS:Sc (w.heap.size+1):=(hb.foreign _ (Or.inr (Or.inr rfl))).1;obtain⟨Ds,hd1,hd2,hd3⟩:=hm;refine⟨⟨Sc,ρc,Lc,?_,hb.len,⟨?_,?_,fun b h=>(hb.mine b h).2⟩,w.heap.size::Ds,by simp[hd1],?_,?_⟩,hk⟩
   ·exact hb.core.foreign (by omega) (fun b hb' hn=>hne4 b (fun e=>hn (by rw[e];exact hlS))) (fun b h=>⟨by rw[hsz4];exact hb.core.wf.low b h,Or.inl h⟩)
   ·intro b h;obtain⟨k1,k2,k3⟩:=hj1 b h;refine⟨(hb.foreign b (Or.inl k1)).1,by have:=hb.size;omega,?_⟩;rw[hne4 b (by omega),hb.old b k1];exact k3
   ·rw[hw4];exact hb.ext.trans (T4 (hBW _ (by omega)) (by intro c t s h;rw[hb.record]at h;cases h))
   ·rw[List.nodup_cons];exact⟨fun h=>by have:=hc.wf.low _ (hd3 _ h).1;omega,hd2⟩
   ·intro D hD
    rcases List.mem_cons.1 hD with rfl|hD
    ·exact⟨(hb.foreign _ (Or.inr (Or.inl rfl))).1,⟨rfl,hw01⟩,by rw[hne4 _ (by omega)];exact hb.mark⟩
    ·obtain⟨k1,k2,k3⟩:=hd3 D hD;have:=hc.wf.low D k1;exact⟨(hb.foreign D (Or.inl k1)).1,k2,by rw[hne4 _ (by omega),hb.old D k1];exact k3⟩
  have hcase:(inv xs.length∧∃Sc ρc Lc,B (hp xs.length) (rec .ready none) S' O' W2 Sc ρc Lc)∨
    (∃c Hs,((c= .ret∧Q .ret T1 Hs)∨∃id,c= .exit id∧Q (.exit id) T1 Hs)∧∃Sc ρc Lc,B Hs (rec .done (some c)) S' O' W2 Sc ρc Lc):=by
   rcases hrel with hrel|hrel
   ·rcases hrel with⟨n',e,hi,hb⟩|⟨e,_⟩
    ·rw[a9u]at e;subst e;exact Or.inl ⟨hi,hb⟩
    ·exact absurd e (a8y _)
   ·rcases hrel with⟨n',e,hi,hb⟩|⟨_,h⟩
    ·exact absurd e.symm (a8y _)
    ·exact Or.inr h
  rcases hcase with⟨hi,Sc,ρc,Lc,hb⟩|⟨c,Hs,hq,Sc,ρc,Lc,hb⟩
  ·exact⟨none,_,by have:=run_endLoop (P:=P) hb.record (by rw[hrec];simp);rw[show(rec .ready none).pending=none by rw[hrec]]at this;exact this,T1,_,done hi,fin _ _ _ _ _ hb _⟩
  ·refine⟨some c,_,by have:=run_endLoop (P:=P) hb.record (by rw[hrec];simp);rw[show(rec .done (some c)).pending=some c by rw[hrec]]at this;exact this,?_⟩;have hsg:=fin _ _ _ _ _ hb
   rcases hq with⟨rfl,hq⟩|⟨id,rfl,hq⟩
   ·exact wpIn_ret ⟨T1,Hs,hq,hsg _⟩
   ·exact wpIn_exit ⟨T1,Hs,hq,hsg _⟩
theorem R5 {fn:Func} {tmps:Array Value} {R:Ending→World→Prop}:∀(Ds:List Nat) (w':World),Ds.Nodup→(∀D∈Ds,w'.heap[D]?=some (.deferred (some [])))→
  (∀w'',Ext (fun b=>b∈Ds) w' w''→w''.heap.size=w'.heap.size→∃v,(results fn tmps).run P w''= .ok v w''∧R (.returned v) w'')→LeavesInM Fence.wide 0 P fn tmps R (Ds.map a9p) .returning w'
 |[],w',_,_,h=>h w' (Ext.refl _ _) rfl
 |D::Ds,w',hn,hD,h=>by
  rw[List.nodup_cons]at hn;refine⟨by simp,Or.inl ⟨D,_,rfl,run_takeDeferred (hD D (by simp)),?_⟩⟩;refine R5 Ds _ hn.2 (fun D' hD'=>?_) (fun w'' hx hs=>h w'' ?_ ?_)
  ·rw[World.putObj_heap_other (fun e=>hn.1 (by rw[←e];exact hD'))];exact hD D' (by simp[hD'])
  ·exact(T4 (B:=fun b=>b∈D::Ds) (by simp) (by intro c t s h;rw[hD D (by simp)]at h;cases h)).trans (hx.mono fun b _ hb=>by simp[hb])
  ·rw[hs];simp
theorem a3y (xs:List AV) (t:Nat):l6 (a1y 0 xs) t=(xs[t]?).getD .any:=by rw[Q6];simp
theorem d6.of_bodyG {f : FuncId} {fn : Func} {c : Code} {args : List AV} {res : AV} (hf : P.funcs[f]? = some fn) (hb : fn.body = some c) (hname : (fn.name == "runtime.NumGoroutine") = false) (hnt : args.length ≤ fn.ntmps)
  (h:∀J:Jt,JC true J→GWp P none J fn.ntmps [] c (a1y 0 args) [] (c2K P fn.results.toList res)):d6 P f args res:=by
 have hn' : ¬ fn.name = "runtime.NumGoroutine" := by simpa using hname
 refine Or.inl ⟨fun w vs=>by simp[callFunc,hf,hn',hb],?_⟩;intro S0 w vs hlow hlen hrep;refine callsIn_wide.1 (callsIn_of_wp_marks (n:=0) (F:=Fence.wide) hf hb trivial ?_)
 let ρ:Nat→Option Loc:=fun _=>none
 have hS:∀b,Sx S0 ρ b↔S0 b:=by
  intro b;constructor
  ·rintro(h|⟨r,l,h1,_⟩)
   ·exact h
   ·cases h1
  ·exact Or.inl
 have hsize:vs.toArray.size=args.length:=by simp[hlen]
 let J:Jt:=JR true w S0 (fun b=>w.heap[b]?) (fun b=>w.heap.size≤b)
 have hJ:JC true J:=⟨w,S0,_,_,fun b h=>h,hlow,rfl⟩;have hst:SG J fn.ntmps [] (fun _=>undef) (a1y 0 args) [] {tmps:=vs.toArray++Array.replicate (fn.ntmps-vs.toArray.size) undef,defers:=[]} w:=by
  refine⟨⟨S0,ρ,fun _=>False,⟨⟨?_,?_,?_,hlow,fun b h=>trivial⟩,?_,rfl,?_,?_,?_⟩,fun r hr=>hr.elim,⟨fun b h=>⟨h,hlow b h,rfl⟩,Ext.refl _ _,?_⟩,[],rfl,List.nodup_nil,by simp⟩,by simp⟩
  ·intro r r' l l' b h1;cases h1
  ·intro r l b h1;cases h1
  ·intro r l h1;cases h1
  ·show(vs.toArray++Array.replicate (fn.ntmps-vs.toArray.size) undef).size=fn.ntmps;rw[Array.size_append,Array.size_replicate,hsize];omega
  ·intro t;rw[a3y]
   cases hx:args[t]? with
   |none=>exact .pure _ _ (.any _)
   | some x=>
    have ht:t<args.length:=(List.getElem?_eq_some_iff.1 hx).1;have ht':t<vs.length:=by omega
    have m6:(vs.toArray++Array.replicate (fn.ntmps-vs.toArray.size) undef).getD t undef=vs[t]:=by
     rw[Array.getD_eq_getD_getElem?,Array.getElem?_append_left (by simpa using ht')];simp[ht']
    show k7 w _ _ _ _ ((vs.toArray++Array.replicate (fn.ntmps-vs.toArray.size) undef).getD t undef);rw[m6];exact .pure _ _ ((hrep t x _ hx (List.getElem?_eq_getElem ht')).ext (Nat.le_refl _) (fun b _ hn=>⟨rfl,fun k=>hn ((hS b).1 k)⟩))
  ·intro r row hr;cases r<;>cases hr
  ·intro r _;rfl
  ·rintro b ⟨r,l,h1,_⟩;cases h1
 refine wpIn_mono (h J hJ hJ.ok (fun _=>undef) _ w hst) ?_;rintro e a' w' ⟨T',H',q,⟨⟨S1,ρ1,L1,hc1,hL1,⟨hj1,hj2,hj3⟩,Ds,hds,hnd,hDs⟩,_⟩⟩;have hfin:(C2 P T' H' fn.results.toList fun xs=>V9 H' 6 (n6 xs)=res)→LeavesInM Fence.wide 0 P fn a'.tmps (fun e w'=>∃v,e= .returned v∧q8 w' S0 res v∧Ext (fun _=>False) w w') a'.defers .returning w':=by
  intro hr;rw[hds];refine R5 Ds w' hnd (fun D hD=>(hDs D hD).2.2) (fun w'' hx hsz=>?_);have hc2:M5 a1h S1 fn.ntmps w'' ρ1 L1 (l6 T') (m6 H') (a5A a'):=hc1.foreign hx.size (fun b hb hn=>hx.block b hb (fun hD=>hn (hDs b hD).1)) (fun b hb=>⟨by rw[hsz];exact hc1.wf.low b hb,Or.inl hb⟩);obtain⟨xs,vs',h1,h2,h3,h4,h5⟩:=I4 hc2 fn.results.toList _ hr;have hm:(fn.results.mapM fun(x:ResultVar)=>(match x with
    | .tmp t=>pure (a'.tmps.getD t undef)
    | .cell ad t=>do loadVar t (←asAddr (a'.tmps.getD ad undef)):Sem Value)).run P w''= .ok vs'.toArray w'':=by
   rw[Array.mapM_eq_mapM_toList,Sem.run_map];have h1':(fn.results.toList.mapM fun(x:ResultVar)=>(match x with
    | .tmp t=>pure (a'.tmps.getD t undef)
    | .cell ad t=>do loadVar t (←asAddr (a'.tmps.getD ad undef)):Sem Value)).run P w''= .ok vs' w'':=h1
   rw[h1'];rfl
  have hrun:(results fn a'.tmps).run P w''= .ok (if h:vs'.toArray.size=1 then vs'.toArray[0]else .tuple vs'.toArray) w'':=by
   unfold results;rw[Sem.run_bind];exact congrArg (fun(r:Result (Array Value))=>r.andThen fun a w'=>Sem.run P (pure (if h:a.size=1 then a[0]else Value.tuple a)) w') hm
  refine⟨_,hrun,_,rfl,?_,?_⟩
  ·have hfz:q8 w'' S1 res (if h:vs'.toArray.size=1 then vs'.toArray[0]else .tuple vs'.toArray):=by
    rw[←h5];refine a9F hc2.wf hc2.rows 6 _ _ ?_
    match xs,vs',h2,h3 with
    |[],[],_,_=>simp only[n6];rw[dif_neg (by simp)];exact .tup [] [] rfl (by simp)
    |[x],[v],_,h3=>simp only[n6];rw[dif_pos (by simp)];exact h3 0 x v rfl rfl
    |x::y::xs,v::u::vs',h2,h3=>simp only[n6];rw[dif_neg (by simp)];exact .tup _ (v::u::vs') h2 h3
   exact hfz.ext (Nat.le_refl _) (fun b _ hn=>⟨rfl,fun hb=>hn (hj1 b hb).1⟩)
  ·refine Ext.of_same (hx.os.trans hj2.os) (hx.tape.trans hj2.tape) (hx.output.trans hj2.output) (Nat.le_trans hj2.size hx.size) fun b hb=>?_;rw[hx.block b (Nat.lt_of_lt_of_le hb hj2.size) (fun hD=>?_),hj2.block b hb (by omega)];have:=(hDs b hD).2.1.2;omega
 cases e with
 |ret=>exact hfin q
 |normal=>exact hfin q
 |exit id=>exact q.elim
 |goto l=>exact q.elim
 |panic ch=>exact q.elim
 |outgrown=>exact q.elim
end
end Go.AM
namespace Go.AM
attribute [simp] b4I a9v b7A a6z a1d c1f
@[simp] theorem c1H (g:List (Option Nat)) (n k:Nat):m9 g (n+1) (U7 k)=U7 k:=by cases n<;>rfl
section
variable {P:Program} {ro:Option Nat} {J:Jt} {nt:Nat} {kp:List Nat} {l:List Oper} {dsts:List (Option Tmp)} {T:Tm} {H:Hp} {Q:Exit→Tm→Hp→Prop} {id:Nat} {y c:Code}
theorem c1h (hd:l.map (·.dst)=dsts) (hnt:nt≤999999) (hkp:J3 kp dsts=true) (hnd:l.all D0=true) (h:∀K:Tm→Hp→Prop,(∀T' H',GWp P ro J nt kp y T' H' Q→K T' H')→X4 P nt dsts l T H K):GWp P ro J nt kp (.seq (.region id l.toArray false) y) T H Q:=
 a4u (a3O hd hnt hkp hnd (h _ fun _ _ h=>h))
theorem c2C (hd:l.map (·.dst)=dsts) (hnt:nt≤999999) (hkp:J3 kp dsts=true) (hnd:l.all D0=true) (h:∀K:Tm→Hp→Prop,(∀T' H',Q .normal T' H'→K T' H')→X4 P nt dsts l T H K):GWp P ro J nt kp (.region id l.toArray false) T H Q:=
 a3O hd hnt hkp hnd (h _ fun _ _ h=>h)
theorem w9 (hm:P.follows .mixedOrders=true) (hd:l.map (·.dst)=dsts) (hnt:nt≤999999) (hkp:J3 kp dsts=true) (hnd:l.all D0=true)
  (h:∀K:Tm→Hp→List Tr→Prop,(∀T' H' tr,a3p l tr=true→GWp P ro J nt kp y T' H' Q→K T' H' tr)→a1f P nt dsts l T H [] K):GWp P ro J nt kp (.seq (.region id l.toArray true) y) T H Q:=
 a4u (o8 hm hd hnt hkp hnd h)
theorem c0W (hmk:∀D,¬J.mark D) {l0:Nat} {xs:List (List AV)} (hY:b2h P l0 J xs) (hd:l.map (·.dst)=dsts) (hnt:nt≤999999) (hkp:J3 kp dsts=true) (hnd:l.all D0=true)
  (h:∀K:Tm→Hp→Prop,(∀T' H',GWp P none J nt kp y T' H' Q→K T' H')→b4I P l0 xs nt dsts l T H K):GWp P none J nt kp (.seq (.region id l.toArray false) y) T H Q:=
 a4u (b0D hmk hY hd hnt hkp hnd (h _ fun _ _ h=>h))
theorem o1 {T':Tm} {H':Hp} (h:Sub nt T H T' H') (hy:l6 T' 999999=l6 T 999999):b9c nt T H T' H':=⟨h,hy⟩
theorem Y8 (hnt:nt≤999998) (h:GWp P ro J nt kp c ((999998,b7V)::T) H Q):GWp P ro J nt kp c T H Q:=p9 (o1 (b4S hnt) (by simp[l6])) h
theorem a3F (T:Tm) (t:Nat):∀live:List Nat,t∈live→l6 (Q7 T live) t=l6 T t
 |[],h=>by cases h
 |q::l,h=>by
  simp only[Q7,List.map_cons,l6]
  split
  ·rename_i e;rw[e]
  ·rename_i e;exact a3F T t l ((List.mem_cons.1 h).resolve_left e)
theorem b6 (live:List Nat) (hy:live.contains 999999=true∨l6 T 999999= .any) (h:GWp P ro J nt kp c (Q7 T live) H Q):GWp P ro J nt kp c T H Q:=by
 refine p9 ⟨j9 (a0L T live),?_⟩ h
 by_cases hl:999999∈live
 ·exact a3F T _ live hl
 ·rcases hy with hy|hy
  ·exact absurd (by simpa using hy) hl
  ·rw[hy];have gen:∀live:List Nat,999999∉live→l6 (Q7 T live) 999999= .any:=by
    intro live
    induction live with
    |nil=>intro _;rfl
    |cons q l ih=>
     intro h;simp only[List.mem_cons,not_or]at h;simp only[Q7,List.map_cons,l6];rw[if_neg h.1];exact ih h.2
   exact gen live hl
theorem g9 {α:Type} (live:List Nat) (upd:α→Tm) (hp:α→Hp) (inv:α→Prop) (μ:α→Nat) (x0:α) (h0:inv x0) (hs0:b9c nt T H (upd x0++Q7 T live) (hp x0))
  (round:∀x,inv x→GWp P ro J nt kp c (upd x++Q7 T live) (hp x) (Q8 (fun T' H'=>∃y,inv y∧μ y<μ x∧b9c nt T' H' (upd y++Q7 T live) (hp y)) Q)):GWp P ro J nt kp (.loop c) T H Q:=
 b5y (fun x=>(upd x++Q7 T live,hp x)) inv μ x0 h0 hs0 round
theorem b8U {kl:List Nat} (h:T.map (·.1)=kl):∀t,t∉kl→l6 T t= .any:=by
 subst h;intro t ht
 induction T with
 |nil=>rfl
 |cons p T ih=>
  obtain⟨i,x⟩:=p;simp only[List.map_cons,List.mem_cons,not_or]at ht;simp only[l6];rw[if_neg ht.1];exact ih ht.2
theorem G7 {J:Jt} (hJC:JC true J) (kl:List Nat) (hp:Nat→Hp) (inv:Nat→Prop) {g:Operand} {ps:Array Tmp} {assign body:Code} {f:FuncId} {caps:List AV} {xs:List (List AV)} (hT1:T.map (·.1)=kl) (hic:N2 P f caps xs) (hg:evT (l6 T) g= .clo f caps) (hnr:caps.all (AV.noRef 2)=true) (hnt:nt≤999999)
  (hps:ps.toList.Nodup) (hpl:∀p∈ps.toList,p<nt∧p∉kl) (hx:∀x∈xs,x.length=ps.size)
  (h0:inv 0) (hs0:Sub nt T H T (hp 0))
  (round:∀n x,xs[n]?=some x→inv n→∀(l:Nat) (J1:Jt),JC false J1→GWp P (some l) J1 nt kl assign (ps.toList.zip x++T) (hp n) (a6z fun T' H'=>∀J2:Jt,JC false J2→GWp P (some l) J2 nt kl body T' H' (a1d nt inv hp T Q n)))
  (done:inv xs.length→Q .normal T (hp xs.length)):GWp P none J nt kp (.rangeFunc g ps assign body) T H Q:=
 b2s hJC T kl hp inv hg hnr hic hnt hps hpl hx h0 hs0 (b8U hT1) round done
end
end Go.AM
namespace Go.AM
def a4o:List AV→Nat→Prop
 |[],_=>False
 | .ptr q _ _::cs,r=>q=r∨a4o cs r
 |_::cs,r=>a4o cs r
def a4S:List AV→Nat→Prop
 |[],_=>False
 | .clo _ caps::cs,r=>a4o caps r∨a4S cs r
 | .row q _ n::cs,r=>(q=r∧1≤n)∨a4S cs r
 |_::cs,r=>a4S cs r
def b9B:AV→Nat→Prop
 | .ptr q _ _,r=>q=r
 | .vptr cs,r=>a4S cs r
 | .row q _ n,r=>q=r∧1≤n
 | .ifc _ (.ptr q _ _),r=>q=r
 |_,_=>False
def Y0:Option l7→Option l7→Prop
 |some (.els s _),some (.els s' _)=>s=s'
 |some _,none=>True
 |_,_=>False
def c1V (T0:Tm) (H0:Hp) (T:Tm) (H:Hp):Nat→List Nat→Prop
 |_,[]=>True
 |r,t::ts=>b9B (l6 T0 t) r∧l6 T t=l6 T0 t∧Y0 (m6 H0 r) (m6 H r)∧c1V T0 H0 T H (r+1) ts
attribute [simp] b9B a4S a4o Y0 c1V
def b9S (g:List (Option Nat)) (T:Tm):Tm:=T.map fun p=>(p.1,m9 g 40 (l6 T p.1))
attribute [simp] b9S
theorem b5N {nt:Nat} {T:Tm} {H:Hp} (g:List (Option Nat)) (hn:C7 g=true):Sub nt T H (b9S g T) (b4A H g):=by
 refine e9 g hn ?_ rfl;have gen:∀l:Tm,b7C g T (l.map fun p=>(p.1,m9 g 40 (l6 T p.1))):=by
  intro l
  induction l with
  |nil=>trivial
  |cons x l ih=>exact⟨Or.inr rfl,ih⟩
 exact gen T
def c2z (P:Program) (pins:List Nat) (T0:Tm) (H0:Hp) (rs:List ResultVar) (res:AV) (H':Hp) (T:Tm) (H:Hp):Prop:=
 ∃g,C7 g=true∧l6 (b9S g T) 999999=l6 T 999999∧b4A H g=H'∧c1V T0 H0 (b9S g T) H' 0 pins∧C2 P (b9S g T) H' rs fun xs=>n6 xs=res
def c3f (P:Program) (pins:List Nat) (T0:Tm) (H0:Hp) (rs:List ResultVar) (res:AV) (H':Hp):Exit→Tm→Hp→Prop
 | .ret,T,H=>c2z P pins T0 H0 rs res H' T H
 | .normal,T,H=>c2z P pins T0 H0 rs res H' T H
 |_,_,_=>False
section
variable {P:Program}
theorem b2J {T0:Tm} {H0:Hp} {T:Tm} {H:Hp}:∀{ts:List Nat} {r0 r t:Nat},c1V T0 H0 T H r0 ts→ts[r]?=some t→b9B (l6 T0 t) (r0+r)∧l6 T t=l6 T0 t∧Y0 (m6 H0 (r0+r)) (m6 H (r0+r))
 |[],r0,r,t,_,h=>by simp at h
 |t0::ts,r0,0,t,h,ht=>by
  simp only[List.getElem?_cons_zero,Option.some.injEq]at ht;subst ht;exact⟨h.1,h.2.1,h.2.2.1⟩
 |t0::ts,r0,r+1,t,h,ht=>by
  have:=b2J h.2.2.2 (by simpa using ht)
  rwa [show r0+1+r=r0+(r+1)by omega]at this
theorem a6r:∀{cs:List AV} {r:Nat},a4o cs r→∃(i j o:Nat),cs[i]?=some (AV.ptr r j o)
 |[],r,h=>h.elim
 | x::cs,r,h=>by
  have tail:a4o cs r→∃(i j o:Nat),(x::cs)[i]?=some (AV.ptr r j o):=fun h=>by
   obtain⟨i,j,n,h1⟩:=a6r h;exact⟨i+1,j,n,by simpa using h1⟩
  cases x with
  |ptr q j n=>
   simp only[a4o]at h
   rcases h with rfl|h
   ·exact⟨0,j,n,rfl⟩
   ·exact tail h
  |_=>exact tail h
theorem a6E:∀{cs:List AV} {r:Nat},a4S cs r→(∃(i j n:Nat),cs[i]?=some (AV.row r j n)∧1≤n)∨∃(i:Nat) (f:FuncId) (caps:List AV),cs[i]?=some (AV.clo f caps)∧a4o caps r
 |[],r,h=>h.elim
 | x::cs,r,h=>by
  have tail:a4S cs r→(∃(i j n:Nat),(x::cs)[i]?=some (AV.row r j n)∧1≤n)∨∃(i:Nat) (f:FuncId) (caps:List AV),(x::cs)[i]?=some (AV.clo f caps)∧a4o caps r:=fun h=>by
   rcases a6E h with⟨i,j,n,h1,h2⟩|⟨i,f,caps,h1,h2⟩
   ·exact Or.inl ⟨i+1,j,n,by simpa using h1,h2⟩
   ·exact Or.inr ⟨i+1,f,caps,by simpa using h1,h2⟩
  cases x with
  |row q j n=>
   simp only[a4S]at h
   rcases h with⟨rfl,h⟩|h
   ·exact Or.inl ⟨0,j,n,rfl,h⟩
   ·exact tail h
  |clo f caps=>
   simp only[a4S]at h
   rcases h with h|h
   ·exact Or.inr ⟨0,f,caps,rfl,h⟩
   ·exact tail h
  |_=>exact tail h
theorem b3i {w w':World} {S S':Nat→Prop} {ρ ρ':Nat→Option Loc} {L L':Nat→Prop} {x:AV} {r:Nat} {v:Value} {l l':Loc} {sz:Nat} {es es':List (List AV)} (hp:b9B x r) (h:k7 w S ρ L x v) (h':k7 w' S' ρ' L' x v) (hl:ρ r=some l) (hl':ρ' r=some l')
  (hr:n5 w S ρ L l (.els sz es)) (hr':n5 w' S' ρ' L' l' (.els sz es')) (hc:∀(b:Nat) c t s,w.heap[b]?=some (Obj.cells c t s)→∃c' t' s',w'.heap[b]?=some (Obj.cells c' t' s')∧c'.size=c.size)
  (hsame:∀b,b<w.heap.size→¬S b→w'.heap[b]?=w.heap[b]?):l'=l:=by
 have fin:∀b,l.b=some b→l'.b=some b→l.o=l'.o→l'=l:=by
  intro b h1 h2 h3;obtain⟨e1,_,_,e4⟩:=hr;obtain⟨f1,_,_,f4⟩:=hr';obtain⟨c,t,p1,p2,_⟩:=e4 b h1;obtain⟨c',t',q1,q2,_⟩:=f4 b h2;obtain⟨c'',t'',s'',k1,k2⟩:=hc b c t _ p1;rw[q1]at k1;simp only[Option.some.injEq,Obj.cells.injEq]at k1;have hm:l'.m=l.m:=by rw[←q2,←p2,k1.1,k2]
  cases l;cases l'
  simp only at h1 h2 h3 e1 f1 hm;subst h1 h2 h3 e1 f1 hm
  rfl
 have hsz:l.sz=l'.sz:=hr.1.trans hr'.1.symm;have ptr:∀{i off:Nat} {v:Value},k7 w S ρ L (.ptr r i off) v→k7 w' S' ρ' L' (.ptr r i off) v→l'=l:=by
  intro i off v h h'
  cases h with
  |pure _ _ h=>cases h
  | ptr _ _ _ _ _ _ h=>
   cases h' with
   |pure _ _ h'=>cases h'
   |ptr _ _ _ _ _ _ h'=>
    obtain⟨b,h1,h2⟩:=h l hl;obtain⟨b',k1,k2⟩:=h' l' hl';rw[h2]at k2;simp only[Value.pointer.injEq,Option.some.injEq,Addr.mk.injEq,and_true]at k2;obtain⟨rfl,k2⟩:=k2;rw[hsz]at k2;exact fin b h1 k1 (by omega)
 have row:∀{i n:Nat} {v:Value},1≤n→k7 w S ρ L (.row r i n) v→k7 w' S' ρ' L' (.row r i n) v→l'=l:=by
  intro i n v hn h h'
  cases h with
  |pure _ _ h=>cases h
  | row _ _ _ _ _ _ h=>
   cases h' with
   |pure _ _ h'=>cases h'
   | row _ _ _ _ _ _ h'=>
    obtain⟨h0,h1⟩:=h l hl;obtain⟨k0,k1⟩:=h' l' hl'
    cases hb:l.b with
    |none=>have:=(h0 hb).2.1;omega
    | some b=>
     obtain⟨off,cap,h2,h3,h4⟩:=h1 b hb
     cases hb':l'.b with
     |none=>have:=(k0 hb').2.1;omega
     |some b'=>
      obtain⟨off',cap',k2,k3,k4⟩:=k1 b' hb';rw[h2]at k2;simp only[Value.slice.injEq,Option.some.injEq,Addr.mk.injEq,and_true]at k2;obtain⟨⟨rfl,rfl⟩,_,rfl⟩:=k2;have e1:=h4.resolve_left (by omega);have e2:=k4.resolve_left (by omega);rw[←hsz]at e2;exact fin b hb hb' (by omega)
 cases x with
 | vptr cs=>
  obtain⟨b,off,vs,rfl,hSb,hb,hln,hv,hc1⟩:=u5 h;obtain⟨b',off',vs',e,hSb',hb',hln',hv',hc1'⟩:=u5 h';simp only[Value.pointer.injEq,Option.some.injEq,Addr.mk.injEq,and_true]at e;obtain⟨rfl,rfl⟩:=e
  rcases a6E hp with⟨i,j,n,h1,h2⟩|⟨i,f,caps,h1,h2⟩
  rotate_left
  ·have hi:i<cs.length:=(List.getElem?_eq_some_iff.1 h1).1;have g1:=List.getElem?_eq_getElem (l:=vs) (i:=i) (by omega);have g2:=List.getElem?_eq_getElem (l:=vs') (i:=i) (by omega);have q1:=(hv i _ g1).1;have q2:=(hv' i _ g2).1;rw[y9 (hsame b hb hSb),q1]at q2;simp only[Option.some.injEq]at q2;have r1:=hc1 i _ _ h1 g1;have r2:=hc1' i _ _ h1 g2;rw[←q2]at r2;obtain⟨ks,e1,l1,m1⟩:=C8 r1;obtain⟨ks',e2,l2,m2⟩:=C8 r2;rw[e1]at e2;simp only[Value.func.injEq,true_and]at e2;have e3:ks=ks':=by simpa using congrArg Array.toList e2
   subst e3;obtain⟨u,ju,ou,hu⟩:=a6r h2;have hul:u<caps.length:=(List.getElem?_eq_some_iff.1 hu).1;have g3:=List.getElem?_eq_getElem (l:=ks) (i:=u) (by omega);exact ptr (m1 u _ _ hu g3) (m2 u _ _ hu g3)
  have hi:i<cs.length:=(List.getElem?_eq_some_iff.1 h1).1;have g1:=List.getElem?_eq_getElem (l:=vs) (i:=i) (by omega);have g2:=List.getElem?_eq_getElem (l:=vs') (i:=i) (by omega);have q1:=(hv i _ g1).1;have q2:=(hv' i _ g2).1;rw[y9 (hsame b hb hSb),q1]at q2;simp only[Option.some.injEq]at q2;have r1:=hc1 i _ _ h1 g1;have r2:=hc1' i _ _ h1 g2;rw[←q2]at r2;exact row h2 r1 r2
 |ptr q i off=>
  simp only[b9B]at hp;subst hp;exact ptr h h'
 | ifc t x=>
  obtain⟨y,e1,h⟩:=B8 h;obtain⟨y',e2,h'⟩:=B8 h';rw[e1]at e2;simp only[Value.iface.injEq,true_and]at e2;subst e2
  cases x with
  |ptr q i off=>
   simp only[b9B]at hp;subst hp;exact ptr h h'
  |_=>exact hp.elim
 |row q i n=>
  simp only[b9B]at hp;obtain⟨rfl,hn⟩:=hp;exact row hn h h'
 |_=>exact hp.elim
theorem g6.of_bodyG {f : FuncId} {fn : Func} {c : Code} {args : List AV} {Hk Hd : Hp} {res : AV} {Hk' Hn : Hp} (pins : List Nat) (hf : P.funcs[f]? = some fn) (hb : fn.body = some c) (hname : (fn.name == "runtime.NumGoroutine") = false) (hnt : args.length ≤ fn.ntmps) (hlk : Hk.length = Hk'.length) (hpl : pins.length = Hk.length)
    (h:∀J:Jt,JC true J→GWp P none J fn.ntmps pins c (a1y 0 args) (Hk++Hd) (c3f P pins (a1y 0 args) (Hk++Hd) fn.results.toList res (Hk'++Hn))):g6 P f args Hk Hd res Hk' Hn:=by
  have hn' : ¬ fn.name = "runtime.NumGoroutine" := by simpa using hname
  refine⟨fun w vs=>by simp[callFunc,hf,hn',hb],hlk,?_⟩;intro S0 w ρ vs hh hlen hrep;refine callsIn_wide.1 (callsIn_of_wp_marks (n:=0) (F:=Fence.wide) hf hb trivial ?_);have hsize:vs.toArray.size=args.length:=by simp[hlen]
  let J:Jt:=JR true w S0 (fun b=>w.heap[b]?) (fun b=>own ρ b∨w.heap.size≤b)
  have hJ:JC true J:=⟨w,S0,_,_,fun b h=>Or.inr h,hh.wf.low,rfl⟩;obtain⟨tm,htm⟩:∃tm,tm=vs.toArray++Array.replicate (fn.ntmps-vs.toArray.size) undef:=⟨_,rfl⟩;have htmps:∀t,k7 w (Sx S0 ρ) ρ (fun r=>r<(Hk++Hd).length) (l6 (a1y 0 args) t) (tm.getD t undef):=by
    intro t;rw[a3y]
    cases hx:args[t]? with
    |none=>exact .pure _ _ (.any _)
    | some x=>
      have ht:t<args.length:=(List.getElem?_eq_some_iff.1 hx).1;have ht':t<vs.length:=by omega
      have m6:tm.getD t undef=vs[t]:=by
        rw[htm,Array.getD_eq_getD_getElem?,Array.getElem?_append_left (by simpa using ht')];simp[ht']
      rw[m6];exact hrep t x _ hx (List.getElem?_eq_getElem ht')
  have hst:SG J fn.ntmps pins (fun t=>tm.getD t undef) (a1y 0 args) (Hk++Hd) {tmps:=vs.toArray++Array.replicate (fn.ntmps-vs.toArray.size) undef,defers:=[]} w:=by
    rw[←htm];refine⟨⟨S0,ρ,fun r=>r<(Hk++Hd).length,⟨hh.wf,?_,rfl,htmps,hh.rows,hh.dead⟩,fun r hr=>hr,⟨fun b h=>⟨h,hh.wf.low b h,rfl⟩,Ext.refl _ _,fun b hb=>Or.inl hb⟩,[],rfl,List.nodup_nil,by simp⟩,fun t _=>rfl⟩;show tm.size=fn.ntmps;rw[htm,Array.size_append,Array.size_replicate,hsize];omega
  refine wpIn_mono (h J hJ hJ.ok (fun t=>tm.getD t undef) _ w hst) ?_;rintro e a' w' ⟨T',H',q,hsg⟩;have hfin:c2z P pins (a1y 0 args) (Hk++Hd) fn.results.toList res (Hk'++Hn) T' H'→LeavesInM Fence.wide 0 P fn a'.tmps (fun e w'=>∃v ρ',e= .returned v∧b5o S0 w' ρ' (Hk'++Hn)∧k7 w' (Sx S0 ρ') ρ' (fun r=>r<(Hk'++Hn).length) res v∧
        (∀r l,r<Hk.length→ρ' r=some l→ρ r=some l)∧(∀b,own ρ' b→own ρ b∨w.heap.size≤b)∧Ext (own ρ) w w') a'.defers .returning w':=by
    rintro⟨g,hgn,hgy,hH,hpin,hr⟩;have hsg':=hsg.sub hJ.ok ⟨b5N g hgn,hgy⟩;rw[hH]at hsg';obtain⟨H2,hH2⟩:∃H2,H2=Hk'++Hn:=⟨_,rfl⟩;rw[←hH2]at hsg' hpin hr;clear hH;have hH:=hH2;generalize b9S g T'=T' at hsg' hpin hr;obtain⟨⟨S1,ρ1,L1,hc1,hL1,⟨hj1,hj2,hj3⟩,Ds,hds,hnd,hDs⟩,hkeep⟩:=hsg';rw[hds];refine R5 Ds w' hnd (fun D hD=>(hDs D hD).2.2) (fun w'' hx hsz=>?_);have hc2:M5 a1h S1 fn.ntmps w'' ρ1 L1 (l6 T') (m6 H2) (a5A a'):=hc1.foreign hx.size (fun b hb hn=>hx.block b hb (fun hD=>hn (hDs b hD).1)) (fun b hb=>⟨by rw[hsz];exact hc1.wf.low b hb,Or.inl hb⟩);obtain⟨xs,vs',h1,h2,h3,h4,h5⟩:=I4 hc2 fn.results.toList _ hr;have hm:(fn.results.mapM fun(x:ResultVar)=>(match x with
        | .tmp t=>pure (a'.tmps.getD t undef)
        | .cell ad t=>do loadVar t (←asAddr (a'.tmps.getD ad undef)):Sem Value)).run P w''= .ok vs'.toArray w'':=by
      rw[Array.mapM_eq_mapM_toList,Sem.run_map];have h1':(fn.results.toList.mapM fun(x:ResultVar)=>(match x with
        | .tmp t=>pure (a'.tmps.getD t undef)
        | .cell ad t=>do loadVar t (←asAddr (a'.tmps.getD ad undef)):Sem Value)).run P w''= .ok vs' w'':=h1
      rw[h1'];rfl
    have hrun:(results fn a'.tmps).run P w''= .ok (if h:vs'.toArray.size=1 then vs'.toArray[0]else .tuple vs'.toArray) w'':=by
      unfold results;rw[Sem.run_bind];exact congrArg (fun(r:Result (Array Value))=>r.andThen fun a w'=>Sem.run P (pure (if h:a.size=1 then a[0]else Value.tuple a)) w') hm
    have hSx:∀b,¬Sx S1 ρ1 b→¬Sx S0 ρ1 b:=by
      rintro b hn (h|h)
      · exact hn (Or.inl (hj1 b h).1)
      · exact hn (Or.inr h)
    have hLb:∀r,L1 r→r<(Hk'++Hn).length:=fun r hr=>by rw[←hH];exact hL1 r hr
    have hrows:∀r row,m6 (Hk'++Hn) r=some row→∃l,ρ1 r=some l∧n5 w'' (Sx S0 ρ1) ρ1 (fun r=>r<(Hk'++Hn).length) l row:=by
      intro r row hr;obtain⟨l,g1,g2⟩:=hc2.rows r row (by rw[hH];exact hr);exact⟨l,g1,g2.ext (Nat.le_refl _) (fun b _ hn=>⟨rfl,hSx b hn⟩) hLb (fun r l _ h=>h) (fun _ _=>rfl)⟩
    have hold:∀b,b<w.heap.size→¬own ρ b→w''.heap[b]?=w.heap[b]?:=by
      intro b hb hno;rw[hx.block b (Nat.lt_of_lt_of_le hb hj2.size) (fun hD=>?_),hj2.block b hb (by rintro(h|h);exact hno h;omega)];have:=(hDs b hD).2.1.2;omega
    have hcells:∀(b:Nat) c t s,w.heap[b]?=some (Obj.cells c t s)→∃c' t' s',w''.heap[b]?=some (Obj.cells c' t' s')∧c'.size=c.size:=(hj2.trans (hx.mono (M':=fun b=>own ρ b∨w.heap.size≤b) (fun b _ hD=>Or.inr (hDs b hD).2.1.2))).cells;refine⟨_,hrun,_,ρ1,rfl,⟨⟨hc2.wf.inj,fun r l b g1 g2=>?_,fun r l g1=>hLb r (hc2.wf.given r l g1),fun b hb=>?_,fun _ _=>trivial⟩,hrows,fun r hr=>hc2.dead r (by rw[hH];exact hr)⟩,?_,?_,hj3,?_⟩
    · obtain⟨g3,g4,_⟩:=hc2.wf.own r l b g1 g2
      exact⟨g3,fun h=>g4 (hj1 b h).1,trivial⟩
    · exact Nat.lt_of_lt_of_le (hj1 b hb).2.1 (Nat.le_of_eq hsz.symm)
    · rw[←h5]
      have hz:k7 w'' (Sx S1 ρ1) ρ1 L1 (n6 xs) (if h:vs'.toArray.size=1 then vs'.toArray[0]else .tuple vs'.toArray):=by
        match xs,vs',h2,h3 with
        |[],[],_,_=>simp only[n6];rw[dif_neg (by simp)];exact .tup [] [] rfl (by simp)
        |[x],[v],_,h3=>simp only[n6];rw[dif_pos (by simp)];exact h3 0 x v rfl rfl
        |x::y::xs,v::u::vs',h2,h3=>simp only[n6];rw[dif_neg (by simp)];exact .tup _ (v::u::vs') h2 h3
      exact hz.ext (Nat.le_refl _) (fun b _ hn=>⟨rfl,hSx b hn⟩) hLb (fun r l _ h=>h)
    · intro r l' hrk hl'
      obtain⟨t,ht⟩:∃t,pins[r]?=some t:=⟨_,List.getElem?_eq_getElem (by omega)⟩;obtain⟨p1,p2,p3⟩:=b2J hpin ht;rw[Nat.zero_add]at p1 p3;have hv:=hc2.tmps t;rw[p2]at hv;have hk:=hkeep t (List.mem_of_getElem? ht);have hv':(a5A a').tmps.getD t undef=tm.getD t undef:=hk;rw[hv']at hv
      cases h0:m6 (Hk++Hd) r with
      |none=>rw[h0]at p3;simp only[Y0]at p3
      | some row=>
        cases row with
        | map=>
          rw[h0]at p3
          cases h8:m6 H2 r with
          |none=>have:=hc2.dead r h8;rw[this]at hl';cases hl'
          |some row'=>rw[h8]at p3;simp only[Y0]at p3
        | itr=>
          rw[h0]at p3
          cases h8:m6 H2 r with
          |none=>have:=hc2.dead r h8;rw[this]at hl';cases hl'
          |some row'=>rw[h8]at p3;simp only[Y0]at p3
        | els sz es=>
          rw[h0]at p3
          cases h8:m6 H2 r with
          |none=>have:=hc2.dead r h8;rw[this]at hl';cases hl'
          | some row'=>
            rw[h8]at p3
            cases row' with
            |map=>simp only[Y0]at p3
            |itr=>simp only[Y0]at p3
            | els sz' es'=>
              simp only[Y0]at p3;subst p3;obtain⟨l,g1,g2⟩:=hh.rows r _ h0;obtain⟨l2,g3,g4⟩:=hc2.rows r _ h8;rw[hl']at g3;simp only[Option.some.injEq]at g3;subst g3;rw[b3i p1 (htmps t) hv g1 hl' g2 g4 hcells (fun b hb hn=>hold b hb (fun⟨r,l,k1,k2⟩=>hn (Or.inr ⟨r,l,k1,k2⟩)))];exact g1
    · have he:=hj2.trans (hx.mono (M':=fun b=>own ρ b∨w.heap.size≤b) (fun b _ hD=>Or.inr (hDs b hD).2.1.2))
      exact⟨he.os,he.tape,he.output,he.size,hold,he.cells⟩
  cases e with
  |ret=>exact hfin q
  |normal=>exact hfin q
  |exit id=>exact q.elim
  |goto l=>exact q.elim
  |panic ch=>exact q.elim
  |outgrown=>exact q.elim
end
end Go.AM
namespace Go.AM
theorem a1m:∀(l:List MapEntry) (i:Nat) (e:MapEntry),(l.map (·.born)).Nodup→l[i]?=some e→l.filter (fun x=> !(x.born==e.born))=l.eraseIdx i
 |[],i,e,_,h=>by simp at h
 |x::l,0,e,hn,h=>by
  simp only[List.getElem?_cons_zero,Option.some.injEq]at h;subst h;simp only[List.map_cons,List.nodup_cons]at hn;simp only[List.filter_cons,beq_self_eq_true,Bool.not_true,Bool.false_eq_true,if_false,List.eraseIdx_cons_zero];rw[List.filter_eq_self];intro y hy;have:y.born≠x.born:=fun e=>hn.1 (by rw[←e];exact List.mem_map_of_mem hy);simp[this]
 |x::l,i+1,e,hn,h=>by
  simp only[List.getElem?_cons_succ]at h;simp only[List.map_cons,List.nodup_cons]at hn;have hx:x.born≠e.born:=fun k=>hn.1 (by rw[k];exact List.mem_map_of_mem (List.mem_of_getElem? h));have ih:=a1m l i e hn.2 h;have hb:(!(x.born==e.born))=true:=by simp[hx]
  rw[List.filter_cons,if_pos hb,ih,List.eraseIdx_cons_succ]
theorem N5 {α β:Type} (f:α→β):∀(l:List α) (j:Nat),(l.eraseIdx j).map f=(l.map f).eraseIdx j
 |[],_=>by simp
 |_::_,0=>by simp
 |x::l,j+1=>by simp[N5 f l j]
section
variable {P:Program} {nt:Nat}
theorem b5b {w:World} {S:Nat→Prop} {b:Nat} {ag:Bool} {kts:List KT} {left:List (List KC×Value)} {cur:Option (List KC×Value)} (h:a3S w S b ag kts left cur) (hSb:S b) (ty:TypeId):
  (left=[]∧(Instr.next (.pointer (some ⟨b,0,none⟩)) false ty).run P w= .ok (.tuple #[.bool false]) w)∨
  ∃i p,left[i]?=some p∧∃(w1:World) (ob:Obj),(w1=w∨w1=w.drew)∧(Instr.next (.pointer (some ⟨b,0,none⟩)) false ty).run P w= .ok (.tuple #[.bool true,o3 ag p.1,p.2]) {w1 with heap:=w1.heap.setIfInBounds b ob}∧
   (∀c t s,w.heap[b]?≠some (Obj.cells c t s))∧a3S {w1 with heap:=w1.heap.setIfInBounds b ob} S b ag kts (left.eraseIdx i) (some p):=by
 obtain⟨mb,since,seen,c0,es,clock,h1,h2,h3,h4,h5,h6,h7,h8,h9,h10⟩:=h;have hne:b≠mb:=by rintro rfl;exact h2 hSb
 have hlt:b<w.heap.size:=(Array.getElem?_eq_some_iff.1 h1).1
 rcases run_next_at w ty b mb since c0 seen es clock h1 h4 h7 h5.1 with⟨k1,k2⟩|⟨e,he,w1,hw1,hrun⟩
 ·left
  refine⟨?_,k2⟩;have:(leftOf es seen).toList.length=0:=by rw[Array.length_toList];exact k1
  have h8':=congrArg List.length h8;simp only[List.length_map]at h8';exact List.eq_nil_of_length_eq_zero (by omega)
 ·right
  obtain⟨i,hi⟩:=List.getElem?_of_mem he;have hi2:((leftOf es seen).toList.map (fun e=>(e.key,e.val)))[i]?=some (e.key,e.val):=by rw[List.getElem?_map,hi];rfl
  rw[h8,List.getElem?_map,Option.map_eq_some_iff]at hi2;obtain⟨p,hp,hpe⟩:=hi2;simp only[Prod.mk.injEq]at hpe;have hm:=mem_left he;refine⟨i,p,hp,w1, .mapIter (some mb) since (seen.push e.born) clock,hw1,?_,?_,?_⟩
  ·rw[hpe.1,hpe.2];exact hrun
  ·intro c t s hc;rw[h1]at hc;cases hc
  ·have hheap:w1.heap=w.heap:=by rcases hw1 with rfl|rfl<;>rfl
   refine⟨mb,since,seen.push e.born,clock,es,clock,?_,h2,?_,?_,?_,h6,h7,?_,?_,?_⟩
   ·show(w1.heap.setIfInBounds b _)[b]?=_;rw[hheap];simp[hlt]
   ·show mb<(w1.heap.setIfInBounds b _).size;rw[hheap];simpa using h3
   ·show(w1.heap.setIfInBounds b _)[mb]?=_;rw[hheap,Array.getElem?_setIfInBounds_ne hne];exact h4
   ·exact⟨h5.2,h5.2⟩
   ·have hl:(leftOf es (seen.push e.born)).toList=(leftOf es seen).toList.eraseIdx i:=by
     have hnd:((leftOf es seen).toList.map (·.born)).Nodup:=by
      unfold leftOf;rw[Array.toList_filter];exact List.Nodup.sublist ((List.filter_sublist).map _) h6
     rw[←a1m _ i e hnd hi];unfold leftOf;simp only[Array.toList_filter,List.filter_filter]
     congr 1
     funext x
     rw[contains_push]
     cases seen.contains x.born<;>cases (x.born==e.born)<;>rfl
    rw[hl,N5,h8,N5]
   ·intro q hq;exact h9 q (List.mem_of_mem_eraseIdx hq)
   ·intro q hq;simp only[Option.some.injEq]at hq;subst hq;exact⟨e,hm.1,seen,rfl,rfl,hpe.1.symm,hpe.2.symm⟩
theorem SG.next {J:Jt} (hJ:JOk J) {o:Oper} {kp:List Nat} {kv:Nat→Value} {T:Tm} {H:Hp} {a:Act} {w:World} (hs:SG J nt kp kv T H a w) (hnt:nt≤999999) {it:Operand} {r:Nat} {ag:Bool} {kts:List KT} {left:List (List KC×Value)} {cur:Option (List KC×Value)}
  (ho:o.op= .next it false) (hx:evT (l6 T) it= .ptr r 0 0) (hr:m6 H r=some (.itr ag kts left cur)) (hrl:r<H.length)
  (hd:∀d,o.dst=some d→d<nt) (hkp:∀d,o.dst=some d→∀t∈kp,d≠t) {K:Act→World→Prop} {Q:Exit→Act→World→Prop}
  (h0:left=[]→∀a' w',SG J nt kp kv (a1r T o.dst (.tup [.v (.bool false)])) H a' w'→K a' w')
  (h1:∀i p,left[i]?=some p→∀a' w',SG J nt kp kv (a1r T o.dst (.tup [.v (.bool true), .v (o3 ag p.1), .v p.2])) (D9 H r (some (.itr ag kts (left.eraseIdx i) (some p)))) a' w'→K a' w'):o.wp P a w K Q:=by
 obtain⟨⟨S0,ρ,L,hc,hL,hj,hm⟩,hk⟩:=hs;obtain⟨l,hl,b,hb,ho0,hrep⟩:=hc.rows r _ hr;have hy:a.eval it= .pointer (some ⟨b,0,none⟩):=by
  have he:=X9 (a:=a) hc.tmps it;rw[hx]at he;generalize a.eval it=y at he
  cases he with
  |pure _ _ h=>cases h
  |ptr _ _ _ y q1 q2 q3=>
   obtain⟨b',hb',hy⟩:=q3 l hl;rw[hb]at hb';simp only[Option.some.injEq]at hb';subst hb';rw[hy,ho0];simp
 have hSb:Sx S0 ρ b:=Or.inr ⟨r,l,hl,hb⟩
 rcases b5b (P:=P) hrep hSb o.type with⟨k1,k2⟩|⟨i,p,hp,w1,ob,hw1,hrun,hnc,hrep'⟩
 ·unfold Oper.wp;have:(execOp a.eval o).run P w= .ok (.value (.tuple #[.bool false])) w:=by
   simp only[execOp,ho,hy,Sem.run_bind,k2,Result.andThen_ok,Sem.run_pure]
  rw[this];refine h0 k1 _ _ (SG.post (e:=⟨.tup [.v (.bool false)],[],[]⟩) hJ hc hL hj hm hk hnt (Z9 hc.wf ?_) hd hkp trivial rfl);exact .pure _ _ (.tup _ [.bool false] rfl (fun i c y q1 q2=>by
   match i with
   |0=>simp at q1 q2;subst q1 q2;exact .v _
   |n+1=>simp at q1))
 ·unfold Oper.wp;have:(execOp a.eval o).run P w= .ok (.value (.tuple #[.bool true,o3 ag p.1,p.2])) {w1 with heap:=w1.heap.setIfInBounds b ob}:=by
   simp only[execOp,ho,hy,Sem.run_bind,hrun,Result.andThen_ok,Sem.run_pure]
  rw[this];have hheap:w1.heap=w.heap:=by rcases hw1 with rfl|rfl<;>rfl
  have hos:w1.os=w.os∧w1.tape=w.tape∧w1.output=w.output:=by rcases hw1 with rfl|rfl<;>exact⟨rfl,rfl,rfl⟩
  have hsize:({w1 with heap:=w1.heap.setIfInBounds b ob}:World).heap.size=w.heap.size:=by simp[hheap]
  have hother:∀k,k≠b→({w1 with heap:=w1.heap.setIfInBounds b ob}:World).heap[k]?=w.heap[k]?:=by
   intro k hk;show(w1.heap.setIfInBounds b ob)[k]?=_;rw[hheap,Array.getElem?_setIfInBounds_ne (Ne.symm hk)]
  have hin:W8 H [(r,some (l7.itr ag kts (left.eraseIdx i) (some p)))]:=⟨Nat.le_of_lt hrl,trivial⟩;refine h1 i p hp _ _ (SG.post (e:=⟨.tup [.v (.bool true), .v (o3 ag p.1), .v p.2],[(r,some (.itr ag kts (left.eraseIdx i) (some p)))],[]⟩) (ρ':=ρ) hJ hc hL hj hm hk hnt ?_ hd hkp hin rfl);exact
   {wf:=⟨hc.wf.inj,fun r l b h1 h2=>by rw[hsize];exact hc.wf.own r l b h1 h2,fun r l h1=>Or.inl (hc.wf.given r l h1),fun b h=>by rw[hsize];exact hc.wf.low b h,fun b h=>trivial⟩
    rep:= .pure _ _ (.tup _ [.bool true,o3 ag p.1,p.2] rfl (fun i c y q1 q2=>by
     match i with
     |0=>simp at q1 q2;subst q1 q2;exact .v _
     |1=>simp at q1 q2;subst q1 q2;exact .v _
     |2=>simp at q1 q2;subst q1 q2;exact .v _
     |n+3=>simp at q1))
    ups:=by
     intro r' o' hm;simp only[List.mem_singleton,Prod.mk.injEq]at hm;obtain⟨rfl,rfl⟩:=hm;exact⟨l,hl,b,hb,ho0,hrep'⟩
    others:=fun r _=>rfl
    only:=fun r l hl=>Or.inl hl
    ext:=⟨hos.1,hos.2.1,hos.2.2,by omega,fun k hk hm=>hother k (by rintro rfl;exact hm ⟨r,l,some (.itr ag kts (left.eraseIdx i) (some p)),by simp,hl,hb⟩),fun k c t s hc=>by
     by_cases e:k=b
     ·subst e;exact absurd hc (hnc c t s)
     ·exact⟨c,t,s,(hother k e).trans hc,rfl⟩⟩}
end
theorem g6.eat2 {P:Program} {f:FuncId} {args args':List AV} {Hk Hd1 Hd Hk' Hn:Hp} {res:AV} (dep k:Nat) (hk:k=(Hk++Hd1).length) (hren:(List.range k).map (fun r=>(m6 (Hk++(Hd1++Hd)) r).map (v7 ((List.range k).map some)))=Hk++Hd1) (ha:args.map (U9 (m6 (Hk++(Hd1++Hd))) (List.range k) dep)=args')
  (h:g6 P f args' Hk Hd1 res Hk' Hn):g6 P f args Hk (Hd1++Hd) res Hk' Hn:=by
 subst ha;obtain⟨hcf,hkl,hcall⟩:=h;refine⟨hcf,hkl,?_⟩;intro S0 w ρ vs hh hlen hrep;obtain⟨G,hG⟩:∃G,G=(List.range k).map some:=⟨_,rfl⟩;have hGs:∀(r q:Nat),G[r]?=some (some q)↔(r<k∧q=r):=by
  intro r q;rw[hG,List.getElem?_map]
  by_cases hr:r<k
  ·rw[List.getElem?_range hr];simp[hr,eq_comm]
  ·rw[List.getElem?_eq_none (by simp;omega)];simp[hr]
 have hlt:∀r:Nat,(∃q,G[r]?=some (some q))→r<(Hk++Hd1).length:=by
  rintro r ⟨q,hq⟩;have:=((hGs r q).1 hq).1;omega
 have hS:∀b,Sx S0 (m5 ρ G) b→Sx S0 ρ b:=by
  rintro b (h|⟨r,l,h1,h2⟩)
  ·exact Or.inl h
  ·obtain⟨q,_,h3⟩:=i7 h1;exact Or.inr ⟨q,l,h3,h2⟩
 have hown:∀b,own (m5 ρ G) b→own ρ b:=by
  rintro b ⟨r,l,h1,h2⟩;obtain⟨q,_,h3⟩:=i7 h1;exact⟨q,l,h3,h2⟩
 have hh2:b5o S0 w (m5 ρ G) (Hk++Hd1):=by
  refine⟨⟨?_,?_,?_,hh.wf.low,fun _ _=>trivial⟩,?_,?_⟩
  ·intro r r' l l' b h1 h2 k1 k2;obtain⟨q,g1,p1⟩:=i7 h1;obtain⟨q',g2,p2⟩:=i7 h2;have:=hh.wf.inj q q' l l' b p1 p2 k1 k2;have e1:=((hGs _ _).1 g1).2;have e2:=((hGs _ _).1 g2).2;omega
  ·intro r l b h1 k1;obtain⟨q,g1,p1⟩:=i7 h1;exact hh.wf.own q l b p1 k1
  ·intro r l h1;obtain⟨q,g1,_⟩:=i7 h1;exact hlt r ⟨q,g1⟩
  ·intro r row hr;rw[←hren,A6]at hr
   split at hr
   ·rename_i q hq;have hqk:q<k∧q=r:=by
     have hr':r<k:=by
      have:=(List.getElem?_eq_some_iff.1 hq).1;simpa using this
     rw[List.getElem?_range hr']at hq;simp only[Option.some.injEq]at hq;omega
    simp only[Option.map_eq_some_iff]at hr;obtain⟨row0,h0,rfl⟩:=hr;obtain⟨l,hl,hrow⟩:=hh.rows q row0 h0;refine⟨l,?_,?_⟩
    ·simp only[m5,(hGs r q).2 ⟨by omega,by omega⟩];exact hl
    ·rw[←hG];exact(T5 hS hrow).ext (Nat.le_refl _) (fun b _ hnb=>⟨rfl,hnb⟩) hlt (fun r l _ h=>h) (fun _ _=>rfl)
   ·cases hr
  ·intro r hr
   cases h2:m5 ρ G r with
   |none=>rfl
   |some l=>
    exfalso;obtain⟨q,g1,p1⟩:=i7 h2;obtain⟨e1,e2⟩:=(hGs _ _).1 g1;subst e2;rw[←hren,A6,List.getElem?_range e1]at hr;simp only[Option.map_eq_none_iff]at hr;have:=hh.dead q hr;rw[this]at p1;cases p1
 refine(hcall S0 w (m5 ρ G) vs hh2 (by simpa using hlen) (fun i c y h1 h2=>?_)).mono ?_
 ·simp only[List.getElem?_map,Option.map_eq_some_iff]at h1;obtain⟨c',h1,rfl⟩:=h1;rw[hG];refine(a8Z hh.wf dep c' y (fun r _ row hr=>hh.rows r row hr) (hrep i c' y h1 h2)).ext (Nat.le_refl _) (fun b _ hnb=>⟨rfl,hnb⟩) ?_ (fun r l _ h=>h);rw[←hG];exact hlt
 ·rintro e w' ⟨v,ρ',rfl,h1,h2,h3,h4,h5⟩;refine⟨v,ρ',rfl,h1,h2,fun r l hr hl=>?_,fun b hb=>(h4 b hb).imp (hown b) id,h5.mono fun b _ hb=>hown b hb⟩;obtain⟨q,g1,p1⟩:=i7 (h3 r l hr hl);have:=((hGs _ _).1 g1).2;subst this;exact p1
end Go.AM
end
section
namespace Go.AM
theorem zP : (∀ (T : Tm) (L : List Nat), Q7 T L = L.map fun t => (t, l6 T t)) ∧ (∀ {α β : Type} (f : α → β) (a : α) (l : List α), List.map f (a :: l) = f a :: List.map f l) ∧ (∀ {α β : Type} (f : α → β), List.map f [] = []) ∧
 (∀ t, l6 [] t = .any) ∧ (∀ i x r t, l6 ((i, x) :: r) t = if t = i then x else l6 r t) ∧ (∀ {α : Type} (a : α) (l r : List α), a :: l ++ r = a :: (l ++ r)) ∧ (∀ {α : Type} (l : List α), [] ++ l = l) :=
 ⟨fun _ _ => rfl, fun _ _ _ => rfl, fun _ => rfl, fun _ => rfl, fun _ _ _ _ => rfl, fun _ _ _ => rfl, fun _ => rfl⟩
theorem zT : (∀ (n : Tm → Hp → Prop) Q, Q8 n Q .normal = n) ∧ (∀ (n : Tm → Hp → Prop) Q k, Q8 n Q (.exit k) = Q (.exit k)) ∧ (∀ (n : Tm → Hp → Prop) Q, Q8 n Q .ret = Q .ret) ∧
 (∀ (i : Nat) Q k, B9 i Q (.exit k) = if k = i then Q .normal else Q (.exit k)) ∧ (∀ (i : Nat) Q, B9 i Q .normal = Q .normal) ∧ (∀ (i : Nat) Q, B9 i Q .ret = Q .ret) ∧
 (∀ Q, a1X Q .normal = Q .normal) ∧ (∀ Q k, a1X Q (.exit k) = Q (.exit k)) ∧ (∀ Q, a1X Q .ret = Q .ret) ∧ (∀ {α : Type} (a : α), (a = a) = True) :=
 ⟨fun _ _ => rfl, fun _ _ _ => rfl, fun _ _ => rfl, fun _ _ _ => rfl, fun _ _ => rfl, fun _ _ => rfl, fun _ => rfl, fun _ _ => rfl, fun _ => rfl, fun _ => eq_self _⟩
theorem zW (k : Nat) (h : k ≤ 9223372036854775806) : IntKind.i64.wrap ((k : Int) + 1) = (k : Int) + 1 := IntWalk.i64_in _ ⟨by omega, by omega⟩
section
variable {P : Program} {ro : Option Nat} {J : Jt} {nt : Nat} {kp : List Nat} {dsts : List (Option Tmp)} {l : List Oper} {y : Code} {id : Nat} {T : Tm} {H : Hp} {Q : Exit → Tm → Hp → Prop}
theorem gS (h : ∀ K : Tm → Hp → Prop, (∀ T' H', GWp P ro J nt kp y T' H' Q → K T' H') → X4 P nt dsts l T H K) (hd : l.map (·.dst) = dsts := by rfl) (hnt : nt ≤ 999999 := by decide) (hkp : J3 kp dsts = true := by rfl) (hnd : l.all D0 = true := by rfl) : GWp P ro J nt kp (.seq (.region id l.toArray false) y) T H Q := c1h hd hnt hkp hnd h
theorem gR (h : ∀ K : Tm → Hp → Prop, (∀ T' H', Q .normal T' H' → K T' H') → X4 P nt dsts l T H K) (hd : l.map (·.dst) = dsts := by rfl) (hnt : nt ≤ 999999 := by decide) (hkp : J3 kp dsts = true := by rfl) (hnd : l.all D0 = true := by rfl) : GWp P ro J nt kp (.region id l.toArray false) T H Q := c2C hd hnt hkp hnd h
theorem aS (h : ∀ K : Tm → Hp → Prop, (∀ T' H', AWp P nt y T' H' Q → K T' H') → X4 P nt dsts l T H K) (hd : l.map (·.dst) = dsts := by rfl) : AWp P nt (.seq (.region id l.toArray false) y) T H Q := c0u hd h
theorem aR (h : ∀ K : Tm → Hp → Prop, (∀ T' H', Q .normal T' H' → K T' H') → X4 P nt dsts l T H K) (hd : l.map (·.dst) = dsts := by rfl) : AWp P nt (.region id l.toArray false) T H Q := c2t hd h
end
end Go.AM
end
section
namespace Go.Cur
open Go.AM
structure Wr where
 A:Int
 B:Int
 Siem:Int
 Sw:Bool
 deriving DecidableEq,Inhabited
structure Fd where
 At:Int
 Volts:Int
 Siem:Int
 Limit:Int
 deriving DecidableEq,Inhabited
structure Gr where
 Nodes:Int
 Wires:List Wr
 Feeds:List Fd
 Least:Int
 deriving Inhabited
structure Sta where
 Feeds:List Bool
 Wires:List Bool
 deriving DecidableEq,Inhabited
structure Ld where
 At:Int
 Units:Int
 Rank:Int
 deriving DecidableEq,Inhabited
structure Fr where
 Num:Int
 Den:Int
 deriving DecidableEq,Inhabited
structure Cu where
 Kind:Int
 Index:Int
 Value:Fr
 deriving DecidableEq,Inhabited
structure En where
 Given:Fr
 Taken:Fr
 Returned:Fr
 Lost:Fr
 deriving DecidableEq,Inhabited
structure Stl where
 Volts:List Fr
 Feeds:List Fr
 State:Sta
 Served:List Bool
 Cuts:List Cu
 deriving Inhabited
@[simp] def j0 (n:Int):List AV:=[I n]
@[simp] def i9 (b:Bool):List AV:=[Bo b]
abbrev iL (l:List Int):AV:= .lst 1 (l.map j0)
abbrev bL (l:List Bool):AV:= .lst 1 (l.map i9)
@[simp] def a8H (l:List Int):List AV:=[iL l]
@[simp] def Wr.cells (w:Wr):List AV:=[I w.A,I w.B,I w.Siem,Bo w.Sw]
@[simp] def Fd.cells (f:Fd):List AV:=[I f.At,I f.Volts,I f.Siem,I f.Limit]
@[simp] def Gr.cells (g:Gr):List AV:=[I g.Nodes, .lst 4 (g.Wires.map Wr.cells), .lst 4 (g.Feeds.map Fd.cells),I g.Least]
@[simp] def Sta.cells (s:Sta):List AV:=[bL s.Feeds,bL s.Wires]
@[simp] def Ld.cells (l:Ld):List AV:=[I l.At,I l.Units,I l.Rank]
@[simp] def Fr.cells (f:Fr):List AV:=[I f.Num,I f.Den]
@[simp] def Cu.cells (c:Cu):List AV:=[I c.Kind,I c.Index,I c.Value.Num,I c.Value.Den]
@[simp] def En.cells (e:En):List AV:=[I e.Given.Num,I e.Given.Den,I e.Taken.Num,I e.Taken.Den,I e.Returned.Num,I e.Returned.Den,I e.Lost.Num,I e.Lost.Den]
abbrev Gr.av (g:Gr):AV:= .agg g.cells
abbrev Sta.av (s:Sta):AV:= .agg s.cells
abbrev Fr.av (f:Fr):AV:= .agg f.cells
abbrev lL (l:List Ld):AV:= .lst 3 (l.map Ld.cells)
abbrev fL (l:List Fr):AV:= .lst 2 (l.map Fr.cells)
abbrev cL (l:List Cu):AV:= .lst 4 (l.map Cu.cells)
@[simp] def Stl.cells (s:Stl):List AV:=[fL s.Volts,fL s.Feeds,bL s.State.Feeds,bL s.State.Wires,bL s.Served,cL s.Cuts]
theorem f7 {n:Int} (h1:-9223372036854775808≤n) (h2:n≤9223372036854775807):IntKind.i64.wrap n=n:=IntWalk.i64_in n ⟨h1,h2⟩
def inr (x lo hi:Int):Bool:=decide (lo≤x)&&decide (x≤hi)
theorem t4 {x lo hi:Int}:inr x lo hi=true↔lo≤x∧x≤hi:=by simp[inr]
def at0 (l:List Int) (i:Int):Int:=(l[i.toNat]?).getD 0
theorem b7E {l:List Int} {i:Int} (h0:0≤i) (h:i<l.length):l[i.toNat]?=some (at0 l i):=by
 unfold at0;rw[List.getElem?_eq_getElem (by omega)];rfl
theorem C3 {l:List Int} {k:Nat} (h:k<l.length):l[k]?=some (at0 l k):=by
 have:=b7E (l:=l) (i:=k) (by omega) (by omega);simpa using this
theorem J4 {l:List Int} {k:Nat} {x:Int} (h:l[k]?=some x):at0 l k=x:=by simp[at0,h]
def M7 (m:List (List Int)) (i:Int):List Int:=(m[i.toNat]?).getD []
theorem b1E {m:List (List Int)} {i:Int} (h0:0≤i) (h:i<m.length):m[i.toNat]?=some (M7 m i):=by
 unfold M7;rw[List.getElem?_eq_getElem (by omega)];rfl
theorem b1p {m:List (List Int)} {k:Nat} (h:k<m.length):m[k]?=some (M7 m k):=by
 have:=b1E (m:=m) (i:=k) (by omega) (by omega);simpa using this
theorem a9M {m:List (List Int)} {k:Nat} {x:List Int} (h:m[k]?=some x):M7 m k=x:=by simp[M7,h]
theorem b4o {α:Type} {l:List α} {f:α→Bool} {k:Nat} {x:α} (h:l[k]?=some x):(l.take (k+1)).all f=((l.take k).all f&&f x):=by
 rw[List.take_add_one,List.all_append,h];simp
theorem a8J {α:Type} {l:List α} {q:α→Bool} {k:Nat} {x:α} (h:l[k]?=some x):(l.take (k+1)).any q=((l.take k).any q||q x):=by
 rw[List.take_add_one,List.any_append,h];simp
theorem a7o {α:Type} {l:List α} {q:α→Bool} {k:Nat} (hk:l.length≤k) (h:(l.take k).any q=false):l.any q=false:=by rwa [List.take_of_length_le hk]at h
@[simp] theorem b7i {α β:Type} (f:α→β) (l:List α):List.take l.length (l.map f)=l.map f:=List.take_of_length_le (by simp)
@[simp] theorem b4C {α:Type} (k:Nat) (l:List α):List.take k (List.take k l)=List.take k l:=by rw[List.take_take,Nat.min_self]
def a5B:List (List AV)→List AV
 |[]=>[]
 |c::cs=> .iptr c::a5B cs
@[simp] theorem b6v (H:Nat→Option l7) (n:Nat):∀cl:List (List AV),(a5B cl).map (frz H n)=a5B cl
 |[]=>rfl
 |c::cs=>by simp only[a5B,List.map_cons,b6v H n cs,List.cons.injEq,and_true];cases n<;>rfl
@[simp] theorem b0R (n:Nat):∀cl:List (List AV),(a5B cl).all (AV.noRef n)=true
 |[]=>rfl
 |c::cs=>by simp only[a5B,List.all_cons,b0R n cs,Bool.and_true];cases n<;>rfl
@[simp] theorem b8F (H:Nat→Option l7) (n:Nat):∀cl:List (List AV),(a5B cl).flatMap (z5 H n)=[]
 |[]=>rfl
 |c::cs=>by simp only[a5B,List.flatMap_cons,b8F H n cs,List.append_nil];cases n<;>rfl
@[simp] theorem b6h (g:List (Option Nat)) (n:Nat):∀cl:List (List AV),(a5B cl).map (m9 g n)=a5B cl
 |[]=>rfl
 |c::cs=>by simp only[a5B,List.map_cons,b6h g n cs,List.cons.injEq,and_true];cases n<;>rfl
def F7:AV→Bool
 | .v _=>true
 | .lst _ _=>true
 | .full _ _=>true
 | .iptr _=>true
 | .mpc _ _ _=>true
 |_=>false
theorem E0 {x:AV} (h:F7 x=true) (g:List (Option Nat)) (n:Nat):m9 g n x=x:=by cases x<;>first|(cases n<;>rfl)|cases h
theorem z6 {x:AV} (h:F7 x=true) (H:Nat→Option l7) (g:List (Option Nat)) (n:Nat):S9 H g n x=x:=by cases x<;>first|(cases n<;>rfl)|cases h
theorem C0 {x:AV} (h:F7 x=true) (H:Hp) (n:Nat):V9 H n x=x:=by cases x<;>first|(cases n<;>rfl)|cases h
theorem b3F {x:AV} (h:F7 x=true) (H:Nat→Option l7) (n:Nat):frz H n x=x:=by cases x<;>first|(cases n<;>rfl)|cases h
theorem l8 {f:AV→AV} (hf:∀x,F7 x=true→f x=x) {es:List (List AV)} (h:es.all (fun e=>e.all F7)=true):es.map (fun e=>e.map f)=es:=by
 have:es.map (fun e=>e.map f)=es.map id:=by
  refine List.map_congr_left fun e he=>?_;have he':=List.all_eq_true.1 h e he;have:e.map f=e.map id:=List.map_congr_left fun x hx=>hf x (List.all_eq_true.1 he' x hx);simpa using this
 simpa using this
def b5R:AV→Bool
 | .v _=>true
 |_=>false
theorem b1d {x:AV} (h:b5R x=true) (n:Nat):x.flatV n=true:=by cases x<;>first|(cases n<;>rfl)|cases h
theorem F1 {es:List (List AV)} (h:es.all (fun e=>e.all b5R)=true) (n:Nat):(es.all fun e=>e.all (AV.flatV n))=true:=by
 rw[List.all_eq_true]at h ⊢;intro e he;have:=h e he;rw[List.all_eq_true]at this ⊢;intro x hx;exact b1d (this x hx) n
theorem T2 (l:List Int):(l.map j0).all (fun e=>e.all F7)=true:=by simp[F7]
@[simp high] theorem b4E (l:List Int) (g:List (Option Nat)) (n:Nat):(l.map j0).map (fun e=>e.map (m9 g n))=l.map j0:=l8 (fun x h=>E0 h g n) (T2 l)
@[simp high] theorem b2m (l:List Int) (H:Nat→Option l7) (g:List (Option Nat)) (n:Nat):(l.map j0).map (fun e=>e.map (S9 H g n))=l.map j0:=l8 (fun x h=>z6 h H g n) (T2 l)
@[simp high] theorem b3C (l:List Int) (H:Hp) (n:Nat):(l.map j0).map (fun e=>e.map (V9 H n))=l.map j0:=l8 (fun x h=>C0 h H n) (T2 l)
@[simp high] theorem b4F (l:List Int) (H:Nat→Option l7) (n:Nat):(l.map j0).map (fun e=>e.map (frz H n))=l.map j0:=l8 (fun x h=>b3F h H n) (T2 l)
theorem a0U (l:List Bool):(l.map i9).all (fun e=>e.all F7)=true:=by simp[F7]
@[simp high] theorem b4G (l:List Bool) (g:List (Option Nat)) (n:Nat):(l.map i9).map (fun e=>e.map (m9 g n))=l.map i9:=l8 (fun x h=>E0 h g n) (a0U l)
@[simp high] theorem b2V (l:List Bool) (H:Nat→Option l7) (g:List (Option Nat)) (n:Nat):(l.map i9).map (fun e=>e.map (S9 H g n))=l.map i9:=l8 (fun x h=>z6 h H g n) (a0U l)
@[simp high] theorem b2T (l:List Bool) (H:Hp) (n:Nat):(l.map i9).map (fun e=>e.map (V9 H n))=l.map i9:=l8 (fun x h=>C0 h H n) (a0U l)
theorem b0w (l:List (List Int)):(l.map a8H).all (fun e=>e.all F7)=true:=by simp[F7]
@[simp high] theorem b1v (l:List (List Int)) (H:Nat→Option l7) (g:List (Option Nat)) (n:Nat):(l.map a8H).map (fun e=>e.map (S9 H g n))=l.map a8H:=l8 (fun x h=>z6 h H g n) (b0w l)
theorem flat_Wr.cells (l:List Wr):(l.map Wr.cells).all (fun e=>e.all F7)=true:=by simp[F7]
@[simp high] theorem flat_Wr.cells_ren (l:List Wr) (g:List (Option Nat)) (n:Nat):(l.map Wr.cells).map (fun e=>e.map (m9 g n))=l.map Wr.cells:=l8 (fun x h=>E0 h g n) (flat_Wr.cells l)
@[simp high] theorem flat_Wr.cells_renF (l:List Wr) (H:Nat→Option l7) (g:List (Option Nat)) (n:Nat):(l.map Wr.cells).map (fun e=>e.map (S9 H g n))=l.map Wr.cells:=l8 (fun x h=>z6 h H g n) (flat_Wr.cells l)
@[simp high] theorem flat_Wr.cells_frzP (l:List Wr) (H:Hp) (n:Nat):(l.map Wr.cells).map (fun e=>e.map (V9 H n))=l.map Wr.cells:=l8 (fun x h=>C0 h H n) (flat_Wr.cells l)
theorem flat_Fd.cells (l:List Fd):(l.map Fd.cells).all (fun e=>e.all F7)=true:=by simp[F7]
@[simp high] theorem flat_Fd.cells_ren (l:List Fd) (g:List (Option Nat)) (n:Nat):(l.map Fd.cells).map (fun e=>e.map (m9 g n))=l.map Fd.cells:=l8 (fun x h=>E0 h g n) (flat_Fd.cells l)
@[simp high] theorem flat_Fd.cells_renF (l:List Fd) (H:Nat→Option l7) (g:List (Option Nat)) (n:Nat):(l.map Fd.cells).map (fun e=>e.map (S9 H g n))=l.map Fd.cells:=l8 (fun x h=>z6 h H g n) (flat_Fd.cells l)
@[simp high] theorem flat_Fd.cells_frzP (l:List Fd) (H:Hp) (n:Nat):(l.map Fd.cells).map (fun e=>e.map (V9 H n))=l.map Fd.cells:=l8 (fun x h=>C0 h H n) (flat_Fd.cells l)
theorem flat_Ld.cells (l:List Ld):(l.map Ld.cells).all (fun e=>e.all F7)=true:=by simp[F7]
@[simp high] theorem flat_Ld.cells_ren (l:List Ld) (g:List (Option Nat)) (n:Nat):(l.map Ld.cells).map (fun e=>e.map (m9 g n))=l.map Ld.cells:=l8 (fun x h=>E0 h g n) (flat_Ld.cells l)
@[simp high] theorem flat_Ld.cells_renF (l:List Ld) (H:Nat→Option l7) (g:List (Option Nat)) (n:Nat):(l.map Ld.cells).map (fun e=>e.map (S9 H g n))=l.map Ld.cells:=l8 (fun x h=>z6 h H g n) (flat_Ld.cells l)
@[simp high] theorem flat_Ld.cells_frzP (l:List Ld) (H:Hp) (n:Nat):(l.map Ld.cells).map (fun e=>e.map (V9 H n))=l.map Ld.cells:=l8 (fun x h=>C0 h H n) (flat_Ld.cells l)
theorem flat_Fr.cells (l:List Fr):(l.map Fr.cells).all (fun e=>e.all F7)=true:=by simp[F7]
@[simp high] theorem flat_Fr.cells_ren (l:List Fr) (g:List (Option Nat)) (n:Nat):(l.map Fr.cells).map (fun e=>e.map (m9 g n))=l.map Fr.cells:=l8 (fun x h=>E0 h g n) (flat_Fr.cells l)
@[simp high] theorem flat_Fr.cells_renF (l:List Fr) (H:Nat→Option l7) (g:List (Option Nat)) (n:Nat):(l.map Fr.cells).map (fun e=>e.map (S9 H g n))=l.map Fr.cells:=l8 (fun x h=>z6 h H g n) (flat_Fr.cells l)
@[simp high] theorem flat_Fr.cells_frzP (l:List Fr) (H:Hp) (n:Nat):(l.map Fr.cells).map (fun e=>e.map (V9 H n))=l.map Fr.cells:=l8 (fun x h=>C0 h H n) (flat_Fr.cells l)
theorem flat_Cu.cells (l:List Cu):(l.map Cu.cells).all (fun e=>e.all F7)=true:=by simp[F7]
@[simp high] theorem flat_Cu.cells_ren (l:List Cu) (g:List (Option Nat)) (n:Nat):(l.map Cu.cells).map (fun e=>e.map (m9 g n))=l.map Cu.cells:=l8 (fun x h=>E0 h g n) (flat_Cu.cells l)
@[simp high] theorem flat_Cu.cells_renF (l:List Cu) (H:Nat→Option l7) (g:List (Option Nat)) (n:Nat):(l.map Cu.cells).map (fun e=>e.map (S9 H g n))=l.map Cu.cells:=l8 (fun x h=>z6 h H g n) (flat_Cu.cells l)
@[simp high] theorem flat_Cu.cells_frzP (l:List Cu) (H:Hp) (n:Nat):(l.map Cu.cells).map (fun e=>e.map (V9 H n))=l.map Cu.cells:=l8 (fun x h=>C0 h H n) (flat_Cu.cells l)
theorem flat_En.cells (l:List En):(l.map En.cells).all (fun e=>e.all F7)=true:=by simp[F7]
@[simp high] theorem flat_En.cells_ren (l:List En) (g:List (Option Nat)) (n:Nat):(l.map En.cells).map (fun e=>e.map (m9 g n))=l.map En.cells:=l8 (fun x h=>E0 h g n) (flat_En.cells l)
@[simp high] theorem flat_En.cells_renF (l:List En) (H:Nat→Option l7) (g:List (Option Nat)) (n:Nat):(l.map En.cells).map (fun e=>e.map (S9 H g n))=l.map En.cells:=l8 (fun x h=>z6 h H g n) (flat_En.cells l)
@[simp high] theorem flat_En.cells_frzP (l:List En) (H:Hp) (n:Nat):(l.map En.cells).map (fun e=>e.map (V9 H n))=l.map En.cells:=l8 (fun x h=>C0 h H n) (flat_En.cells l)
@[simp high] theorem c0Y (l:List Int) (n:Nat):((l.map j0).all fun e=>e.all (AV.flatV n))=true:=F1 (by simp[b5R]) n
@[simp high] theorem num_Wr.cells (l:List Wr) (n:Nat):((l.map Wr.cells).all fun e=>e.all (AV.flatV n))=true:=F1 (by simp[b5R]) n
@[simp high] theorem num_Fd.cells (l:List Fd) (n:Nat):((l.map Fd.cells).all fun e=>e.all (AV.flatV n))=true:=F1 (by simp[b5R]) n
@[simp high] theorem num_Ld.cells (l:List Ld) (n:Nat):((l.map Ld.cells).all fun e=>e.all (AV.flatV n))=true:=F1 (by simp[b5R]) n
@[simp high] theorem num_Fr.cells (l:List Fr) (n:Nat):((l.map Fr.cells).all fun e=>e.all (AV.flatV n))=true:=F1 (by simp[b5R]) n
@[simp high] theorem num_Cu.cells (l:List Cu) (n:Nat):((l.map Cu.cells).all fun e=>e.all (AV.flatV n))=true:=F1 (by simp[b5R]) n
@[simp high] theorem num_En.cells (l:List En) (n:Nat):((l.map En.cells).all fun e=>e.all (AV.flatV n))=true:=F1 (by simp[b5R]) n
def P1 {α:Type} (l:List α) (q:α→Bool):Int:=match l.findIdx? q with|some i=>i|none=>-1
theorem W4 {α:Type} {l:List α} {q:α→Bool} (h:l.any q=false):P1 l q=-1:=by
 have:l.findIdx? q=none:=by
  rw[List.findIdx?_eq_none_iff];intro x hx;rw[List.any_eq_false]at h;simpa using h x hx
 unfold P1;rw[this]
theorem a0q {α:Type} {l:List α} {q:α→Bool} {k:Nat} {x:α} (hx:l[k]?=some x) (hq:q x=true) (hn:(l.take k).any q=false):P1 l q=k:=by
 obtain⟨hk,he⟩:=List.getElem?_eq_some_iff.1 hx;have:l.findIdx? q=some k:=by
  rw[List.findIdx?_eq_some_iff_getElem];refine⟨hk,by rw[he];exact hq,fun j hj=>?_⟩;rw[List.any_eq_false]at hn;have:=hn l[j] (by rw[List.mem_take_iff_getElem];exact⟨j,by omega,rfl⟩);simpa using this
 unfold P1;rw[this]
theorem a6X {α:Type} (l:List α) (q:α→Bool):decide (0≤P1 l q)=l.any q:=by
 cases h:l.any q with
 |false=>rw[W4 h];rfl
 |true=>
  rw[List.any_eq_true]at h;obtain⟨x,hx,hq⟩:=h;unfold P1
  cases hi:l.findIdx? q with
  |none=>rw[List.findIdx?_eq_none_iff]at hi;exact absurd hq (by simp[hi x hx])
  |some i=>simp
theorem a4n (x y:Int):(x==y)=decide (x=y):=by by_cases h:x=y<;>simp[h]
open Go.Proofs
theorem a3T (s:List (List KC×Value)) (k k':List KC) (v:Value):t5 (y5 s k v) k'=if k'=k then some v else t5 s k':=by
 induction s with
 |nil=>by_cases h:k'=k<;>simp[y5,t5,h]
 | cons p s ih=>
  obtain⟨q,x⟩:=p;simp only[y5]
  by_cases h:k=q
  ·rw[if_pos h];subst h
   by_cases h2:k'=k<;>simp[t5,h2]
  ·rw[if_neg h];simp only[t5]
   by_cases h2:k'=q
   ·have:¬k'=k:=fun e=>h (by rw[←e];exact h2);simp only[h2,if_true];rw[if_neg (fun e=>h (by rw[e]))]
   ·rw[if_neg h2,if_neg h2,ih]
def ik (x:Int):List KC:=[.i .i64 x]
theorem P6 {x y:Int}:ik x=ik y↔x=y:=by simp[ik]
@[simp] theorem c2S (x:Int):p8 [.i .i64] (ik x)=true:=rfl
@[simp] theorem c3y (x:Int):[KC.i .i64 x]=ik x:=rfl
def a1i (s:List (List KC×Value)):Prop:=∀p∈s,∃n,p.2= .int .i64 n
def igt (s:List (List KC×Value)) (x:Int):Int:=match t5 s (ik x)with|some (.int _ n)=>n|_=>0
theorem c0s {s:List (List KC×Value)} {k:List KC} {v:Value} (h:t5 s k=some v):∃p∈s,p.2=v:=by
 induction s with
 |nil=>cases h
 |cons p s ih=>
  obtain⟨q,x⟩:=p;simp only[t5]at h
  split at h
  ·simp only[Option.some.injEq]at h;exact⟨(q,x),by simp,h⟩
  ·obtain⟨p,hp,e⟩:=ih h;exact⟨p,by simp[hp],e⟩
theorem p7 {s:List (List KC×Value)} (hs:a1i s) (x:Int):(t5 s (ik x)).getD (.int .i64 0)= .int .i64 (igt s x):=by
 unfold igt
 cases h:t5 s (ik x)with
 |none=>rfl
 |some v=>
  obtain⟨p,hp,e⟩:=c0s h;obtain⟨n,hn⟩:=hs p hp;rw[←e,hn];rfl
theorem a6h {s:List (List KC×Value)} {k:List KC} {v:Value} {p:List KC×Value} (h:p∈y5 s k v):p=(k,v)∨p∈s:=by
 induction s with
 |nil=>simp only[y5,List.mem_singleton]at h;exact Or.inl h
 | cons q s ih=>
  obtain⟨q,x⟩:=q;simp only[y5]at h
  split at h
  ·rename_i e
   rcases List.mem_cons.1 h with rfl|h
   ·left;subst e;rfl
   ·right;simp[h]
  ·rcases List.mem_cons.1 h with rfl|h
   ·right;simp
   ·rcases ih h with h|h
    ·exact Or.inl h
    ·right;simp[h]
theorem a1i.set {s:List (List KC×Value)} (hs:a1i s) (x n:Int):a1i (y5 s (ik x) (.int .i64 n)):=fun p hp=>by
 rcases a6h hp with rfl|hp
 ·exact⟨n,rfl⟩
 ·exact hs p hp
theorem a1i.nil:a1i []:=fun p hp=>by cases hp
theorem a2v (s:List (List KC×Value)) (x y n:Int):igt (y5 s (ik x) (.int .i64 n)) y=if y=x then n else igt s y:=by
 unfold igt;rw[a3T]
 by_cases h:y=x
 ·rw[if_pos (by rw[h]),if_pos h]
 ·rw[if_neg (fun e=>h (P6.1 e)),if_neg h]
@[simp] theorem c1Z (x:Int):igt [] x=0:=rfl
end Go.Cur
end
section
namespace Go.Cur
open Go.AM Go.Proofs
theorem u0 (x lo hi:Int):d6 Try.prog 68 [I x,I lo,I hi] (Bo (inr x lo hi)):=by
 refine d6.of_body Try.func68 rfl (by decide) (by simp[Try.ntmps68]) ?_;simp only[Try.ntmps68,Try.results68];refine aS fun K hK=>?_;simp -dsimp;apply hK;clear hK K;refine aS fun K hK=>?_;simp -dsimp;apply hK;clear hK K;exact g7 (by simp[inr])
def deg:List Wr→Int→Int
 |[],_=>0
 |w::l,x=>(if w.A=x then 1 else 0)+(if w.B=x then 1 else 0)+deg l x
theorem S8 (x:Int):∀(a b:List Wr),deg (a++b) x=deg a x+deg b x
 |[],b=>by simp[deg]
 |w::a,b=>by simp only[List.cons_append,deg,S8 x a b];omega
theorem a6a (x:Int):∀l,0≤deg l x∧deg l x≤2*l.length
 |[]=>by simp[deg]
 |w::l=>by
  have:=a6a x l;simp only[deg,List.length_cons]
  split<;>split<;>omega
def b8h (s:List (List KC×Value)) (w:Wr):List (List KC×Value):=y5 (y5 s (ik w.A) (.int .i64 (igt s w.A+1))) (ik w.B) (.int .i64 (igt (y5 s (ik w.A) (.int .i64 (igt s w.A+1))) w.B+1))
def b5p (l:List Wr):List (List KC×Value):=l.foldl b8h []
theorem b4T (s:List (List KC×Value)) (w:Wr) (x:Int):igt (b8h s w) x=igt s x+(if w.A=x then 1 else 0)+(if w.B=x then 1 else 0):=by
 unfold b8h;rw[a2v,a2v,a2v]
 by_cases h1:x=w.A
 ·by_cases h2:x=w.B
  ·subst h1;simp[h2]
  ·have h3:¬w.B=x:=fun e=>h2 e.symm;subst h1;simp[h2,h3]
 ·have h4:¬w.A=x:=fun e=>h1 e.symm
  by_cases h2:x=w.B
  ·subst h2;simp[h1,h4]
  ·have h3:¬w.B=x:=fun e=>h2 e.symm;simp[h1,h2,h3,h4]
theorem a1L (x:Int) (l:List Wr):igt (b5p l) x=deg l x:=by
 have gen:∀(l:List Wr) (s:List (List KC×Value)),igt (l.foldl b8h s) x=igt s x+deg l x:=by
  intro l
  induction l with
  |nil=>intro s;simp[deg]
  |cons w l ih=>intro s;rw[List.foldl_cons,ih,b4T,deg];omega
 have:=gen l [];simpa [b5p]using this
theorem b5Y {s:List (List KC×Value)} (h:a1i s) (w:Wr):a1i (b8h s w):=(h.set _ _).set _ _
theorem a1O (l:List Wr):a1i (b5p l):=by
 have gen:∀(l:List Wr) (s:List (List KC×Value)),a1i s→a1i (l.foldl b8h s):=by
  intro l
  induction l with
  |nil=>intro s h;exact h
  |cons w l ih=>intro s h;exact ih _ (b5Y h w)
 exact gen l [] a1i.nil
theorem b4m {l:List Wr} {k:Nat} {w:Wr} (h:l[k]?=some w):b5p (l.take (k+1))=b8h (b5p (l.take k)) w:=by
 unfold b5p;rw[List.take_add_one,h];simp
def fkv (l:List Fd):List (List KC×Value):=l.map fun f=>(ik f.At, .bool true)
theorem b2a:∀(l:List Fd) (x:Int),t5 (fkv l) (ik x)=if (l.any fun f=>decide (f.At=x))=true then some (.bool true)else none
 |[],x=>rfl
 |f::l,x=>by
  have ih:=b2a l x;simp only[fkv]at ih;simp only[fkv,List.map_cons,t5,List.any_cons,Bool.or_eq_true,decide_eq_true_eq]
  by_cases h:f.At=x
  ·rw[if_pos (by rw[h]),if_pos (Or.inl h)]
  ·rw[if_neg (fun e=>h (P6.1 e).symm),ih];simp only[h,false_or]
theorem T8 (l:List Fd) (x:Int):((t5 (fkv l) (ik x)).getD (.bool false))= .bool (l.any fun f=>decide (f.At=x)):=by
 rw[b2a]
 cases (l.any fun f=>decide (f.At=x))<;>rfl
theorem a9r:∀(l:List Fd) (f:Fd),(l.any fun x=>decide (x.At=f.At))=false→y5 (fkv l) (ik f.At) (.bool true)=fkv (l++[f])
 |[],f,_=>rfl
 |x::l,f,h=>by
  simp only[List.any_cons,Bool.or_eq_false_iff,decide_eq_false_iff_not]at h;have ih:=a9r l f h.2;simp only[fkv]at ih;simp only[fkv,List.map_cons,List.cons_append,y5];rw[if_neg (fun e=>h.1 (P6.1 e).symm),ih]
def wrB (g:Gr) (w:Wr):Bool:=inr w.A 0 (g.Nodes-1)&&inr w.B 0 (g.Nodes-1)&& !decide (w.A=w.B)&&inr w.Siem 1 4
def wrD (l:List Wr) (w:Wr):Bool:=decide (deg l w.A≤3)&&decide (deg l w.B≤3)
def fdB (g:Gr) (l:List Fd) (f:Fd):Bool:=inr f.At 0 (g.Nodes-1)&&inr f.Volts 1 1000&&inr f.Siem 1 4&&inr f.Limit 0 2000&& !(l.any fun x=>decide (x.At=f.At))
def a7D (g:Gr):Nat→Bool
 |0=>true
 |k+1=>a7D g k&&(match g.Wires[k]? with|some w=>wrB g w&&wrD (g.Wires.take (k+1)) w|none=>true)
def a7C (g:Gr):Nat→Bool
 |0=>true
 |k+1=>a7C g k&&(match g.Feeds[k]? with|some f=>fdB g (g.Feeds.take k) f|none=>true)
def grH (g:Gr):Bool:=inr g.Nodes 1 40&&decide (g.Wires.length≤80)&&decide (g.Feeds.length≤12)&&inr g.Least 0 1000
def grB (g:Gr):Bool:=grH g&&a7D g g.Wires.length&&a7C g g.Feeds.length
theorem b1l {g:Gr} {k:Nat} (h:a7D g k=false):∀d,a7D g (k+d)=false
 |0=>h
 |d+1=>by rw[←Nat.add_assoc];simp only[a7D,b1l h d,Bool.false_and]
theorem b4g {g:Gr} {k:Nat} (h:a7C g k=false):∀d,a7C g (k+d)=false
 |0=>h
 |d+1=>by rw[←Nat.add_assoc];simp only[a7C,b4g h d,Bool.false_and]
theorem b9y {g:Gr} {k:Nat} {w:Wr} (hw:g.Wires[k]?=some w) (h:(wrB g w&&wrD (g.Wires.take (k+1)) w)=false):grB g=false:=by
 have hk:=(List.getElem?_eq_some_iff.1 hw).1;have h1:a7D g (k+1)=false:=by simp only[a7D,hw,h,Bool.and_false]
 have h2:=b1l h1 (g.Wires.length-(k+1));rw[show k+1+(g.Wires.length-(k+1))=g.Wires.length by omega]at h2;simp[grB,h2]
theorem c0S {g:Gr} {k:Nat} {f:Fd} (hf:g.Feeds[k]?=some f) (h:fdB g (g.Feeds.take k) f=false):grB g=false:=by
 have hk:=(List.getElem?_eq_some_iff.1 hf).1;have h1:a7C g (k+1)=false:=by simp only[a7C,hf,h,Bool.and_false]
 have h2:=b4g h1 (g.Feeds.length-(k+1));rw[show k+1+(g.Feeds.length-(k+1))=g.Feeds.length by omega]at h2;simp[grB,h2]
def okE (b:Bool):Int:=if b then 0 else 2
theorem a8i (g:Gr):d6 Try.prog 42 [g.av] (I (okE (grB g))):=by
 refine d6.of_body Try.func42 rfl (by decide) (by simp[Try.ntmps42]) ?_;simp only[Try.ntmps42,Try.results42];refine aS fun K hK=>?_;simp -dsimp;apply hK;clear hK K;refine b8 fun K1 hK1=>?_;refine aS fun K hK=>?_;simp -dsimp;refine d5 _ (u0 g.Nodes 1 40) (by simp) ?_;simp -dsimp;refine g8 _ (fun hm=>u0 g.Least 0 1000) (by simp) ?_;simp -dsimp;apply hK;clear hK K;refine d8 rfl (fun hc0=>?_) (fun hc0=>?_)
 ·refine aS fun K hK=>?_;simp -dsimp;apply hK;clear hK K;have hf:grH g=false:=by
   cases hh:grH g with
   |false=>rfl
   |true=>
    simp only[grH,Bool.and_eq_true,decide_eq_true_eq]at hh;have h1:(g.Wires.length:Int)≤80:=by omega
    have h2:(g.Feeds.length:Int)≤12:=by omega
    simp[hh.1.1.1,hh.2]at hc0;omega
  exact g7 (by simp[grB,hf,okE])
 ·have hH:grH g=true:=by
   simp at hc0;simp only[grH,hc0.1.1.1,hc0.2,Bool.and_eq_true,decide_eq_true_eq,and_true,true_and];omega
  have hN:=hH;simp only[grH,Bool.and_eq_true,decide_eq_true_eq,t4]at hN;have wn:IntKind.i64.wrap (g.Nodes-1)=g.Nodes-1:=f7 (by omega) (by omega);refine f5 ?_;simp only[zT,reduceIte,Nat.reduceEqDiff];refine hK1 _ _ ?_;refine b7 [1] ?_;simp only[zP,Nat.reduceEqDiff,reduceIte];refine aS fun K hK=>?_;simp -dsimp;apply hK;clear hK K;refine b8 fun K2 hK2=>?_;refine aS fun K hK=>?_;simp -dsimp;apply hK;clear hK K;refine e8 ?_;refine b7 [1,3,4,34,35,36] ?_;simp only[zP,Nat.reduceEqDiff,reduceIte];refine i4 [1,3,4,34,35] (α:=Nat) (fun k=>[(36,I k)]) (fun k=>[some (.els 4 [g.cells]),some (.map false [.i .i64] (b5p (g.Wires.take k))),some (.map false [.i .i64] [])]) (fun k=>k≤g.Wires.length∧a7D g k=true) (fun k=>g.Wires.length-k) 0 ?_ ?_ ?_
  ·exact⟨Nat.zero_le _,rfl⟩
  ·exact j9 (by simp)
  rintro k ⟨k1,k2⟩;simp only[zP,Nat.reduceEqDiff,reduceIte];refine aS fun K hK=>?_;simp -dsimp;apply hK;clear hK K;refine b8 fun K3 hK3=>?_;refine d8 rfl (fun hc1=>?_) (fun hc1=>?_)
  ·skip
   try simp at hc1
   obtain⟨w,hw⟩:∃w,g.Wires[k]?=some w:=⟨_,List.getElem?_eq_getElem hc1⟩;have wk:=zW k (by omega);refine f5 ?_;simp only[zT,reduceIte,Nat.reduceEqDiff];refine hK3 _ _ ?_;refine b7 [1,3,4,34,35,36] ?_;simp only[zP,Nat.reduceEqDiff,reduceIte];refine b8 fun K4 hK4=>?_;refine e8 ?_;refine aS fun K hK=>?_;simp -dsimp [hw];apply hK;clear hK K;refine b8 fun K5 hK5=>?_;refine aS fun K hK=>?_;simp -dsimp [wn];refine d5 _ (u0 _ _ _) (by simp) ?_;simp -dsimp [wn];refine g8 _ (fun hm=>u0 w.B 0 (g.Nodes-1)) (by simp) ?_;simp -dsimp [wn];refine g8 _ (fun hm=>u0 w.Siem 1 4) (by simp) ?_;simp -dsimp [wn];apply hK;clear hK K;refine d8 rfl (fun hc2=>?_) (fun hc2=>?_)
   ·have hwr:wrB g w= !(!inr w.A 0 (g.Nodes-1)|| !inr w.B 0 (g.Nodes-1)||w.A==w.B|| !inr w.Siem 1 4):=by
     simp only[wrB,a4n]
     cases inr w.A 0 (g.Nodes-1)<;>cases inr w.B 0 (g.Nodes-1)<;>cases decide (w.A=w.B)<;>cases inr w.Siem 1 4<;>rfl
    refine aS fun K hK=>?_;simp -dsimp;apply hK;clear hK K;exact g7 (by simp[b9y hw (by rw[hwr,hc2];rfl),okE])
   ·have hwr:wrB g w= !(!inr w.A 0 (g.Nodes-1)|| !inr w.B 0 (g.Nodes-1)||w.A==w.B|| !inr w.Siem 1 4):=by
     simp only[wrB,a4n]
     cases inr w.A 0 (g.Nodes-1)<;>cases inr w.B 0 (g.Nodes-1)<;>cases decide (w.A=w.B)<;>cases inr w.Siem 1 4<;>rfl
    have hwo:wrB g w=true:=by rw[hwr,hc2];rfl
    have hI:=a1O (g.Wires.take k);have hd:=fun x=>a6a x (g.Wires.take k);have hlt:(g.Wires.take k).length≤k:=by rw[List.length_take];omega
    have hg:=fun x=>a1L x (g.Wires.take k);have hsn:=b4m hw;generalize b5p (g.Wires.take k)=s at hI hg hsn ⊢;have wa:IntKind.i64.wrap (igt s w.A+1)=igt s w.A+1:=by have:=hd w.A;have:=hg w.A;exact f7 (by omega) (by omega)
    have hI1:=hI.set w.A (igt s w.A+1);have wb:IntKind.i64.wrap (igt (y5 s (ik w.A) (.int .i64 (igt s w.A+1))) w.B+1)=igt (y5 s (ik w.A) (.int .i64 (igt s w.A+1))) w.B+1:=by
     rw[a2v];have:=hd w.B;have:=hg w.B;have:=hd w.A;have:=hg w.A
     split<;>exact f7 (by omega) (by omega)
    have hI2:=hI1.set w.B (igt (y5 s (ik w.A) (.int .i64 (igt s w.A+1))) w.B+1);have hdS:y5 (y5 s (ik w.A) (.int .i64 (igt s w.A+1))) (ik w.B) (.int .i64 (igt (y5 s (ik w.A) (.int .i64 (igt s w.A+1))) w.B+1))=b5p (g.Wires.take (k+1)):=by rw[hsn];rfl
    refine f5 ?_;simp only[zT,reduceIte,Nat.reduceEqDiff];refine hK5 _ _ ?_;refine b7 [1,3,4,6,34,35,36] ?_;simp only[zP,Nat.reduceEqDiff,reduceIte];refine aS fun K hK=>?_;simp -dsimp [p7 hI,wa];refine o4 (_) (fun hm=>rfl) ?_;simp -dsimp [p7 hI,wa];apply hK;clear hK K;refine aS fun K hK=>?_;simp -dsimp [p7 hI1,wb,hdS];refine o4 (_) (fun hm=>rfl) ?_;simp -dsimp [p7 hI1,wb,hdS];apply hK;clear hK K;refine aS fun K hK=>?_;simp -dsimp [p7 (a1O _),a1L];refine o4 (_) (fun hm=>rfl) ?_;simp -dsimp [p7 (a1O _),a1L];refine o4 (_) (fun hm=>rfl) ?_;simp -dsimp [p7 (a1O _),a1L];apply hK;clear hK K;refine d8 rfl (fun hc3=>?_) (fun hc3=>?_)
    ·skip
     try simp at hc3
     refine aS fun K hK=>?_;simp -dsimp;apply hK;clear hK K;exact g7 (by simp[b9y hw (by simp[wrD];omega),okE])
    ·skip
     try simp at hc3
     refine f5 ?_;simp only[zT,reduceIte,Nat.reduceEqDiff];refine hK4 _ _ ?_;refine b7 [1,3,4,34,35,36] ?_;simp only[zP,Nat.reduceEqDiff,reduceIte];refine aR fun K hK=>?_;simp -dsimp [wk];apply hK;clear hK K;simp only[zT,reduceIte,Nat.reduceEqDiff];refine⟨k+1,⟨by omega,?_⟩,by omega,e9 [some 0,some 1,some 2] rfl (by simp) (by simp)⟩;simp only[a7D,k2,hw,hwo,wrD,Bool.true_and,Bool.and_eq_true,decide_eq_true_eq];omega
  ·skip
   try simp at hc1
   have hke:k=g.Wires.length:=by omega
   subst hke;refine j8 ?_;simp only[zT,reduceIte,Nat.reduceEqDiff];refine hK2 _ _ ?_;refine b7 [1,4] ?_;simp only[zP,Nat.reduceEqDiff,reduceIte];refine b8 fun K6 hK6=>?_;refine aS fun K hK=>?_;simp -dsimp;apply hK;clear hK K;refine e8 ?_;refine b7 [1,4,93,94,95] ?_;simp only[zP,Nat.reduceEqDiff,reduceIte];refine i4 [1,4,93,94] (α:=Nat) (fun k=>[(95,I k)]) (fun k=>[some (.els 4 [g.cells]),none,some (.map false [.i .i64] (fkv (g.Feeds.take k)))]) (fun k=>k≤g.Feeds.length∧a7C g k=true) (fun k=>g.Feeds.length-k) 0 ?_ ?_ ?_
   ·exact⟨Nat.zero_le _,rfl⟩
   ·exact e9 [some 0,none,some 2] rfl (by simp) (by simp[fkv])
   rintro i ⟨i1,i2⟩;simp only[zP,Nat.reduceEqDiff,reduceIte];refine aS fun K hK=>?_;simp -dsimp;apply hK;clear hK K;refine b8 fun K7 hK7=>?_;refine d8 rfl (fun hc4=>?_) (fun hc4=>?_)
   ·skip
    try simp at hc4
    obtain⟨f,hf⟩:∃f,g.Feeds[i]?=some f:=⟨_,List.getElem?_eq_getElem hc4⟩;have wi:=zW i (by omega);refine f5 ?_;simp only[zT,reduceIte,Nat.reduceEqDiff];refine hK7 _ _ ?_;refine b7 [1,4,93,94,95] ?_;simp only[zP,Nat.reduceEqDiff,reduceIte];refine b8 fun K8 hK8=>?_;refine e8 ?_;refine aS fun K hK=>?_;simp -dsimp [hf];apply hK;clear hK K;refine b8 fun K9 hK9=>?_;refine aS fun K hK=>?_;simp -dsimp [wn,T8];refine d5 _ (u0 _ _ _) (by simp) ?_;simp -dsimp [wn,T8];refine g8 _ (fun hm=>u0 f.Volts 1 1000) (by simp) ?_;simp -dsimp [wn,T8];refine g8 _ (fun hm=>u0 f.Siem 1 4) (by simp) ?_;simp -dsimp [wn,T8];refine g8 _ (fun hm=>u0 f.Limit 0 2000) (by simp) ?_;simp -dsimp [wn,T8];refine o4 (_) (fun hm=>rfl) ?_;simp -dsimp [wn,T8];apply hK;clear hK K;refine d8 rfl (fun hc5=>?_) (fun hc5=>?_)
    ·have hfd:fdB g (g.Feeds.take i) f= !(!inr f.At 0 (g.Nodes-1)|| !inr f.Volts 1 1000|| !inr f.Siem 1 4|| !inr f.Limit 0 2000||((g.Feeds.take i).any fun x=>decide (x.At=f.At))):=by
      simp only[fdB]
      cases inr f.At 0 (g.Nodes-1)<;>cases inr f.Volts 1 1000<;>cases inr f.Siem 1 4<;>cases inr f.Limit 0 2000<;>cases ((g.Feeds.take i).any fun x=>decide (x.At=f.At))<;>rfl
     refine aS fun K hK=>?_;simp -dsimp;apply hK;clear hK K;exact g7 (by simp[c0S hf (by rw[hfd,hc5];rfl),okE])
    ·have hfd:fdB g (g.Feeds.take i) f= !(!inr f.At 0 (g.Nodes-1)|| !inr f.Volts 1 1000|| !inr f.Siem 1 4|| !inr f.Limit 0 2000||((g.Feeds.take i).any fun x=>decide (x.At=f.At))):=by
      simp only[fdB]
      cases inr f.At 0 (g.Nodes-1)<;>cases inr f.Volts 1 1000<;>cases inr f.Siem 1 4<;>cases inr f.Limit 0 2000<;>cases ((g.Feeds.take i).any fun x=>decide (x.At=f.At))<;>rfl
     have hany:((g.Feeds.take i).any fun x=>decide (x.At=f.At))=false:=by
      cases h:((g.Feeds.take i).any fun x=>decide (x.At=f.At))with
      |false=>rfl
      |true=>rw[h]at hc5;simp at hc5
     refine f5 ?_;simp only[zT,reduceIte,Nat.reduceEqDiff];refine hK9 _ _ ?_;refine b7 [1,4,8,93,94,95] ?_;simp only[zP,Nat.reduceEqDiff,reduceIte];refine aR fun K hK=>?_;simp -dsimp [a9r _ _ hany];apply hK;clear hK K;simp only[zT,reduceIte,Nat.reduceEqDiff];refine hK8 _ _ ?_;refine b7 [1,4,93,94,95] ?_;simp only[zP,Nat.reduceEqDiff,reduceIte];refine aR fun K hK=>?_;simp -dsimp [wi];apply hK;clear hK K;simp only[zT,reduceIte,Nat.reduceEqDiff];refine⟨i+1,⟨by omega,?_⟩,by omega,e9 [some 0,none,some 2] rfl (by simp) (by simp[List.take_add_one,hf])⟩;simp only[a7C,i2,hf,hfd,hc5];rfl
   ·skip
    try simp at hc4
    have hie:i=g.Feeds.length:=by omega
    subst hie;refine j8 ?_;simp only[zT,reduceIte,Nat.reduceEqDiff];refine hK6 _ _ ?_;refine b7 [] ?_;simp only[zP,Nat.reduceEqDiff,reduceIte];refine aS fun K hK=>?_;simp -dsimp;apply hK;clear hK K;exact g7 (by simp[grB,hH,k2,i2,okE])
end Go.Cur
end
