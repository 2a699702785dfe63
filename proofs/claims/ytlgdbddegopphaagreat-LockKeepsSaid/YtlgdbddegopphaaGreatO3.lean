import Derived.Test.YtlgdbddegopphaaGreatO2
set_option maxRecDepth 100000
set_option maxHeartbeats 8000000
set_option linter.unusedVariables false
set_option linter.unusedSimpArgs false
section
namespace Go.AM
abbrev Tm:=List (Nat×AV)
def i8:Tm->Nat->AV
 |[],_=> .any
 |(i,x)::r,t=>if t=i then x else i8 r t
def a2t (T:Tm) (d:Option Tmp) (x:AV):Tm:=
 match d with
 |some d=>(d,x)::T
 |none=>T
theorem x5 (T:Tm) (d:Option Tmp) (x:AV) (t:Nat):i8 (a2t T d x) t=if d=some t then x else i8 T t:=by
 cases d with
 |none=>simp[a2t]
 |some d=>
  simp only[a2t,i8,qb]
  by_cases h:t=d
  ·subst h;simp
  ·rw[if_neg h,if_neg (fun e=>h e.symm)]
def p9:Hp->Nat->Option n9->Hp
 |[],_,o=>[o]
 |_::xs,0,o=>o::xs
 |x::xs,n+1,o=>x::p9 xs n o
def a5W (H:Hp):List (Nat×Option n9)->Hp
 |[]=>H
 |(r,o)::ups=>a5W (p9 H r o) ups
theorem y5:∀(H:Hp) (r:Nat) (o:Option n9) (k:Nat),r<=H.length->g8 (p9 H r o) k=if k=r then o else g8 H k
 |[],r,o,k,h=>by
  have:r=0:=by simpa using h
  subst this
  cases k with
  |zero=>rfl
  |succ k=>simp[p9,g8]
 |x::xs,0,o,k,h=>by cases k<;>simp[p9,g8]
 |x::xs,n+1,o,k,h=>by
  cases k with
  |zero=>simp[p9,g8]
  |succ k=>simp only[p9,g8,Nat.add_right_cancel_iff];exact y5 xs n o k (by simpa using h)
theorem a4o:∀(H:Hp) (r:Nat) (o:Option n9),r<=H.length->(p9 H r o).length=max H.length (r+1)
 |[],r,o,h=>by
  have:r=0:=by simpa using h
  subst this;rfl
 |x::xs,0,o,h=>by simp[p9]
 |x::xs,n+1,o,h=>by simp only[p9,List.length_cons,a4o xs n o (by simpa using h)];omega
def a1v (H:Hp):List (Nat×Option n9)->Prop
 |[]=>True
 |(r,o)::ups=>r<=H.length/\a1v (p9 H r o) ups
def I6:List (Nat×Option n9)->Bool
 |[]=>true
 |(r,_)::ups=>(ups.all fun q=>q.1 !=r)&&I6 ups
theorem G1:∀(ups:List (Nat×Option n9)) (H:Hp),a1v H ups->I6 ups=true->∀k,(∀o,(k,o)∈ups->g8 (a5W H ups) k=o)/\((∀o,(k,o)∉ups)->g8 (a5W H ups) k=g8 H k)
 |[],H,_,_,k=>⟨fun o h=>(by cases h),fun _=>rfl⟩
 | (r,o)::ups,H,hi,ho,k=>by
  simp only[I6,qh,qn,bne_iff_ne,ne_eq]at ho;obtain⟨h1,h2⟩:=G1 ups (p9 H r o) hi.2 ho.2 k;constructor
  ·intro o' hm;simp only[List.mem_cons,qr]at hm
   rcases hm with⟨rfl,rfl⟩|hm
   ·have:∀q,(k,q)∉ups:=fun q hq=>ho.1 (k,q) hq rfl;simp only[a5W];rw[h2 this,y5 H k o' k hi.1,if_pos rfl]
   ·exact h1 o' hm
  ·intro hn;simp only[List.mem_cons,qr,not_or,not_and]at hn;simp only[a5W];rw[h2 (fun q hq=>(hn q).2 hq),y5 H r o k hi.1,if_neg (fun e=>(hn o).1 e rfl)]
theorem B3:∀(ups:List (Nat×Option n9)) (H:Hp),a1v H ups->H.length<=(a5W H ups).length/\∀r o,(r,o)∈ups->r<(a5W H ups).length
 |[],H,_=>⟨qo _,fun r o h=>(by cases h)⟩
 |(r,o)::ups,H,hi=>by
  obtain⟨h1,h2⟩:=B3 ups (p9 H r o) hi.2;rw[a4o H r o hi.1]at h1;refine⟨by simp only[a5W];omega,fun r' o' hm=>?_⟩;simp only[List.mem_cons,qr]at hm
  rcases hm with⟨rfl,rfl⟩|hm
  ·simp only[a5W];omega
  ·exact h2 r' o' hm
def a4h:Value->AV
 | .agg cs=>if cs.toList.all Value.oneCell'=true then .agg (cs.toList.map .v)else .v (.agg cs)
 |x=> .v x
theorem W7 {w:World} {S:Nat->Prop} (x:Value):r8 w S (a4h x) x:=by
 cases x with
 | agg cs=>
  simp only[a4h]
  split
  ·rename_i h;have e:cs=cs.toList.toArray:=by simp
   rw[e];refine .agg _ _ (by simp) (fun u hu=>?_) (fun i c u h1 h2=>?_)
   ·exact qn.1 h u hu
   ·simp only[qe,qf]at h1;obtain⟨q,h1,rfl⟩:=h1;have h2':cs.toList[i]?=some u:=by simpa using h2
    have h1':cs.toList[i]?=some q:=by simpa using h1
    rw[h1']at h2';simp only[qb]at h2';subst h2';exact .v q
  ·exact .v _
 |_=>exact .v _
def evT (T:Nat->AV):Operand->AV
 | .tmp t=>T t
 | .const x=>a4h x
 | .global g=> .v (.pointer (some ⟨g,0,none⟩))
 | .func f=> .clo f []
def AV.strip:AV->AV
 | .may _ x=>x
 |x=>x
def c5W (m l:List Bool):Prop:=m.all id=true->l.all id=true
def okm (m:List Bool):AV->Prop
 | .may l _=>c5W m l
 |_=>True
def b3r (m:List Bool):List AV->Prop
 |[]=>True
 |x::xs=>okm m x/\b3r m xs
theorem U9 {w:World} {S:Nat->Prop} {ρ:Nat->Option Loc} {L:Nat->Prop} {m:List Bool} {x:AV} {y:Value} (hm:m.all id=true) (ho:okm m x) (h:e8 w S ρ L x y):e8 w S ρ L x.strip y:=by
 cases x with
 | may l x=>
  have hl:=ho hm
  cases h with
  |pure _ _ h=>cases h with
   |mayT _ _ _ _ h=>exact .pure _ _ h
   |mayF _ _ hf=>rw[hl]at hf;cases hf
  |mayT _ _ _ _ h=>exact h
  |mayF _ _ hf=>rw[hl]at hf;cases hf
 |_=>exact h
theorem a1J {m:List Bool} {x:AV}:∀{l:List AV},b3r m l->x∈l->okm m x
 |y::l,h,hx=>by
  rcases List.mem_cons.1 hx with rfl|hx
  ·exact h.1
  ·exact a1J h.2 hx
def b3V:List Bool->AV->AV
 |[],x=>x
 |l,x=> .may l x
theorem a7l {w:World} {S:Nat->Prop} {ρ:Nat->Option Loc} {L:Nat->Prop} {m:List Bool} {x:AV} {y:Value} (hm:m.all id=true) (h:e8 w S ρ L x y):e8 w S ρ L (b3V m x) y:=by
 cases m with
 |nil=>exact h
 |cons b m=>exact .mayT _ _ _ hm h
theorem a2W {w:World} {S:Nat->Prop} {ρ:Nat->Option Loc} {L:Nat->Prop} {m:List Bool} {x:AV} (hm:m.all id=false):e8 w S ρ L (b3V m x) undef:=by
 cases m with
 |nil=>simp at hm
 |cons b m=>exact .mayF _ _ hm
def c4N:AV->Option (List Bool×Bool)
 | .v (.bool b)=>some ([],b)
 | .may l (.v (.bool b))=>some (l,b)
 |_=>none
def c1A (b want:Bool):Bool:=if want then b else !b
def c8f (dsts:List (Option Tmp)) (j:Nat):Nat:=match dsts[j]? with|some (some d)=>d|_=>0
def c4k (m:List Bool) (c x y:AV) (K:AV->Prop):Prop:=
 okm m c/\match c.strip,x.strip,y.strip with
 | .v (.bool t), .v (.bool p), .v (.bool q)=>okm (m++[t]) x/\okm (m++[!t]) y/\K (.v (.bool (cond t p q)))
 |_,_,_=>False
def c5Z (m:List Bool) (ups:List (Nat×Option n9)):Prop:=m.all id=true∨ups=[]
def b3a (nt:Nat):Option Tmp->Prop
 |none=>True
 |some d=>d<nt
def a8A (P:Program) (m:List Bool) (op:Op) (T:Nat->AV) (H:Nat->Option n9) (N:Nat) (K:Eff->Prop):Prop:=
 match op with
 | .pick c x y=>c4k m (evT T c) (evT T x) (evT T y) (ct (fun r=>K ⟨b3V m r,[],[]⟩) ⟨⟩)
 |op=>b3r m (op.operands.toList.map (evT T))/\aop P m op (fun x=>(evT T x).strip) H N (ct (fun e=>c5Z m e.ups/\K ⟨b3V m e.av,e.ups,e.reads⟩) ⟨⟩)
def a8G (P:Program) (ops:Array Oper) (o:Oper) (T:Nat->AV) (H:Nat->Option n9) (N:Nat) (e:Eff):Prop:=
 ∀ (B S0:Nat->Prop) (a:Act) (w:World) (ρ:Nat->Option Loc) (L:Nat->Prop),WF B S0 w ρ L->a2E L N e->
  (∀t∈o.looksAt ops,e8 w (Sx S0 ρ) ρ L (T t) (a.tmps.getD t undef))->
  (∀r∈e.reads,∀row,H r=some row->∃l,ρ r=some l/\i7 w (Sx S0 ρ) ρ L l row)->
  ∀(K:Act->World->Prop) (Q:Exit->Act->World->Prop),(∀v w' ρ',a3D B S0 w ρ L N e w' ρ' v->K (a.put o.dst v) w')->
   if Region.wanted o (yielded ops a.tmps)then o.wp P a w K Q else K (a.put o.dst undef) w
section
variable {P:Program} {ops:Array Oper} {o:Oper} {T:Nat->AV} {H:Nat->Option n9} {N:Nat}
theorem b2h {w:World} {S:Nat->Prop} {ρ:Nat->Option Loc} {L:Nat->Prop} {a:Act} (h:∀t∈o.looksAt ops,e8 w S ρ L (T t) (a.tmps.getD t undef)):
  ∀x∈o.op.operands,e8 w S ρ L (evT T x) (a.eval x):=by
 intro x hx
 cases x with
 |tmp t=>
  refine h t ?_;simp only[Oper.looksAt,List.mem_append,List.mem_filterMap];exact Or.inl ⟨.tmp t,by simpa using hx,rfl⟩
 |const v=>exact .pure _ _ (W7 v)
 |global g=>exact .pure _ _ (.v _)
 |func f=>exact .pure _ _ (.clo f [] [] rfl (by simp))
theorem a1u {B S0:Nat->Prop} {w:World} {ρ:Nat->Option Loc} {L:Nat->Prop} (hw:WF B S0 w ρ L) {av:AV} {v:Value} {rd:List Nat} (h:e8 w (Sx S0 ρ) ρ L av v):a3D B S0 w ρ L N ⟨av,[],rd⟩ w ρ v:=
 {wf:=hw.more fun r=>Or.inl,rep:=h.ext (qo _) (fun b _ hn=>⟨rfl,hn⟩) (fun r=>Or.inl) (fun r l _ hl=>hl),ups:=(by intro r o hm;cases hm),others:=fun r _=>rfl,only:=fun r l hl=>Or.inl hl,ext:=Ext.refl _ _}
theorem a3D.remay {B S0:Nat->Prop} {w:World} {ρ:Nat->Option Loc} {L:Nat->Prop} {e:Eff} {w':World} {ρ':Nat->Option Loc} {v:Value} (h:a3D B S0 w ρ L N e w' ρ' v) {m:List Bool} (hm:m.all id=true):
  a3D B S0 w ρ L N ⟨b3V m e.av,e.ups,e.reads⟩ w' ρ' v:=
 {wf:=h.wf,rep:=a7l hm h.rep,ups:=h.ups,others:=h.others,only:=h.only,ext:=h.ext}
theorem a3u {m:List Bool} {K:Eff->Prop}
  (hg:∀(w:World) (S:Nat->Prop) (ρ:Nat->Option Loc) (L:Nat->Prop) (a:Act),(∀t∈o.looksAt ops,e8 w S ρ L (T t) (a.tmps.getD t undef))->(Region.wanted o (yielded ops a.tmps)=true↔m.all id=true))
  (h:a8A P m o.op T H N K):∃e,a8G P ops o T H N e/\K e:=by
 by_cases hp:∃c x y,o.op= .pick c x y
 ·obtain⟨c,x,y,ho⟩:=hp;rw[ho]at h;obtain⟨hc,h⟩:=h
  split at h
  ·rename_i t p q e1 e2 e3;obtain⟨hx,hy,h⟩:=h;refine⟨_,fun B S0 a w ρ L hw hN hl hrd K' Q hK=>?_,h⟩;have hops:=b2h (o:=o) hl
   split
   ·rename_i hwant;have hm:=(hg w _ ρ L a hl).1 hwant;have hcv:a.eval c= .bool t:=by
     have:=U9 hm hc (hops c (by simp[ho,Op.operands]));rw[e1]at this;exact j5 this
    have hrun:(execOp a.eval o).run P w= .ok (.value (if t then a.eval x else a.eval y)) w:=by
     simp only[execOp,ho,hcv];cases t<;>rfl
    unfold Oper.wp;rw[hrun];refine hK _ _ ρ (a1u hw (a7l hm ?_))
    cases t with
    |true=>
     have:=U9 (m:=m++[true]) (by simp[hm]) hx (hops x (by simp[ho,Op.operands]));rw[e2]at this;exact this
    |false=>
     have:=U9 (m:=m++[!false]) (by simp[hm]) hy (hops y (by simp[ho,Op.operands]));rw[e3]at this;exact this
   ·rename_i hwant;have hm:m.all id=false:=by
     cases hmm:m.all id with
     |false=>rfl
     |true=>exact absurd ((hg w _ ρ L a hl).2 hmm) hwant
    exact hK _ _ ρ (a1u hw (a2W hm))
  ·exact h.elim
 ·have h':b3r m (o.op.operands.toList.map (evT T))/\aop P m o.op (fun x=>(evT T x).strip) H N (ct (fun e=>c5Z m e.ups/\K ⟨b3V m e.av,e.ups,e.reads⟩) ⟨⟩):=by
   unfold a8A at h
   split at h
   ·rename_i c x y ho;exact absurd ⟨c,x,y,ho⟩ hp
   ·exact h
  obtain⟨hok,h'⟩:=h';obtain⟨e,he,hu,hk⟩:=b4j h';refine⟨_,fun B S0 a w ρ L hw hN hl hrd K' Q hK=>?_,hk⟩;have hops:=b2h (o:=o) hl
  split
  ·rename_i hwant;have hm:=(hg w _ ρ L a hl).1 hwant;exact he hm B S0 a w ρ L hw hN (fun x hx=>U9 hm (a1J hok (qu (by simpa using hx))) (hops x hx)) hrd K' Q (fun v w' ρ' hp=>hK v w' ρ' (hp.remay hm))
  ·rename_i hwant;have hm:m.all id=false:=by
    cases hmm:m.all id with
    |false=>rfl
    |true=>exact absurd ((hg w _ ρ L a hl).2 hmm) hwant
   have hups:e.ups=[]:=hu.resolve_left (by rw[hm];simp);have:=a1u (N:=N) (rd:=e.reads) hw (a2W (x:=e.av) hm) (v:=undef);rw[hups]at hK;exact hK _ _ ρ this
def a3c (P:Program) (dsts:List (Option Tmp)) (o:Oper) (T:Nat->AV) (H:Nat->Option n9) (N:Nat) (K:Eff->Prop):Prop:=
 match o.guard with
 |none=>a8A P [] o.op T H N K
 | some (j,want)=>match dsts[j]? with
  |some (some d)=>match c4N (T d)with
   |some (l,b)=>a8A P (l++[c1A b want]) o.op T H N K
   |none=>False
  |_=>False
theorem G2 {dsts:List (Option Tmp)} (hd:∀j:Nat,dsts[j]?=(ops[j]?).map (·.dst)) {K:Eff->Prop} (h:a3c P dsts o T H N K) (hsz:∀(a:Act),True):∃e,a8G P ops o T H N e/\K e:=by
  unfold a3c at h
  split at h
  · rename_i hg
    exact a3u (fun w S ρ L a _=>by simp[Region.wanted,hg]) h
  · rename_i j want hg
    split at h
    · rename_i d hdj
      split at h
      · rename_i l b hgv
        refine a3u (fun w S ρ L a hl=>?_) h
        have hdo:(ops[j]?).bind (·.dst)=some d:=by
          have:=hd j
          rw[hdj]at this
          cases ho:ops[j]? with
          |none=>rw[ho]at this;cases this
          |some oj=>rw[ho]at this;simp only[Option.map_some,qb]at this;simp[this]
        have hrep:=hl d (by
          simp only[Oper.looksAt,List.mem_append]
          right
          rw[hg]
          simp[hdo])
        have hcell : ∀v,a.tmps.getD d undef=v->(∀bb,v= .bool bb->yielded ops a.tmps j=some bb)/\(v=undef->yielded ops a.tmps j=none):=by
          intro v hv
          unfold yielded
          rw[hdo]
          simp only[Option.bind_some]
          cases ht:a.tmps[d]? with
          |none=>simp[qt,ht]at hv;subst hv;simp[undef]
          | some u => simp[qt,ht]at hv;subst hv;constructor
                      · rintro bb rfl;rfl
                      · rintro rfl;rfl
        simp only[Region.wanted,hg]
        generalize hT:T d=td at hrep hgv
        unfold c4N at hgv
        split at hgv
        · simp only[qb,qr]at hgv
          obtain⟨rfl,rfl⟩:=hgv
          have:=(hcell _ rfl).1 _ (j5 hrep)
          rw[this]
          rename_i b'
          cases b'<;>cases want<;>simp[c1A]
        · simp only[qb,qr]at hgv
          obtain⟨rfl,rfl⟩:=hgv
          rename_i l' b'
          have hcase:(l'.all id=true/\e8 w S ρ L (.v (.bool b')) (a.tmps.getD d undef))∨(l'.all id=false/\a.tmps.getD d undef=undef):=by
            generalize a.tmps.getD d undef=u at hrep
            cases hrep with
            | pure _ _ h=>cases h with
              |mayT _ _ _ ht h=>exact Or.inl ⟨ht, .pure _ _ h⟩
              |mayF _ _ hf=>exact Or.inr ⟨hf,rfl⟩
            |mayT _ _ _ ht h=>exact Or.inl ⟨ht,h⟩
            |mayF _ _ hf=>exact Or.inr ⟨hf,rfl⟩
          rcases hcase with⟨hl',hr⟩|⟨hl',hu⟩
          · have:=(hcell _ rfl).1 _ (j5 hr)
            rw[this,List.all_append,hl']
            cases b'<;>cases want<;>simp[c1A]
          · have:=(hcell _ rfl).2 hu
            rw[this,List.all_append,hl']
            simp
        · cases hgv
      · exact h.elim
    · exact h.elim
structure N8 (B S0:Nat->Prop) (nt:Nat) (w:World) (ρ:Nat->Option Loc) (L:Nat->Prop) (T:Nat->AV) (H:Nat->Option n9) (a:Act):Prop where
 wf:WF B S0 w ρ L
 size:a.tmps.size=nt
 defers:a.defers=[]
 tmps:∀t,e8 w (Sx S0 ρ) ρ L (T t) (a.tmps.getD t undef)
 rows:∀r row,H r=some row->∃l,ρ r=some l/\i7 w (Sx S0 ρ) ρ L l row
 dead:∀r,H r=none->ρ r=none
theorem a2b (a:Act) (d:Option Tmp) (v:Value) (t:Nat):(∀k,d=some k->k<a.tmps.size)->(a.put d v).tmps.getD t undef=if d=some t then v else a.tmps.getD t undef:=by
 intro h
 cases d with
 |none=>simp[Act.put]
 |some d=>
  simp only[Act.put,qt,qb]
  by_cases e:d=t
  ·subst e;rw[if_pos rfl,Array.getElem?_setIfInBounds_self_of_lt (h d rfl)];rfl
  ·rw[if_neg e,Array.getElem?_setIfInBounds_ne e]
theorem N8.step {B S0:Nat->Prop} {nt:Nat} {w:World} {ρ:Nat->Option Loc} {L:Nat->Prop} {T T':Nat->AV} {H H':Nat->Option n9} {a:Act} (hc:N8 B S0 nt w ρ L T H a) {e:Eff} {w':World} {ρ':Nat->Option Loc} {v:Value} {dst:Option Tmp}
  (hN:a2E L N e) (hp:a3D B S0 w ρ L N e w' ρ' v) (hd:∀k,dst=some k->k<nt)
  (hT:∀t,T' t=if dst=some t then e.av else T t) (hH:∀k,(∀o,(k,o)∈e.ups->H' k=o)/\((∀o,(k,o)∉e.ups)->H' k=H k)):
  N8 B S0 nt w' ρ' (nL L e) T' H' (a.put dst v):=by
 refine⟨hp.wf,?_,?_,fun t=>?_,fun r row hr=>?_,fun r hr=>?_⟩
 ·cases dst with
  |none=>exact hc.size
  |some d=>simp[Act.put,hc.size]
 ·cases dst with
  |none=>exact hc.defers
  |some d=>exact hc.defers
 ·rw[a2b a dst v t (by rw[hc.size];exact hd),hT]
  split
  ·exact hp.rep
  ·exact hp.keepsV hN (hc.tmps t)
 ·by_cases hm:∃o,(r,o)∈e.ups
  ·obtain⟨o,hm⟩:=hm;have:=(hH r).1 o hm;rw[hr]at this;subst this;exact hp.ups r _ hm
  ·have hm':∀o,(r,o)∉e.ups:=fun o h=>hm ⟨o,h⟩;have:=(hH r).2 hm';rw[this]at hr;obtain⟨l,hl,n8⟩:=hc.rows r row hr;exact⟨l,by rw[hp.others r hm'];exact hl,hp.keepsRow hc.wf hN hm' hl n8⟩
 ·by_cases hm:∃o,(r,o)∈e.ups
  ·obtain⟨o,hm⟩:=hm;have:=(hH r).1 o hm;rw[hr]at this;subst this;exact hp.ups r _ hm
  ·have hm':∀o,(r,o)∉e.ups:=fun o h=>hm ⟨o,h⟩;have:=(hH r).2 hm';rw[this]at hr;rw[hp.others r hm'];exact hc.dead r hr
def H4 (P:Program) (nt:Nat) (dsts:List (Option Tmp)):List Oper->Tm->Hp->(Tm->Hp->Prop)->Prop
 |[],T,H,K=>K T H
 | o::rest,T,H,K=>a3c P dsts o (i8 T) (g8 H) H.length (ct (fun e=>
   b3a nt o.dst/\a1v H e.ups/\I6 e.ups=true/\H4 P nt dsts rest (a2t T o.dst e.av) (a5W H e.ups) K) ⟨⟩)
structure St (w0:World) (B S0:Nat->Prop) (nt:Nat) (T:Tm) (H:Hp) (a:Act) (w:World):Prop where
 ex:∃ρ L,N8 B S0 nt w ρ L (i8 T) (g8 H) a/\∀r,L r->r<H.length
 ext:Ext B w0 w
theorem b1F {w0 w w':World} {B S0:Nat->Prop} {ρ:Nat->Option Loc} {L:Nat->Prop} {e:Eff} {ρ':Nat->Option Loc} {v:Value} (h:Ext B w0 w) (hw:WF B S0 w ρ L) (hp:a3D B S0 w ρ L N e w' ρ' v):Ext B w0 w':=
 h.trans (hp.ext.mono (by rintro b hb ⟨r,l,o,_,h1,h2⟩;exact(hw.own r l b h1 h2).2.2))
theorem St.step {w0:World} {B S0:Nat->Prop} {nt:Nat} {T:Tm} {H:Hp} {a:Act} {w:World} (hs:St w0 B S0 nt T H a w) {e:Eff} (hst:a8G P ops o (i8 T) (g8 H) H.length e)
  (hd:∀d,o.dst=some d->d<nt) (hin:a1v H e.ups) (ho:I6 e.ups=true) {K:Act->World->Prop} {Q:Exit->Act->World->Prop}
  (hK:∀a' w',St w0 B S0 nt (a2t T o.dst e.av) (a5W H e.ups) a' w'->K a' w'):if Region.wanted o (yielded ops a.tmps)then o.wp P a w K Q else K (a.put o.dst undef) w:=by
 obtain⟨⟨ρ,L,hc,hL⟩,hext⟩:=hs;have hN:a2E L H.length e:=fun r hr _ h=>Nat.lt_irrefl _ (Nat.lt_of_le_of_lt hr (hL r h));refine hst B S0 a w ρ L hc.wf hN (fun t _=>hc.tmps t) (fun r _ row hr=>hc.rows r row hr) K Q (fun v w' ρ' hp=>hK _ _ ⟨⟨ρ',_,hc.step hN hp hd (fun t=>x5 T o.dst e.av t) (fun k=>G1 e.ups H hin ho k),?_⟩,b1F hext hc.wf hp⟩);obtain⟨h1,h2⟩:=B3 e.ups H hin;rintro r (hr|⟨o',hr⟩)
 ·exact qq (hL r hr) h1
 ·exact h2 r o' hr
theorem a4y {w0:World} {B S0:Nat->Prop} {nt:Nat} {dsts:List (Option Tmp)} (hd:∀j:Nat,dsts[j]?=(ops[j]?).map (·.dst)) {Q:Exit->Act->World->Prop} {K:Tm->Hp->Prop}
  (hK:∀T H a w,K T H->St w0 B S0 nt T H a w->Q .normal a w):∀(l:List Oper) (T:Tm) (H:Hp) (a:Act) (w:World),H4 P nt dsts l T H K->St w0 B S0 nt T H a w->wpList P ops Q l a w
 |[],T,H,a,w,h,hs=>hK T H a w h hs
 |o::rest,T,H,a,w,h,hs=>by
  obtain⟨e,hst,h1,h2,h3,h4⟩:=G2 hd h (fun _=>trivial);have:=hs.step (K:=wpList P ops Q rest) (Q:=Q) hst (fun d hd=>by rw[hd]at h1;exact h1) h2 h3 (fun a' w' hs'=>a4y hd hK rest _ _ a' w' h4 hs');unfold wpList
  split
  ·rename_i hw;rw[if_pos hw]at this;exact Or.inl this
  ·rename_i hw;rw[if_neg hw]at this;exact this
end
end Go.AM
namespace Go.AM
def AWp (P:Program) (nt:Nat) (c:Code) (T:Tm) (H:Hp) (Q:Exit->Tm->Hp->Prop):Prop:=
 ∀w0 B S0 a w,St w0 B S0 nt T H a w->c.wp P (fun e a' w'=>∃T' H',Q e T' H'/\St w0 B S0 nt T' H' a' w') a w
def Z3 (next:Tm->Hp->Prop) (Q:Exit->Tm->Hp->Prop):Exit->Tm->Hp->Prop
 | .normal=>next
 |e=>Q e
def H5 (id:Nat) (Q:Exit->Tm->Hp->Prop):Exit->Tm->Hp->Prop
 | .exit k=>if k=id then Q .normal else Q (.exit k)
 |e=>Q e
def Sub (nt:Nat) (T:Tm) (H:Hp) (T':Tm) (H':Hp):Prop:=∀w0 B S0 a w,St w0 B S0 nt T H a w->St w0 B S0 nt T' H' a w
theorem Sub.refl (nt:Nat) (T:Tm) (H:Hp):Sub nt T H T H:=fun _ _ _ _ _ h=>h
theorem Sub.trans {nt:Nat} {T T' T'':Tm} {H H' H'':Hp} (h:Sub nt T H T' H') (k:Sub nt T' H' T'' H''):Sub nt T H T'' H'':=fun w0 B S0 a w s=>k w0 B S0 a w (h w0 B S0 a w s)
section
variable {P:Program} {nt:Nat} {T:Tm} {H:Hp} {Q:Exit->Tm->Hp->Prop}
theorem a4e {c:Code} {T':Tm} {H':Hp} (hs:Sub nt T H T' H') (h:AWp P nt c T' H' Q):AWp P nt c T H Q:=
 fun w0 B S0 a w s=>h w0 B S0 a w (hs w0 B S0 a w s)
theorem b9 (h:Q .normal T H):AWp P nt .skip T H Q:=fun w0 B S0 a w hs=>wp_skip ⟨T,H,h,hs⟩
theorem a6 (h:Q .ret T H):AWp P nt .ret T H Q:=fun w0 B S0 a w hs=>wp_ret ⟨T,H,h,hs⟩
theorem d4 {id:Nat} (h:Q (.exit id) T H):AWp P nt (.exit id) T H Q:=fun w0 B S0 a w hs=>wp_exit ⟨T,H,h,hs⟩
theorem a6F {x y:Code} (h:AWp P nt x T H (Z3 (fun T' H'=>AWp P nt y T' H' Q) Q)):AWp P nt (.seq x y) T H Q:=by
 intro w0 B S0 a w hs;refine wp_seq (wp_mono (h w0 B S0 a w hs) ?_);rintro e a' w' ⟨T',H',q,s⟩
 cases e with
 |normal=>exact q w0 B S0 a' w' s
 |exit id=>exact⟨T',H',q,s⟩
 |goto l=>exact⟨T',H',q,s⟩
 |ret=>exact⟨T',H',q,s⟩
 |panic c=>exact⟨T',H',q,s⟩
 |outgrown=>exact⟨T',H',q,s⟩
theorem a5 {x y:Code} (h:∀K:Tm->Hp->Prop,(∀T' H',AWp P nt y T' H' Q->K T' H')->AWp P nt x T H (Z3 K Q)):AWp P nt (.seq x y) T H Q:=
 a6F (h _ fun _ _ h=>h)
theorem b8 {id:Nat} {c:Code} (h:AWp P nt c T H (H5 id Q)):AWp P nt (.block id c) T H Q:=by
 intro w0 B S0 a w hs;refine wp_block (wp_mono (h w0 B S0 a w hs) ?_);rintro e a' w' ⟨T',H',q,s⟩
 cases e with
 |exit k=>
  simp only[H5]at q;simp only[Exit.inBlock]
  split
  ·rename_i e;rw[if_pos e]at q;exact⟨T',H',q,s⟩
  ·rename_i e;rw[if_neg e]at q;exact⟨T',H',q,s⟩
 |normal=>exact⟨T',H',q,s⟩
 |goto l=>exact⟨T',H',q,s⟩
 |ret=>exact⟨T',H',q,s⟩
 |panic c=>exact⟨T',H',q,s⟩
 |outgrown=>exact⟨T',H',q,s⟩
theorem a7 {c:Operand} {x y:Code} {b:Bool} (hc:evT (i8 T) c= .v (.bool b)) (hx:b=true->AWp P nt x T H Q) (hy:b=false->AWp P nt y T H Q):AWp P nt (.cond c x y) T H Q:=by
 intro w0 B S0 a w hs;have hv:a.eval c= .bool b:=by
  obtain⟨⟨ρ,L,hc',_⟩,_⟩:=hs
  cases c with
  |tmp t=>
   have:=hc'.tmps t;simp only[evT]at hc;rw[hc]at this;exact j5 this
  |const v=>
   simp only[evT]at hc;have:=W7 (w:=w) (S:=fun _=>False) v;rw[hc]at this
   cases this
   rfl
  |global g=>simp only[evT]at hc;cases hc
  |func f=>simp only[evT]at hc;cases hc
 exact wp_cond_split hv (fun h=>hx h w0 B S0 a w hs) (fun h=>hy h w0 B S0 a w hs)
theorem a6i {id:Nat} {l:List Oper} {dsts:List (Option Tmp)} (hd:l.map (·.dst)=dsts) (h:H4 P nt dsts l T H (Q .normal)):AWp P nt (.region id l.toArray false) T H Q:=by
 intro w0 B S0 a w hs;refine wp_region_lit ?_;refine a4y (ops:=l.toArray) (dsts:=dsts) (nt:=nt) (w0:=w0) (B:=B) (S0:=S0) ?_ (K:=Q .normal) (fun T H a w q s=>⟨T,H,q,s⟩) l T H a w h hs;intro j;rw[<-hd];simp
theorem b7B {c:Code} {α:Type} (st:α->Tm×Hp) (inv:α->Prop) (μ:α->Nat) (x0:α) (h0:inv x0) (hs0:Sub nt T H (st x0).1 (st x0).2)
  (round:∀x,inv x->AWp P nt c (st x).1 (st x).2 (Z3 (fun T' H'=>∃y,inv y/\μ y<μ x/\Sub nt T' H' (st y).1 (st y).2) Q)):AWp P nt (.loop c) T H Q:=by
 intro w0 B S0 a w hs b k cs;have key:∀n x a w,μ x=n->inv x->St w0 B S0 nt (st x).1 (st x).2 a w->
   ∃e a' w',(∃T' H',Q e T' H'/\St w0 B S0 nt T' H' a' w')/\Arrives P (lone (b.at a (.code c:: .inLoop c::k)) cs w) b k cs e a' w':=by
  intro n
  induction n using Nat.strongRecOn with
  | _ n ih=>
   intro x a w hn hI hst;obtain⟨e,a₁,w₁,⟨T1,H1,hq,hst1⟩,harr⟩:=round x hI w0 B S0 a w hst b (.inLoop c::k) cs
   cases e with
   |normal=>
    obtain⟨y,hy,hlt,hsub⟩:=hq;obtain⟨e₂,a₂,w₂,hq₂,harr₂⟩:=ih (μ y) (hn▸hlt) y a₁ w₁ rfl hy (hsub w0 B S0 a₁ w₁ hst1);exact⟨e₂,a₂,w₂,hq₂, .of_steps (Steps.trans harr (.one step_inLoop)) harr₂⟩
   |exit id=>exact⟨_,a₁,w₁,⟨T1,H1,hq,hst1⟩, .pass (x:= .inLoop c) rfl (fun _ _=> .inl (by simp)) harr⟩
   |goto l=>exact⟨_,a₁,w₁,⟨T1,H1,hq,hst1⟩, .pass (x:= .inLoop c) rfl (fun _ _=> .inl (by simp)) harr⟩
   |ret=>exact⟨_,a₁,w₁,⟨T1,H1,hq,hst1⟩, .pass (x:= .inLoop c) rfl (fun _ _=> .inl (by simp)) harr⟩
   |panic ch=>exact⟨_,a₁,w₁,⟨T1,H1,hq,hst1⟩, .pass (x:= .inLoop c) rfl (fun _ _=> .inl (by simp)) harr⟩
   |outgrown=>exact⟨_,a₁,w₁,⟨T1,H1,hq,hst1⟩, .pass (x:= .inLoop c) rfl (fun _ _=> .inl (by simp)) harr⟩
 obtain⟨e,a',w',hq,harr⟩:=key _ x0 a w rfl h0 (hs0 w0 B S0 a w hs);exact⟨e,a',w',hq, .of_steps (.one step_loop) harr⟩
end
def b4a (H:Hp) (g:List (Option Nat)):Hp:=g.map fun q=>match q with|some r=>(g8 H r).map (C2 g)|none=>none
def c0l (g:List (Option Nat)) (T:Tm):Tm->Prop
 |[]=>True
 |(i,x)::r=>(x= .any∨p5 g 40 (i8 T i)=x)/\c0l g T r
theorem c2U {nt:Nat} {T T':Tm} {H H':Hp} (g:List (Option Nat)) (hn:∀(i j q:Nat),g[i]?=some (some q)->g[j]?=some (some q)->i=j) (hT:c0l g T T') (hH:b4a H g=H'):Sub nt T H T' H':=by
 rintro w0 B S0 a w ⟨⟨ρ,L,hc,hL⟩,hext⟩;subst hH;have hS:∀b,Sx S0 (n6 ρ g) b->Sx S0 ρ b:=by
  rintro b (h|⟨r,l,h1,h2⟩)
  ·exact Or.inl h
  ·obtain⟨q,_,h3⟩:=i6 h1;exact Or.inr ⟨q,l,h3,h2⟩
 refine⟨⟨n6 ρ g,fun r=>r<g.length,⟨⟨?_,?_,?_,hc.wf.low,hc.wf.new⟩,hc.size,hc.defers,?_,?_,?_⟩,?_⟩,hext⟩
 ·intro r r' l l' b h1 h2 k1 k2;obtain⟨q,g1,p1⟩:=i6 h1;obtain⟨q',g2,p2⟩:=i6 h2;have:=hc.wf.inj q q' l l' b p1 p2 k1 k2;subst this;exact hn _ _ _ g1 g2
 ·intro r l b h1 k1;obtain⟨q,g1,p1⟩:=i6 h1;exact hc.wf.own q l b p1 k1
 ·intro r l h1;obtain⟨q,g1,p1⟩:=i6 h1;exact(qa.1 g1).1
 ·intro t;have gen:∀(T':Tm),c0l g T T'->e8 w (Sx S0 (n6 ρ g)) (n6 ρ g) (fun r=>r<g.length) (i8 T' t) (a.tmps.getD t undef):=by
   intro T'
   induction T' with
   |nil=>intro _;exact .pure _ _ (.any _)
   | cons p T' ih=>
    obtain⟨i,x⟩:=p;rintro⟨h1,h2⟩;simp only[i8]
    split
    ·rename_i e;subst e
     rcases h1 with rfl|rfl
     ·exact .pure _ _ (.any _)
     ·exact a4Q hS 40 _ _ (hc.tmps t)
    ·exact ih h2
  exact gen T' hT
 ·intro r row hr;simp only[b4a,J3]at hr
  split at hr
  ·rename_i q hq
   split at hr
   ·rename_i q';simp only[qf]at hr;obtain⟨row0,h0,rfl⟩:=hr;obtain⟨l,hl,n8⟩:=hc.rows q' row0 h0;refine⟨l,by simp only[n6,hq];exact hl,?_⟩
    cases row0 with
    |map kvs=>exact n8
    |mpa ag kts kvs=>obtain⟨b,h1,h2⟩:=n8;exact⟨b,h1,h2.map _ (fun x y h=>a4Q hS 3 x y h) rfl⟩
    |itr ag kts left cur=>
     obtain⟨b,h1,h0,h2⟩:=n8;exact⟨b,h1,h0,h2.same rfl (qo _) (fun b _ hn=>⟨rfl,fun k=>hn (hS b k)⟩)⟩
    |els sz es=>
     obtain⟨h1,h2,h3,h4⟩:=n8;refine⟨h1,?_,fun hb=>by rw[h3 hb];rfl,fun b hb=>?_⟩
     ·intro e he;simp only[List.mem_map]at he;obtain⟨e',he',rfl⟩:=he;simpa using h2 e' he'
     ·obtain⟨c,t,k1,k2,k3,k4⟩:=h4 b hb;refine⟨c,t,k1,k2,by simpa using k3,fun i av hi=>?_⟩;rw[<-List.map_flatten]at hi;simp only[qe,qf]at hi;obtain⟨av0,hi,rfl⟩:=hi;obtain⟨x,p1,p2,p3⟩:=k4 i av0 hi;exact⟨x,p1,p2,a4Q hS 3 _ _ p3⟩
   ·cases hr
  ·cases hr
 ·intro r hr;simp only[b4a,J3]at hr;simp only[n6]
  split
  ·rename_i q hq;rw[hq]at hr;simp only[Option.map_eq_none_iff]at hr;exact hc.dead q hr
  ·rfl
 ·intro r hr;simpa [b4a]using hr
theorem V7 {nt:Nat} {T:Tm} {H:Hp} (t sz:Nat) (h:i8 T t= .v (.slice none 0 0)):Sub nt T H ((t, .row H.length 0 0)::T) (H++[some (.els sz [])]):=by
 rintro w0 B S0 a w ⟨⟨ρ,L,hc,hL⟩,hext⟩;have hN:¬L H.length:=fun h=>Nat.lt_irrefl _ (hL _ h)
 let l:Loc:=⟨none,0,sz,0⟩
 have hnone:∀r l',Loc.fresh ρ H.length l r=some l'->l'.b≠none->ρ r=some l':=by
  intro r l' h1 h2;simp only[Loc.fresh]at h1
  split at h1
  ·simp only[qb]at h1;subst h1;exact absurd rfl h2
  ·exact h1
 have hS:∀b,Sx S0 (Loc.fresh ρ H.length l) b->Sx S0 ρ b:=by
  rintro b (h1|⟨r,l',h1,h2⟩)
  ·exact Or.inl h1
  ·exact Or.inr ⟨r,l',hnone r l' h1 (by rw[h2];simp),h2⟩
 have hk:∀x y,e8 w (Sx S0 ρ) ρ L x y->e8 w (Sx S0 (Loc.fresh ρ H.length l)) (Loc.fresh ρ H.length l) (fun r=>L r∨r=H.length) x y:=fun x y k=>
  k.ext (qo _) (fun b _ hn=>⟨rfl,fun q=>hn (hS b q)⟩) (fun r=>Or.inl) (fun r l' hr hl'=>by
   simp only[Loc.fresh]at hl'
   split at hl'
   ·rename_i e;subst e;exact absurd hr hN
   ·exact hl')
 have hwf:=a1D hc.wf hN l (w':=w) (qo _) (by intro b hb;cases hb);have hap:∀r,g8 (H++[some (.els sz [])]) r=if r=H.length then some (.els sz [])else g8 H r:=by
  have gen:∀(H:Hp) (r:Nat),g8 (H++[some (.els sz [])]) r=if r=H.length then some (.els sz [])else g8 H r:=by
   intro H
   induction H with
   |nil=>intro r;cases r<;>simp[g8]
   |cons x xs ih=>
    intro r
    cases r with
    |zero=>simp[g8]
    |succ r=>simp only[List.cons_append,g8,List.length_cons,Nat.add_right_cancel_iff];exact ih r
  exact gen H
 refine⟨⟨Loc.fresh ρ H.length l,fun r=>L r∨r=H.length,⟨hwf,hc.size,hc.defers,?_,?_,?_⟩,?_⟩,hext⟩
 ·intro t';simp only[i8]
  split
  ·rename_i e;subst e;have:=hc.tmps t';rw[h]at this;rw[j5 this];refine .row _ _ _ _ (Or.inr rfl) rfl (fun l' hl'=>?_);simp only[Loc.fresh,if_true,qb]at hl';subst hl';exact⟨fun _=>⟨rfl,rfl,rfl⟩,fun b hb=>by cases hb⟩
  ·exact hk _ _ (hc.tmps t')
 ·intro r row hr;rw[hap]at hr
  split at hr
  ·rename_i e;simp only[qb]at hr;subst hr;exact⟨l,by simp[Loc.fresh,e],rfl,by simp,by simp,by intro b hb;cases hb⟩
  ·rename_i e;obtain⟨l',hl',n8⟩:=hc.rows r row hr;refine⟨l',by simp[Loc.fresh,e,hl'],n8.ext (qo _) (fun b _ hn=>⟨rfl,fun q=>hn (hS b q)⟩) (fun r=>Or.inl) (fun r l' hr hl'=>by
    simp only[Loc.fresh]at hl'
    split at hl'
    ·rename_i e;subst e;exact absurd hr hN
    ·exact hl') (fun _ _=>rfl)⟩
 ·intro r hr;rw[hap]at hr
  split at hr
  ·cases hr
  ·rename_i e;simp[Loc.fresh,e,hc.dead r hr]
 ·rintro r (hr|rfl)
  ·simp;have:=hL r hr;omega
  ·simp
def M0 (H:Hp):Nat->AV->AV
 |n+1, .row r i k=>match g8 H r with
  |some (.els sz es)=>if i+k<=es.length/\sz≠0 then .lst sz (((es.drop i).take k).map fun e=>e.map (M0 H n))else .any
  |_=> .any
 | n+1, .ptr r i o=>match g8 H r with
  |some (.els sz es)=>match es[i]? with
   |some e=>if o<=e.length then .iptr ((e.drop o).map (M0 H n))else .any
   |none=> .any
  |_=> .any
 |n+1, .agg cs=> .agg (cs.map (M0 H n))
 |n+1, .tup cs=> .tup (cs.map (M0 H n))
 |n+1, .clo f cs=> .clo f (cs.map (M0 H n))
 |n+1, .bnd f cs=> .bnd f (cs.map (M0 H n))
 |n+1, .vptr cs=> .iptr (cs.map (M0 H n))
 |n+1, .ifc t x=> .ifc t (M0 H n x)
 |n+1, .may l x=> .may l (M0 H n x)
 |_, .v x=> .v x
 |_, .lst sz els=> .lst sz els
 |_, .full sz els=> .full sz els
 |_, .iptr cs=> .iptr cs
 |_, .mpc ag kts kvs=> .mpc ag kts kvs
 |_, .mp r=>match g8 H r with
  |some (.map ag kts kvs)=> .mpc ag kts kvs
  |_=> .any
 |_,_=> .any
theorem b1N {w:World} {S0:Nat->Prop} {B:Nat->Prop} {ρ:Nat->Option Loc} {L:Nat->Prop} {H:Hp} (hw:WF B S0 w ρ L) (hrows:∀r row,g8 H r=some row->∃l,ρ r=some l/\i7 w (Sx S0 ρ) ρ L l row):
  ∀(n:Nat) (x:AV) (y:Value),e8 w (Sx S0 ρ) ρ L x y->r8 w S0 (M0 H n x) y:=by
 have hP:∀{x y},r8 w (Sx S0 ρ) x y->r8 w S0 x y:=fun h=>h.ext (qo _) (fun b _ hn=>⟨rfl,fun k=>hn (Or.inl k)⟩);have mp:∀(n r:Nat) (y:Value),e8 w (Sx S0 ρ) ρ L (.mp r) y->r8 w S0 (M0 H n (.mp r)) y:=by
  intro n r y h;have e:M0 H n (.mp r)=match g8 H r with|some (.map ag kts kvs)=> .mpc ag kts kvs|_=> .any:=by cases n<;>rfl
  rw[e]
  split
  ·rename_i ag kts kvs hH;obtain⟨l,hl,b,hb,hm⟩:=hrows r _ hH
   cases h with
   |pure _ _ h=>cases h
   |mp _ _ h1 h2 h3=>
    obtain⟨b',hb',rfl⟩:=h3 l hl;rw[hb]at hb';simp only[qb]at hb';subst hb';exact .mpc _ _ _ b (hw.own r l b hl hb).2.1 (hw.own r l b hl hb).1 hm
  ·exact .any _
 intro n
 induction n with
 |zero=>
  intro x y h
  cases x with
  |v x=>cases h with|pure _ _ h=>exact hP h
  |lst sz els=>cases h with|pure _ _ h=>exact hP h
  |full sz els=>cases h with|pure _ _ h=>exact hP h
  |iptr cs=>cases h with|pure _ _ h=>exact hP h
  |mpc ag kts kvs=>cases h with|pure _ _ h=>exact hP h
  |mp r=>exact mp _ r y h
  |_=>exact .any _
 | succ n ih=>
  intro x y h
  cases x with
  |fptr c r i o=>exact .any _
  |v x=>cases h with|pure _ _ h=>exact hP h
  |lst sz els=>cases h with|pure _ _ h=>exact hP h
  |full sz els=>cases h with|pure _ _ h=>exact hP h
  |iptr cs=>cases h with|pure _ _ h=>exact hP h
  |mpc ag kts kvs=>cases h with|pure _ _ h=>exact hP h
  |mp r=>exact mp _ r y h
  |any=>exact .any _
  | row r i k=>
   simp only[M0]
   split
   ·rename_i sz es hH
    split
    ·rename_i hc;obtain⟨hin,hsz⟩:=hc;obtain⟨l,hl,n8⟩:=hrows r _ hH;have hz:=n8.1;subst hz;have hlen:((es.drop i).take k).length=k:=by rw[qm,qx,Nat.min_eq_left];omega
     cases h with
     |pure _ _ h=>cases h
     | row _ _ _ _ h1 h2 h3=>
      obtain⟨h4,h5⟩:=h3 l hl
      cases hb:l.b with
      |none=>
       obtain⟨rfl,rfl,rfl⟩:=h4 hb;simp only[List.drop_zero,List.take_zero,List.map_nil];exact .lstNil _ _ _
      | some b=>
       obtain⟨off,cap,rfl,hcap,hoff⟩:=h5 b hb
       by_cases hk0:k=0
       ·subst hk0;simp only[List.take_zero,List.map_nil];exact .lstNil _ _ _
       ·obtain⟨rfl,_⟩:=hoff.resolve_left (by omega);have hlies:=a3N n8 hsz hin hb;obtain⟨g1,g2⟩:=hlies
        rcases g2 with g2|⟨b',off',vs,g2,g3,g4,g5⟩
        ·rw[g2]at hlen;simp at hlen;omega
        ·simp only[qb,Addr.mk.injEq]at g2;obtain⟨rfl,rfl,_⟩:=g2;have hlen':(((es.drop i).take k).map fun e=>e.map (M0 H n)).length=k:=by rw[List.length_map];exact hlen
         have:=r8.lst (w:=w) (S:=S0) l.sz (((es.drop i).take k).map fun e=>e.map (M0 H n)) b (l.o+i*l.sz) cap vs (hw.own r l b hl hb).2.1 (hw.own r l b hl hb).1 (by omega) (by
          intro e he;simp only[List.mem_map]at he;obtain⟨e',he',rfl⟩:=he;simpa using g1 e' he') (by rw[<-List.map_flatten,List.length_map,j4 g1,g3]) g4 (by
          intro j c u hj hu;rw[<-List.map_flatten]at hj;simp only[qe,qf]at hj;obtain⟨c',hj,rfl⟩:=hj;exact ih c' u (g5 j c' u hj hu))
         rw[hlen']at this;exact this
    ·exact .any _
   ·exact .any _
  | ptr r i o=>
   simp only[M0]
   split
   ·rename_i sz es hH
    split
    ·rename_i e he
     split
     ·rename_i ho;obtain⟨l,hl,n8⟩:=hrows r _ hH;obtain⟨b,hb⟩:=a0O n8 he;obtain⟨c,t,k1,k2,k3,k4⟩:=a0l n8 he hb
      cases h with
      |pure _ _ h=>cases h
      | ptr _ _ _ _ h1 h2 h3=>
       obtain⟨b',hb',rfl⟩:=h3 l hl;rw[hb]at hb';simp only[qb]at hb';subst hb';have hsz:(i+1)*sz=i*sz+sz:=Nat.succ_mul _ _;refine .iptr _ b (l.o+i*l.sz+o) ((c.toList.drop (l.o+i*sz+o)).take (e.length-o)) (hw.own r l b hl hb).2.1 (hw.own r l b hl hb).1 ?_ ?_ ?_
       ·have hcl:(c.toList.drop (l.o+i*sz+o)).length=c.size-(l.o+i*sz+o):=by rw[qx,Array.length_toList]
        have hel:(e.drop o).length=e.length-o:=qx ..;rw[List.length_map,hel,qm,hcl,Nat.min_eq_left];omega
       ·intro j u hj;rw[qk]at hj
        split at hj
        ·rename_i hjl;rw[ql]at hj;obtain⟨x,p1,p2,p3,p4⟩:=k4 (o+j) _ (qc (by omega));have hju:c[l.o+i*sz+o+j]?=some u:=by simpa using hj
         rw[<-Nat.add_assoc]at p1;rw[hju]at p1;simp only[qb]at p1;subst p1;refine⟨?_,p3⟩;rw[n8.1];rw[<-Nat.add_assoc]at p2;exact p2
        ·cases hj
       ·intro j cc u hj hu;simp only[qe,qf]at hj;obtain⟨c',hj,rfl⟩:=hj;rw[ql]at hj;rw[qk]at hu
        split at hu
        ·rw[ql]at hu;obtain⟨x,p1,p2,p3,p4⟩:=k4 (o+j) c' hj;have hju:c[l.o+i*sz+o+j]?=some u:=by simpa using hu
         rw[<-Nat.add_assoc]at p1;rw[hju]at p1;simp only[qb]at p1;subst p1;exact ih c' u p4
        ·cases hu
     ·exact .any _
    ·exact .any _
   ·exact .any _
  |agg cs=>
   obtain⟨vs,rfl,hl,hc⟩:=A2 h;refine .agg _ vs (by simpa using hl) (fun u hu=>?_) (fun i c u h1 h2=>?_)
   ·obtain⟨i,hi,rfl⟩:=List.getElem_of_mem hu;exact(hc i _ _ (qc (by omega)) (qc hi)).1
   ·simp only[qe,qf]at h1;obtain⟨c',h1,rfl⟩:=h1;exact ih c' u (hc i c' u h1 h2).2
  |tup cs=>
   obtain⟨vs,rfl,hl,hc⟩:=L5 h;refine .tup _ vs (by simpa using hl) (fun i c u h1 h2=>?_);simp only[qe,qf]at h1;obtain⟨c',h1,rfl⟩:=h1;exact ih c' u (hc i c' u h1 h2)
  |clo f cs=>
   obtain⟨vs,rfl,hl,hc⟩:=E8 h;refine .clo f _ vs (by simpa using hl) (fun i c u h1 h2=>?_);simp only[qe,qf]at h1;obtain⟨c',h1,rfl⟩:=h1;exact ih c' u (hc i c' u h1 h2)
  |bnd f cs=>
   obtain⟨vs,rfl,hl,hc⟩:=P6 h;refine .bnd f _ vs (by simpa using hl) (fun i c u h1 h2=>?_);simp only[qe,qf]at h1;obtain⟨c',h1,rfl⟩:=h1;exact ih c' u (hc i c' u h1 h2)
  |vptr cs=>
   obtain⟨b,off,vs,rfl,hSb,hb,hl,hv,hc⟩:=y9 h;refine .iptr _ b off vs (fun k=>hSb (Or.inl k)) hb (by simpa using hl) hv (fun i c u h1 h2=>?_);simp only[qe,qf]at h1;obtain⟨c',h1,rfl⟩:=h1;exact ih c' u (hc i c' u h1 h2)
  |ifc t x=>
   obtain⟨v,rfl,h'⟩:=B6 h;exact .ifc t _ _ (ih x v h')
  | may l x=>
   cases h with
   |pure _ _ h=>cases h with
    |mayT _ _ _ ht h=>exact .mayT _ _ _ ht (ih x y (.pure _ _ h))
    |mayF _ _ hf=>exact .mayF _ _ hf
   |mayT _ _ _ ht h=>exact .mayT _ _ _ ht (ih x y h)
   |mayF _ _ hf=>exact .mayF _ _ hf
end Go.AM
namespace Go.AM
def P5:Nat->List AV->Tm
 |_,[]=>[]
 |k,x::xs=>(k,x)::P5 (k+1) xs
theorem a0f:∀(xs:List AV) (k t:Nat),i8 (P5 k xs) t=if k<=t then(xs[t-k]?).getD .any else .any
 |[],k,t=>by simp[P5,i8]
 | x::xs,k,t=>by
  simp only[P5,i8]
  split
  ·rename_i e;subst e;simp
  ·rename_i e;rw[a0f xs (k+1) t]
   by_cases h:k<=t
   ·rw[if_pos (by omega),if_pos h,show t-k=t-(k+1)+1 by omega,List.getElem?_cons_succ]
   ·rw[if_neg (by omega),if_neg h]
def r9:List AV->AV
 |[x]=>x
 |xs=> .tup xs
def N6 (P:Program) (T:Tm) (H:Hp):List ResultVar->(List AV->Prop)->Prop
 |[],K=>K []
 | .tmp t::rest,K=>N6 P T H rest fun xs=>K (i8 T t::xs)
 | .cell a t::rest,K=>c1g (d6 P t) (i8 T a) (g8 H) fun e=>N6 P T H rest fun xs=>K (e.av::xs)
def c5q (P:Program) (rs:List ResultVar) (res:AV):Exit->Tm->Hp->Prop
 | .ret,T,H=>N6 P T H rs fun xs=>M0 H 6 (r9 xs)=res
 | .normal,T,H=>N6 P T H rs fun xs=>M0 H 6 (r9 xs)=res
 |_,_,_=>False
section
variable {P:Program}
theorem b5g {B S0:Nat->Prop} {nt:Nat} {w:World} {ρ:Nat->Option Loc} {L:Nat->Prop} {T:Nat->AV} {H:Nat->Option n9} {a:Act} (hc:N8 B S0 nt w ρ L T H a) {s:Nat} {t:TypeId} {K:Eff->Prop}
  (h:c1g (d6 P t) (T s) H K):∃ad v e,a.tmps.getD s undef= .pointer (some ad)/\(loadVar t ad).run P w= .ok v w/\e8 w (Sx S0 ρ) ρ L e.av v/\K e:=by
 obtain⟨hne,h⟩:=h;have hr:=hc.tmps s
 split at h
 ·rename_i r i off hx;rw[hx]at hr
  split at h
  ·rename_i sz es hH
   split at h
   ·rename_i e he;obtain⟨l,hl,n8⟩:=hc.rows r _ hH;obtain⟨ad,v,h1,h2,h3⟩:=a0y (P:=P) hne hr hl n8 he h.1;exact⟨ad,v,_,h1,h2,h3,h.2⟩
   ·exact h.elim
  ·exact h.elim
 ·rename_i cs hx;rw[hx]at hr;obtain⟨ad,v,h1,h2,h3⟩:=X4 (P:=P) hne hr h.1;exact⟨ad,v,_,h1,h2,h3,h.2⟩
 ·rename_i cs hx;rw[hx]at hr;obtain⟨ad,v,h1,h2,h3⟩:=W9 (P:=P) hne hr h.1;exact⟨ad,v,_,h1,h2,h3,h.2⟩
 ·exact h.elim
theorem I3 {B S0:Nat->Prop} {nt:Nat} {w:World} {ρ:Nat->Option Loc} {L:Nat->Prop} {T:Tm} {H:Hp} {a:Act} (hc:N8 B S0 nt w ρ L (i8 T) (g8 H) a):
  ∀ (rs:List ResultVar) (K:List AV->Prop),N6 P T H rs K->
   ∃(xs:List AV) (vs:List Value),(rs.mapM (fun(x:ResultVar)=>(match x with
    | .tmp t=>pure (a.tmps.getD t undef)
    | .cell ad t=>do loadVar t (<-asAddr (a.tmps.getD ad undef)):Sem Value)):Sem (List Value)).run P w= .ok vs w/\xs.length=vs.length/\
    (∀(i:Nat) c x,xs[i]?=some c->vs[i]?=some x->e8 w (Sx S0 ρ) ρ L c x)/\xs.length=rs.length/\K xs
 |[],K,h=>⟨[],[],by simp,rfl,by simp,rfl,h⟩
 | .tmp t::rest,K,h=>by
  obtain⟨xs,vs,h1,h2,h3,h4,h5⟩:=I3 hc rest _ h;refine⟨i8 T t::xs,a.tmps.getD t undef::vs,?_,by simp[h2],?_,by simp[h4],h5⟩
  ·simp only[List.mapM_cons,Sem.run_bind,Sem.run_pure,Result.andThen_ok,h1]
  ·intro i c x q1 q2
   cases i with
   |zero=>simp only[List.getElem?_cons_zero,qb]at q1 q2;subst q1 q2;exact hc.tmps t
   |succ i=>exact h3 i c x q1 q2
 | .cell ad t::rest,K,h=>by
  obtain⟨adr,v,e,k1,k2,k3,k4⟩:=b5g hc h;obtain⟨xs,vs,h1,h2,h3,h4,h5⟩:=I3 hc rest _ k4;refine⟨e.av::xs,v::vs,?_,by simp[h2],?_,by simp[h4],h5⟩
  ·have ka:(asAddr (a.tmps.getD ad undef)).run P w= .ok adr w:=by rw[k1];rfl
   simp only[List.mapM_cons,Sem.run_bind,Sem.run_pure,Result.andThen_ok,ka,k2,h1]
  ·intro i c x q1 q2
   cases i with
   |zero=>simp only[List.getElem?_cons_zero,qb]at q1 q2;subst q1 q2;exact k3
   |succ i=>exact h3 i c x q1 q2
theorem a9.of_body {f : FuncId} {fn : Func} {c : Code} {args : List AV} {res : AV} (hf : P.funcs[f]? = some fn) (hb : fn.body = some c) (hname : (fn.name == "runtime.NumGoroutine") = false) (hnt : args.length <= fn.ntmps)
  (h:AWp P fn.ntmps c (P5 0 args) [] (c5q P fn.results.toList res)):a9 P f args res:=by
 have hn' : ¬ fn.name = "runtime.NumGoroutine" := by simpa using hname
 refine Or.inl ⟨fun w vs=>by simp[callFunc,hf,hn',hb],?_⟩;intro S0 w vs hlow hlen hrep;refine calls_of_wp hf hb ?_
 let ρ:Nat->Option Loc:=fun _=>none
 have hS:∀b,Sx S0 ρ b↔S0 b:=by
  intro b;constructor
  ·rintro(h|⟨r,l,h1,_⟩)
   ·exact h
   ·cases h1
  ·exact Or.inl
 have hsize:vs.toArray.size=args.length:=by simp[hlen]
 have hst:St w (fun b=>w.heap.size<=b) S0 fn.ntmps (P5 0 args) [] {tmps:=vs.toArray++Array.replicate (fn.ntmps-vs.toArray.size) undef,defers:=[]} w:=by
  refine⟨⟨ρ,fun _=>False,⟨⟨?_,?_,?_,hlow,fun b h=>h⟩,?_,rfl,?_,?_,?_⟩,fun r hr=>hr.elim⟩,Ext.refl _ _⟩
  ·intro r r' l l' b h1;cases h1
  ·intro r l b h1;cases h1
  ·intro r l h1;cases h1
  ·rw[Array.size_append,Array.size_replicate,hsize];omega
  ·intro t;rw[a0f];simp only[qp,if_true,Nat.sub_zero]
   cases hx:args[t]? with
   |none=>exact .pure _ _ (.any _)
   | some x=>
    have ht:t<args.length:=(qa.1 hx).1;have ht':t<vs.length:=by omega
    have g8:(vs.toArray++Array.replicate (fn.ntmps-vs.toArray.size) undef).getD t undef=vs[t]:=by
     rw[qt,Array.getElem?_append_left (by simpa using ht')];simp[ht']
    rw[g8];exact .pure _ _ ((hrep t x _ hx (qc ht')).ext (qo _) (fun b _ hn=>⟨rfl,fun k=>hn ((hS b).1 k)⟩))
  ·intro r row hr;cases r<;>cases hr
  ·intro r _;rfl
 refine wp_mono (h w _ S0 _ w hst) ?_;rintro e a' w' ⟨T',H',q,⟨⟨ρ',L',hc,hL⟩,hext⟩⟩;have hfin:(N6 P T' H' fn.results.toList fun xs=>M0 H' 6 (r9 xs)=res)->a'.defers=[]/\∃v,(results fn a'.tmps).run P w'= .ok v w'/\∃v',Ending.returned v= .returned v'/\r8 w' S0 res v'/\Ext (fun _=>False) w w':=by
  intro hr;obtain⟨xs,vs',h1,h2,h3,h4,h5⟩:=I3 hc fn.results.toList _ hr;refine⟨hc.defers,?_⟩;have hm:(fn.results.mapM fun(x:ResultVar)=>(match x with
    | .tmp t=>pure (a'.tmps.getD t undef)
    | .cell ad t=>do loadVar t (<-asAddr (a'.tmps.getD ad undef)):Sem Value)).run P w'= .ok vs'.toArray w':=by
   rw[Array.mapM_eq_mapM_toList,Sem.run_map,h1];rfl
  have hrun:(results fn a'.tmps).run P w'= .ok (if h:vs'.toArray.size=1 then vs'.toArray[0]else .tuple vs'.toArray) w':=by
   unfold results;rw[Sem.run_bind];exact congrArg (fun(r:Result (Array Value))=>r.andThen fun a w'=>Sem.run P (pure (if h:a.size=1 then a[0]else Value.tuple a)) w') hm
  refine⟨_,hrun,_,rfl,?_,⟨hext.os,hext.tape,hext.output,hext.size,fun b hb _=>hext.block b hb (by omega),hext.cells⟩⟩;rw[<-h5];refine b1N hc.wf hc.rows 6 _ _ ?_
  match xs,vs',h2,h3 with
  |[],[],_,_=>simp only[r9];rw[dif_neg (by simp)];exact .tup [] [] rfl (by simp)
  |[x],[v],_,h3=>simp only[r9];rw[dif_pos (by simp)];exact h3 0 x v rfl rfl
  |x::y::xs,v::u::vs',h2,h3=>simp only[r9];rw[dif_neg (by simp)];exact .tup _ (v::u::vs') h2 h3
 cases e with
 |ret=>exact hfin q
 |normal=>exact hfin q
 |exit id=>exact q.elim
 |goto l=>exact q.elim
 |panic ch=>exact q.elim
 |outgrown=>exact q.elim
def c6v (rs:List ResultVar) (i k sz:Nat) (es:List (List AV)):Exit->Tm->Hp->Prop
 | .ret,T,H=>∃t r,rs=[.tmp t]/\i8 T t= .row r i k/\g8 H r=some (.els sz es)
 |_,_,_=>False
theorem I7.of_body {f : FuncId} {fn : Func} {c : Code} {args : List AV} {i k sz : Nat} {es : List (List AV)} (hf : P.funcs[f]? = some fn) (hb : fn.body = some c) (hname : (fn.name == "runtime.NumGoroutine") = false) (hnt : args.length <= fn.ntmps)
  (hpl:J5 es=true) (hne:es≠[]) (h:AWp P fn.ntmps c (P5 0 args) [] (c6v fn.results.toList i k sz es)):I7 P f args i k sz es:=by
 have hn' : ¬ fn.name = "runtime.NumGoroutine" := by simpa using hname
 refine⟨fun w vs=>by simp[callFunc,hf,hn',hb],hpl,?_⟩;intro S0 w vs hlow hlen hrep;refine calls_of_wp hf hb ?_
 let ρ:Nat->Option Loc:=fun _=>none
 have hS:∀b,Sx S0 ρ b↔S0 b:=by
  intro b;constructor
  ·rintro(h|⟨r,l,h1,_⟩)
   ·exact h
   ·cases h1
  ·exact Or.inl
 have hsize:vs.toArray.size=args.length:=by simp[hlen]
 have hst:St w (fun b=>w.heap.size<=b) S0 fn.ntmps (P5 0 args) [] {tmps:=vs.toArray++Array.replicate (fn.ntmps-vs.toArray.size) undef,defers:=[]} w:=by
  refine⟨⟨ρ,fun _=>False,⟨⟨?_,?_,?_,hlow,fun b h=>h⟩,?_,rfl,?_,?_,?_⟩,fun r hr=>hr.elim⟩,Ext.refl _ _⟩
  ·intro r r' l l' b h1;cases h1
  ·intro r l b h1;cases h1
  ·intro r l h1;cases h1
  ·rw[Array.size_append,Array.size_replicate,hsize];omega
  ·intro t;rw[a0f];simp only[qp,if_true,Nat.sub_zero]
   cases hx:args[t]? with
   |none=>exact .pure _ _ (.any _)
   | some x=>
    have ht:t<args.length:=(qa.1 hx).1;have ht':t<vs.length:=by omega
    have g8:(vs.toArray++Array.replicate (fn.ntmps-vs.toArray.size) undef).getD t undef=vs[t]:=by
     rw[qt,Array.getElem?_append_left (by simpa using ht')];simp[ht']
    rw[g8];exact .pure _ _ ((hrep t x _ hx (qc ht')).ext (qo _) (fun b _ hn=>⟨rfl,fun k=>hn ((hS b).1 k)⟩))
  ·intro r row hr;cases r<;>cases hr
  ·intro r _;rfl
 refine wp_mono (h w _ S0 _ w hst) ?_;rintro e a' w' ⟨T',H',q,⟨⟨ρ',L',hc,hL⟩,hext⟩⟩
 cases e with
 | ret=>
  obtain⟨t,r,hrs,ht,hH⟩:=q;refine⟨hc.defers,?_⟩;have hrun:(results fn a'.tmps).run P w'= .ok (a'.tmps.getD t undef) w':=by
   have hrs':fn.results= #[.tmp t]:=by apply Array.ext';simpa using hrs
   unfold results;rw[hrs'];simp
  have hv:=hc.tmps t;rw[ht]at hv;obtain⟨l,hl,n8⟩:=hc.rows r _ hH;obtain⟨el,hel⟩:∃el,es[0]?=some el:=by
   cases es with
   |nil=>exact absurd rfl hne
   |cons x l=>exact⟨x,rfl⟩
  obtain⟨b,hb'⟩:=a0O n8 hel;have hown:=hc.wf.own r l b hl hb';have hSx:∀c,Sx S0 (ρ1 l) c->Sx S0 ρ' c:=by
   rintro c (h1|⟨r',l',h1,h2⟩)
   ·exact Or.inl h1
   ·simp only[ρ1]at h1
    split at h1
    ·simp only[qb]at h1;subst h1;exact Or.inr ⟨r,l,hl,h2⟩
    ·cases h1
  refine⟨_,hrun,_,l,b,rfl,hb',hown.2.2,hown.1,⟨hext.os,hext.tape,hext.output,hext.size,fun b hb _=>hext.block b hb (by omega),hext.cells⟩,?_,?_⟩
  ·cases hv with
   |pure _ _ h=>cases h
   |row _ _ _ _ h1 h2 h3=>
    refine .row _ _ _ _ rfl h2 (fun l' hl'=>?_);simp only[ρ1,if_true,qb]at hl';subst hl';exact h3 l hl
  ·obtain⟨q1,q2,q3,q4⟩:=n8;refine⟨q1,q2,q3,fun c hc'=>?_⟩;obtain⟨cs,t',p1,p2,p3,p4⟩:=q4 c hc';refine⟨cs,t',p1,p2,p3,fun j av hj=>?_⟩;obtain⟨y,g1,g2,g3⟩:=p4 j av hj;refine⟨y,g1,g2,?_⟩;have hmem:=qd hj;rw[List.mem_flatten]at hmem;obtain⟨el',hel',hcel⟩:=hmem;simp only[J5,qn]at hpl;exact .pure _ _ ((B7 2 av y (hpl el' hel' av hcel) g3).ext (qo _) (fun c _ hnc=>⟨rfl,fun h=>hnc (hSx c h)⟩))
 |normal=>exact q.elim
 |exit id=>exact q.elim
 |goto l=>exact q.elim
 |panic ch=>exact q.elim
 |outgrown=>exact q.elim
end
end Go.AM
namespace Go.AM
attribute [simp] b8U H4 a3c a8A b3r okm AV.strip evT i8 a4h aop a2t a5W p9 g8 a1v I6 c5Z b3a P5 b3V Z3 H5
attribute [simp] b5m b5B a4r b0m D6 Hx AV.flatV a1s cnd c5I c1N c1G c5y c1Z b0E a4C b2M b0g b6M a9P b5L c6t c1o b2a kcs KC.ofAV o1 KC.fits b4I b5t c5T b6I c6g c1g c0i b9Y c5u c6d aUn c1D a4F b5D a2Y b5i b6E c6f a9V c0I a6E c4k c4N c1A mk
attribute [simp] TD.size TD.isAgg TD.zero AV.cells AV.noRef a0v a6G a3k a5K a7d Q1 a8Y a9r S6 P0 a2q
attribute [simp] c6v c5q N6 r9 M0 c0l p5 b4a C2 p7 b9q a7M Op.operands Call.operands frz B8 AV.flat J5 AV.isFull List.findIdx?_cons
@[simp] theorem c5m (m:List Bool):c5W m []:=fun _=>rfl
@[simp] theorem c4E (m:List Bool):c5W m m:=fun h=>h
abbrev I (n:Int):AV:= .v (.int .i64 n)
abbrev Bo (b:Bool):AV:= .v (.bool b)
theorem b0M {P:Program} {f:FuncId} {args:List AV} {fl:Bool} {rd rd0:List Nat} {raw:List AV} {H:Nat->Option n9} {N:Nat} {K:Eff->Prop} (res:AV) (h:a9 P f args res) (hn:fl=true∨res.flat 3=true) (hk:K ⟨res,[],rd⟩):a2P P [] f args fl rd rd0 raw H N K:=Or.inl ⟨res,h,hn,hk⟩
theorem a9i {P:Program} {m:List Bool} {f:FuncId} {args:List AV} {fl:Bool} {rd rd0:List Nat} {raw:List AV} {H:Nat->Option n9} {N:Nat} {K:Eff->Prop} (res:AV) (h:m.all id=true->a9 P f args res) (hn:fl=true∨res.flat 3=true) (hk:K ⟨res,[],rd⟩):a2P P m f args fl rd rd0 raw H N K:=by
 refine Or.inl ⟨res,?_,hn,hk⟩
 cases m with
 |nil=>exact h rfl
 |cons b m=>exact h
theorem T6 {P:Program} {m:List Bool} {f:FuncId} {args:List AV} {rd rd0:List Nat} {raw:List AV} {H:Nat->Option n9} {N:Nat} {K:Eff->Prop} {i k sz:Nat} {es:List (List AV)} (h:I7 P f args i k sz es) (hk:K ⟨.row N i k,[(N,some (.els sz es))],rd0⟩):a2P P m f args true rd rd0 raw H N K:=Or.inr (Or.inl ⟨rfl,i,k,sz,es,h,hk⟩)
theorem b5O {P:Program} {m:List Bool} {f:FuncId} {args:List AV} {fl:Bool} {rd rd0:List Nat} {raw:List AV} {H:Nat->Option n9} {N:Nat} {K:Eff->Prop} (gk gd:List Nat) (bg:List (Option Nat)) {args':List AV} {Hk Hd:Hp} {res:AV} {Hk' Hn:Hp} (h:c7 P f args' Hk Hd res Hk' Hn)
  (hnd:a3g (gk++gd) N=true) (hbg:C5 gk N Hn.length=bg) (ha:raw.map (p5 ((gk++gd).map some) 40)=args') (hH:(gk++gd).map (fun r=>(H r).map (C2 ((gk++gd).map some)))=Hk++Hd) (hkl:gk.length=Hk.length) (hall:(Hk++Hd).all Option.isSome=true)
  (hk:K ⟨p5 bg 3 res,r6 bg gk Hk'++(v7 gd++y7 bg N Hn),rd0++(gk++gd)⟩):a2P P m f args fl rd rd0 raw H N K:=by
 subst hbg ha;exact Or.inr (Or.inr (Or.inl ⟨gk,gd,Hk,Hd,Hk',Hn,res,hnd,hH.symm,hkl,hall,h,hk⟩))
theorem a3e {P:Program} {m:List Bool} {f:FuncId} {args:List AV} {fl:Bool} {rd rd0:List Nat} {raw:List AV} {H:Nat->Option n9} {N:Nat} {K:Eff->Prop} (gk gd:List Nat) (bg:List (Option Nat)) {args':List AV} {Hk Hd:Hp} {res:AV} {Hk' Hn:Hp} (h:c7 P f args' Hk Hd res Hk' Hn)
  (hnd:a3g (gk++gd) N=true) (hbg:C5 gk N Hn.length=bg) (ha:raw.map (b0m H (gk++gd) 3)=args') (hH:(gk++gd).map (fun r=>(H r).map (C2 ((gk++gd).map some)))=Hk++Hd) (hkl:gk.length=Hk.length) (hall:(Hk++Hd).all Option.isSome=true)
  (hfl:res.flatV 2=true) (hrf:(Hk'++Hn).all a1s=true)
  (hk:K ⟨p5 bg 3 res,r6 bg gk Hk'++(v7 gd++y7 bg N Hn),rd0++((gk++gd)++raw.flatMap (D6 H (gk++gd) 3))⟩):a2P P m f args fl rd rd0 raw H N K:=by
 subst hbg ha;exact Or.inr (Or.inr (Or.inr (Or.inl ⟨gk,gd,Hk,Hd,Hk',Hn,res,hnd,hH.symm,hkl,hall,h,hfl,hrf,hk⟩)))
@[congr] theorem c3i {m m':List Bool} {els els':List (List AV)} {n n':Nat} {K:Eff->Prop} (hm:m=m') (h:els=els') (hn:n=n'):c5o m els n K=c5o m' els' n' K:=by rw[hm,h,hn]
theorem j7 {m:List Bool} {els:List (List AV)} {n:Nat} {K:Eff->Prop} (el:List AV) (h:m.all id=true->els[n]?=some el) (hk:K ⟨.iptr el,[],[]⟩):c5o m els n K:=⟨el,h,hk⟩
theorem d7 {m:List Bool} {val:AV} {rd:List Nat} {K:Eff->Prop} (av:AV) (h:m.all id=true->val=av) (hk:K ⟨av,[],rd⟩):c3t m val rd K:=⟨av,h,hk⟩
attribute [simp] r6 v7 y7
@[simp] theorem c5i (k:IntKind) (n:Int):g9 false [.i k n]= .int k n:=rfl
section
variable {P:Program} {K:Eff->Prop} {H H':Nat->Option n9} {N N':Nat} {td td':TD} {x x' y y':AV} {m m':List Bool} {ev:Operand->AV}
@[congr] theorem c3s {m m':List Bool} {rd rd':List Nat} (hm:m=m') (hx:x=x') (hr:rd=rd'):c3t m x rd K=c3t m' x' rd' K:=by rw[hm,hx,hr]
end
end Go.AM
namespace Go.AM
def a4Y:List Operand->List Nat
 |[]=>[]
 | .tmp t::xs=>2*t::a4Y xs
 |_::xs=>a4Y xs
def a4u (dsts:List (Option Tmp)) (g:Option (Nat×Bool)):List Nat:=
 match g with
 |none=>[]
 |some (j,_)=>match dsts[j]? with
  |some (some d)=>[2*d]
  |_=>[]
def a7n:Option Tmp->List Nat
 |none=>[]
 |some d=>[2*d]
def a9I:List (Nat×Option n9)->List Nat
 |[]=>[]
 |(r,_)::u=>(2*r+1)::a9I u
def a2N:List Nat->List Nat
 |[]=>[]
 |r::u=>(2*r+1)::a2N u
abbrev Tr:=List Nat×List Nat
def A9 (dsts:List (Option Tmp)) (o:Oper) (e:Eff):Tr:=
 (a4Y o.op.operands.toList++(a4u dsts o.guard++(a7n o.dst++(a2N e.reads++a9I e.ups))),a7n o.dst++a9I e.ups)
def U5 (P:Program) (nt:Nat) (dsts:List (Option Tmp)):List Oper->Tm->Hp->List Tr->(Tm->Hp->List Tr->Prop)->Prop
 |[],T,H,tr,K=>K T H tr
 | o::rest,T,H,tr,K=>a3c P dsts o (i8 T) (g8 H) H.length (ct (fun e=>
   b3a nt o.dst/\a1v H e.ups/\I6 e.ups=true/\U5 P nt dsts rest (a2t T o.dst e.av) (a5W H e.ups) (tr++[A9 dsts o e]) K) ⟨⟩)
def c4A (acc:List Nat) (o:Oper):Nat:=o.after.toList.foldl (fun s e=>if Region.binds .any e then s|||2^e.on|||acc.getD e.on 0 else s) 0
def b3O:List Oper->List Nat->List Nat
 |[],acc=>acc
 |o::r,acc=>b3O r (acc++[c4A acc o])
def b3i:List Oper->Nat->Bool
 |[],_=>true
 |o::r,k=>(o.after.toList.all fun e=> !Region.binds .any e||decide (e.on<k))&&b3i r (k+1)
def b0b (a b:Tr):Bool:=(a.2.any fun x=>b.1.contains x)||b.2.any fun x=>a.1.contains x
def a1l (l:List Oper) (tr:List Tr):Bool:=
 b3i l 0&&(List.range l.length).all fun k=>(List.range k).all fun j=>
  !b0b (tr.getD j ([],[])) (tr.getD k ([],[]))||((b3O l []).getD k 0).testBit j
def Z6 {α:Type} (D wr:Nat->Bool) (f:Nat->α):Nat->α
 |0=>f 0
 |k+1=>if D k&&wr k then f (k+1)else Z6 D wr f k
theorem r4 {α : Type} {D wr:Nat->Bool} {f:Nat->α}:∀(n i:Nat),i<=n->(∀k,k<n->wr k=false->f (k+1)=f k)->(∀k,k<n->wr k=true->(D k=true↔k<i))->Z6 D wr f n=f i
  | 0, i, hi, _, _ => by have:i=0:=by omega
                         subst this;rfl
  | n + 1,i,hi,h1,h2=>by
    have ih:=fun i hi h=>r4 (D:=D) (wr:=wr) (f:=f) n i hi (fun k hk=>h1 k (by omega)) h
    simp only[Z6]
    cases hw:wr n with
    | true=>
      have hD:=h2 n (by omega) hw
      by_cases e:i=n+1
      · subst e
        rw[hD.2 (by omega)];rfl
      · have:D n=false:=by cases hd:D n with
          |false=>rfl
          |true=>have:=hD.1 hd;omega
        rw[this]
        simp only[Bool.false_and,Bool.false_eq_true,if_false]
        exact ih i (by omega) (fun k hk=>h2 k (by omega))
    | false=>
      simp only[Bool.and_false,Bool.false_eq_true,if_false]
      by_cases e:i=n+1
      · subst e
        rw[h1 n (by omega) hw]
        exact ih n (qo _) (fun k hk hw=>⟨fun _=>hk,fun _=>(h2 k (by omega) hw).2 (by omega)⟩)
      · exact ih i (by omega) (fun k hk=>h2 k (by omega))
theorem F4 {α:Type} {D D' wr:Nat->Bool} {f:Nat->α}:∀(n:Nat),(∀k,k<n->wr k=true->D k=D' k)->Z6 D wr f n=Z6 D' wr f n
 |0,_=>rfl
 |n+1,h=>by
  simp only[Z6];rw[F4 n (fun k hk=>h k (by omega))]
  cases hw:wr n with
  |true=>rw[h n (by omega) hw]
  |false=>simp
def a5x (ops:Array Oper) (D:Nat->Bool):Prop:=∀(k:Nat) o,ops[k]?=some o->D k=true->∀e∈o.after,Region.binds .any e=true->D e.on=true
theorem a8N {acc:List Nat} {D:Nat->Bool} {j:Nat} (hacc:∀k,D k=true->(acc.getD k 0).testBit j=true->D j=true):∀(es:List Edge) (s:Nat),(∀e∈es,Region.binds .any e=true->D e.on=true)->
  (s.testBit j=true->D j=true)->((es.foldl (fun s e=>if Region.binds .any e then s|||2^e.on|||acc.getD e.on 0 else s) s).testBit j=true->D j=true)
 |[],s,_,hs=>hs
 | e::es,s,h,hs=>by
  simp only[List.foldl_cons];refine a8N hacc es _ (fun e' he'=>h e' (by simp[he'])) ?_
  split
  ·rename_i hb;have hon:=h e (by simp) hb;rw[Nat.testBit_or,Nat.testBit_or,Nat.testBit_two_pow];intro ht;simp only[Bool.or_eq_true,decide_eq_true_eq]at ht
   rcases ht with(ht|ht)|ht
   ·exact hs ht
   ·subst ht;exact hon
   ·exact hacc _ hon ht
  ·exact hs
theorem a0n {ops:Array Oper} {D:Nat->Bool} (hD:a5x ops D):∀(l:List Oper) (acc:List Nat),(∀j:Nat,l[j]?=ops[acc.length+j]?)->
  (∀k j,D k=true->(acc.getD k 0).testBit j=true->D j=true)->∀k j,D k=true->((b3O l acc).getD k 0).testBit j=true->D j=true
 |[],acc,_,h=>h
 | o::r,acc,hl,h=>by
  simp only[b3O];refine a0n hD r _ (fun j=>?_) ?_
  ·have:=hl (j+1);simp only[List.getElem?_cons_succ]at this;rw[this];simp;congr 1;omega
  ·intro k j hk ht
   by_cases hlt:k<acc.length
   ·rw[List.getD_eq_getElem?_getD,qw hlt,<-List.getD_eq_getElem?_getD]at ht;exact h k j hk ht
   ·by_cases he:k=acc.length
    ·subst he;rw[List.getD_eq_getElem?_getD,qv (qo _)]at ht;simp only[Nat.sub_self,List.getElem?_cons_zero,Option.getD_some]at ht;have h0:=hl 0;simp only[List.getElem?_cons_zero,Nat.add_zero]at h0;exact a8N (fun k hk=>h k j hk) o.after.toList 0 (fun e he=>hD acc.length o h0.symm hk e (by simpa using he)) (by simp) ht
    ·rw[List.getD_eq_getElem?_getD,List.getElem?_eq_none (by simp;omega)]at ht;simp at ht
theorem a2l:∀(l:List Oper) (k:Nat),b3i l k=true->∀(j:Nat) o,l[j]?=some o->∀e∈o.after,Region.binds .any e=true->e.on<k+j
 |[],k,_,j,o,h=>by simp at h
 | o::r,k,hb,j,o',h=>by
  simp only[b3i,qh,qn]at hb
  cases j with
  |zero=>
   simp only[List.getElem?_cons_zero,qb]at h;subst h;intro e he hbd;have:=hb.1 e (by simpa using he);simp only[hbd,Bool.not_true,Bool.false_or,decide_eq_true_eq]at this;omega
  |succ j=>
   simp only[List.getElem?_cons_succ]at h;intro e he hbd;have:=a2l r (k+1) hb.2 j o' h e he hbd;omega
structure Lex (P:Program) (nt:Nat) (ops:Array Oper) (dsts:List (Option Tmp)) (l:List Oper) (Ts:Nat->Tm) (Hs:Nat->Hp) (es:Nat->Eff):Prop where
 ok:∀(k:Nat) o,l[k]?=some o->a8G P ops o (i8 (Ts k)) (g8 (Hs k)) (Hs k).length (es k)/\b3a nt o.dst/\a1v (Hs k) (es k).ups/\I6 (es k).ups=true/\
  Ts (k+1)=a2t (Ts k) o.dst (es k).av/\Hs (k+1)=a5W (Hs k) (es k).ups
theorem b1Y {P:Program} {nt:Nat} {ops:Array Oper} {dsts:List (Option Tmp)} (hd:∀j:Nat,dsts[j]?=(ops[j]?).map (·.dst)) {K:Tm->Hp->List Tr->Prop}:∀(l:List Oper) (T:Tm) (H:Hp) (tr:List Tr),U5 P nt dsts l T H tr K->
  ∃Ts Hs es,Ts 0=T/\Hs 0=H/\Lex P nt ops dsts l Ts Hs es/\K (Ts l.length) (Hs l.length) (tr++(l.zipIdx.map fun(p:Oper×Nat)=>A9 dsts p.1 (es p.2)))
 |[],T,H,tr,h=>⟨fun _=>T,fun _=>H,fun _=>⟨.any,[],[]⟩,rfl,rfl,⟨fun k o h=>by simp at h⟩,by simpa [U5]using h⟩
 | o::r,T,H,tr,h=>by
  obtain⟨e,hst,h1,h2,h3,h4⟩:=G2 hd h (fun _=>trivial);obtain⟨Ts,Hs,es,t0,hh0,hlex,hk⟩:=b1Y hd r _ _ _ h4;refine⟨fun k=>match k with|0=>T|k+1=>Ts k,fun k=>match k with|0=>H|k+1=>Hs k,fun k=>match k with|0=>e|k+1=>es k,rfl,rfl,⟨fun k o' hk=>?_⟩,?_⟩
  ·cases k with
   |zero=>
    simp only[List.getElem?_cons_zero,qb]at hk;subst hk;exact⟨hst,h1,h2,h3,t0,hh0⟩
   |succ k=>exact hlex.ok k o' hk
  ·simp only[List.length_cons,List.zipIdx_cons,List.map_cons];rw[List.append_assoc]at hk;have:(r.zipIdx (0+1)).map (fun(p:Oper×Nat)=>A9 dsts p.1 ((fun k=>match k with|0=>e|k+1=>es k:Nat->Eff) p.2))=r.zipIdx.map fun(p:Oper×Nat)=>A9 dsts p.1 (es p.2):=by
    rw[List.zipIdx_succ,List.map_map];apply List.map_congr_left;intro p _
    rfl
   rw[this];exact hk
theorem a3X {t:Nat}:∀{l:List Operand}, .tmp t∈l->2*t∈a4Y l
 | x::l,h=>by
  rcases List.mem_cons.1 h with h|h
  ·subst h;simp[a4Y]
  ·have ih:=a3X h
   cases x<;>simp[a4Y,ih]
theorem a1i {r:Nat} {o:Option n9}:∀{l:List (Nat×Option n9)},(r,o)∈l->2*r+1∈a9I l
 |(q,_)::l,h=>by
  rcases List.mem_cons.1 h with h|h
  ·simp only[qr]at h;obtain⟨rfl,_⟩:=h;simp[a9I]
  ·simp[a9I,a1i h]
theorem a1A {r:Nat}:∀{l:List Nat},r∈l->2*r+1∈a2N l
 |q::l,h=>by
  rcases List.mem_cons.1 h with h|h
  ·subst h;simp[a2N]
  ·simp[a2N,a1A h]
section
variable {P:Program} {nt:Nat} {l:List Oper} {dsts:List (Option Tmp)} {Ts:Nat->Tm} {Hs:Nat->Hp} {es:Nat->Eff}
def wS (l:List Oper) (t k:Nat):Bool:=match l[k]? with|some o=>o.dst==some t|none=>false
def wR (es:Nat->Eff) (r k:Nat):Bool:=(es k).ups.any fun q=>q.1==r
theorem a1S {t k:Nat} {o:Oper} (h:l[k]?=some o):wS l t k=true↔o.dst=some t:=by simp[wS,h]
theorem H9 {r k:Nat}:wR es r k=true↔∃o,(r,o)∈(es k).ups:=by
 simp only[wR,qy,beq_iff_eq];constructor
 ·rintro⟨⟨q,o⟩,h1,h2⟩;simp only at h2;subst h2;exact⟨o,h1⟩
 ·rintro⟨o,h⟩;exact⟨(r,o),h,rfl⟩
theorem b3J {w0:World} {B S0:Nat->Prop} (hlex:Lex P nt l.toArray dsts l Ts Hs es) (hdst:l.map (·.dst)=dsts)
    (hB:a1l l (l.zipIdx.map fun(p:Oper×Nat)=>A9 dsts p.1 (es p.2))=true) {Q:Exit->Act->World->Prop}
    (hQ:∀a w,St w0 B S0 nt (Ts l.length) (Hs l.length) a w->Q .normal a w) {a:Act} {w:World} (hs:St w0 B S0 nt (Ts 0) (Hs 0) a w):
    wpAny P .any l.toArray Q l.toArray.size (Array.replicate l.toArray.size false) a w:=by
  obtain⟨hback,hconf⟩:=Bool.and_eq_true_iff.1 hB
  simp only[qn,List.mem_range]at hconf
  have htr:∀(k:Nat) o,l[k]?=some o->((l.zipIdx.map fun(p:Oper×Nat)=>A9 dsts p.1 (es p.2)).getD k ([],[]))=A9 dsts o (es k):=by
    intro k o hk
    rw[List.getD_eq_getElem?_getD,qe,List.getElem?_zipIdx,hk]
    simp
  have hord:∀(j k:Nat) oj ok,j<k->l[j]?=some oj->l[k]?=some ok->(∃x,(x∈(A9 dsts oj (es j)).2/\x∈(A9 dsts ok (es k)).1)∨(x∈(A9 dsts ok (es k)).2/\x∈(A9 dsts oj (es j)).1))->
      ∀D,a5x l.toArray D->D k=true->D j=true:=by
    intro j k oj ok hjk hj hk hx D hD hDk
    have hkl:k<l.length:=(qa.1 hk).1
    have h1:=hconf k hkl j hjk
    rw[htr j oj hj,htr k ok hk]at h1
    have hc:b0b (A9 dsts oj (es j)) (A9 dsts ok (es k))=true:=by
      simp only[b0b,Bool.or_eq_true,qy,List.contains_iff_mem]
      obtain⟨x,hx|hx⟩:=hx
      · exact Or.inl ⟨x,hx.1,hx.2⟩
      · exact Or.inr ⟨x,hx.1,hx.2⟩
    rw[hc]at h1
    simp only[Bool.not_true,Bool.false_or]at h1
    exact a0n hD l [] (by simp) (by simp) k j hDk h1
  have hlen : ∀i j,i<=j->j<=l.length->(Hs i).length<=(Hs j).length:=by
    intro i j hij
    induction j with
    | zero => intro _;have:i=0:=by omega
              subst this;exact qo _
    | succ j ih=>
      intro hj
      by_cases e:i=j+1
      · subst e;exact qo _
      · have hjl:j<l.length:=by omega
        obtain⟨_,_,hin,_,_,hh⟩:=hlex.ok j _ (qc hjl)
        rw[hh]
        exact Nat.le_trans (ih (by omega) (by omega)) (B3 _ _ hin).1
  have hupl:∀k r o,k<l.length->(r,o)∈(es k).ups->r<(Hs (k+1)).length:=by
    intro k r o hk hm
    obtain⟨_,_,hin,_,_,hh⟩:=hlex.ok k _ (qc hk)
    rw[hh]
    exact(B3 _ _ hin).2 r o hm
  let vS:(Nat->Bool)->Nat->AV:=fun D t=>Z6 D (wS l t) (fun k=>i8 (Ts k) t) l.length
  let vR:(Nat->Bool)->Nat->Option n9:=fun D r=>Z6 D (wR es r) (fun k=>g8 (Hs k) r) l.length
  have keepS:∀t k,k<l.length->wS l t k=false->i8 (Ts (k+1)) t=i8 (Ts k) t:=by
    intro t k hk hw
    have ho:=qc hk
    obtain⟨_,_,_,_,ht,_⟩:=hlex.ok k _ ho
    rw[ht,x5,if_neg]
    intro e
    rw[(a1S ho).2 e]at hw
    cases hw
  have keepR:∀r k,k<l.length->wR es r k=false->g8 (Hs (k+1)) r=g8 (Hs k) r:=by
    intro r k hk hw
    obtain⟨_,_,hin,hon,_,hh⟩:=hlex.ok k _ (qc hk)
    rw[hh]
    refine(G1 _ _ hin hon r).2 (fun o hm=>?_)
    rw[H9.2 ⟨o,hm⟩]at hw
    cases hw
  let Inv:(Nat->Bool)->Act->World->Prop:=fun D a w=>(∃ρ L,N8 B S0 nt w ρ L (vS D) (vR D) a/\∀r,L r->r<(Hs 0).length∨∃k,k<l.length/\D k=true/\wR es r k=true)/\Ext B w0 w
  have step :∀(D:Nat->Bool) (i:Nat) (o:Oper) (a:Act) (w:World) (K:Act->World->Prop),a5x l.toArray D->a5x l.toArray (fun k=>D k||k==i)->l[i]?=some o->D i=false->Inv D a w->
      (∀a' w',Inv (fun k=>D k||k==i) a' w'->K a' w')->if Region.wanted o (yielded l.toArray a.tmps)then o.wp P a w K Q else K (a.put o.dst undef) w:=by
    intro D i o a w K hD hD' ho hDi hinv hK
    obtain⟨⟨ρ,L,hc,hL⟩,hext⟩:=hinv
    have hil:i<l.length:=(qa.1 ho).1
    obtain⟨hst,hdk,hin,hon,hts,hhs⟩:=hlex.ok i o ho
    have ordS:∀t,2*t∈(A9 dsts o (es i)).1->∀k,k<l.length->wS l t k=true->(D k=true↔k<i):=by
      intro t ht k hk hw
      have hok:=qc hk
      have hwd:=(a1S hok).1 hw
      have hmem:2*t∈(A9 dsts l[k] (es k)).2:=by simp[A9,hwd,a7n]
      rcases Nat.lt_trichotomy k i with h|h|h
      · have:=hord k i _ o h hok ho ⟨2*t,Or.inl ⟨hmem,ht⟩⟩ _ hD' (by simp)
        simp only[Bool.or_eq_true,beq_iff_eq]at this
        exact⟨fun _=>h,fun _=>this.resolve_right (by omega)⟩
      · subst h;simp[hDi]
      · refine⟨fun hDk=>?_,fun hlt=>by omega⟩
        have:=hord i k o _ h ho hok ⟨2*t,Or.inr ⟨hmem,ht⟩⟩ _ hD hDk
        rw[hDi]at this;cases this
    have ordR:∀r,2*r+1∈(A9 dsts o (es i)).1->∀k,k<l.length->wR es r k=true->(D k=true↔k<i):=by
      intro r hr k hk hw
      have hok:=qc hk
      obtain⟨q,hm⟩:=H9.1 hw
      have hmem:2*r+1∈(A9 dsts l[k] (es k)).2:=by simp only[A9,List.mem_append];exact Or.inr (a1i hm)
      rcases Nat.lt_trichotomy k i with h|h|h
      · have:=hord k i _ o h hok ho ⟨2*r+1,Or.inl ⟨hmem,hr⟩⟩ _ hD' (by simp)
        simp only[Bool.or_eq_true,beq_iff_eq]at this
        exact⟨fun _=>h,fun _=>this.resolve_right (by omega)⟩
      · subst h;simp[hDi]
      · refine⟨fun hDk=>?_,fun hlt=>by omega⟩
        have:=hord i k o _ h ho hok ⟨2*r+1,Or.inr ⟨hmem,hr⟩⟩ _ hD hDk
        rw[hDi]at this;cases this
    have hdm:∀t,o.dst=some t->2*t∈(A9 dsts o (es i)).1:=by intro t ht;simp[A9,ht,a7n]
    have hum:∀r q,(r,q)∈(es i).ups->2*r+1∈(A9 dsts o (es i)).1:=by
      intro r q hm;simp only[A9,List.mem_append];exact Or.inr (Or.inr (Or.inr (Or.inr (a1i hm))))
    have hrm:∀r,r∈(es i).reads->2*r+1∈(A9 dsts o (es i)).1:=by
      intro r hm;simp only[A9,List.mem_append];exact Or.inr (Or.inr (Or.inr (Or.inl (a1A hm))))
    have hsm:∀t∈o.looksAt l.toArray,2*t∈(A9 dsts o (es i)).1:=by
      intro t ht
      simp only[Oper.looksAt,List.mem_append,List.mem_filterMap]at ht
      simp only[A9,List.mem_append]
      rcases ht with⟨x,hx,hxt⟩|ht
      · left
        cases x with
        |tmp t'=>simp only[qb]at hxt;subst hxt;exact a3X hx
        |_=>cases hxt
      · right;left
        cases hg:o.guard with
        |none=>rw[hg]at ht;cases ht
        | some g=>
          obtain⟨j,want⟩:=g
          rw[hg]at ht
          simp only[Option.mem_toList]at ht
          simp only[a4u]
          have:dsts[j]?=some (some t):=by
            rw[<-hdst,qe]
            cases hj:l[j]? with
            |none=>simp[hj]at ht
            |some oj=>simp[hj]at ht;simp[ht]
          rw[this];simp
    have vS_at:∀t,2*t∈(A9 dsts o (es i)).1->vS D t=i8 (Ts i) t:=fun t ht=>r4 l.length i (by omega) (keepS t) (ordS t ht)
    have vR_at:∀r,2*r+1∈(A9 dsts o (es i)).1->vR D r=g8 (Hs i) r:=fun r hr=>r4 l.length i (by omega) (keepR r) (ordR r hr)
    have hN:a2E L (Hs i).length (es i):=by
      rintro r hr ⟨q,hm⟩ hLN
      rcases hL r hLN with h|⟨k,hk,hDk,hw⟩
      · have:=hlen 0 i (by omega) (by omega);omega
      · have hlt:=(ordR _ (hum _ q hm) k hk hw).1 hDk
        obtain⟨q',hm'⟩:=H9.1 hw
        have h1:=hupl k _ q' hk hm'
        have h2:=hlen (k+1) i (by omega) (by omega)
        omega
    have hnew:∀(wr:Nat->Bool),(∀k,k<l.length->wr k=true->(D k=true↔k<i))->∀k,k<l.length->wr k=true->((D k||k==i)=true↔k<i+1):=by
      intro wr h k hk hw
      have:=h k hk hw
      simp only[Bool.or_eq_true,beq_iff_eq,this]
      omega
    refine hst B S0 a w ρ L hc.wf hN (fun t ht=>by rw[<-vS_at t (hsm t ht)];exact hc.tmps t) (fun r hr row n8=>hc.rows r row (by rw[vR_at r (hrm r hr)];exact n8)) K Q (fun v w' ρ' hp=>hK _ _ ⟨⟨ρ',_,hc.step hN hp (fun d hd=>by rw[hd]at hdk;exact hdk) (fun t=>?_) (fun r=>⟨fun q hm=>?_,fun hno=>?_⟩),?_⟩,b1F hext hc.wf hp⟩)
    · by_cases e:o.dst=some t
      · rw[if_pos e]
        have:=r4 (D:=fun k=>D k||k==i) (wr:=wS l t) (f:=fun k=>i8 (Ts k) t) l.length (i+1) (by omega) (keepS t) (hnew _ (ordS t (hdm t e)))
        show Z6 _ _ _ _=_
        rw[this,hts,x5,if_pos e]
      · rw[if_neg e]
        refine F4 _ (fun k hk hw=>?_)
        have:k≠i:=by rintro rfl;exact e ((a1S ho).1 hw)
        simp[this]
    · have:=r4 (D:=fun k=>D k||k==i) (wr:=wR es r) (f:=fun k=>g8 (Hs k) r) l.length (i+1) (by omega) (keepR r) (hnew _ (ordR r (hum r q hm)))
      show Z6 _ _ _ _=_
      rw[this,hhs]
      exact(G1 _ _ hin hon r).1 q hm
    · refine F4 _ (fun k hk hw=>?_)
      have:k≠i:=by rintro rfl;obtain⟨q,hm⟩:=H9.1 hw;exact hno q hm
      simp[this]
    · rintro r (hr|⟨q,hm⟩)
      · rcases hL r hr with h|⟨k,hk,hDk,hw⟩
        · exact Or.inl h
        · exact Or.inr ⟨k,hk,by simp[hDk],hw⟩
      · exact Or.inr ⟨i,hil,by simp,H9.2 ⟨q,hm⟩⟩
  have all : ∀ (fuel:Nat) (listed:Array Bool) (a:Act) (w:World),listed.size=l.length->listed.toList.count false=fuel->a5x l.toArray (fun k=>listed.getD k false)->Inv (fun k=>listed.getD k false) a w->
      wpAny P .any l.toArray Q fuel listed a w:=by
    intro fuel
    have done : ∀(listed:Array Bool) (a:Act) (w:World),listed.size=l.length->a5x l.toArray (fun k=>listed.getD k false)->Inv (fun k=>listed.getD k false) a w->Region.ready .any l.toArray listed=[]->Q .normal a w:=by
      intro listed a w hsz hD hinv hr
      have hall :∀k,k<l.length->listed.getD k false=true:=by
        intro k
        induction k using Nat.strongRecOn with
        | _ k ih=>
          intro hk
          cases hv:listed.getD k false with
          |true=>rfl
          | false=>
            exfalso
            have hmem:k∈Region.ready .any l.toArray listed:=by
              refine mem_ready.2 ⟨?_,l[k],by simp[hk],fun e he hb=>?_⟩
              · have hk':k<listed.size:=by omega
                simp only[qt,Array.getElem?_eq_getElem hk',Option.getD_some]at hv ⊢
                exact hv
              · have:=a2l l 0 hback k l[k] (qc hk) e he hb
                exact ih e.on (by omega) (by omega)
            rw[hr]at hmem;cases hmem
      obtain⟨⟨ρ,L,hc,hL⟩,hext⟩:=hinv
      have eS:vS (fun k=>listed.getD k false)=i8 (Ts l.length):=by
        funext t
        exact r4 l.length l.length (qo _) (keepS t) (fun k hk _=>⟨fun _=>hk,fun _=>hall k hk⟩)
      have eR:vR (fun k=>listed.getD k false)=g8 (Hs l.length):=by
        funext r
        exact r4 l.length l.length (qo _) (keepR r) (fun k hk _=>⟨fun _=>hk,fun _=>hall k hk⟩)
      rw[eS,eR]at hc
      refine hQ a w ⟨⟨ρ,L,hc,fun r hr=>?_⟩,hext⟩
      rcases hL r hr with h|⟨k,hk,_,hw⟩
      · exact qq h (hlen 0 _ (by omega) (qo _))
      · obtain⟨q,hm⟩:=H9.1 hw
        exact qq (hupl k r q hk hm) (hlen _ _ (by omega) (qo _))
    induction fuel with
    | zero=>
      intro listed a w hsz hcount hD hinv
      have hr:Region.ready .any l.toArray listed=[]:=by
        apply List.eq_nil_iff_forall_not_mem.2
        intro k hk
        obtain⟨h1,o,ho,_⟩:=mem_ready.1 hk
        have hkl:k<listed.size:=by rw[hsz];simpa using(Array.getElem?_eq_some_iff.1 ho).1
        simp only[qt,Array.getElem?_eq_getElem hkl,Option.getD_some]at h1
        rw[List.count_eq_zero]at hcount
        exact hcount (by rw[<-h1];simp)
      exact⟨hr,done listed a w hsz hD hinv hr⟩
    | succ fuel ih=>
      intro listed a w hsz hcount hD hinv
      refine⟨done listed a w hsz hD hinv,fun i hi=>?_⟩
      obtain⟨h1,o,ho,hpre⟩:=mem_ready.1 hi
      have ho':l[i]?=some o:=by simpa using ho
      have hil:i<l.length:=(qa.1 ho').1
      have hils:i<listed.size:=by omega
      have hDi:listed.getD i false=false:=by
        simp only[qt,Array.getElem?_eq_getElem hils,Option.getD_some]at h1 ⊢
        exact h1
      have eD:(fun k=>(listed.setIfInBounds i true).getD k false)=fun k=>listed.getD k false||k==i:=by
        funext k
        by_cases e:k=i
        · subst e
          simp[qt,Array.getElem?_setIfInBounds_self_of_lt hils]
        · rw[getD_set_ne false (fun h=>e h.symm)]
          simp[e]
      have hD':a5x l.toArray (fun k=>listed.getD k false||k==i):=by
        intro k ok hok hk e he hb
        simp only[Bool.or_eq_true,beq_iff_eq]at hk ⊢
        rcases hk with hk|rfl
        · exact Or.inl (hD k ok hok hk e he hb)
        · rw[ho]at hok
          simp only[qb]at hok
          subst hok
          exact Or.inl (hpre e he hb)
      have:=step (fun k=>listed.getD k false) i o a w (wpAny P .any l.toArray Q fuel (listed.setIfInBounds i true)) hD hD' ho' hDi hinv (fun a' w' hinv'=>ih _ a' w' (by simp[hsz]) (by
        rw[Array.toList_setIfInBounds,List.count_set (by simpa using hils),hcount]
        have:listed.toList[i]'(by simpa using hils)=false:=by
          simp only[qt,Array.getElem?_eq_getElem hils,Option.getD_some]at hDi
          simpa using hDi
        simp[this]) (by rw[eD];exact hD') (by rw[eD];exact hinv'))
      unfold wpOp
      simp only[ho]
      split
      · rename_i hw;rw[if_pos hw]at this;exact Or.inl this
      · rename_i hw;rw[if_neg hw]at this;exact this
  obtain⟨⟨ρ,L,hc,hL⟩,hext⟩:=hs
  have e0:(fun k=>(Array.replicate l.toArray.size false).getD k false)=fun _=>false:=by
    funext k
    simp only[qt,Array.getElem?_replicate]
    split<;>rfl
  refine all _ _ a w (by simp) (by simp) ?_ ?_
  · rw[e0];intro k o _ h;cases h
  · rw[e0]
    refine⟨⟨ρ,L,?_,fun r hr=>Or.inl (hL r hr)⟩,hext⟩
    have eS:vS (fun _=>false)=i8 (Ts 0):=by
      funext t
      exact r4 l.length 0 (by omega) (keepS t) (fun k hk _=>by simp)
    have eR:vR (fun _=>false)=g8 (Hs 0):=by
      funext r
      exact r4 l.length 0 (by omega) (keepR r) (fun k hk _=>by simp)
    rw[eS,eR]
    exact hc
theorem St.draw {w0:World} {B S0:Nat->Prop} {T:Tm} {H:Hp} {a:Act} {w:World} (hs:St w0 B S0 nt T H a w) (n:Nat):St w0 B S0 nt T H a {w with drawn:=n}:=by
 obtain⟨⟨ρ,L,hc,hL⟩,hext⟩:=hs;have hk:∀{x y},e8 w (Sx S0 ρ) ρ L x y->e8 {w with drawn:=n} (Sx S0 ρ) ρ L x y:=fun h=>h.ext (qo _) (fun b _ hn=>⟨rfl,hn⟩) (fun r h=>h) (fun r l _ h=>h);refine⟨⟨ρ,L,⟨⟨hc.wf.inj,hc.wf.own,hc.wf.given,hc.wf.low,hc.wf.new⟩,hc.size,hc.defers,fun t=>hk (hc.tmps t),fun r row hr=>?_,hc.dead⟩,hL⟩,hext.draw n⟩;obtain⟨l,hl,n8⟩:=hc.rows r row hr;exact⟨l,hl,n8.ext (qo _) (fun b _ hn=>⟨rfl,hn⟩) (fun r h=>h) (fun r l _ h=>h) (fun _ _=>rfl)⟩
theorem b1a {id:Nat} {T:Tm} {H:Hp} {Q:Exit->Tm->Hp->Prop} (hm:P.follows .mixedOrders=true) (hd:l.map (·.dst)=dsts)
  (h:∀K:Tm->Hp->List Tr->Prop,(∀T' H' tr,a1l l tr=true->Q .normal T' H'->K T' H' tr)->U5 P nt dsts l T H [] K):AWp P nt (.region id l.toArray true) T H Q:=by
 intro w0 B S0 a w hs;have h':=h (fun T' H' tr=>a1l l tr=true/\Q .normal T' H') (fun _ _ _ h1 h2=>⟨h1,h2⟩);have hd':∀j:Nat,dsts[j]?=(l.toArray[j]?).map (·.dst):=by intro j;rw[<-hd];simp
 obtain⟨Ts,Hs,es,t0,h0,hlex,hB,hQ⟩:=b1Y hd' l T H [] h';refine wp_region_any hm ?_;have:=b3J (w0:=w0) (B:=B) (S0:=S0) hlex hd (by simpa using hB) (Q:=fun e a' w'=>∃T' H',Q e T' H'/\St w0 B S0 nt T' H' a' w') (fun a w hst=>⟨_,_,hQ,hst⟩) (a:=a) (w:={w with drawn:=w.drawn+1}) (by rw[t0,h0];exact hs.draw _);exact this
end
section
variable {P:Program} {nt:Nat} {l:List Oper} {dsts:List (Option Tmp)} {T:Tm} {H:Hp} {Q:Exit->Tm->Hp->Prop} {id:Nat} {y:Code}
theorem b9G (hd:l.map (·.dst)=dsts) (h:∀K:Tm->Hp->Prop,(∀T' H',AWp P nt y T' H' Q->K T' H')->H4 P nt dsts l T H K):AWp P nt (.seq (.region id l.toArray false) y) T H Q:=
 a6F (a6i hd (h _ fun _ _ h=>h))
theorem b1p (hm:P.follows .mixedOrders=true) (hd:l.map (·.dst)=dsts)
  (h:∀K:Tm->Hp->List Tr->Prop,(∀T' H' tr,a1l l tr=true->AWp P nt y T' H' Q->K T' H' tr)->U5 P nt dsts l T H [] K):AWp P nt (.seq (.region id l.toArray true) y) T H Q:=
 a6F (b1a hm hd h)
theorem c3U (hd:l.map (·.dst)=dsts) (h:∀K:Tm->Hp->Prop,(∀T' H',Q .normal T' H'->K T' H')->H4 P nt dsts l T H K):AWp P nt (.region id l.toArray false) T H Q:=
 a6i hd (h _ fun _ _ h=>h)
end
def c4W (T:Tm):Tm->Prop
 |[]=>True
 |(i,x)::r=>(x= .any∨i8 T i=x)/\c4W T r
def W8 (T:Tm) (live:List Nat):Tm:=live.map fun t=>(t,i8 T t)
theorem c9 {nt:Nat} {T T':Tm} {H:Hp} (h:c4W T T'):Sub nt T H T' H:=by
 rintro w0 B S0 a w ⟨⟨ρ,L,hc,hL⟩,hext⟩;refine⟨⟨ρ,L,⟨hc.wf,hc.size,hc.defers,fun t=>?_,hc.rows,hc.dead⟩,hL⟩,hext⟩;have gen:∀(T':Tm),c4W T T'->e8 w (Sx S0 ρ) ρ L (i8 T' t) (a.tmps.getD t undef):=by
  intro T'
  induction T' with
  |nil=>intro _;exact .pure _ _ (.any _)
  | cons p T' ih=>
   obtain⟨i,x⟩:=p;rintro⟨h1,h2⟩;simp only[i8]
   split
   ·rename_i e;subst e
    rcases h1 with rfl|rfl
    ·exact .pure _ _ (.any _)
    ·exact hc.tmps t
   ·exact ih h2
 exact gen T' h
theorem a2v (T:Tm):∀live:List Nat,c4W T (W8 T live)
 |[]=>trivial
 |t::l=>⟨Or.inr rfl,a2v T l⟩
section
variable {P:Program} {nt:Nat} {T:Tm} {H:Hp} {Q:Exit->Tm->Hp->Prop} {c:Code}
theorem b4v (live:List Nat) (h:AWp P nt c (W8 T live) H Q):AWp P nt c T H Q:=a4e (c9 (a2v T live)) h
theorem c6 {α:Type} (live:List Nat) (upd:α->Tm) (hp:α->Hp) (inv:α->Prop) (μ:α->Nat) (x0:α) (h0:inv x0) (hs0:Sub nt T H (upd x0++W8 T live) (hp x0))
  (round:∀x,inv x->AWp P nt c (upd x++W8 T live) (hp x) (Z3 (fun T' H'=>∃y,inv y/\μ y<μ x/\Sub nt T' H' (upd y++W8 T live) (hp y)) Q)):AWp P nt (.loop c) T H Q:=
 b7B (fun x=>(upd x++W8 T live,hp x)) inv μ x0 h0 hs0 round
end
def N5:List (Option Nat)->Bool
 |[]=>true
 |none::g=>N5 g
 |some q::g=> !g.contains (some q)&&N5 g
theorem a1m:∀(g:List (Option Nat)),N5 g=true->∀(i j q:Nat),g[i]?=some (some q)->g[j]?=some (some q)->i=j
 |[],_,i,j,q,h,_=>by simp at h
 | x::g,hn,i,j,q,h1,h2=>by
  have hg:N5 g=true:=by cases x<;>simp[N5]at hn<;>first|exact hn|exact hn.2
  have hx:∀k:Nat,x=some q->g[k]?=some (some q)->False:=by
   rintro k rfl hk;simp only[N5,qh,Bool.not_eq_true',List.contains_eq_mem,decide_eq_false_iff_not]at hn;exact hn.1 (qd hk)
  cases i with
  |zero=>
   cases j with
   |zero=>rfl
   |succ j=>simp at h1 h2;exact(hx j h1 h2).elim
  |succ i=>
   cases j with
   |zero=>simp at h1 h2;exact(hx i h2 h1).elim
   |succ j=>simp at h1 h2;rw[a1m g hg i j q h1 h2]
theorem g7 {nt:Nat} {T T':Tm} {H H':Hp} (g:List (Option Nat)) (hn:N5 g=true) (hT:c0l g T T') (hH:b4a H g=H'):Sub nt T H T' H':=c2U g (a1m g hn) hT hH
attribute [simp] c4W W8
attribute [simp] U5 a4Y a4u a7n a9I a2N A9
end Go.AM
namespace Go.AM
def Hxn (H:Nat->Option n9) (g:List (Option Nat)) (r:Nat):Option n9:=match p7 g r with|some _=>none|none=>H r
def Z7 (H:Nat->Option n9) (g:List (Option Nat)):Nat->AV->AV
 |_, .row r i n=>match p7 g r with|some q=> .row q i n|none=>frz (Hxn H g) 3 (.row r i n)
 |_, .ptr r i o=>match p7 g r with|some q=> .ptr q i o|none=>frz (Hxn H g) 3 (.ptr r i o)
 |_, .fptr x r i o=>match p7 g r with|some q=> .fptr x q i o|none=>frz (Hxn H g) 3 (.fptr x r i o)
 |_, .mp r=>match p7 g r with|some q=> .mp q|none=>frz (Hxn H g) 3 (.mp r)
 |n+1, .agg cs=> .agg (cs.map (Z7 H g n))
 |n+1, .tup cs=> .tup (cs.map (Z7 H g n))
 |n+1, .clo f cs=> .clo f (cs.map (Z7 H g n))
 |n+1, .bnd f cs=> .bnd f (cs.map (Z7 H g n))
 |n+1, .vptr cs=> .vptr (cs.map (Z7 H g n))
 |n+1, .ifc t x=> .ifc t (Z7 H g n x)
 |n+1, .may l x=> .may l (Z7 H g n x)
 |0, .agg _=> .any
 |0, .tup _=> .any
 |0, .clo _ _=> .any
 |0, .bnd _ _=> .any
 |0, .vptr _=> .any
 |0, .ifc _ _=> .any
 |0, .may _ _=> .any
 |_,x=>x
def b4b (H:Nat->Option n9) (g:List (Option Nat)):n9->n9
 | .els sz es=> .els sz (es.map fun e=>e.map (Z7 H g 3))
 | .map ag kts kvs=> .map ag kts kvs
 | .itr ag kts left cur=> .itr ag kts left cur
 | .mpa ag kts kvs=> .mpa ag kts (kvs.map fun p=>(p.1,Z7 H g 3 p.2))
def a2i (H:Hp) (g:List (Option Nat)):Hp:=g.map fun q=>match q with|some r=>(g8 H r).map (b4b (g8 H) g)|none=>none
def a4V (H:Hp) (g:List (Option Nat)) (T:Tm):Tm->Prop
 |[]=>True
 |(i,x)::r=>(x= .any∨Z7 (g8 H) g 3 (i8 T i)=x)/\a4V H g T r
theorem a7T {g:List (Option Nat)} {r q:Nat} (h:p7 g r=none):g[q]?≠some (some r):=by
 intro hq;unfold p7 at h;rw[List.findIdx?_eq_none_iff]at h;have:=h (some r) (qd hq);simp at this
theorem b1L {w:World} {S0 B:Nat->Prop} {ρ:Nat->Option Loc} {L:Nat->Prop} {H:Nat->Option n9} {g:List (Option Nat)} (hw:WF B S0 w ρ L)
  (hrows:∀r row,H r=some row->∃l,ρ r=some l/\i7 w (Sx S0 ρ) ρ L l row):∀(n:Nat) (x:AV) (y:Value),e8 w (Sx S0 ρ) ρ L x y->
  e8 w (Sx S0 (n6 ρ g)) (n6 ρ g) (fun r=>r<g.length) (Z7 H g n x) y:=by
 have hS:∀b,Sx S0 (n6 ρ g) b->Sx S0 ρ b:=by
  rintro b (h|⟨r,l,h1,h2⟩)
  ·exact Or.inl h
  ·obtain⟨q,_,h3⟩:=i6 h1;exact Or.inr ⟨q,l,h3,h2⟩
 have hX:∀r l b row,Hxn H g r=some row->ρ r=some l->l.b=some b->¬Sx S0 (n6 ρ g) b:=by
  intro r l b row h0 h1 h2;rintro(h|⟨r',l',h3,h4⟩)
  ·exact(hw.own r l b h1 h2).2.1 h
  ·obtain⟨q,hq,h5⟩:=i6 h3;have:=hw.inj r q l l' b h1 h5 h2 h4;subst this;unfold Hxn at h0
   split at h0
   ·cases h0
   ·rename_i hn;exact a7T hn hq
 have fz:∀x y,e8 w (Sx S0 ρ) ρ L x y->r8 w (Sx S0 (n6 ρ g)) (frz (Hxn H g) 3 x) y:=fun x y h=>
  a4b hw (fun b hn k=>hn (hS b k)) hX 3 x y (fun r hr row h0=>hrows r row (by
   unfold Hxn at h0
   split at h0
   ·cases h0
   ·exact h0)) h
 have hP:∀{x y},r8 w (Sx S0 ρ) x y->r8 w (Sx S0 (n6 ρ g)) x y:=fun h=>h.ext (qo _) (fun b _ hn=>⟨rfl,fun k=>hn (hS b k)⟩);have row:∀n r i k y,e8 w (Sx S0 ρ) ρ L (.row r i k) y->e8 w (Sx S0 (n6 ρ g)) (n6 ρ g) (fun r=>r<g.length) (Z7 H g n (.row r i k)) y:=by
  intro n r i k y h;have e:Z7 H g n (.row r i k)=match p7 g r with|some q=> .row q i k|none=>frz (Hxn H g) 3 (.row r i k):=by cases n<;>rfl
  rw[e]
  split
  ·rename_i q hq;have hg:=z8 hq
   cases h with
   |pure _ _ h=>cases h
   |row _ _ _ _ h1 h2 h3=>
    refine .row _ _ _ _ (qa.1 hg).1 h2 (fun l hl=>h3 l ?_);simp only[n6,hg]at hl;exact hl
  ·exact .pure _ _ (fz _ _ h)
 have ptr:∀n r i k y,e8 w (Sx S0 ρ) ρ L (.ptr r i k) y->e8 w (Sx S0 (n6 ρ g)) (n6 ρ g) (fun r=>r<g.length) (Z7 H g n (.ptr r i k)) y:=by
  intro n r i k y h;have e:Z7 H g n (.ptr r i k)=match p7 g r with|some q=> .ptr q i k|none=>frz (Hxn H g) 3 (.ptr r i k):=by cases n<;>rfl
  rw[e]
  split
  ·rename_i q hq;have hg:=z8 hq
   cases h with
   |pure _ _ h=>cases h
   |ptr _ _ _ _ h1 h2 h3=>
    refine .ptr _ _ _ _ (qa.1 hg).1 h2 (fun l hl=>h3 l ?_);simp only[n6,hg]at hl;exact hl
  ·exact .pure _ _ (fz _ _ h)
 have fptr:∀n c r i k y,e8 w (Sx S0 ρ) ρ L (.fptr c r i k) y->e8 w (Sx S0 (n6 ρ g)) (n6 ρ g) (fun r=>r<g.length) (Z7 H g n (.fptr c r i k)) y:=by
  intro n c r i k y h;have e:Z7 H g n (.fptr c r i k)=match p7 g r with|some q=> .fptr c q i k|none=>frz (Hxn H g) 3 (.fptr c r i k):=by cases n<;>rfl
  rw[e]
  split
  ·rename_i q hq
   cases h with
   |pure _ _ h=>cases h
   | fptr _ _ _ _ h=>
    have h2:=ptr 0 r i k _ h;have e2:Z7 H g 0 (.ptr r i k)= .ptr q i k:=by
     show(match p7 g r with|some q=>AV.ptr q i k|none=>frz (Hxn H g) 3 (.ptr r i k))=_;rw[hq]
    rw[e2]at h2;exact .fptr _ _ _ _ h2
  ·exact .pure _ _ (fz _ _ h)
 have mp:∀n r y,e8 w (Sx S0 ρ) ρ L (.mp r) y->e8 w (Sx S0 (n6 ρ g)) (n6 ρ g) (fun r=>r<g.length) (Z7 H g n (.mp r)) y:=by
  intro n r y h;have e:Z7 H g n (.mp r)=match p7 g r with|some q=> .mp q|none=>frz (Hxn H g) 3 (.mp r):=by cases n<;>rfl
  rw[e]
  split
  ·rename_i q hq;have hg:=z8 hq
   cases h with
   |pure _ _ h=>cases h
   |mp _ _ h1 h2 h3=>
    refine .mp _ _ (qa.1 hg).1 h2 (fun l hl=>h3 l ?_);simp only[n6,hg]at hl;exact hl
  ·exact .pure _ _ (fz _ _ h)
 have atom:∀n x y,(match x with| .v _=>True| .lst _ _=>True| .full _ _=>True| .iptr _=>True| .mpc _ _ _=>True| .any=>True|_=>False)->e8 w (Sx S0 ρ) ρ L x y->e8 w (Sx S0 (n6 ρ g)) (n6 ρ g) (fun r=>r<g.length) (Z7 H g n x) y:=by
  intro n x y hx h
  cases x<;>simp only at hx<;>(cases h;rename_i h;cases n<;>exact .pure _ _ (hP h))
 intro n
 induction n with
 |zero=>
  intro x y h
  cases x with
  |row r i k=>exact row 0 r i k y h
  |ptr r i k=>exact ptr 0 r i k y h
  |fptr c r i k=>exact fptr 0 c r i k y h
  |mp r=>exact mp 0 r y h
  |agg cs=>exact .pure _ _ (.any _)
  |tup cs=>exact .pure _ _ (.any _)
  |clo f cs=>exact .pure _ _ (.any _)
  |bnd f cs=>exact .pure _ _ (.any _)
  |vptr cs=>exact .pure _ _ (.any _)
  |ifc t x=>exact .pure _ _ (.any _)
  |may l x=>exact .pure _ _ (.any _)
  |_=>exact atom 0 _ y trivial h
 | succ n ih=>
  intro x y h
  cases x with
  |row r i k=>exact row _ r i k y h
  |ptr r i k=>exact ptr _ r i k y h
  |fptr c r i k=>exact fptr _ c r i k y h
  |mp r=>exact mp _ r y h
  |agg cs=>
   obtain⟨vs,rfl,hl,hc⟩:=A2 h;refine .agg _ vs (by simpa using hl) (fun u hu=>?_) (fun i c u h1 h2=>?_)
   ·obtain⟨i,hi,rfl⟩:=List.getElem_of_mem hu;exact(hc i _ _ (qc (by omega)) (qc hi)).1
   ·simp only[qe,qf]at h1;obtain⟨c',h1,rfl⟩:=h1;exact ih c' u (hc i c' u h1 h2).2
  |tup cs=>
   obtain⟨vs,rfl,hl,hc⟩:=L5 h;refine .tup _ vs (by simpa using hl) (fun i c u h1 h2=>?_);simp only[qe,qf]at h1;obtain⟨c',h1,rfl⟩:=h1;exact ih c' u (hc i c' u h1 h2)
  |clo f cs=>
   obtain⟨vs,rfl,hl,hc⟩:=E8 h;refine .clo f _ vs (by simpa using hl) (fun i c u h1 h2=>?_);simp only[qe,qf]at h1;obtain⟨c',h1,rfl⟩:=h1;exact ih c' u (hc i c' u h1 h2)
  |bnd f cs=>
   obtain⟨vs,rfl,hl,hc⟩:=P6 h;refine .bnd f _ vs (by simpa using hl) (fun i c u h1 h2=>?_);simp only[qe,qf]at h1;obtain⟨c',h1,rfl⟩:=h1;exact ih c' u (hc i c' u h1 h2)
  |vptr cs=>
   obtain⟨b,off,vs,rfl,hSb,hb,hl,hv,hc⟩:=y9 h;refine .vptr _ b off vs (fun k=>hSb (hS b k)) hb (by simpa using hl) hv (fun i c u h1 h2=>?_);simp only[qe,qf]at h1;obtain⟨c',h1,rfl⟩:=h1;exact ih c' u (hc i c' u h1 h2)
  |ifc t x=>
   obtain⟨v,rfl,h'⟩:=B6 h;exact .ifc t _ _ (ih x v h')
  | may l x=>
   cases h with
   |pure _ _ h=>cases h with
    |mayT _ _ _ ht h=>exact .mayT _ _ _ ht (ih x y (.pure _ _ h))
    |mayF _ _ hf=>exact .mayF _ _ hf
   |mayT _ _ _ ht h=>exact .mayT _ _ _ ht (ih x y h)
   |mayF _ _ hf=>exact .mayF _ _ hf
  |_=>exact atom _ _ y trivial h
theorem b9r {nt:Nat} {T T':Tm} {H H':Hp} (g:List (Option Nat)) (hn:∀(i j q:Nat),g[i]?=some (some q)->g[j]?=some (some q)->i=j) (hT:a4V H g T T') (hH:a2i H g=H'):Sub nt T H T' H':=by
 rintro w0 B S0 a w ⟨⟨ρ,L,hc,hL⟩,hext⟩;subst hH;have hren:=b1L (g:=g) (H:=g8 H) hc.wf (fun r row hr=>hc.rows r row hr);refine⟨⟨n6 ρ g,fun r=>r<g.length,⟨⟨?_,?_,?_,hc.wf.low,hc.wf.new⟩,hc.size,hc.defers,?_,?_,?_⟩,?_⟩,hext⟩
 ·intro r r' l l' b h1 h2 k1 k2;obtain⟨q,g1,p1⟩:=i6 h1;obtain⟨q',g2,p2⟩:=i6 h2;have:=hc.wf.inj q q' l l' b p1 p2 k1 k2;subst this;exact hn _ _ _ g1 g2
 ·intro r l b h1 k1;obtain⟨q,g1,p1⟩:=i6 h1;exact hc.wf.own q l b p1 k1
 ·intro r l h1;obtain⟨q,g1,p1⟩:=i6 h1;exact(qa.1 g1).1
 ·intro t;have gen:∀(T':Tm),a4V H g T T'->e8 w (Sx S0 (n6 ρ g)) (n6 ρ g) (fun r=>r<g.length) (i8 T' t) (a.tmps.getD t undef):=by
   intro T'
   induction T' with
   |nil=>intro _;exact .pure _ _ (.any _)
   | cons p T' ih=>
    obtain⟨i,x⟩:=p;rintro⟨h1,h2⟩;simp only[i8]
    split
    ·rename_i e;subst e
     rcases h1 with rfl|rfl
     ·exact .pure _ _ (.any _)
     ·exact hren 3 _ _ (hc.tmps t)
    ·exact ih h2
  exact gen T' hT
 ·intro r row hr;simp only[a2i,J3]at hr
  split at hr
  ·rename_i q hq
   split at hr
   ·rename_i q';simp only[qf]at hr;obtain⟨row0,h0,rfl⟩:=hr;obtain⟨l,hl,n8⟩:=hc.rows q' row0 h0;refine⟨l,by simp only[n6,hq];exact hl,?_⟩
    cases row0 with
    |map kvs=>exact n8
    |mpa ag kts kvs=>obtain⟨b,h1,h2⟩:=n8;exact⟨b,h1,h2.map _ (fun x y h=>hren 3 x y h) rfl⟩
    | itr ag kts left cur=>
     obtain⟨b,h1,h0,h2⟩:=n8;exact⟨b,h1,h0,h2.same rfl (qo _) (fun b _ hn=>⟨rfl,fun k=>hn (by
      rcases k with h|⟨r,l,h1,h2⟩
      ·exact Or.inl h
      ·obtain⟨q,_,h3⟩:=i6 h1;exact Or.inr ⟨q,l,h3,h2⟩)⟩)⟩
    |els sz es=>
     obtain⟨h1,h2,h3,h4⟩:=n8;refine⟨h1,?_,fun hb=>by rw[h3 hb];rfl,fun b hb=>?_⟩
     ·intro e he;simp only[List.mem_map]at he;obtain⟨e',he',rfl⟩:=he;simpa using h2 e' he'
     ·obtain⟨c,t,k1,k2,k3,k4⟩:=h4 b hb;refine⟨c,t,k1,k2,by simpa using k3,fun i av hi=>?_⟩;rw[<-List.map_flatten]at hi;simp only[qe,qf]at hi;obtain⟨av0,hi,rfl⟩:=hi;obtain⟨x,p1,p2,p3⟩:=k4 i av0 hi;exact⟨x,p1,p2,hren 3 _ _ p3⟩
   ·cases hr
  ·cases hr
 ·intro r hr;simp only[a2i,J3]at hr;simp only[n6]
  split
  ·rename_i q hq;rw[hq]at hr;simp only[Option.map_eq_none_iff]at hr;exact hc.dead q hr
  ·rfl
 ·intro r hr;simpa [a2i]using hr
theorem a5F {nt:Nat} {T T':Tm} {H H':Hp} (g:List (Option Nat)) (hn:N5 g=true) (hT:a4V H g T T') (hH:a2i H g=H'):Sub nt T H T' H':=b9r g (a1m g hn) hT hH
theorem a7I:∀(H:Hp) (r:Nat) (x:Option n9) (q:Nat),r<H.length->g8 (H.set r x) q=if q=r then x else g8 H q
 |[],r,x,q,h=>by simp at h
 |y::H,0,x,0,h=>by simp[g8]
 |y::H,0,x,q+1,h=>by simp[g8]
 |y::H,r+1,x,0,h=>by simp[g8]
 |y::H,r+1,x,q+1,h=>by
  simp only[List.set_cons_succ,g8,Nat.add_right_cancel_iff];exact a7I H r x q (by simpa using h)
theorem W4:∀{H:Hp} {r:Nat} {row:n9},g8 H r=some row->r<H.length
 |[],r,row,h=>by cases r<;>simp[g8]at h
 |y::H,0,row,h=>by simp
 |y::H,r+1,row,h=>by simp only[g8]at h;have:=W4 h;simp;omega
theorem a8u (H:Hp) (x:Option n9) (r:Nat):g8 (H++[x]) r=if r=H.length then x else g8 H r:=by
 induction H generalizing r with
 |nil=>cases r<;>simp[g8]
 |cons y ys ih=>
  cases r with
  |zero=>simp[g8]
  |succ r=>simp only[List.cons_append,g8,List.length_cons,Nat.add_right_cancel_iff];exact ih r
theorem O4:∀(H:Hp) (r:Nat) (o:Option n9),r<H.length->(p9 H r o).length=H.length
 |[],_,_,h=>by simp at h
 |_::_,0,_,_=>rfl
 |_::xs,n+1,o,h=>by simp only[p9,List.length_cons];rw[O4 xs n o (by simpa using h)]
theorem b8G {nt:Nat} {T:Tm} {H:Hp} (hnt:nt<=999998):Sub nt T H ((999998,c1o)::T) H:=by
 rintro w0 B S0 a w ⟨⟨ρ,L,hc,hL⟩,hext⟩;refine⟨⟨ρ,L,⟨hc.wf,hc.size,hc.defers,fun t=>?_,hc.rows,hc.dead⟩,hL⟩,hext⟩;simp only[i8]
 split
 ·rename_i e;subst e;have:a.tmps.getD 999998 undef=undef:=by
   rw[qt,Array.getElem?_eq_none (by rw[hc.size];exact hnt)];rfl
  rw[this];exact .mayF _ _ rfl
 ·exact hc.tmps t
theorem a2f {nt : Nat} {T : Tm} {H:Hp} (r i j sz:Nat) {sz0:Nat} {es:List (List AV)} {e:List AV} (hr:g8 H r=some (.els sz0 es)) (he:es[i]?=some e) (hj:e[j]?=some (.v (.slice none 0 0))):
    Sub nt T H T (H.set r (some (.els sz0 (es.set i (e.set j (.row H.length 0 0)))))++[some (.els sz [])]):=by
  rintro w0 B S0 a w ⟨⟨ρ,L,hc,hL⟩,hext⟩
  have hrl:=W4 hr
  have hN:¬L H.length:=fun h=>Nat.lt_irrefl _ (hL _ h)
  let l:Loc:=⟨none,0,sz,0⟩
  have hnone:∀r l',Loc.fresh ρ H.length l r=some l'->l'.b≠none->ρ r=some l':=by
    intro r l' h1 h2
    simp only[Loc.fresh]at h1
    split at h1
    · simp only[qb]at h1;subst h1;exact absurd rfl h2
    · exact h1
  have hS:∀b,Sx S0 (Loc.fresh ρ H.length l) b->Sx S0 ρ b:=by
    rintro b (h1|⟨r,l',h1,h2⟩)
    · exact Or.inl h1
    · exact Or.inr ⟨r,l',hnone r l' h1 (by rw[h2];simp),h2⟩
  have hk:∀x y,e8 w (Sx S0 ρ) ρ L x y->e8 w (Sx S0 (Loc.fresh ρ H.length l)) (Loc.fresh ρ H.length l) (fun r=>L r∨r=H.length) x y:=fun x y k=>
    k.ext (qo _) (fun b _ hn=>⟨rfl,fun q=>hn (hS b q)⟩) (fun r=>Or.inl) (fun r l' hr hl'=>by
      simp only[Loc.fresh]at hl'
      split at hl'
      · rename_i e;subst e;exact absurd hr hN
      · exact hl')
  have hnew:e8 w (Sx S0 (Loc.fresh ρ H.length l)) (Loc.fresh ρ H.length l) (fun r=>L r∨r=H.length) (.row H.length 0 0) (.slice none 0 0):=by
    refine .row _ _ _ _ (Or.inr rfl) rfl (fun l' hl'=>?_)
    simp only[Loc.fresh,if_true,qb]at hl'
    subst hl'
    exact⟨fun _=>⟨rfl,rfl,rfl⟩,fun b hb=>by cases hb⟩
  have hwf:=a1D hc.wf hN l (w':=w) (qo _) (by intro b hb;cases hb)
  have hrowk:∀r row,g8 H r=some row->∃l',Loc.fresh ρ H.length l r=some l'/\i7 w (Sx S0 (Loc.fresh ρ H.length l)) (Loc.fresh ρ H.length l) (fun r=>L r∨r=H.length) l' row:=by
    intro r row hr
    obtain⟨l',hl',n8⟩:=hc.rows r row hr
    have hne:r≠H.length:=by have:=W4 hr;omega
    refine⟨l',by simp[Loc.fresh,hne,hl'],n8.ext (qo _) (fun b _ hn=>⟨rfl,fun q=>hn (hS b q)⟩) (fun r=>Or.inl) (fun r l' hr hl'=>by
        simp only[Loc.fresh]at hl'
        split at hl'
        · rename_i e;subst e;exact absurd hr hN
        · exact hl') (fun _ _=>rfl)⟩
  refine⟨⟨Loc.fresh ρ H.length l,fun r=>L r∨r=H.length,⟨hwf,hc.size,hc.defers,fun t'=>hk _ _ (hc.tmps t'),?_,?_⟩,?_⟩,hext⟩
  · intro q row hq
    rw[a8u,List.length_set]at hq
    split at hq
    · rename_i e
      simp only[qb]at hq
      subst hq
      exact⟨l,by simp[Loc.fresh,e],rfl,by simp,by simp,by intro b hb;cases hb⟩
    · rename_i e'
      rw[a7I H r _ q hrl]at hq
      split at hq
      · rename_i e''
        subst e''
        simp only[qb]at hq
        subst hq
        obtain⟨l',hl',n8⟩:=hrowk q _ hr
        refine⟨l',hl',?_⟩
        obtain⟨h1,h2,h3,h4⟩:=n8
        have hil:i<es.length:=(qa.1 he).1
        have helen:=h2 e (qd he)
        have hjl:j<e.length:=(qa.1 hj).1
        have p9:∀x∈es.set i (e.set j (.row H.length 0 0)),x.length=sz0:=by
          intro x hx
          rcases List.mem_or_eq_of_mem_set hx with hx|rfl
          · exact h2 x hx
          · simpa using helen
        refine⟨h1,p9,fun hb=>by have:=h3 hb;subst this;simp at hil,fun b hb=>?_⟩
        obtain⟨c,t,k1,k2,k3,k4⟩:=h4 b hb
        refine⟨c,t,k1,k2,by simpa using k3,fun u av hu=>?_⟩
        have key : (es.set i (e.set j (.row H.length 0 0))).flatten=es.flatten.set (i*sz0+j) (.row H.length 0 0):=by
          apply List.ext_getElem?
          intro m
          by_cases hm:m<es.length*sz0
          · have hpos : 0 < sz0 := by rcases Nat.eq_zero_or_pos sz0 with h|h; · rw[h]at hm;simp at hm
                                      · exact h
            have hq:m/sz0<es.length:=by rw[Nat.div_lt_iff_lt_mul hpos];exact hm
            have hmod:=Nat.mod_lt m hpos
            have hme:m=m/sz0*sz0+m % sz0:=by rw[Nat.mul_comm];exact(Nat.div_add_mod m sz0).symm
            obtain⟨x,hx⟩:∃x,es[m/sz0]?=some x:=⟨_,qc hq⟩
            by_cases hmi:m/sz0=i
            · have hx':(es.set i (e.set j (.row H.length 0 0)))[m/sz0]?=some (e.set j (.row H.length 0 0)):=by rw[hmi];simp[hil]
              rw[hmi,he]at hx
              simp only[qb]at hx
              subst hx
              have f1:=o8 p9 hx' (m % sz0) hmod
              have f2:=o8 h2 (by rw[hmi];exact he:es[m/sz0]?=some e) (m % sz0) hmod
              rw[<-hme]at f1 f2
              rw[f1,List.getElem?_set,List.getElem?_set]
              by_cases hjm:j=m % sz0
              · have:i*sz0+j=m:=by rw[<-hmi,hjm];exact hme.symm
                rw[if_pos hjm,if_pos this]
                have hml:m<es.flatten.length:=by rw[j4 h2];exact hm
                have hjm':m % sz0<e.length:=by rw[<-hjm];exact hjl
                rw[if_pos (by omega),if_pos (by omega)]
              · have:i*sz0+j≠m:=by
                  intro h;apply hjm
                  have h':i*sz0+j=i*sz0+m % sz0:=by rw[h,<-hmi];exact hme
                  omega
                rw[if_neg hjm,if_neg this,f2]
            · have hx':(es.set i (e.set j (.row H.length 0 0)))[m/sz0]?=some x:=by rw[List.getElem?_set,if_neg (fun h=>hmi h.symm)];exact hx
              have f1:=o8 p9 hx' (m % sz0) hmod
              have f2:=o8 h2 hx (m % sz0) hmod
              rw[<-hme]at f1 f2
              have:i*sz0+j≠m:=by
                intro h;apply hmi
                have hj':j<sz0:=by omega
                rw[<-h,Nat.mul_comm,Nat.mul_add_div hpos,Nat.div_eq_of_lt hj',Nat.add_zero]
              rw[f1,List.getElem?_set,if_neg this,f2]
          · have l1:(es.set i (e.set j (.row H.length 0 0))).flatten.length<=m:=by rw[j4 p9,List.length_set];omega
            have l2:(es.flatten.set (i*sz0+j) (.row H.length 0 0)).length<=m:=by rw[List.length_set,j4 h2];omega
            rw[List.getElem?_eq_none l1,List.getElem?_eq_none l2]
        rw[key,List.getElem?_set]at hu
        split at hu
        · rename_i hu'
          split at hu
          · simp only[qb]at hu
            subst hu
            have f2:=o8 h2 he j (by omega)
            rw[hj,hu']at f2
            obtain⟨x,p1,p2,p3⟩:=k4 u _ f2
            refine⟨x,p1,p2,?_⟩
            rw[j5 p3]
            exact hnew
          · cases hu
        · exact k4 u av hu
      · exact hrowk q row hq
  · intro q hq
    rw[a8u,List.length_set]at hq
    split at hq
    · cases hq
    · rename_i e'
      rw[a7I H r _ q hrl]at hq
      split at hq
      · cases hq
      · simp[Loc.fresh,e',hc.dead q hq]
  · rintro q (hq|rfl)
    · have:=hL q hq;simp;omega
    · simp
def a4I (Q:Exit->Tm->Hp->Prop):Exit->Tm->Hp->Prop
 | .goto _=>fun _ _=>False
 |e=>Q e
theorem b4H {P:Program} {nt:Nat} {c:Code} {T:Tm} {H:Hp} {Q:Exit->Tm->Hp->Prop} (h:AWp P nt c T H (a4I Q)):AWp P nt (.scope c) T H Q:=by
 intro w0 B S0 a w hs;refine wp_scope_straight (wp_mono (h w0 B S0 a w hs) ?_);rintro e a' w' ⟨T',H',q,s⟩
 cases e with
 |goto l=>exact q.elim
 |normal=>exact⟨T',H',q,s⟩
 |exit id=>exact⟨T',H',q,s⟩
 |ret=>exact⟨T',H',q,s⟩
 |panic c=>exact⟨T',H',q,s⟩
 |outgrown=>exact⟨T',H',q,s⟩
theorem c3T {P:Program} {nt l:Nat} {c:Code} {T:Tm} {H:Hp} {Q:Exit->Tm->Hp->Prop} (h:AWp P nt c T H Q):AWp P nt (.seq (.label l) c) T H Q:=by
 refine a6F ?_;intro w0 B S0 a w hs;exact wp_label ⟨T,H,h,hs⟩
@[simp] theorem c6i (k:IntKind) (n:Int):(Value.int k n).oneCell'=true:=rfl
@[simp] theorem c5l (b:Bool):(Value.bool b).oneCell'=true:=rfl
@[simp] theorem c3W (a:Option Addr) (n m:Nat):(Value.slice a n m).oneCell'=true:=rfl
@[simp] theorem c5E (a:Option Addr):(Value.pointer a).oneCell'=true:=rfl
attribute [simp] a4I a4V Z7 a2i b4b Hxn
end Go.AM
namespace Go.AM
def wkN (z:Nat):Nat->AV->AV
 |_, .v (.slice none 0 0)=> .lst z []
 |n+1, .full s e=> .lst s (e.map fun el=>el.map (wkN z n))
 |n+1, .lst s e=> .lst s (e.map fun el=>el.map (wkN z n))
 |n+1, .iptr c=> .iptr (c.map (wkN z n))
 |n+1, .agg c=> .agg (c.map (wkN z n))
 |n+1, .tup c=> .tup (c.map (wkN z n))
 |_,x=>x
theorem a9J {w:World} {S:Nat->Prop} (z:Nat):∀(n:Nat) (x:AV) (y:Value),r8 w S x y->r8 w S (wkN z n x) y:=by
 have vcase:∀(n:Nat) (u:Value),r8 w S (wkN z n (.v u)) u:=by
  intro n u
  by_cases hu:u= .slice none 0 0
  ·subst hu;have e:wkN z n (.v (.slice none 0 0))= .lst z []:=by cases n<;>rfl
   rw[e];exact .lstNil _ _ _
  ·have e:wkN z n (.v u)= .v u:=by
    cases n<;>(unfold wkN;split<;>first|rfl|(rename_i h;simp at h;exact absurd h hu)|(rename_i h _;simp at h;exact absurd h hu)|simp_all)
   rw[e];exact .v _
 intro n
 induction n with
 |zero=>intro x y h;cases h<;>first|exact vcase 0 _|exact .any _|exact .mayF _ _ (by assumption)|(constructor<;>assumption)|skip
 | succ n ih=>
  have cells:∀(cs:List AV) (vs:List Value),(∀(i:Nat) c x,cs[i]?=some c->vs[i]?=some x->r8 w S c x)->∀(i:Nat) c x,(cs.map (wkN z n))[i]?=some c->vs[i]?=some x->r8 w S c x:=by
   intro cs vs h i c x h1 h2;simp only[qe,qf]at h1;obtain⟨c',h1,rfl⟩:=h1;exact ih c' x (h i c' x h1 h2)
  have flat:∀(els:List (List AV)),(els.map fun el=>el.map (wkN z n)).flatten=els.flatten.map (wkN z n):=by intro els;rw[List.map_flatten]
  intro x y h
  cases h with
  |v=>exact vcase _ _
  |any=>exact .any _
  |agg cs vs hl hc h=>exact .agg _ vs (by simpa using hl) hc (cells cs vs h)
  |tup cs vs hl h=>exact .tup _ vs (by simpa using hl) (cells cs vs h)
  | lst sz els b off cap vs hS hb hcap hel hl hv h=>
   have:=r8.lst (w:=w) (S:=S) sz (els.map fun el=>el.map (wkN z n)) b off cap vs hS hb (by simpa using hcap) (by
    intro e he;obtain⟨e',he',rfl⟩:=List.mem_map.1 he;simpa using hel e' he') (by rw[flat,List.length_map];exact hl) hv (by rw[flat];exact cells _ vs h)
   simpa [wkN]using this
  |lstNil sz a cap=>exact .lstNil _ _ _
  | full sz els b off vs hS hb hel hl hv h=>
   have:=r8.lst (w:=w) (S:=S) sz (els.map fun el=>el.map (wkN z n)) b off els.length vs hS hb (by simp) (by
    intro e he;obtain⟨e',he',rfl⟩:=List.mem_map.1 he;simpa using hel e' he') (by rw[flat,List.length_map];exact hl) hv (by rw[flat];exact cells _ vs h)
   simpa [wkN]using this
  |iptr cs b off vs hS hb hl hv h=>exact .iptr _ b off vs hS hb (by simpa using hl) hv (cells cs vs h)
  |clo f cs vs hl h=>exact .clo f _ vs hl h
  |bnd f cs vs hl h=>exact .bnd f _ vs hl h
  |ifc t x y h=>exact .ifc t x y h
  |mpc ag kts kvs b hS hb h=>exact .mpc ag kts kvs b hS hb h
  |mayT l x y ht h=>exact .mayT l x y ht h
  |mayF l x hf=>exact .mayF l x hf
theorem a9.res {P:Program} {f:FuncId} {args:List AV} {res res':AV} (h:a9 P f args res) (hr:∀(w:World) (S:Nat->Prop) (y:Value),r8 w S res y->r8 w S res' y):a9 P f args res':=by
 rcases h with⟨h1,h2⟩|h2
 ·exact Or.inl ⟨h1,fun S0 w vs a b c=>(h2 S0 w vs a b c).mono fun e w' ⟨v,q1,q2,q3⟩=>⟨v,q1,hr _ _ _ q2,q3⟩⟩
 ·exact Or.inr fun S0 w vs a b=>by
   obtain⟨v,q1,q2⟩:=h2 S0 w vs a b;exact⟨v,q1,hr _ _ _ q2⟩
end Go.AM
end
