import Derived.Test.YtlgdbddegopphaaGreatO3
import Derived.Below
import Derived.Laws.Bits64b
import Derived.Laws.FloatArith
import Derived.OrdersIn
import Derived.RangeFuncLeaves
import Derived.RangeFuncNested
import Derived.RangeFuncSeq
import Derived.Recover
import Derived.RecoverIn
import GoSem.Extern.MathSqrt
import Derived.Test.YtlgdbddegopphaaGreatProg
set_option maxRecDepth 100000
set_option maxHeartbeats 8000000
set_option linter.unusedVariables false
set_option linter.unusedSimpArgs false
section
namespace Go.AM
def fr (ro:Option Nat):Fence:={Fence.wide with round:=ro}
theorem a3R {ro:Option Nat} {p:Prop}:(fr ro).depth.isSome=true->p:=by intro h;simp[fr,Fence.wide]at h
theorem a6a {ro:Option Nat} {n:Nat} {P:Program} {f:FuncId} {args:Array Value} {w:World} {R:Ending->World->Prop}:CallsIn (fr ro) n P f args w R↔Calls P f args w R:=callsIn_wide (n:=n)
theorem b6z {ro:Option Nat} {n:Nat} {P:Program} {row:String} {args:Array Value} {w:World} {R:Value->World->Prop} (h:Rows P row args w R):RowsIn (fr ro) n P row args w R:=
 fun c cs _=>let ⟨v,w',r,s⟩:=h c cs;⟨v,w',r,(stepsIn_wide (P:=P)).2 s⟩
def o4 (o:Oper):Bool:=match o.op with| .defer _=>false|_=>true
theorem a7P {o:Oper} (h:o4 o=true):∀c,o.op≠ .defer c:=by intro c e;simp[o4,e]at h
theorem B9 {ro:Option Nat} {n:Nat} {P:Program} {o:Oper} {a:Act} {w:World} {K:Act->World->Prop} {Q:Exit->Act->World->Prop} (hd:o4 o=true) (h:o.wp P a w K Q):o.wpIn (fr ro) n P a w K Q:=by
 refine⟨fun _ _=>trivial,?_⟩;rw[Oper.semAt_eq _ _ _ (a7P hd)];unfold Oper.wp at h;generalize (execOp a.eval o).run P w=r at h ⊢
 cases r with
 |ok x w'=>
  cases x with
  |value v=>exact h
  |skip=>exact h
  |defer d=>exact h
  |enter f args=>exact⟨a3R,a6a.2 (Calls.mono h (fun e w'' hh=>by cases e<;>exact hh))⟩
  |row r args=>exact⟨a3R,b6z h⟩
  |_=>exact h.elim
 |halt x w'=>cases x<;>first|exact h|exact h.elim
structure Jt:Type where
 make::
 rel:AV->(Nat->Prop)->(Nat->Prop)->World->Prop
 mark:Nat->Prop
 base:List Deferred:=[]
def JOk (J:Jt):Prop:=∀y S0 O O' A A',J.rel y S0 O A->(∀b,S0 b->b<A.heap.size)->(∀b,O b->b<A.heap.size/\¬S0 b)->Ext O A A'->(∀b,O' b->b<A'.heap.size/\(O b∨A.heap.size<=b))->J.rel y S0 O' A'
def a0t (D:Nat):Deferred:={target:= .collected D,args:= #[]}
def a8n (J:Jt) (ds:List Deferred) (S0:Nat->Prop) (w:World):Prop:=
 ∃Ds:List Nat,ds=Ds.map a0t++J.base/\Ds.Nodup/\∀D∈Ds,S0 D/\J.mark D/\w.heap[D]?=some (.deferred (some []))
def a2u (a:Act):Act:={a with defers:=[]}
structure SG (J:Jt) (nt:Nat) (kp:List Nat) (kv:Nat->Value) (T:Tm) (H:Hp) (a:Act) (w:World):Prop where
 ex:∃S0 ρ L,N8 a0s S0 nt w ρ L (i8 T) (g8 H) (a2u a)/\(∀r,L r->r<H.length)/\J.rel (i8 T 999999) S0 (own ρ) w/\a8n J a.defers S0 w
 keep:∀t∈kp,a.tmps.getD t undef=kv t
theorem N8.owned {B S0:Nat->Prop} {nt:Nat} {w:World} {ρ:Nat->Option Loc} {L:Nat->Prop} {T:Nat->AV} {H:Nat->Option n9} {a:Act} (hc:N8 B S0 nt w ρ L T H a):∀b,own ρ b->b<w.heap.size/\¬S0 b:=by
 rintro b ⟨r,l,h1,h2⟩;exact⟨(hc.wf.own r l b h1 h2).1,(hc.wf.own r l b h1 h2).2.1⟩
theorem N8.inB {B B' S0:Nat->Prop} {nt:Nat} {w:World} {ρ:Nat->Option Loc} {L:Nat->Prop} {T:Nat->AV} {H:Nat->Option n9} {a:Act} (hc:N8 B S0 nt w ρ L T H a) (h1:∀b,own ρ b->B' b) (h2:∀b,w.heap.size<=b->B' b):N8 B' S0 nt w ρ L T H a:=
 ⟨⟨hc.wf.inj,fun r l b k1 k2=>⟨(hc.wf.own r l b k1 k2).1,(hc.wf.own r l b k1 k2).2.1,h1 b ⟨r,l,k1,k2⟩⟩,hc.wf.given,hc.wf.low,h2⟩,hc.size,hc.defers,hc.tmps,hc.rows,hc.dead⟩
theorem N8.foreign {S0 S0':Nat->Prop} {nt:Nat} {w w':World} {ρ:Nat->Option Loc} {L:Nat->Prop} {T:Nat->AV} {H:Nat->Option n9} {a:Act} (hc:N8 a0s S0 nt w ρ L T H a) (hs:w.heap.size<=w'.heap.size)
  (hsame:∀b,b<w.heap.size->¬S0 b->w'.heap[b]?=w.heap[b]?) (hS:∀b,S0' b->b<w'.heap.size/\(S0 b∨w.heap.size<=b)):N8 a0s S0' nt w' ρ L T H a:=by
 have hb:∀b,b<w.heap.size->¬Sx S0 ρ b->w'.heap[b]?=w.heap[b]?/\¬Sx S0' ρ b:=by
  intro b hlt hn;refine⟨hsame b hlt (fun h=>hn (Or.inl h)),?_⟩;rintro(h|h)
  ·rcases(hS b h).2 with h'|h'
   ·exact hn (Or.inl h')
   ·omega
  ·exact hn (Or.inr h)
 have hown:=hc.owned;refine⟨⟨hc.wf.inj,fun r l b k1 k2=>?_,hc.wf.given,fun b h=>(hS b h).1,fun _ _=>trivial⟩,hc.size,hc.defers,fun t=>(hc.tmps t).ext hs hb (fun r h=>h) (fun r l _ h=>h),fun r row hr=>?_,hc.dead⟩
 ·obtain⟨k3,k4⟩:=hown b ⟨r,l,k1,k2⟩;refine⟨qq k3 hs,fun h=>?_,trivial⟩
  rcases(hS b h).2 with h'|h'
  ·exact k4 h'
  ·omega
 ·obtain⟨l,hl,n8⟩:=hc.rows r row hr;refine⟨l,hl,n8.ext hs hb (fun r h=>h) (fun r l _ h=>h) (fun b hb'=>?_)⟩;obtain⟨k3,k4⟩:=hown b ⟨r,l,hl,hb'⟩;exact hsame b k3 k4
theorem N8.sub {S0:Nat->Prop} {nt:Nat} {w:World} {ρ:Nat->Option Loc} {L:Nat->Prop} {T T':Tm} {H H':Hp} {a:Act} (hc:N8 a0s S0 nt w ρ L (i8 T) (g8 H) a) (hL:∀r,L r->r<H.length) (h:Sub nt T H T' H'):
  ∃ρ' L',N8 a0s S0 nt w ρ' L' (i8 T') (g8 H') a/\(∀r,L' r->r<H'.length)/\∀b,own ρ' b->own ρ b:=by
 obtain⟨⟨ρ',L',hc',hL'⟩,_⟩:=h w (fun b=>own ρ b∨w.heap.size<=b) S0 a w ⟨⟨ρ,L,hc.inB (fun b=>Or.inl) (fun b=>Or.inr),hL⟩,Ext.refl _ _⟩;refine⟨ρ',L',hc'.inB (fun _ _=>trivial) (fun _ _=>trivial),hL',?_⟩;rintro b ⟨r,l,h1,h2⟩;obtain⟨h3,_,h4⟩:=hc'.wf.own r l b h1 h2
 rcases h4 with h4|h4
 ·exact h4
 ·omega
def c0r (nt:Nat) (T:Tm) (H:Hp) (T':Tm) (H':Hp):Prop:=Sub nt T H T' H'/\i8 T' 999999=i8 T 999999
theorem SG.sub {J:Jt} (hJ:JOk J) {nt:Nat} {kp:List Nat} {kv:Nat->Value} {T T':Tm} {H H':Hp} {a:Act} {w:World} (hs:SG J nt kp kv T H a w) (h:c0r nt T H T' H'):SG J nt kp kv T' H' a w:=by
 obtain⟨⟨S0,ρ,L,hc,hL,hj,hm⟩,hk⟩:=hs;obtain⟨ρ',L',hc',hL',ho⟩:=hc.sub hL h.1;refine⟨⟨S0,ρ',L',hc',hL',?_,hm⟩,hk⟩;rw[h.2];exact hJ _ _ _ _ _ _ hj hc.wf.low hc.owned (Ext.refl _ _) (fun b hb=>⟨(hc'.owned b hb).1,Or.inl (ho b hb)⟩)
def z6 (kp:List Nat) (dsts:List (Option Tmp)):Bool:=dsts.all fun d=>match d with|none=>true|some d=> !kp.contains d
theorem I4 {kp:List Nat} {dsts:List (Option Tmp)} (h:z6 kp dsts=true) {d:Tmp} (hd:some d∈dsts):∀t∈kp,d≠t:=by
 intro t ht e;subst e;simp only[z6,qn]at h;have:=h _ hd;simp only[Bool.not_eq_true',List.contains_eq_mem,decide_eq_false_iff_not]at this;exact this ht
theorem SG.post {J:Jt} (hJ:JOk J) {nt:Nat} {kp:List Nat} {kv:Nat->Value} {T:Tm} {H:Hp} {a:Act} {w:World} {S0:Nat->Prop} {ρ:Nat->Option Loc} {L:Nat->Prop} (hc:N8 a0s S0 nt w ρ L (i8 T) (g8 H) (a2u a)) (hL:∀r,L r->r<H.length) (hj:J.rel (i8 T 999999) S0 (own ρ) w) (hm:a8n J a.defers S0 w) (hk:∀t∈kp,a.tmps.getD t undef=kv t)
  (hnt:nt<=999999) {e:Eff} {v:Value} {w':World} {ρ':Nat->Option Loc} {dst:Option Tmp} (hp:a3D a0s S0 w ρ L H.length e w' ρ' v)
  (hd:∀d,dst=some d->d<nt) (hkp:∀d,dst=some d->∀t∈kp,d≠t) (hin:a1v H e.ups) (ho:I6 e.ups=true):SG J nt kp kv (a2t T dst e.av) (a5W H e.ups) (a.put dst v) w':=by
 have hN:a2E L H.length e:=fun r hr _ h=>Nat.lt_irrefl _ (Nat.lt_of_le_of_lt hr (hL r h));refine⟨⟨S0,ρ',nL L e,?_,?_,?_,?_⟩,?_⟩
 ·have:=hc.step (dst:=dst) (T':=i8 (a2t T dst e.av)) (H':=g8 (a5W H e.ups)) hN hp hd (fun t=>x5 T dst e.av t) (fun k=>G1 e.ups H hin ho k);have e1:a2u (a.put dst v)=(a2u a).put dst v:=by cases dst<;>rfl
  rw[e1];exact this
 ·obtain⟨h1,h2⟩:=B3 e.ups H hin;rintro r (hr|⟨o',hr⟩)
  ·exact qq (hL r hr) h1
  ·exact h2 r o' hr
 ·have hy:i8 (a2t T dst e.av) 999999=i8 T 999999:=by
   rw[x5,if_neg];intro e';exact absurd (hd 999999 e') (Nat.not_lt.2 hnt)
  rw[hy];refine hJ _ _ _ _ _ _ hj hc.wf.low hc.owned (hp.ext.mono (by rintro b hb ⟨r,l,o',_,h1,h2⟩;exact⟨r,l,h1,h2⟩)) ?_;rintro b ⟨r,l,h1,h2⟩;refine⟨(hp.wf.own r l b h1 h2).1,?_⟩
  rcases hp.only r l h1 with h3|⟨_,_,h3⟩
  ·exact Or.inl ⟨r,l,h3,h2⟩
  ·rcases h3 b h2 with h4|⟨r0,l0,q1,q2⟩
   ·exact Or.inr h4
   ·exact Or.inl ⟨r0,l0,q1,q2⟩
 ·obtain⟨Ds,h1,h2,h3⟩:=hm;have e1:(a.put dst v).defers=a.defers:=by cases dst<;>rfl
  rw[e1];refine⟨Ds,h1,h2,fun D hD=>⟨(h3 D hD).1,(h3 D hD).2.1,?_⟩⟩;rw[hp.ext.block D (hc.wf.low D (h3 D hD).1),(h3 D hD).2.2];rintro⟨r,l,o',_,q1,q2⟩;exact(hc.wf.own r l D q1 q2).2.1 (h3 D hD).1
 ·intro t ht;have hsz:a.tmps.size=nt:=hc.size;rw[a2b a dst v t (by rw[hsz];exact hd),if_neg (fun e'=>hkp _ e' t ht rfl)];exact hk t ht
theorem SG.step {J:Jt} (hJ:JOk J) {P:Program} {ops:Array Oper} {o:Oper} {nt:Nat} {kp:List Nat} {kv:Nat->Value} {T:Tm} {H:Hp} {a:Act} {w:World} (hs:SG J nt kp kv T H a w) (hnt:nt<=999999) {e:Eff} (hst:a8G P ops o (i8 T) (g8 H) H.length e)
  (hd:∀d,o.dst=some d->d<nt) (hkp:∀d,o.dst=some d->∀t∈kp,d≠t) (hin:a1v H e.ups) (ho:I6 e.ups=true) {K:Act->World->Prop} {Q:Exit->Act->World->Prop}
  (hK:∀a' w',SG J nt kp kv (a2t T o.dst e.av) (a5W H e.ups) a' w'->K a' w'):if Region.wanted o (yielded ops a.tmps)then o.wp P a w K Q else K (a.put o.dst undef) w:=by
 obtain⟨⟨S0,ρ,L,hc,hL,hj,hm⟩,hk⟩:=hs;have hN:a2E L H.length e:=fun r hr _ h=>Nat.lt_irrefl _ (Nat.lt_of_le_of_lt hr (hL r h));exact hst a0s S0 a w ρ L hc.wf hN (fun t _=>hc.tmps t) (fun r _ row hr=>hc.rows r row hr) K Q (fun v w' ρ' hp=>hK _ _ (SG.post hJ hc hL hj hm hk hnt hp hd hkp hin ho))
def GWp (P:Program) (ro:Option Nat) (J:Jt) (nt:Nat) (kp:List Nat) (c:Code) (T:Tm) (H:Hp) (Q:Exit->Tm->Hp->Prop):Prop:=
 JOk J->∀kv a w,SG J nt kp kv T H a w->c.wpIn (fr ro) 0 P (fun e a' w'=>∃T' H',Q e T' H'/\SG J nt kp kv T' H' a' w') a w
section
variable {P:Program} {ro:Option Nat} {J:Jt} {nt:Nat} {kp:List Nat} {T:Tm} {H:Hp} {Q:Exit->Tm->Hp->Prop}
theorem p8 {c:Code} {T':Tm} {H':Hp} (hs:c0r nt T H T' H') (h:GWp P ro J nt kp c T' H' Q):GWp P ro J nt kp c T H Q:=
 fun hJ kv a w s=>h hJ kv a w (s.sub hJ hs)
theorem c5 (h:Q .normal T H):GWp P ro J nt kp .skip T H Q:=fun hJ kv a w hs=>wpIn_skip ⟨T,H,h,hs⟩
theorem d9 (h:Q .ret T H):GWp P ro J nt kp .ret T H Q:=fun hJ kv a w hs=>wpIn_ret ⟨T,H,h,hs⟩
theorem o5 {id:Nat} (h:Q (.exit id) T H):GWp P ro J nt kp (.exit id) T H Q:=fun hJ kv a w hs=>wpIn_exit ⟨T,H,h,hs⟩
theorem a2w {x y:Code} (h:GWp P ro J nt kp x T H (Z3 (fun T' H'=>GWp P ro J nt kp y T' H' Q) Q)):GWp P ro J nt kp (.seq x y) T H Q:=by
 intro hJ kv a w hs;refine wpIn_seq (wpIn_mono (h hJ kv a w hs) ?_);rintro e a' w' ⟨T',H',q,s⟩
 cases e with
 |normal=>exact q hJ kv a' w' s
 |exit id=>exact⟨T',H',q,s⟩
 |goto l=>exact⟨T',H',q,s⟩
 |ret=>exact⟨T',H',q,s⟩
 |panic c=>exact⟨T',H',q,s⟩
 |outgrown=>exact⟨T',H',q,s⟩
theorem a8 {x y:Code} (h:∀K:Tm->Hp->Prop,(∀T' H',GWp P ro J nt kp y T' H' Q->K T' H')->GWp P ro J nt kp x T H (Z3 K Q)):GWp P ro J nt kp (.seq x y) T H Q:=
 a2w (h _ fun _ _ h=>h)
theorem c8 {id:Nat} {c:Code} (h:GWp P ro J nt kp c T H (H5 id Q)):GWp P ro J nt kp (.block id c) T H Q:=by
 intro hJ kv a w hs;refine wpIn_block (wpIn_mono (h hJ kv a w hs) ?_);rintro e a' w' ⟨T',H',q,s⟩
 cases e with
 |exit k=>
  simp only[H5]at q;simp only[Exit.inBlock]
  split
  ·rename_i e;rw[if_pos e]at q;exact⟨T',H',q,s⟩
  ·rename_i e;rw[if_neg e]at q;exact⟨T',H',q,s⟩
 |normal=>exact⟨T',H',q,s⟩
 |goto l=>exact⟨T',H',q,s⟩
 |ret=>exact⟨T',H',q,s⟩
 |panic c=>exact⟨T',H',q,s⟩
 |outgrown=>exact⟨T',H',q,s⟩
theorem c3 {c:Operand} {x y:Code} {b:Bool} (hc:evT (i8 T) c= .v (.bool b)) (hx:b=true->GWp P ro J nt kp x T H Q) (hy:b=false->GWp P ro J nt kp y T H Q):GWp P ro J nt kp (.cond c x y) T H Q:=by
 intro hJ kv a w hs;have hv:a.eval c= .bool b:=by
  obtain⟨⟨S0,ρ,L,hc',_⟩,_⟩:=hs
  cases c with
  |tmp t=>
   have:=hc'.tmps t;simp only[evT]at hc;rw[hc]at this;exact j5 this
  |const v=>
   simp only[evT]at hc;have:=W7 (w:=w) (S:=fun _=>False) v;rw[hc]at this
   cases this
   rfl
  |global g=>simp only[evT]at hc;cases hc
  |func f=>simp only[evT]at hc;cases hc
 exact wpIn_cond_split hv (fun h=>hx h hJ kv a w hs) (fun h=>hy h hJ kv a w hs)
def a2C (R:Act->World->Prop):Exit->Act->World->Prop
 | .normal=>R
 |_=>fun _ _=>False
theorem S2 (hJ:JOk J) (hnt:nt<=999999) {ops:Array Oper} {dsts:List (Option Tmp)} (hd:∀j:Nat,dsts[j]?=(ops[j]?).map (·.dst)) (hkp:z6 kp dsts=true) {kv:Nat->Value} {QQ:Exit->Act->World->Prop} {K:Tm->Hp->Prop}
  (hK:∀T H a w,K T H->SG J nt kp kv T H a w->QQ .normal a w):∀(l:List Oper) (hl:∀o∈l,o4 o=true/\o.dst∈dsts) (T:Tm) (H:Hp) (a:Act) (w:World),H4 P nt dsts l T H K->SG J nt kp kv T H a w->wpListIn (fr ro) 0 P ops QQ l a w
 |[],_,T,H,a,w,h,hs=>hK T H a w h hs
 | o::rest,hl,T,H,a,w,h,hs=>by
  obtain⟨e,hst,h1,h2,h3,h4⟩:=G2 hd h (fun _=>trivial);have:=hs.step (K:=wpListIn (fr ro) 0 P ops QQ rest) (Q:=QQ) hJ hnt hst (fun d hd=>by rw[hd]at h1;exact h1) (fun d hd'=>I4 hkp (by rw[<-hd'];exact(hl o (by simp)).2)) h2 h3
   (fun a' w' hs'=>S2 hJ hnt hd hkp hK rest (fun o ho=>hl o (by simp[ho])) _ _ a' w' h4 hs')
  unfold wpListIn
  split
  ·rename_i hw;rw[if_pos hw]at this;exact B9 (hl o (by simp)).1 this
  ·rename_i hw;rw[if_neg hw]at this;exact⟨fun _ _=>trivial,this⟩
theorem a6z {id:Nat} {l:List Oper} {dsts:List (Option Tmp)} (hd:l.map (·.dst)=dsts) (hnt:nt<=999999) (hkp:z6 kp dsts=true) (hnd:l.all o4=true) (h:H4 P nt dsts l T H (Q .normal)):GWp P ro J nt kp (.region id l.toArray false) T H Q:=by
 intro hJ kv a w hs;refine wpIn_region_lit ?_;refine S2 hJ hnt (ops:=l.toArray) (dsts:=dsts) (K:=Q .normal) (by intro j;rw[<-hd];simp) hkp (fun T H a w q s=>⟨T,H,q,s⟩) l (fun o ho=>⟨qn.1 hnd o ho,by rw[<-hd];exact qu ho⟩) T H a w h hs
theorem b3N {ops:Array Oper} {R:Act->World->Prop} (hnd:∀o∈ops.toList,o4 o=true):∀(fuel:Nat) (listed:Array Bool) (a:Act) (w:World),wpAny P .any ops (a2C R) fuel listed a w->wpAnyIn (fr ro) 0 P .any ops (a2C R) fuel listed a w:=by
 intro fuel
 induction fuel with
 |zero=>intro listed a w h;exact h
 | succ fuel ih=>
  intro listed a w h;refine⟨h.1,fun i hi=>?_⟩;have h2:=h.2 i hi;unfold wpOp at h2;unfold wpOpIn
  split
  ·rename_i ho;rw[ho]at h2;exact ih _ _ _ h2
  ·rename_i o ho;rw[ho]at h2;simp only at h2
   split
   ·rename_i hw;rw[if_pos hw]at h2
    rcases h2 with h2|⟨_,⟨_,_,h2⟩⟩
    ·exact B9 (hnd o (by have:=Array.mem_of_getElem? ho;simpa using this)) (Oper.wp_mono (fun a w=>ih _ a w) h2)
    ·exact h2.elim
   ·rename_i hw;rw[if_neg hw]at h2;exact⟨fun _ _=>trivial,ih _ _ _ h2⟩
theorem b9j {c:Code} {α:Type} (st:α->Tm×Hp) (inv:α->Prop) (μ:α->Nat) (x0:α) (h0:inv x0) (hs0:c0r nt T H (st x0).1 (st x0).2)
  (round:∀x,inv x->GWp P ro J nt kp c (st x).1 (st x).2 (Z3 (fun T' H'=>∃y,inv y/\μ y<μ x/\c0r nt T' H' (st y).1 (st y).2) Q)):GWp P ro J nt kp (.loop c) T H Q:=by
 intro hJ kv a w hs b k cs hro hb hr;have key:∀n x a w,μ x=n->inv x->SG J nt kp kv (st x).1 (st x).2 a w->
   ∃e a' w',(∃T' H',Q e T' H'/\SG J nt kp kv T' H' a' w')/\ArrivesIn (Machine.fenced P (fr ro)) P (lone (b.atR a (.code c:: .inLoop c::k)) cs w) b k cs e a' w':=by
  intro n
  induction n using Nat.strongRecOn with
  | _ n ih=>
   intro x a w hn hI hst;obtain⟨e,a₁,w₁,⟨T1,H1,hq,hst1⟩,harr⟩:=round x hI hJ kv a w hst b (.inLoop c::k) cs hro hb hr
   cases e with
   |normal=>
    obtain⟨y,hy,hlt,hsub⟩:=hq;obtain⟨e₂,a₂,w₂,hq₂,harr₂⟩:=ih (μ y) (hn▸hlt) y a₁ w₁ rfl hy (hst1.sub hJ hsub);exact⟨e₂,a₂,w₂,hq₂, .of_steps (StepsIn.trans harr (.one (fenced_calm hb hr rfl) stepR_inLoop)) harr₂⟩
   |exit id=>exact⟨_,a₁,w₁,⟨T1,H1,hq,hst1⟩, .pass (x:= .inLoop c) rfl (fun _ _=> .inl (by simp)) harr⟩
   |goto l=>exact⟨_,a₁,w₁,⟨T1,H1,hq,hst1⟩, .pass (x:= .inLoop c) rfl (fun _ _=> .inl (by simp)) harr⟩
   |ret=>exact⟨_,a₁,w₁,⟨T1,H1,hq,hst1⟩, .pass (x:= .inLoop c) rfl (fun _ _=> .inl (by simp)) harr⟩
   |panic ch=>exact⟨_,a₁,w₁,⟨T1,H1,hq,hst1⟩, .pass (x:= .inLoop c) rfl (fun _ _=> .inl (by simp)) harr⟩
   |outgrown=>exact⟨_,a₁,w₁,⟨T1,H1,hq,hst1⟩, .pass (x:= .inLoop c) rfl (fun _ _=> .inl (by simp)) harr⟩
 obtain⟨e,a',w',hq,harr⟩:=key _ x0 a w rfl h0 (hs.sub hJ hs0);exact⟨e,a',w',hq, .of_steps (.one (fenced_calm hb hr rfl) stepR_loop) harr⟩
end
end Go.AM
namespace Go.AM
theorem a6D (a:Act) (d:Option Tmp) (v:Value):a2u (a.put d v)=(a2u a).put d v:=by cases d<;>rfl
theorem a0P (a:Act) (d:Option Tmp) (v:Value):(a.put d v).defers=a.defers:=by cases d<;>rfl
theorem a1G (a:Act) (d:Option Tmp) (v:Value) (t:Nat) (h:d≠some t):(a.put d v).tmps.getD t undef=a.tmps.getD t undef:=by
 cases d with
 |none=>rfl
 |some d=>simp only[Act.put,qt];rw[Array.getElem?_setIfInBounds_ne (fun e=>h (by rw[e]))]
theorem a1K {J:Jt} (hJ:JOk J) {S0:Nat->Prop} {nt:Nat} {w:World} {ρ:Nat->Option Loc} {L:Nat->Prop} {T:Nat->AV} {H:Nat->Option n9} {a:Act} (hc:N8 a0s S0 nt w ρ L T H (a2u a)) {y:AV} (hj:J.rel y S0 (own ρ) w) (hm:a8n J a.defers S0 w)
  {N:Nat} {e:Eff} {w':World} {ρ':Nat->Option Loc} {v:Value} (hp:a3D a0s S0 w ρ L N e w' ρ' v):J.rel y S0 (own ρ') w'/\a8n J a.defers S0 w':=by
 constructor
 ·refine hJ _ _ _ _ _ _ hj hc.wf.low hc.owned (hp.ext.mono (by rintro b hb ⟨r,l,o',_,h1,h2⟩;exact⟨r,l,h1,h2⟩)) ?_;rintro b ⟨r,l,h1,h2⟩;refine⟨(hp.wf.own r l b h1 h2).1,?_⟩
  rcases hp.only r l h1 with h3|⟨_,_,h3⟩
  ·exact Or.inl ⟨r,l,h3,h2⟩
  ·rcases h3 b h2 with h4|⟨r0,l0,q1,q2⟩
   ·exact Or.inr h4
   ·exact Or.inl ⟨r0,l0,q1,q2⟩
 ·obtain⟨Ds,h1,h2,h3⟩:=hm;refine⟨Ds,h1,h2,fun D hD=>⟨(h3 D hD).1,(h3 D hD).2.1,?_⟩⟩;rw[hp.ext.block D (hc.wf.low D (h3 D hD).1),(h3 D hD).2.2];rintro⟨r,l,o',_,q1,q2⟩;exact(hc.wf.own r l D q1 q2).2.1 (h3 D hD).1
theorem N8.stepb {S0:Nat->Prop} {nt:Nat} {w:World} {ρ:Nat->Option Loc} {L:Nat->Prop} {T T':Nat->AV} {H H':Nat->Option n9} {a:Act} (hc:N8 a0s S0 nt w ρ L T H (a2u a)) {N:Nat} {e:Eff} {w':World} {ρ':Nat->Option Loc} {v:Value} {dst:Option Tmp}
  (hN:a2E L N e) (hp:a3D a0s S0 w ρ L N e w' ρ' v) (hd:∀k,dst=some k->k<nt)
  (hT:∀t,T' t=if dst=some t then e.av else T t) (hH:∀k,(∀o,(k,o)∈e.ups->H' k=o)/\((∀o,(k,o)∉e.ups)->H' k=H k)):
  N8 a0s S0 nt w' ρ' (nL L e) T' H' (a2u (a.put dst v)):=by
 rw[a6D];exact hc.step hN hp hd hT hH
theorem b2Z {F:Fence} {n:Nat} {P:Program} {o:Oper} {a:Act} {w:World} {K:Act->World->Prop} {Q Q':Exit->Act->World->Prop} (hq:∀e a w,Q e a w->Q' e a w) (h:o.wpIn F n P a w K Q):o.wpIn F n P a w K Q':=by
 refine⟨h.1,?_⟩;have h:=h.2;generalize (o.semAt F.round a.eval).run P w=r at h ⊢
 cases r with
 |ok x w'=>
  cases x with
  |enter f args=>exact⟨h.1,h.2.mono fun e w'' hh=>by cases e<;>first|exact hh|exact hq _ _ _ hh|(obtain⟨a,w,hh⟩:=hh;exact⟨a,w,hq _ _ _ hh⟩)⟩
  |round l f t asq bd=>exact⟨h.1,h.2.mono fun e w'' hh=>by cases e<;>first|exact hh|exact hq _ _ _ hh|(obtain⟨a,w,hh⟩:=hh;exact⟨a,w,hq _ _ _ hh⟩)⟩
  |_=>exact h
 |halt x w'=>cases x<;>first|exact hq _ _ _ h|exact h
theorem a1W {F:Fence} {n:Nat} {P:Program} {ops:Array Oper} {Q Q':Exit->Act->World->Prop} (hq:∀e a w,Q e a w->Q' e a w):∀(fuel:Nat) (listed:Array Bool) (a:Act) (w:World),wpAnyIn F n P .any ops Q fuel listed a w->wpAnyIn F n P .any ops Q' fuel listed a w:=by
 intro fuel
 induction fuel with
 |zero=>intro listed a w h;exact⟨h.1,hq _ _ _ h.2⟩
 | succ fuel ih=>
  intro listed a w h;refine⟨fun e=>hq _ _ _ (h.1 e),fun i hi=>?_⟩;have h2:=h.2 i hi;unfold wpOpIn at h2 ⊢
  split
  ·rename_i ho;rw[ho]at h2;exact ih _ _ _ h2
  ·rename_i o ho;rw[ho]at h2;simp only at h2
   split
   ·rename_i hw;rw[if_pos hw]at h2;exact b2Z hq (Oper.wpIn_mono (fun a w=>ih _ a w) h2)
   ·rename_i hw;rw[if_neg hw]at h2;exact⟨h2.1,ih _ _ _ h2.2⟩
section
variable {P:Program} {nt:Nat} {dsts:List (Option Tmp)} {l:List Oper} {Ts:Nat->Tm} {Hs:Nat->Hp} {es:Nat->Eff} {J:Jt} {ro:Option Nat} {kp:List Nat}
theorem b0w (hJ:JOk J) (hnt:nt<=999999) {kp:List Nat} (hkp:z6 kp dsts=true) {kv:Nat->Value} (hlex:Lex P nt l.toArray dsts l Ts Hs es) (hdst:l.map (·.dst)=dsts)
    (hB:a1l l (l.zipIdx.map fun(p:Oper×Nat)=>A9 dsts p.1 (es p.2))=true) {Q:Exit->Act->World->Prop}
    (hQ:∀a w,SG J nt kp kv (Ts l.length) (Hs l.length) a w->Q .normal a w) {a:Act} {w:World} (hs:SG J nt kp kv (Ts 0) (Hs 0) a w):
    wpAny P .any l.toArray Q l.toArray.size (Array.replicate l.toArray.size false) a w:=by
  have hy:∀k,k<=l.length->i8 (Ts k) 999999=i8 (Ts 0) 999999:=by
    intro k
    induction k with
    |zero=>intro _;rfl
    | succ k ih=>
      intro hk
      obtain⟨_,hdk,_,_,hts,_⟩:=hlex.ok k _ (qc (by omega))
      rw[hts,x5,if_neg,ih (by omega)]
      intro e'
      rw[e']at hdk
      exact absurd hdk (Nat.not_lt.2 hnt)
  have hmem:∀(i:Nat) o,l[i]?=some o->∀d,o.dst=some d->∀t∈kp,d≠t:=by
    intro i o ho d hd
    refine I4 hkp ?_
    rw[<-hdst,<-hd]
    exact qu (qd ho)
  obtain⟨hback,hconf⟩:=Bool.and_eq_true_iff.1 hB
  simp only[qn,List.mem_range]at hconf
  have htr:∀(k:Nat) o,l[k]?=some o->((l.zipIdx.map fun(p:Oper×Nat)=>A9 dsts p.1 (es p.2)).getD k ([],[]))=A9 dsts o (es k):=by
    intro k o hk
    rw[List.getD_eq_getElem?_getD,qe,List.getElem?_zipIdx,hk]
    simp
  have hord:∀(j k:Nat) oj ok,j<k->l[j]?=some oj->l[k]?=some ok->(∃x,(x∈(A9 dsts oj (es j)).2/\x∈(A9 dsts ok (es k)).1)∨(x∈(A9 dsts ok (es k)).2/\x∈(A9 dsts oj (es j)).1))->
      ∀D,a5x l.toArray D->D k=true->D j=true:=by
    intro j k oj ok hjk hj hk hx D hD hDk
    have hkl:k<l.length:=(qa.1 hk).1
    have h1:=hconf k hkl j hjk
    rw[htr j oj hj,htr k ok hk]at h1
    have hc:b0b (A9 dsts oj (es j)) (A9 dsts ok (es k))=true:=by
      simp only[b0b,Bool.or_eq_true,qy,List.contains_iff_mem]
      obtain⟨x,hx|hx⟩:=hx
      · exact Or.inl ⟨x,hx.1,hx.2⟩
      · exact Or.inr ⟨x,hx.1,hx.2⟩
    rw[hc]at h1
    simp only[Bool.not_true,Bool.false_or]at h1
    exact a0n hD l [] (by simp) (by simp) k j hDk h1
  have hlen : ∀i j,i<=j->j<=l.length->(Hs i).length<=(Hs j).length:=by
    intro i j hij
    induction j with
    | zero => intro _;have:i=0:=by omega
              subst this;exact qo _
    | succ j ih=>
      intro hj
      by_cases e:i=j+1
      · subst e;exact qo _
      · have hjl:j<l.length:=by omega
        obtain⟨_,_,hin,_,_,hh⟩:=hlex.ok j _ (qc hjl)
        rw[hh]
        exact Nat.le_trans (ih (by omega) (by omega)) (B3 _ _ hin).1
  have hupl:∀k r o,k<l.length->(r,o)∈(es k).ups->r<(Hs (k+1)).length:=by
    intro k r o hk hm
    obtain⟨_,_,hin,_,_,hh⟩:=hlex.ok k _ (qc hk)
    rw[hh]
    exact(B3 _ _ hin).2 r o hm
  let vS:(Nat->Bool)->Nat->AV:=fun D t=>Z6 D (wS l t) (fun k=>i8 (Ts k) t) l.length
  let vR:(Nat->Bool)->Nat->Option n9:=fun D r=>Z6 D (wR es r) (fun k=>g8 (Hs k) r) l.length
  have keepS:∀t k,k<l.length->wS l t k=false->i8 (Ts (k+1)) t=i8 (Ts k) t:=by
    intro t k hk hw
    have ho:=qc hk
    obtain⟨_,_,_,_,ht,_⟩:=hlex.ok k _ ho
    rw[ht,x5,if_neg]
    intro e
    rw[(a1S ho).2 e]at hw
    cases hw
  have keepR:∀r k,k<l.length->wR es r k=false->g8 (Hs (k+1)) r=g8 (Hs k) r:=by
    intro r k hk hw
    obtain⟨_,_,hin,hon,_,hh⟩:=hlex.ok k _ (qc hk)
    rw[hh]
    refine(G1 _ _ hin hon r).2 (fun o hm=>?_)
    rw[H9.2 ⟨o,hm⟩]at hw
    cases hw
  let Inv:(Nat->Bool)->Act->World->Prop:=fun D a w=>(∃S0 ρ L,N8 a0s S0 nt w ρ L (vS D) (vR D) (a2u a)/\(∀r,L r->r<(Hs 0).length∨∃k,k<l.length/\D k=true/\wR es r k=true)/\J.rel (i8 (Ts 0) 999999) S0 (own ρ) w/\a8n J a.defers S0 w)/\∀t∈kp,a.tmps.getD t undef=kv t
  have step :∀(D:Nat->Bool) (i:Nat) (o:Oper) (a:Act) (w:World) (K:Act->World->Prop),a5x l.toArray D->a5x l.toArray (fun k=>D k||k==i)->l[i]?=some o->D i=false->Inv D a w->
      (∀a' w',Inv (fun k=>D k||k==i) a' w'->K a' w')->if Region.wanted o (yielded l.toArray a.tmps)then o.wp P a w K Q else K (a.put o.dst undef) w:=by
    intro D i o a w K hD hD' ho hDi hinv hK
    obtain⟨⟨S0,ρ,L,hc,hL,hj,hmk⟩,hkeep⟩:=hinv
    have hil:i<l.length:=(qa.1 ho).1
    obtain⟨hst,hdk,hin,hon,hts,hhs⟩:=hlex.ok i o ho
    have ordS:∀t,2*t∈(A9 dsts o (es i)).1->∀k,k<l.length->wS l t k=true->(D k=true↔k<i):=by
      intro t ht k hk hw
      have hok:=qc hk
      have hwd:=(a1S hok).1 hw
      have hmem:2*t∈(A9 dsts l[k] (es k)).2:=by simp[A9,hwd,a7n]
      rcases Nat.lt_trichotomy k i with h|h|h
      · have:=hord k i _ o h hok ho ⟨2*t,Or.inl ⟨hmem,ht⟩⟩ _ hD' (by simp)
        simp only[Bool.or_eq_true,beq_iff_eq]at this
        exact⟨fun _=>h,fun _=>this.resolve_right (by omega)⟩
      · subst h;simp[hDi]
      · refine⟨fun hDk=>?_,fun hlt=>by omega⟩
        have:=hord i k o _ h ho hok ⟨2*t,Or.inr ⟨hmem,ht⟩⟩ _ hD hDk
        rw[hDi]at this;cases this
    have ordR:∀r,2*r+1∈(A9 dsts o (es i)).1->∀k,k<l.length->wR es r k=true->(D k=true↔k<i):=by
      intro r hr k hk hw
      have hok:=qc hk
      obtain⟨q,hm⟩:=H9.1 hw
      have hmem:2*r+1∈(A9 dsts l[k] (es k)).2:=by simp only[A9,List.mem_append];exact Or.inr (a1i hm)
      rcases Nat.lt_trichotomy k i with h|h|h
      · have:=hord k i _ o h hok ho ⟨2*r+1,Or.inl ⟨hmem,hr⟩⟩ _ hD' (by simp)
        simp only[Bool.or_eq_true,beq_iff_eq]at this
        exact⟨fun _=>h,fun _=>this.resolve_right (by omega)⟩
      · subst h;simp[hDi]
      · refine⟨fun hDk=>?_,fun hlt=>by omega⟩
        have:=hord i k o _ h ho hok ⟨2*r+1,Or.inr ⟨hmem,hr⟩⟩ _ hD hDk
        rw[hDi]at this;cases this
    have hdm:∀t,o.dst=some t->2*t∈(A9 dsts o (es i)).1:=by intro t ht;simp[A9,ht,a7n]
    have hum:∀r q,(r,q)∈(es i).ups->2*r+1∈(A9 dsts o (es i)).1:=by
      intro r q hm;simp only[A9,List.mem_append];exact Or.inr (Or.inr (Or.inr (Or.inr (a1i hm))))
    have hrm:∀r,r∈(es i).reads->2*r+1∈(A9 dsts o (es i)).1:=by
      intro r hm;simp only[A9,List.mem_append];exact Or.inr (Or.inr (Or.inr (Or.inl (a1A hm))))
    have hsm:∀t∈o.looksAt l.toArray,2*t∈(A9 dsts o (es i)).1:=by
      intro t ht
      simp only[Oper.looksAt,List.mem_append,List.mem_filterMap]at ht
      simp only[A9,List.mem_append]
      rcases ht with⟨x,hx,hxt⟩|ht
      · left
        cases x with
        |tmp t'=>simp only[qb]at hxt;subst hxt;exact a3X hx
        |_=>cases hxt
      · right;left
        cases hg:o.guard with
        |none=>rw[hg]at ht;cases ht
        | some g=>
          obtain⟨j,want⟩:=g
          rw[hg]at ht
          simp only[Option.mem_toList]at ht
          simp only[a4u]
          have:dsts[j]?=some (some t):=by
            rw[<-hdst,qe]
            cases hj:l[j]? with
            |none=>simp[hj]at ht
            |some oj=>simp[hj]at ht;simp[ht]
          rw[this];simp
    have vS_at:∀t,2*t∈(A9 dsts o (es i)).1->vS D t=i8 (Ts i) t:=fun t ht=>r4 l.length i (by omega) (keepS t) (ordS t ht)
    have vR_at:∀r,2*r+1∈(A9 dsts o (es i)).1->vR D r=g8 (Hs i) r:=fun r hr=>r4 l.length i (by omega) (keepR r) (ordR r hr)
    have hN:a2E L (Hs i).length (es i):=by
      rintro r hr ⟨q,hm⟩ hLN
      rcases hL r hLN with h|⟨k,hk,hDk,hw⟩
      · have:=hlen 0 i (by omega) (by omega);omega
      · have hlt:=(ordR _ (hum _ q hm) k hk hw).1 hDk
        obtain⟨q',hm'⟩:=H9.1 hw
        have h1:=hupl k _ q' hk hm'
        have h2:=hlen (k+1) i (by omega) (by omega)
        omega
    have hnew:∀(wr:Nat->Bool),(∀k,k<l.length->wr k=true->(D k=true↔k<i))->∀k,k<l.length->wr k=true->((D k||k==i)=true↔k<i+1):=by
      intro wr h k hk hw
      have:=h k hk hw
      simp only[Bool.or_eq_true,beq_iff_eq,this]
      omega
    refine hst a0s S0 a w ρ L hc.wf hN (fun t ht=>by rw[<-vS_at t (hsm t ht)];exact hc.tmps t) (fun r hr row n8=>hc.rows r row (by rw[vR_at r (hrm r hr)];exact n8)) K Q (fun v w' ρ' hp=>hK _ _ ⟨⟨S0,ρ',nL L (es i),N8.stepb hc hN hp (fun d hd=>by rw[hd]at hdk;exact hdk) (fun t=>?_) (fun r=>⟨fun q hm=>?_,fun hno=>?_⟩),?_,(a1K hJ hc hj hmk hp).1,by rw[a0P];exact(a1K hJ hc hj hmk hp).2⟩,fun t ht=>by rw[a1G a o.dst v t (fun e'=>hmem i o ho _ e' t ht rfl)];exact hkeep t ht⟩)
    · by_cases e:o.dst=some t
      · rw[if_pos e]
        have:=r4 (D:=fun k=>D k||k==i) (wr:=wS l t) (f:=fun k=>i8 (Ts k) t) l.length (i+1) (by omega) (keepS t) (hnew _ (ordS t (hdm t e)))
        show Z6 _ _ _ _=_
        rw[this,hts,x5,if_pos e]
      · rw[if_neg e]
        refine F4 _ (fun k hk hw=>?_)
        have:k≠i:=by rintro rfl;exact e ((a1S ho).1 hw)
        simp[this]
    · have:=r4 (D:=fun k=>D k||k==i) (wr:=wR es r) (f:=fun k=>g8 (Hs k) r) l.length (i+1) (by omega) (keepR r) (hnew _ (ordR r (hum r q hm)))
      show Z6 _ _ _ _=_
      rw[this,hhs]
      exact(G1 _ _ hin hon r).1 q hm
    · refine F4 _ (fun k hk hw=>?_)
      have:k≠i:=by rintro rfl;obtain⟨q,hm⟩:=H9.1 hw;exact hno q hm
      simp[this]
    · rintro r (hr|⟨q,hm⟩)
      · rcases hL r hr with h|⟨k,hk,hDk,hw⟩
        · exact Or.inl h
        · exact Or.inr ⟨k,hk,by simp[hDk],hw⟩
      · exact Or.inr ⟨i,hil,by simp,H9.2 ⟨q,hm⟩⟩
  have all : ∀ (fuel:Nat) (listed:Array Bool) (a:Act) (w:World),listed.size=l.length->listed.toList.count false=fuel->a5x l.toArray (fun k=>listed.getD k false)->Inv (fun k=>listed.getD k false) a w->
      wpAny P .any l.toArray Q fuel listed a w:=by
    intro fuel
    have done : ∀(listed:Array Bool) (a:Act) (w:World),listed.size=l.length->a5x l.toArray (fun k=>listed.getD k false)->Inv (fun k=>listed.getD k false) a w->Region.ready .any l.toArray listed=[]->Q .normal a w:=by
      intro listed a w hsz hD hinv hr
      have hall :∀k,k<l.length->listed.getD k false=true:=by
        intro k
        induction k using Nat.strongRecOn with
        | _ k ih=>
          intro hk
          cases hv:listed.getD k false with
          |true=>rfl
          | false=>
            exfalso
            have hmem:k∈Region.ready .any l.toArray listed:=by
              refine mem_ready.2 ⟨?_,l[k],by simp[hk],fun e he hb=>?_⟩
              · have hk':k<listed.size:=by omega
                simp only[qt,Array.getElem?_eq_getElem hk',Option.getD_some]at hv ⊢
                exact hv
              · have:=a2l l 0 hback k l[k] (qc hk) e he hb
                exact ih e.on (by omega) (by omega)
            rw[hr]at hmem;cases hmem
      obtain⟨⟨S0,ρ,L,hc,hL,hj,hmk⟩,hkeep⟩:=hinv
      have eS:vS (fun k=>listed.getD k false)=i8 (Ts l.length):=by
        funext t
        exact r4 l.length l.length (qo _) (keepS t) (fun k hk _=>⟨fun _=>hk,fun _=>hall k hk⟩)
      have eR:vR (fun k=>listed.getD k false)=g8 (Hs l.length):=by
        funext r
        exact r4 l.length l.length (qo _) (keepR r) (fun k hk _=>⟨fun _=>hk,fun _=>hall k hk⟩)
      rw[eS,eR]at hc
      refine hQ a w ⟨⟨S0,ρ,L,hc,fun r hr=>?_,by rw[hy _ (qo _)];exact hj,hmk⟩,hkeep⟩
      rcases hL r hr with h|⟨k,hk,_,hw⟩
      · exact qq h (hlen 0 _ (by omega) (qo _))
      · obtain⟨q,hm⟩:=H9.1 hw
        exact qq (hupl k r q hk hm) (hlen _ _ (by omega) (qo _))
    induction fuel with
    | zero=>
      intro listed a w hsz hcount hD hinv
      have hr:Region.ready .any l.toArray listed=[]:=by
        apply List.eq_nil_iff_forall_not_mem.2
        intro k hk
        obtain⟨h1,o,ho,_⟩:=mem_ready.1 hk
        have hkl:k<listed.size:=by rw[hsz];simpa using(Array.getElem?_eq_some_iff.1 ho).1
        simp only[qt,Array.getElem?_eq_getElem hkl,Option.getD_some]at h1
        rw[List.count_eq_zero]at hcount
        exact hcount (by rw[<-h1];simp)
      exact⟨hr,done listed a w hsz hD hinv hr⟩
    | succ fuel ih=>
      intro listed a w hsz hcount hD hinv
      refine⟨done listed a w hsz hD hinv,fun i hi=>?_⟩
      obtain⟨h1,o,ho,hpre⟩:=mem_ready.1 hi
      have ho':l[i]?=some o:=by simpa using ho
      have hil:i<l.length:=(qa.1 ho').1
      have hils:i<listed.size:=by omega
      have hDi:listed.getD i false=false:=by
        simp only[qt,Array.getElem?_eq_getElem hils,Option.getD_some]at h1 ⊢
        exact h1
      have eD:(fun k=>(listed.setIfInBounds i true).getD k false)=fun k=>listed.getD k false||k==i:=by
        funext k
        by_cases e:k=i
        · subst e
          simp[qt,Array.getElem?_setIfInBounds_self_of_lt hils]
        · rw[getD_set_ne false (fun h=>e h.symm)]
          simp[e]
      have hD':a5x l.toArray (fun k=>listed.getD k false||k==i):=by
        intro k ok hok hk e he hb
        simp only[Bool.or_eq_true,beq_iff_eq]at hk ⊢
        rcases hk with hk|rfl
        · exact Or.inl (hD k ok hok hk e he hb)
        · rw[ho]at hok
          simp only[qb]at hok
          subst hok
          exact Or.inl (hpre e he hb)
      have:=step (fun k=>listed.getD k false) i o a w (wpAny P .any l.toArray Q fuel (listed.setIfInBounds i true)) hD hD' ho' hDi hinv (fun a' w' hinv'=>ih _ a' w' (by simp[hsz]) (by
        rw[Array.toList_setIfInBounds,List.count_set (by simpa using hils),hcount]
        have:listed.toList[i]'(by simpa using hils)=false:=by
          simp only[qt,Array.getElem?_eq_getElem hils,Option.getD_some]at hDi
          simpa using hDi
        simp[this]) (by rw[eD];exact hD') (by rw[eD];exact hinv'))
      unfold wpOp
      simp only[ho]
      split
      · rename_i hw;rw[if_pos hw]at this;exact Or.inl this
      · rename_i hw;rw[if_neg hw]at this;exact this
  obtain⟨⟨S0,ρ,L,hc,hL,hj,hmk⟩,hkeep⟩:=hs
  have e0:(fun k=>(Array.replicate l.toArray.size false).getD k false)=fun _=>false:=by
    funext k
    simp only[qt,Array.getElem?_replicate]
    split<;>rfl
  refine all _ _ a w (by simp) (by simp) ?_ ?_
  · rw[e0];intro k o _ h;cases h
  · rw[e0]
    refine⟨⟨S0,ρ,L,?_,fun r hr=>Or.inl (hL r hr),hj,hmk⟩,hkeep⟩
    have eS:vS (fun _=>false)=i8 (Ts 0):=by
      funext t
      exact r4 l.length 0 (by omega) (keepS t) (fun k hk _=>by simp)
    have eR:vR (fun _=>false)=g8 (Hs 0):=by
      funext r
      exact r4 l.length 0 (by omega) (keepR r) (fun k hk _=>by simp)
    rw[eS,eR]
    exact hc
theorem SG.draw {kv:Nat->Value} {T:Tm} {H:Hp} {a:Act} {w:World} (hJ:JOk J) (hs:SG J nt kp kv T H a w) (n:Nat):SG J nt kp kv T H a {w with drawn:=n}:=by
 obtain⟨⟨S0,ρ,L,hc,hL,hj,Ds,h1,h2,h3⟩,hk⟩:=hs;exact⟨⟨S0,ρ,L,hc.foreign (qo _) (fun _ _ _=>rfl) (fun b hb=>⟨hc.wf.low b hb,Or.inl hb⟩),hL,hJ _ _ _ _ _ _ hj hc.wf.low hc.owned ((Ext.refl _ w).draw n) (fun b hb=>⟨(hc.owned b hb).1,Or.inl hb⟩),Ds,h1,h2,h3⟩,hk⟩
theorem a7t {id:Nat} {T:Tm} {H:Hp} {Q:Exit->Tm->Hp->Prop} (hm:P.follows .mixedOrders=true) (hd:l.map (·.dst)=dsts) (hnt:nt<=999999) (hkp:z6 kp dsts=true) (hnd:l.all o4=true)
  (h:∀K:Tm->Hp->List Tr->Prop,(∀T' H' tr,a1l l tr=true->Q .normal T' H'->K T' H' tr)->U5 P nt dsts l T H [] K):GWp P ro J nt kp (.region id l.toArray true) T H Q:=by
 intro hJ kv a w hs;have h':=h (fun T' H' tr=>a1l l tr=true/\Q .normal T' H') (fun _ _ _ h1 h2=>⟨h1,h2⟩);have hd':∀j:Nat,dsts[j]?=(l.toArray[j]?).map (·.dst):=by intro j;rw[<-hd];simp
 obtain⟨Ts,Hs,es,t0,h0,hlex,hB,hQ⟩:=b1Y hd' l T H [] h';refine wpIn_region_any hm ?_;have:=b0w hJ hnt hkp (kv:=kv) hlex hd (by simpa using hB) (Q:=a2C fun a' w'=>∃T' H',Q .normal T' H'/\SG J nt kp kv T' H' a' w') (fun a w hst=>⟨_,_,hQ,hst⟩) (a:=a) (w:={w with drawn:=w.drawn+1}) (by rw[t0,h0];exact hs.draw hJ _);have h2:=b3N (ro:=ro) (by intro o ho;exact qn.1 hnd o (by simpa using ho)) _ _ _ _ this;exact a1W (fun e a w h=>by cases e<;>first|exact h|exact h.elim) _ _ _ _ h2
end
end Go.AM
namespace Go.AM
def Z8 (n:Nat):AV:= .may [false] (.v (.int .i64 n))
def b1b:AV:= .may [false] (.v (.bool false))
@[simp] theorem b1W (a b:Nat):(Z8 a=Z8 b)↔a=b:=by simp[Z8];omega
theorem b0A (a:Nat):Z8 a≠b1b:=by simp[Z8,b1b]
def a2R (S0:Nat->Prop) (w w':World) (b:Nat):Prop:=S0 b∨(w.heap.size<=b/\b<w'.heap.size)
def b0d (P:Program) (l:Nat) (J:Jt) (xs:List (List AV)):Prop:=
 ∀ n x,xs[n]?=some x->∀(S0 O:Nat->Prop) (W:World) (vs:List Value),J.rel (Z8 n) S0 O W->(∀b,S0 b->b<W.heap.size)->(∀b,O b->b<W.heap.size/\¬S0 b)->
  x.length=vs.length->(∀(i:Nat) c y,x[i]?=some c->vs[i]?=some y->r8 W (fun b=>S0 b∨O b) c y)->
  YieldAt Fence.wide 0 P l vs.toArray W fun e W'=>W.heap.size<=W'.heap.size/\(∀b,b<W.heap.size->¬S0 b->W'.heap[b]?=W.heap[b]?)/\
   ((e= .returned (.bool true)/\J.rel (Z8 (n+1)) (a2R S0 W W') O W')∨(e= .returned (.bool false)/\J.rel b1b (a2R S0 W W') O W'))
def J9 (P:Program) (f:FuncId) (H0:Hp) (caps:List AV) (xs:List (List AV)):Prop:=
 (∀(w:World) (vs:Array Value),(callFunc f vs).run P w= .ok (.enter f vs) w)/\
 ∀ (S0:Nat->Prop) (w:World) (ρ:Nat->Option Loc) (vs:List Value),a6W S0 w ρ H0->caps.length=vs.length->(∀(i:Nat) c x,caps[i]?=some c->vs[i]?=some x->e8 w (Sx S0 ρ) ρ (fun r=>r<H0.length) c x)->
  ∀(l:Nat) (J:Jt),JOk J->(∀D,¬J.mark D)->b0d P l J xs->J.rel (Z8 0) S0 (own ρ) w->
   Calls P f (#[.func (.yield l) #[] #[]]++vs.toArray) w fun e W'=>(∃v,e= .returned v)/\∃S' O',(∀b,S' b->b<W'.heap.size)/\(∀b,O' b->b<W'.heap.size/\¬S' b)/\(J.rel (Z8 xs.length) S' O' W'∨J.rel b1b S' O' W')
abbrev X3 (P:Program) (f:FuncId) (caps:List AV) (xs:List (List AV)):Prop:=J9 P f [] caps xs
def b1r (dsts:List (Option Tmp)) (o:Oper) (T:Nat->AV):Option (List Bool):=
 match o.guard with
 |none=>some []
 | some (j,want)=>match dsts[j]? with
  |some (some d)=>match c4N (T d)with
   |some (l,b)=>some (l++[c1A b want])
   |none=>none
  |_=>none
theorem a9Y {ops:Array Oper} {o:Oper} {T:Nat->AV} {dsts:List (Option Tmp)} (hd:∀j:Nat,dsts[j]?=(ops[j]?).map (·.dst)) {m:List Bool} (h:b1r dsts o T=some m) {w:World} {S:Nat->Prop} {ρ:Nat->Option Loc} {L:Nat->Prop} {a:Act}
    (hl:∀t∈o.looksAt ops,e8 w S ρ L (T t) (a.tmps.getD t undef)):Region.wanted o (yielded ops a.tmps)=true↔m.all id=true:=by
  unfold b1r at h
  split at h
  · rename_i hg
    simp only[qb]at h
    subst h
    simp[Region.wanted,hg]
  · rename_i j want hg
    split at h
    · rename_i d hdj
      split at h
      · rename_i l b hgv
        simp only[qb]at h
        subst h
        have hdo:(ops[j]?).bind (·.dst)=some d:=by
          have:=hd j
          rw[hdj]at this
          cases ho:ops[j]? with
          |none=>rw[ho]at this;cases this
          |some oj=>rw[ho]at this;simp only[Option.map_some,qb]at this;simp[this]
        have hrep:=hl d (by
          simp only[Oper.looksAt,List.mem_append]
          right
          rw[hg]
          simp[hdo])
        have hcell : ∀v,a.tmps.getD d undef=v->(∀bb,v= .bool bb->yielded ops a.tmps j=some bb)/\(v=undef->yielded ops a.tmps j=none):=by
          intro v hv
          unfold yielded
          rw[hdo]
          simp only[Option.bind_some]
          cases ht:a.tmps[d]? with
          |none=>simp[qt,ht]at hv;subst hv;simp[undef]
          | some u => simp[qt,ht]at hv;subst hv;constructor
                      · rintro bb rfl;rfl
                      · rintro rfl;rfl
        simp only[Region.wanted,hg]
        generalize hT:T d=td at hrep hgv
        unfold c4N at hgv
        split at hgv
        · simp only[qb,qr]at hgv
          obtain⟨rfl,rfl⟩:=hgv
          have:=(hcell _ rfl).1 _ (j5 hrep)
          rw[this]
          rename_i b'
          cases b'<;>cases want<;>simp[c1A]
        · simp only[qb,qr]at hgv
          obtain⟨rfl,rfl⟩:=hgv
          rename_i l' b'
          have hcase:(l'.all id=true/\e8 w S ρ L (.v (.bool b')) (a.tmps.getD d undef))∨(l'.all id=false/\a.tmps.getD d undef=undef):=by
            generalize a.tmps.getD d undef=u at hrep
            cases hrep with
            | pure _ _ h=>cases h with
              |mayT _ _ _ ht h=>exact Or.inl ⟨ht, .pure _ _ h⟩
              |mayF _ _ hf=>exact Or.inr ⟨hf,rfl⟩
            |mayT _ _ _ ht h=>exact Or.inl ⟨ht,h⟩
            |mayF _ _ hf=>exact Or.inr ⟨hf,rfl⟩
          rcases hcase with⟨hl',hr⟩|⟨hl',hu⟩
          · have:=(hcell _ rfl).1 _ (j5 hr)
            rw[this,List.all_append,hl']
            cases b'<;>cases want<;>simp[c1A]
          · have:=(hcell _ rfl).2 hu
            rw[this,List.all_append,hl']
            simp
        · cases hgv
      · cases h
    · cases h
def c2V (o:Oper) (T:Nat->AV):Option (List Operand×Nat×Operand):=
 match o.op with
 | .call c=>match c.callee with
  | .value x=>match (evT T x).strip with
   | .v (.func (.yield l) first caps)=>if first= #[]/\caps= #[]then some (c.args.toList,l,x)else none
   |_=>none
  |_=>none
 |_=>none
def yK (xs:List (List AV)) (n:Nat) (x:List AV) (K1 K2:Prop):Prop:=xs[n]?=some x/\K1/\K2
theorem a7e {xs:List (List AV)} {n:Nat} {x:List AV} {K1 K2:Prop} (h:xs[n]?=some x) (h1:K1) (h2:K2):yK xs n x K1 K2:=⟨h,h1,h2⟩
def b7f (P:Program) (l0:Nat) (xs:List (List AV)) (nt:Nat) (dsts:List (Option Tmp)):List Oper->Tm->Hp->(Tm->Hp->Prop)->Prop
 |[],T,H,K=>K T H
 | o ::rest,T,H,K=>match c2V o (i8 T)with
  | some (args,l,cx)=>match b1r dsts o (i8 T),o.dst with
   | some m,some d=>l=l0/\d<nt/\b3r m ((cx::args).map (evT (i8 T)))/\(args.map fun x=>(evT (i8 T) x).strip).all (AV.noRef 2)=true/\
     (m.all id=true->∃n,i8 T 999999=Z8 n/\yK xs n (args.map fun x=>(evT (i8 T) x).strip)
      (b7f P l0 xs nt dsts rest (a2t (a2t T (some d) (b3V m (.v (.bool true)))) (some 999999) (Z8 (n+1))) H K)
      (b7f P l0 xs nt dsts rest (a2t (a2t T (some d) (b3V m (.v (.bool false)))) (some 999999) b1b) H K))/\
     (m.all id=false->b7f P l0 xs nt dsts rest (a2t T (some d) (b3V m (.v (.bool true)))) H K)
   |_,_=>False
  |none=>a3c P dsts o (i8 T) (g8 H) H.length (ct (fun e=>b3a nt o.dst/\a1v H e.ups/\I6 e.ups=true/\b7f P l0 xs nt dsts rest (a2t T o.dst e.av) (a5W H e.ups) K) ⟨⟩)
theorem N8.put1 {S0:Nat->Prop} {nt:Nat} {w:World} {ρ:Nat->Option Loc} {L:Nat->Prop} {T:Tm} {H:Nat->Option n9} {a:Act} (hc:N8 a0s S0 nt w ρ L (i8 T) H a) {d:Tmp} (hd:d<nt) {x:AV} {v:Value} (hv:e8 w (Sx S0 ρ) ρ L x v):
  N8 a0s S0 nt w ρ L (i8 (a2t T (some d) x)) H (a.put (some d) v):=by
 refine⟨hc.wf,by simp[Act.put,hc.size],hc.defers,fun t=>?_,hc.rows,hc.dead⟩;rw[a2b a (some d) v t (by rw[hc.size];intro k e;cases e;exact hd),x5]
 split
 ·exact hv
 ·exact hc.tmps t
theorem N8.putY {S0:Nat->Prop} {nt:Nat} {w:World} {ρ:Nat->Option Loc} {L:Nat->Prop} {T:Tm} {H:Nat->Option n9} {a:Act} (hc:N8 a0s S0 nt w ρ L (i8 T) H a) (hnt:nt<=999999) (x:AV):
  N8 a0s S0 nt w ρ L (i8 (a2t T (some 999999) (.may [false] x))) H a:=by
 refine⟨hc.wf,hc.size,hc.defers,fun t=>?_,hc.rows,hc.dead⟩;rw[x5]
 split
 ·rename_i e
  cases e
  have:a.tmps.getD 999999 undef=undef:=by
   rw[qt,Array.getElem?_eq_none (by rw[hc.size];exact hnt)];rfl
  rw[this];exact .mayF _ _ rfl
 ·exact hc.tmps t
section
variable {P:Program} {nt:Nat}
theorem a7y {o:Oper} {c:Call} {x:Operand} {l:Nat} (ho:o.op= .call c) (hcl:c.callee= .value x) (ev:Operand->Value) (hx:ev x= .func (.yield l) #[] #[]) (w:World):
  (execOp ev o).run P w=(Instr.yield l (c.args.map ev)).run P w:=by
 obtain⟨callee,args,ts⟩:=c;subst hcl;simp[execOp,ho,resolve,hx,invoke,go_sem]
theorem L6 {w:World} {S:Nat->Prop} {ρ:Nat->Option Loc} {L:Nat->Prop} {T:Nat->AV} {a:Act} (h:∀t,e8 w S ρ L (T t) (a.tmps.getD t undef)) (x:Operand):e8 w S ρ L (evT T x) (a.eval x):=by
 cases x with
 |tmp t=>exact h t
 |const v=>exact .pure _ _ (W7 v)
 |global g=>exact .pure _ _ (.v _)
 |func f=>exact .pure _ _ (.clo f [] [] rfl (by simp))
theorem SG.yielded {J:Jt} (hJ:JOk J) (hmk:∀D,¬J.mark D) (hnt:nt<=999999) {kp:List Nat} {kv:Nat->Value} {T:Tm} {H:Hp} {a:Act} {w w':World} {S0:Nat->Prop} {ρ:Nat->Option Loc} {L:Nat->Prop}
  (hc:N8 a0s S0 nt w ρ L (i8 T) (g8 H) (a2u a)) (hL:∀r,L r->r<H.length) (hm:a8n J a.defers S0 w) (hk:∀t∈kp,a.tmps.getD t undef=kv t) {d:Tmp} (hd:d<nt) (hkp:∀t∈kp,d≠t)
  (hs:w.heap.size<=w'.heap.size) (hsame:∀b,b<w.heap.size->¬S0 b->w'.heap[b]?=w.heap[b]?) {b:Bool} {m:List Bool} (hmm:m.all id=true) (y:AV) (hj:J.rel (.may [false] y) (a2R S0 w w') (own ρ) w'):
  SG J nt kp kv (a2t (a2t T (some d) (b3V m (.v (.bool b)))) (some 999999) (.may [false] y)) H (a.put (some d) (.bool b)) w':=by
 have hc1:=hc.foreign (S0':=a2R S0 w w') hs hsame (fun q hq=>by
  rcases hq with hq|hq
  ·exact⟨qq (hc.wf.low q hq) hs,Or.inl hq⟩
  ·exact⟨hq.2,Or.inr hq.1⟩)
 refine⟨⟨a2R S0 w w',ρ,L,?_,hL,?_,?_⟩,fun t ht=>?_⟩
 ·have:=(hc1.put1 hd (x:=b3V m (.v (.bool b))) (v:= .bool b) (a7l hmm (.pure _ _ (.v _)))).putY hnt y;rw[a6D];exact this
 ·simp only[a2t,i8,if_true];exact hj
 ·rw[a0P];obtain⟨Ds,h1,h2,h3⟩:=hm
  cases Ds with
  |nil=>exact⟨[],h1,h2,by simp⟩
  |cons D Ds=>exact(hmk D (h3 D (by simp)).2.1).elim
 ·rw[a1G a (some d) _ t (fun e=>hkp t ht (Option.some.inj e))];exact hk t ht
theorem a6y {J:Jt} (hJ:JOk J) (hmk:∀D,¬J.mark D) {l0:Nat} {xs:List (List AV)} (hY:b0d P l0 J xs) (hnt:nt<=999999) {ops:Array Oper} {dsts:List (Option Tmp)} (hd:∀j:Nat,dsts[j]?=(ops[j]?).map (·.dst)) {kp:List Nat} (hkp:z6 kp dsts=true) {kv:Nat->Value} {QQ:Exit->Act->World->Prop} {K:Tm->Hp->Prop}
  (hK:∀T H a w,K T H->SG J nt kp kv T H a w->QQ .normal a w):∀(l:List Oper) (hl:∀o∈l,o4 o=true/\o.dst∈dsts) (T:Tm) (H:Hp) (a:Act) (w:World),b7f P l0 xs nt dsts l T H K->SG J nt kp kv T H a w->wpListIn (fr none) 0 P ops QQ l a w
 |[],_,T,H,a,w,h,hs=>hK T H a w h hs
 | o :: rest,hl,T,H,a,w,h,hs=>by
  have ih:∀T H a w,b7f P l0 xs nt dsts rest T H K->SG J nt kp kv T H a w->wpListIn (fr none) 0 P ops QQ rest a w:=fun T H a w h hs=>a6y hJ hmk hY hnt hd hkp hK rest (fun o ho=>hl o (by simp[ho])) T H a w h hs;have hkd:∀d,o.dst=some d->∀t∈kp,d≠t:=fun d hd'=>I4 hkp (by rw[<-hd'];exact(hl o (by simp)).2);unfold b7f at h
  split at h
  ·rename_i args l cx hya
   split at h
   ·rename_i m d hm hdst;obtain⟨hl0,hdn,hok,hnr,hyes,hno⟩:=h;subst hl0;obtain⟨c,hop,hcl,hx,rfl⟩:∃c,o.op= .call c/\c.callee= .value cx/\(evT (i8 T) cx).strip= .v (.func (.yield l) #[] #[])/\args=c.args.toList:=by
     unfold c2V at hya
     split at hya
     ·rename_i c hop
      split at hya
      ·rename_i x hcl
       split at hya
       ·rename_i l' first caps hx
        split at hya
        ·rename_i hfc;simp only[qb,qr]at hya;obtain⟨rfl,rfl,rfl⟩:=hya;obtain⟨rfl,rfl⟩:=hfc;exact⟨c,hop,hcl,hx,rfl⟩
        ·cases hya
       ·cases hya
      ·cases hya
     ·cases hya
    obtain⟨⟨S0,ρ,L,hc,hL,hj,hmarks⟩,hk⟩:=hs;have hg:=a9Y (a:=a) hd hm (fun t _=>hc.tmps t);unfold wpListIn
    split
    ·rename_i hw;have hmm:=hg.1 hw;obtain⟨n,hn,hxn,h1,h2⟩:=hyes hmm;rw[hn]at hj;have hxv:a.eval cx= .func (.yield l) #[] #[]:=by
      have:=U9 hmm (a1J hok (qu List.mem_cons_self)) (L6 (a:=a) hc.tmps cx);rw[hx]at this;exact j5 this
     have hreps:∀(i:Nat) cc y,(c.args.toList.map fun x=>(evT (i8 T) x).strip)[i]?=some cc->(c.args.toList.map a.eval)[i]?=some y->r8 w (fun b=>S0 b∨own ρ b) cc y:=by
      intro i cc y h1 h2;have hcc:=qd h1;simp only[qe,qf]at h1 h2;obtain⟨z,h1,rfl⟩:=h1;obtain⟨z',h2,rfl⟩:=h2;rw[h1]at h2
      cases h2
      have hr:=U9 hmm (a1J hok (qu (List.mem_cons_of_mem _ (qd h1)))) (L6 (a:=a) hc.tmps z);exact B7 2 _ _ (qn.1 hnr _ hcc) hr
     obtain⟨fn,tmps,assign,body,hrun,hround⟩:=hY n _ hxn S0 (own ρ) w (c.args.toList.map a.eval) hj hc.wf.low hc.owned (by simp) hreps;refine⟨fun _ _=>trivial,?_⟩;rw[Oper.semAt_eq _ _ _ (by rw[hop];intro c h;cases h),a7y hop hcl a.eval hxv w];have e1:(c.args.map a.eval)=(c.args.toList.map a.eval).toArray:=by apply Array.ext';simp
     rw[e1,hrun];refine⟨a3R,hround.mono ?_⟩;rintro e w' ⟨hs',hsame,⟨rfl,hj'⟩|⟨rfl,hj'⟩⟩
     ·show wpListIn (fr none) 0 P ops QQ rest (a.put o.dst (.bool true)) w';rw[hdst];exact ih _ _ _ _ h1 (SG.yielded hJ hmk hnt hc hL hmarks hk hdn (hkd d hdst) hs' hsame hmm _ hj')
     ·show wpListIn (fr none) 0 P ops QQ rest (a.put o.dst (.bool false)) w';rw[hdst];exact ih _ _ _ _ h2 (SG.yielded hJ hmk hnt hc hL hmarks hk hdn (hkd d hdst) hs' hsame hmm _ hj')
    ·rename_i hw;have hmm:m.all id=false:=by
      cases hh:m.all id with
      |false=>rfl
      |true=>exact absurd (hg.2 hh) hw
     refine⟨fun _ _=>trivial,?_⟩;rw[hdst];refine ih _ _ _ _ (hno hmm) ⟨⟨S0,ρ,L,?_,hL,?_,by rw[a0P];exact hmarks⟩,fun t ht=>?_⟩
     ·rw[a6D];exact hc.put1 hdn (a2W hmm)
     ·rw[x5,if_neg]
      ·exact hj
      ·intro e;cases e;exact absurd hdn (Nat.not_lt.2 hnt)
     ·rw[a1G a (some d) _ t (fun e=>hkd d hdst t ht (Option.some.inj e))];exact hk t ht
   ·exact h.elim
  ·obtain⟨e,hst,h1,h2,h3,h4⟩:=G2 hd h (fun _=>trivial);have:=hs.step (K:=wpListIn (fr none) 0 P ops QQ rest) (Q:=QQ) hJ hnt hst (fun d hd=>by rw[hd]at h1;exact h1) hkd h2 h3 (fun a' w' hs'=>ih _ _ a' w' h4 hs');unfold wpListIn
   split
   ·rename_i hw;rw[if_pos hw]at this;exact B9 (hl o (by simp)).1 this
   ·rename_i hw;rw[if_neg hw]at this;exact⟨fun _ _=>trivial,this⟩
theorem b3R {J:Jt} {kp:List Nat} {T:Tm} {H:Hp} {Q:Exit->Tm->Hp->Prop} (hmk:∀D,¬J.mark D) {l0:Nat} {xs:List (List AV)} (hY:b0d P l0 J xs) {id:Nat} {l:List Oper} {dsts:List (Option Tmp)} (hd:l.map (·.dst)=dsts) (hnt:nt<=999999) (hkp:z6 kp dsts=true) (hnd:l.all o4=true)
  (h:b7f P l0 xs nt dsts l T H (Q .normal)):GWp P none J nt kp (.region id l.toArray false) T H Q:=by
 intro hJ kv a w hs;refine wpIn_region_lit ?_;exact a6y hJ hmk hY hnt (ops:=l.toArray) (dsts:=dsts) (K:=Q .normal) (by intro j;rw[<-hd];simp) hkp (fun T H a w q s=>⟨T,H,q,s⟩) l (fun o ho=>⟨qn.1 hnd o ho,by rw[<-hd];exact qu ho⟩) T H a w h hs
def c2Y (xs:List (List AV)):Exit->Tm->Hp->Prop
 | .ret,T,_=>i8 T 999999=Z8 xs.length∨i8 T 999999=b1b
 | .normal,T,_=>i8 T 999999=Z8 xs.length∨i8 T 999999=b1b
 |_,_,_=>False
theorem J9.of_body {H0 : Hp} {f : FuncId} {fn : Func} {c : Code} {caps : List AV} {xs : List (List AV)} (hf : P.funcs[f]? = some fn) (hb : fn.body = some c) (hname : (fn.name == "runtime.NumGoroutine") = false) (hnt : caps.length + 1 <= fn.ntmps) (hnt' : fn.ntmps <= 999999)
  (hres:fn.results.toList=[]) (h:∀(J:Jt) (l:Nat),(∀D,¬J.mark D)->b0d P l J xs->GWp P none J fn.ntmps [] c (P5 0 (.v (.func (.yield l) #[] #[])::caps)++[(999999,Z8 0)]) H0 (c2Y xs)):J9 P f H0 caps xs:=by
 have hn' : ¬ fn.name = "runtime.NumGoroutine" := by simpa using hname
 refine⟨fun w vs=>by simp[callFunc,hf,hn',hb],?_⟩;intro S0 w ρ vs hh hlen hrep l
 suffices key:∀J:Jt,J.base=[]->JOk J->(∀D,¬J.mark D)->b0d P l J xs->J.rel (Z8 0) S0 (own ρ) w->
   Calls P f (#[.func (.yield l) #[] #[]]++vs.toArray) w fun e W'=>(∃v,e= .returned v)/\∃S' O',(∀b,S' b->b<W'.heap.size)/\(∀b,O' b->b<W'.heap.size/\¬S' b)/\(J.rel (Z8 xs.length) S' O' W'∨J.rel b1b S' O' W')from
  fun J hJ hmk hY hj=>key {J with base:=[]} rfl hJ hmk hY hj
 intro J hJb hJ hmk hY hj;refine callsIn_wide.1 (callsIn_of_wp (n:=0) (F:=Fence.wide) hf hb trivial ?_);have hargs: #[Value.func (.yield l) #[] #[]]++vs.toArray=(Value.func (.yield l) #[] #[]::vs).toArray:=by apply Array.ext';simp
 rw[hargs];obtain⟨us,hus⟩:∃us,us=Value.func (.yield l) #[] #[]::vs:=⟨_,rfl⟩;obtain⟨asq,has⟩:∃asq,asq=AV.v (.func (.yield l) #[] #[])::caps:=⟨_,rfl⟩;have hlen':asq.length=us.length:=by rw[hus,has];simp[hlen]
 have hrep':∀(i:Nat) c x,asq[i]?=some c->us[i]?=some x->e8 w (Sx S0 ρ) ρ (fun r=>r<H0.length) c x:=by
  intro i c x h1 h2;rw[has]at h1;rw[hus]at h2
  cases i with
  |zero=>simp only[List.getElem?_cons_zero,qb]at h1 h2;subst h1 h2;exact .pure _ _ (.v _)
  |succ i=>exact hrep i c x (by simpa using h1) (by simpa using h2)
 have hasl:asq.length<=fn.ntmps:=by rw[has];simpa using hnt
 have hgw:=h J l hmk hY;rw[<-has]at hgw;rw[<-hus];have hsize:us.toArray.size=asq.length:=by simp[hlen']
 have hst:SG J fn.ntmps [] (fun _=>undef) (P5 0 asq++[(999999,Z8 0)]) H0 {tmps:=us.toArray++Array.replicate (fn.ntmps-us.toArray.size) undef,defers:=[]} w:=by
  have hlk:∀t,i8 (P5 0 asq++[(999999,Z8 0)]) t=if t=999999 then Z8 0 else i8 (P5 0 asq) t:=by
   have gen:∀(xs:List AV) (k t:Nat),k+xs.length<=999999->i8 (P5 k xs++[(999999,Z8 0)]) t=if t=999999 then Z8 0 else i8 (P5 k xs) t:=by
    intro xs
    induction xs with
    |nil=>intro k t _;simp[P5,i8]
    |cons x xs ih=>
     intro k t hk;simp only[P5,List.cons_append,i8];simp only[List.length_cons]at hk;rw[ih (k+1) t (by omega)]
     by_cases e:t=k
     ·subst e;rw[if_pos rfl,if_neg (by omega),if_pos rfl]
     ·rw[if_neg e,if_neg e]
   exact fun t=>gen asq 0 t (by omega)
  refine⟨⟨S0,ρ,fun r=>r<H0.length,⟨hh.wf,?_,rfl,?_,hh.rows,hh.dead⟩,fun r hr=>hr,?_,[],by simp[hJb],List.nodup_nil,by simp⟩,by simp⟩
  ·show(us.toArray++Array.replicate (fn.ntmps-us.toArray.size) undef).size=fn.ntmps;rw[Array.size_append,Array.size_replicate,hsize];omega
  ·intro t;rw[hlk]
   split
   ·rename_i e;subst e;have:(us.toArray++Array.replicate (fn.ntmps-us.toArray.size) undef).getD 999999 undef=undef:=by
     rw[qt,Array.getElem?_eq_none (by rw[Array.size_append,Array.size_replicate,hsize];omega)];rfl
    show e8 w _ _ _ _ ((us.toArray++Array.replicate (fn.ntmps-us.toArray.size) undef).getD 999999 undef);rw[this];exact .mayF _ _ rfl
   ·rw[a0f];simp only[qp,if_true,Nat.sub_zero]
    cases hx:asq[t]? with
    |none=>exact .pure _ _ (.any _)
    | some x=>
     have ht:t<asq.length:=(qa.1 hx).1;have ht':t<us.length:=by omega
     have g8:(us.toArray++Array.replicate (fn.ntmps-us.toArray.size) undef).getD t undef=us[t]:=by
      rw[qt,Array.getElem?_append_left (by simpa using ht')];simp[ht']
     show e8 w _ _ _ _ ((us.toArray++Array.replicate (fn.ntmps-us.toArray.size) undef).getD t undef);rw[g8];exact hrep' t x _ hx (qc ht')
  ·rw[hlk];simp only[if_true];exact hj
 refine wpIn_mono (hgw hJ (fun _=>undef) _ w hst) ?_;rintro e a' w' ⟨T',H',q,⟨⟨S1,ρ1,L1,hc1,hL1,hj1,Ds,hds,_,hDs⟩,_⟩⟩;have hfin:(i8 T' 999999=Z8 xs.length∨i8 T' 999999=b1b)->a'.defers=[]/\∃v,(results fn a'.tmps).run P w'= .ok v w'/\(∃v',Ending.returned v= .returned v')/\∃S' O',(∀b,S' b->b<w'.heap.size)/\(∀b,O' b->b<w'.heap.size/\¬S' b)/\(J.rel (Z8 xs.length) S' O' w'∨J.rel b1b S' O' w'):=by
  intro hq;refine⟨?_, .tuple #[],?_,⟨_,rfl⟩,S1,own ρ1,hc1.wf.low,hc1.owned,?_⟩
  ·cases Ds with
   |nil=>simpa [hJb]using hds
   |cons D Ds=>exact(hmk D (hDs D (by simp)).2.1).elim
  ·have hrs:fn.results= #[]:=by apply Array.ext';simpa using hres
   unfold results;rw[hrs];simp
  ·rcases hq with hq|hq<;>rw[hq]at hj1
   ·exact Or.inl hj1
   ·exact Or.inr hj1
 cases e with
 |ret=>exact hfin q
 |normal=>exact hfin q
 |exit id=>exact q.elim
 |goto l=>exact q.elim
 |panic ch=>exact q.elim
 |outgrown=>exact q.elim
theorem X3.of_body {f : FuncId} {fn : Func} {c : Code} {caps : List AV} {xs : List (List AV)} (hf : P.funcs[f]? = some fn) (hb : fn.body = some c) (hname : (fn.name == "runtime.NumGoroutine") = false) (hnt : caps.length + 1 <= fn.ntmps) (hnt' : fn.ntmps <= 999999)
  (hres:fn.results.toList=[]) (h:∀(J:Jt) (l:Nat),(∀D,¬J.mark D)->b0d P l J xs->GWp P none J fn.ntmps [] c (P5 0 (.v (.func (.yield l) #[] #[])::caps)++[(999999,Z8 0)]) [] (c2Y xs)):X3 P f caps xs:=J9.of_body hf hb hname hnt hnt' hres h
end
end Go.AM
namespace Go.AM
open Go.RowKit
def JR (top:Bool) (w0:World) (S0r:Nat->Prop) (hp:Nat->Option Obj) (B0:Nat->Prop):Jt:=
 {rel:=fun _ S0 O w=>(∀b,S0r b->S0 b/\b<w.heap.size/\w.heap[b]?=hp b)/\Ext B0 w0 w/\(∀b,O b->B0 b),mark:=fun D=>top=true/\w0.heap.size<=D}
def JC (top:Bool) (J:Jt):Prop:=∃w0 S0r hp B0,(∀b,w0.heap.size<=b->B0 b)/\(∀b,S0r b->b<w0.heap.size)/\J=JR top w0 S0r hp B0
theorem c5x {top:Bool} {w0:World} {S0r:Nat->Prop} {hp:Nat->Option Obj} {B0:Nat->Prop} (hB:∀b,w0.heap.size<=b->B0 b):JOk (JR top w0 S0r hp B0):=by
 rintro y S0 O O' A A' ⟨h1,h2,h3⟩ hlow hown hext hO;refine⟨fun b hb=>?_,h2.trans (hext.mono fun b _ h=>h3 b h),fun b hb=>?_⟩
 ·obtain⟨k1,k2,k3⟩:=h1 b hb;exact⟨k1,qq k2 hext.size,(hext.block b k2 (fun h=>(hown b h).2 k1)).trans k3⟩
 ·rcases(hO b hb).2 with h|h
  ·exact h3 b h
  ·exact hB b (Nat.le_trans h2.size h)
theorem JC.ok {top:Bool} {J:Jt} (h:JC top J):JOk J:=by obtain⟨w0,S0r,hp,B0,h1,_,rfl⟩:=h;exact c5x h1
def a4w (nt:Nat) (inv:Nat->Prop) (hp:Nat->Hp) (T1:Tm) (Q:Exit->Tm->Hp->Prop) (n:Nat):Exit->Tm->Hp->Prop
 | .normal,T',H'=>inv (n+1)/\Sub nt T' H' T1 (hp (n+1))
 | .ret,T',H'=>∃Hs,Sub nt T' H' T1 Hs/\Q .ret T1 Hs
 | .exit id,T',H'=>∃Hs,Sub nt T' H' T1 Hs/\Q (.exit id) T1 Hs
 |_,_,_=>False
def a9q (K:Tm->Hp->Prop):Exit->Tm->Hp->Prop
 | .normal=>K
 |_=>fun _ _=>False
theorem a0T:∀(l:List (Tmp×Value)) (t:Array Value),(l.foldl (fun t (p:Tmp×Value)=>t.setIfInBounds p.1 p.2) t).size=t.size
 |[],t=>rfl
 |(p,v)::l,t=>by simp only[List.foldl_cons];rw[a0T l];simp
theorem Q4:∀(l:List (Tmp×Value)) (t:Array Value) (i:Nat),i∉l.map (·.1)->(l.foldl (fun t (p:Tmp×Value)=>t.setIfInBounds p.1 p.2) t).getD i undef=t.getD i undef
 |[],t,i,_=>rfl
 |(p,v)::l,t,i,h=>by
  simp only[List.map_cons,List.mem_cons,not_or]at h;simp only[List.foldl_cons];rw[Q4 l _ i h.2];simp only[qt];rw[Array.getElem?_setIfInBounds_ne (fun e=>h.1 e.symm)]
theorem a3j:∀(l:List (Tmp×Value)) (t:Array Value) (p:Tmp) (v:Value),(l.map (·.1)).Nodup->(p,v)∈l->p<t.size->(l.foldl (fun t (p:Tmp×Value)=>t.setIfInBounds p.1 p.2) t).getD p undef=v
 | (q,u)::l,t,p,v,hn,hm,hp=>by
  simp only[List.map_cons,List.nodup_cons]at hn;simp only[List.foldl_cons]
  rcases List.mem_cons.1 hm with e|hm
  ·cases e
   rw[Q4 l _ q hn.1];simp only[qt];rw[Array.getElem?_setIfInBounds_self_of_lt hp];rfl
  ·exact a3j l _ p v hn.2 hm (by simpa using hp)
theorem b0X {R:Nat->AV->Prop}:∀(ps:List Tmp) (x:List AV) (T:Tm) (t:Nat),(t∉ps->R t (i8 T t))->(∀(i:Nat) (p:Tmp) (c:AV),ps[i]?=some p->x[i]?=some c->R p c)->ps.length=x.length->R t (i8 (ps.zip x++T) t)
 |[],[],T,t,h,_,_=>by simpa using h
 |p::ps,c::x,T,t,h,hx,hl=>by
  simp only[List.zip_cons_cons,List.cons_append,i8]
  split
  ·rename_i e;subst e;exact hx 0 t c rfl rfl
  ·rename_i e;exact b0X ps x T t (fun hn=>h (by simp[e,hn])) (fun i p c h1 h2=>hx (i+1) p c h1 h2) (by simpa using hl)
def c0Q:Option n9->Bool
 |some (.els _ es)=>es.all (·.all (AV.noRef 2))
 |_=>false
def c2y (k:Nat) (c:AV):Bool:=match c with| .ptr r _ _=>decide (r<k)|c=>c.noRef 2
section
variable {P:Program} {nt:Nat} {kp:List Nat} {T:Tm} {H:Hp} {Q:Exit->Tm->Hp->Prop}
theorem U8 {B:Nat->Prop} {w:World} {l:Nat} {o:Obj} (hB:B l) (hne:∀c t s,w.heap[l]?≠some (Obj.cells c t s)):Ext B w (w.putObj l o):=by
 refine⟨rfl,rfl,rfl,by simp,fun b hb hn=>World.putObj_heap_other (fun e=>hn (by rw[e];exact hB)),fun b c t s hc=>?_⟩
 by_cases e:b=l
 ·subst e;exact absurd hc (hne c t s)
 ·exact⟨c,t,s,(World.putObj_heap_other e).trans hc,rfl⟩
structure c5j (W1 w0 w:World) (S0 B0 N:Nat->Prop) (nt:Nat) (T1:Tm) (a:Act) (D l:Nat) (Hx:Hp) (rec:Loop) (Si O:Nat->Prop) (W:World) (Sc:Nat->Prop) (ρc:Nat->Option Loc) (Lc:Nat->Prop):Prop where
 core:N8 a0s Sc nt W ρc Lc (i8 T1) (g8 Hx) (a2u a)
 len:∀r,Lc r->r<Hx.length
 its:∀b,O b->Sc b/\N b
 mine:∀b,own ρc b->Si b/\B0 b
 foreign:∀b,(S0 b∨b=D∨b=l)->Sc b/\Si b
 within:∀b,Sc b->Si b∨O b
 record:W.heap[l]?=some (.loop rec)
 mark:W.heap[D]?=some (.deferred (some []))
 ext:Ext B0 w0 W
 size:W1.heap.size<=W.heap.size
 old:∀b,S0 b->W.heap[b]?=w.heap[b]?
theorem c5j.step {W1 w0 w:World} {S0 B0 N:Nat->Prop} {nt:Nat} {T1:Tm} {a:Act} {D l:Nat} {Hx:Hp} {rec:Loop} {Si O O':Nat->Prop} {A A':World} {Sc:Nat->Prop} {ρc:Nat->Option Loc} {Lc:Nat->Prop} (h:c5j W1 w0 w S0 B0 N nt T1 a D l Hx rec Si O A Sc ρc Lc) (hB:∀b,N b->B0 b) (hN:∀b,W1.heap.size<=b->N b)
  (hlow:∀b,Si b->b<A.heap.size) (hown:∀b,O b->b<A.heap.size/\¬Si b) (hext:Ext O A A') (hO:∀b,O' b->b<A'.heap.size/\(O b∨A.heap.size<=b)):
  c5j W1 w0 w S0 B0 N nt T1 a D l Hx rec Si O' A' (fun b=>(Sc b/\Si b)∨O' b) ρc Lc:=by
 have hk:∀b,Si b->A'.heap[b]?=A.heap[b]?:=fun b hb=>hext.block b (hlow b hb) (fun k=>(hown b k).2 hb);refine⟨h.core.foreign hext.size (fun b hb hn=>hext.block b hb (fun k=>hn (h.its b k).1)) ?_,h.len,?_,h.mine,?_,?_,?_,?_,?_,Nat.le_trans h.size hext.size,?_⟩
 ·rintro b (⟨h1,_⟩|h1)
  ·exact⟨qq (h.core.wf.low b h1) hext.size,Or.inl h1⟩
  ·refine⟨(hO b h1).1,?_⟩
   rcases(hO b h1).2 with h2|h2
   ·exact Or.inl (h.its b h2).1
   ·exact Or.inr h2
 ·intro b hb;refine⟨Or.inr hb,?_⟩
  rcases(hO b hb).2 with h2|h2
  ·exact(h.its b h2).2
  ·exact hN b (Nat.le_trans h.size h2)
 ·intro b hb;exact⟨Or.inl (h.foreign b hb),(h.foreign b hb).2⟩
 ·rintro b (⟨_,h1⟩|h1)
  ·exact Or.inl h1
  ·exact Or.inr h1
 ·rw[hk l (h.foreign l (Or.inr (Or.inr rfl))).2];exact h.record
 ·rw[hk D (h.foreign D (Or.inr (Or.inl rfl))).2];exact h.mark
 ·exact h.ext.trans (hext.mono fun b _ hb=>hB b (h.its b hb).2)
 ·intro b hb;rw[hk b (h.foreign b (Or.inl hb)).2];exact h.old b hb
theorem b2Y {J:Jt} (hJC:JC true J) {H0 rest:Hp} (hH:H=H0++rest) (hr0:H0.all c0Q=true) (T1:Tm) (kl:List Nat) (hp:Nat->Hp) (inv:Nat->Prop) {g:Operand} {ps:Array Tmp} {assign body:Code} {f:FuncId} {caps:List AV} {xs:List (List AV)} (hg:evT (i8 T) g= .clo f caps) (hnr:caps.all (c2y H0.length)=true) (hic:J9 P f H0 caps xs) (hnt:nt<=999999)
  (hps:ps.toList.Nodup) (hpl:∀p∈ps.toList,p<nt/\p∉kl) (hx:∀x∈xs,x.length=ps.size)
  (h0:inv 0) (hs0:Sub nt T (List.replicate H0.length none++rest) T1 (hp 0)) (hT1:∀t,t∉kl->i8 T1 t= .any)
  (round:∀n x,xs[n]?=some x->inv n->∀(l:Nat) (J1:Jt),JC false J1->GWp P (some l) J1 nt kl assign (ps.toList.zip x++T1) (hp n) (a9q fun T' H'=>∀J2:Jt,JC false J2->GWp P (some l) J2 nt kl body T' H' (a4w nt inv hp T1 Q n)))
  (done:inv xs.length->Q .normal T1 (hp xs.length)):GWp P none J nt kp (.rangeFunc g ps assign body) T H Q:=by
 intro hJ kv a w hs;obtain⟨w0,S0r,hp0,B0,hB0,hlow0,rfl⟩:=hJC;obtain⟨⟨S0,ρ,L,hc,hL,hj,hm⟩,hk⟩:=hs;subst hH;obtain⟨ρi,hρi⟩:∃ρi:Nat->Option Loc,ρi=fun r=>if r<H0.length then ρ r else none:=⟨_,rfl⟩;obtain⟨ρr,hρr⟩:∃ρr:Nat->Option Loc,ρr=fun r=>if r<H0.length then none else ρ r:=⟨_,rfl⟩;have hi1:∀r l,ρi r=some l->r<H0.length/\ρ r=some l:=fun r l h=>by rw[hρi]at h;simp only at h;split at h;exact⟨by assumption,h⟩;cases h
 have hi2:∀r,r<H0.length->ρi r=ρ r:=fun r h=>by rw[hρi];simp only;rw[if_pos h]
 have hq1:∀r l,ρr r=some l->¬r<H0.length/\ρ r=some l:=fun r l h=>by rw[hρr]at h;simp only at h;split at h;cases h;exact⟨by assumption,h⟩
 have hq2:∀r,¬r<H0.length->ρr r=ρ r:=fun r h=>by rw[hρr];simp only;rw[if_neg h]
 have hoi:∀b,own ρi b->own ρ b:=fun b ⟨r,l,h1,h2⟩=>⟨r,l,(hi1 r l h1).2,h2⟩;have hor:∀b,own ρr b->own ρ b:=fun b ⟨r,l,h1,h2⟩=>⟨r,l,(hq1 r l h1).2,h2⟩;have hsplit:∀b,own ρ b->own ρi b∨own ρr b:=fun b ⟨r,l,h1,h2⟩=>by
  by_cases hk:r<H0.length
  ·exact Or.inl ⟨r,l,by rw[hi2 r hk];exact h1,h2⟩
  ·exact Or.inr ⟨r,l,by rw[hq2 r hk];exact h1,h2⟩
 have hdis:∀b,own ρi b->¬own ρr b:=by
  rintro b ⟨r,l,h1,h2⟩ ⟨r',l',h3,h4⟩;obtain⟨k1,k2⟩:=hi1 r l h1;obtain⟨k3,k4⟩:=hq1 r' l' h3;exact k3 (hc.wf.inj r r' l l' b k2 k4 h2 h4▸k1)
 have hg0:∀r,r<H0.length->g8 (H0++rest) r=g8 H0 r:=fun r h=>by rw[C8,C8,qw h]
 have hg1:∀r,r<H0.length->g8 (List.replicate H0.length none++rest) r=none:=fun r h=>by rw[C8,qw (by simpa using h),List.getElem?_replicate,if_pos h];rfl
 have hg2:∀r,¬r<H0.length->g8 (List.replicate H0.length none++rest) r=g8 (H0++rest) r:=fun r h=>by rw[C8,C8,qv (by simpa using h),qv (by omega)];simp
 have hcr:N8 a0s (fun b=>S0 b∨own ρi b) nt w ρr L (i8 T) (g8 (List.replicate H0.length none++rest)) (a2u a):=by
  have hSx:∀b,¬Sx S0 ρ b->¬Sx (fun b=>S0 b∨own ρi b) ρr b:=by
   rintro b hn ((h|h)|h)
   ·exact hn (Or.inl h)
   ·exact hn (Or.inr (hoi b h))
   ·exact hn (Or.inr (hor b h))
  refine⟨⟨fun r r' l l' b h1 h2=>hc.wf.inj r r' l l' b (hq1 r l h1).2 (hq1 r' l' h2).2,fun r l b h1 h2=>⟨(hc.wf.own r l b (hq1 r l h1).2 h2).1,?_,trivial⟩,fun r l h=>hc.wf.given r l (hq1 r l h).2,?_,fun _ _=>trivial⟩,hc.size,hc.defers,fun t=>(hc.tmps t).ext (qo _) (fun b _ hn=>⟨rfl,hSx b hn⟩) (fun r h=>h) (fun r l _ h=>(hq1 r l h).2),fun r row hr=>?_,fun r hr=>?_⟩
  ·rintro(h|h)
   ·exact(hc.wf.own r l b (hq1 r l h1).2 h2).2.1 h
   ·exact hdis b h ⟨r,l,h1,h2⟩
  ·rintro b (h|h)
   ·exact hc.wf.low b h
   ·exact(hc.owned b (hoi b h)).1
  ·by_cases hk:r<H0.length
   ·rw[hg1 r hk]at hr;cases hr
   ·rw[hg2 r hk]at hr;obtain⟨l,h1,h2⟩:=hc.rows r row hr;exact⟨l,by rw[hq2 r hk];exact h1,h2.ext (qo _) (fun b _ hn=>⟨rfl,hSx b hn⟩) (fun r h=>h) (fun r l _ h=>(hq1 r l h).2) (fun _ _=>rfl)⟩
  ·by_cases hk:r<H0.length
   ·rw[hρr];simp only;rw[if_pos hk]
   ·rw[hq2 r hk];exact hc.dead r (by rw[<-hg2 r hk];exact hr)
 obtain⟨ρ1,L1,hc1,hL1,ho1⟩:=hcr.sub (fun r h=>by have:=hL r h;simpa using this) hs0;obtain⟨hj1,hj2,hj3⟩:=hj;have hgv:=L6 (a:=a) hc.tmps g;rw[hg]at hgv;obtain⟨vs,hgv,hlen,hcaps⟩:=E8 hgv;refine wpIn_rangeFunc (fun fn _=>?_);obtain⟨rec,hrec⟩:∃rec:LoopState->Option Code->Loop,rec=fun st pe=>{state:=st,pending:=pe,fn,tmps:=a.tmps,params:=ps,assign,body,defers:=w.heap.size}:=⟨_,rfl⟩;obtain⟨W1,hW1⟩:∃W1,(w.alloc (.deferred (some []))).alloc (.loop (rec .ready none))=W1:=⟨_,rfl⟩;have hsz1:W1.heap.size=w.heap.size+2:=by rw[<-hW1];simp
 have hL1':W1.heap[w.heap.size+1]?=some (.loop (rec .ready none)):=by
  rw[<-hW1];have:=World.alloc_heap_new (w.alloc (.deferred (some []))) (.loop (rec .ready none));rwa [World.size_alloc]at this
 have hK1:W1.heap[w.heap.size]?=some (.deferred (some [])):=by
  rw[<-hW1];exact(Below.heap_alloc _ _ _ (by simp)).trans (World.alloc_heap_new w _)
 have hold1:∀b,b<w.heap.size->W1.heap[b]?=w.heap[b]?:=by
  intro b hb;rw[<-hW1];exact(Below.heap_alloc _ _ _ (by simp;omega)).trans (Below.heap_alloc _ _ _ hb)
 have hext1:Ext (fun _=>False) w W1:=Ext.of_same (by rw[<-hW1];rfl) (by rw[<-hW1];rfl) (by rw[<-hW1];rfl) (by omega) hold1;have hw01:w0.heap.size<=w.heap.size:=hj2.size;have hBW:∀b,w.heap.size<=b->B0 b:=fun b hb=>hB0 b (Nat.le_trans hw01 hb);have hevx:a.eval g= .func (.func f) #[] vs.toArray:=hgv;refine⟨w.heap.size+1,[a0t w.heap.size],W1,{target:= .fn (.func f) vs.toArray,args:= #[.func (.yield (w.heap.size+1)) #[] #[]]},W1,f,
  #[.func (.yield (w.heap.size+1)) #[] #[]]++vs.toArray,W1,?_,?_,fun _ _=>trivial,?_,a3R,?_⟩
 ·rw[<-hW1,hrec];exact run_enterLoop_outer _ _ _ _ _
 ·simp only[resolve,hevx];simp[go_sem]
 ·have eg:=hic.1;simp[invoke,go_sem,eg]
 have hBW1:∀b,W1.heap.size<=b->B0 b:=fun b hb=>hBW b (by omega)
 let N:Nat->Prop:=fun b=>W1.heap.size<=b∨own ρi b
 have hNB:∀b,N b->B0 b:=by
  rintro b (h|h)
  ·exact hBW1 b h
  ·exact hj3 b (hoi b h)
 let B:=c5j W1 w0 w S0 B0 N nt T1 a w.heap.size (w.heap.size+1)
 let Jit:Jt:=
  {rel:=fun y Si O W=>(∃n,y=Z8 n/\inv n/\∃Sc ρc Lc,B (hp n) (rec .ready none) Si O W Sc ρc Lc)∨
    (y=b1b/\∃c Hs,((c= .ret/\Q .ret T1 Hs)∨∃id,c= .exit id/\Q (.exit id) T1 Hs)/\∃Sc ρc Lc,B Hs (rec .done (some c)) Si O W Sc ρc Lc),mark:=fun _=>False}
 have hJit:JOk Jit:=by
  rintro y Si O O' A A' hr hlow hown hext hO
  rcases hr with⟨n,rfl,hi,Sc,ρc,Lc,hb⟩|⟨rfl,c,Hs,hq,Sc,ρc,Lc,hb⟩
  ·exact Or.inl ⟨n,rfl,hi,_,_,_,hb.step hNB (fun b h=>Or.inl h) hlow hown hext hO⟩
  ·exact Or.inr ⟨rfl,c,Hs,hq,_,_,_,hb.step hNB (fun b h=>Or.inl h) hlow hown hext hO⟩
 let Sit:Nat->Prop:=fun b=>S0 b∨own ρr b∨b=w.heap.size∨b=w.heap.size+1
 have hSitlow:∀b,Sit b->b<W1.heap.size:=by
  rintro b (h|h|h|h)
  ·have:=hc.wf.low b h;omega
  ·have:=(hc.owned b (hor b h)).1;omega
  ·omega
  ·omega
 have hSit:∀b,b<w.heap.size->¬Sx S0 ρ b->¬Sx Sit ρi b:=by
  rintro b hlt hn ((h|h|h|h)|h)
  ·exact hn (Or.inl h)
  ·exact hn (Or.inr (hor b h))
  ·omega
  ·omega
  ·exact hn (Or.inr (hoi b h))
 have hheld:a6W Sit W1 ρi H0:=by
  refine⟨⟨fun r r' l l' b h1 h2=>hc.wf.inj r r' l l' b (hi1 r l h1).2 (hi1 r' l' h2).2,fun r l b h1 h2=>?_,fun r l h=>(hi1 r l h).1,hSitlow,fun _ _=>trivial⟩,fun r row hr=>?_,fun r hr=>?_⟩
  ·have hob:own ρi b:=⟨r,l,h1,h2⟩;obtain⟨k1,k2⟩:=hc.owned b (hoi b hob);refine⟨by omega,?_,trivial⟩;rintro(h|h|h|h)
   ·exact k2 h
   ·exact hdis b hob h
   ·omega
   ·omega
  ·have hk:r<H0.length:=by
    rcases Nat.lt_or_ge r H0.length with h|h
    ·exact h
    ·rw[a1P _ _ h]at hr;cases hr
   obtain⟨l,h1,h2⟩:=hc.rows r row (by rw[hg0 r hk];exact hr);refine⟨l,by rw[hi2 r hk];exact h1,?_⟩;have hok:c0Q (some row)=true:=qn.1 hr0 _ (by rw[C8,qc hk]at hr;simp only[Option.getD_some]at hr;rw[<-hr];exact List.getElem_mem hk)
   cases row with
   |els sz es=>
    obtain⟨q1,q2,q3,q4⟩:=h2;refine⟨q1,q2,q3,fun b hb=>?_⟩;obtain⟨c,t,p1,p2,p3,p4⟩:=q4 b hb;refine⟨c,t,(hold1 b (hc.owned b ⟨r,l,h1,hb⟩).1).trans p1,p2,p3,fun i av hi=>?_⟩;obtain⟨x,s1,s2,s3⟩:=p4 i av hi;refine⟨x,s1,s2, .pure _ _ ((B7 2 _ _ ?_ s3).ext hext1.size (fun b hb hn=>⟨hold1 b hb,hSit b hb hn⟩))⟩;simp only[c0Q,qn]at hok;obtain⟨e,he,hae⟩:=List.mem_flatten.1 (qd hi);exact hok e he av hae
   |map ag kts kvs=>cases hok
   |itr ag kts left cur=>cases hok
   |mpa ag kts kvs=>cases hok
  ·by_cases hk:r<H0.length
   ·rw[hi2 r hk];exact hc.dead r (by rw[hg0 r hk];exact hr)
   ·rw[hρi];simp only;rw[if_neg hk]
 refine a6a.2 (Calls.mono (hic.2 Sit W1 ρi vs hheld hlen ?_ (w.heap.size+1) Jit hJit (fun _ h=>h) ?_ ?_) ?_)
 ·intro i c x h1 h2;have hok:=qn.1 hnr _ (qd h1);have hrp:=hcaps i c x h1 h2;have hE:∀b,b<w.heap.size->¬Sx S0 ρ b->W1.heap[b]?=w.heap[b]?/\¬Sx Sit ρi b:=fun b hb hn=>⟨hold1 b hb,hSit b hb hn⟩;unfold c2y at hok
  split at hok
  ·have hr:=of_decide_eq_true hok
   cases hrp with
   |pure _ _ h=>cases h
   |ptr _ _ _ _ h3 h4 h5=>exact .ptr _ _ _ _ hr h4 (fun l hl=>h5 l (hi1 _ l hl).2)
  ·exact .pure _ _ ((B7 2 _ _ hok hrp).ext hext1.size hE)
 ·
  intro n x hxn Si O W vs' hrel hlow howned hlen' hreps;obtain⟨hi,Sc,ρc,Lc,hb⟩:inv n/\∃Sc ρc Lc,B (hp n) (rec .ready none) Si O W Sc ρc Lc:=by
   rcases hrel with⟨n',e,hi,hb⟩|⟨e,_⟩
   ·rw[b1W]at e;subst e;exact⟨hi,hb⟩
   ·exact absurd e (b0A n)
  have hxl:x.length=ps.size:=hx x (qd hxn);have hy:=run_yield (P:=P) (args:=vs'.toArray) hb.record (by simp only[hrec,List.size_toArray];omega);rw[hrec]at hy;refine⟨fn,_,assign,body,hy,roundIn_of_wpIn (F:=Fence.wide) trivial ?_⟩;obtain⟨tm,htm⟩:∃tm,tm=(ps.zip vs'.toArray).foldl (fun tmps (t,a)=>tmps.setIfInBounds t a) a.tmps:=⟨_,rfl⟩;have htm':tm=((ps.toList.zip vs').foldl (fun t (p:Tmp×Value)=>t.setIfInBounds p.1 p.2) a.tmps):=by rw[htm,<-Array.foldl_toList];simp
  have hzip:∀p∈(ps.toList.zip vs').map (·.1),p∈ps.toList:=by
   intro p hp';obtain⟨q,hq,rfl⟩:=List.mem_map.1 hp';exact(List.of_mem_zip hq).1
  have hzl:(ps.toList.zip vs').map (·.1)=ps.toList:=by
   rw[List.map_fst_zip];simp;omega
  have hother:∀t,t∉ps.toList->tm.getD t undef=a.tmps.getD t undef:=by
   intro t ht;rw[htm'];exact Q4 _ _ _ (by rw[hzl];exact ht)
  have hsize:tm.size=nt:=by rw[htm',a0T];exact hc.size
  have hat:∀(i:Nat) p v,ps.toList[i]?=some p->vs'[i]?=some v->tm.getD p undef=v:=by
   intro i p v h1 h2;rw[htm'];refine a3j _ _ p v (by rw[hzl];exact hps) ?_ (by have:=hc.size;have h3:=(hpl p (qd h1)).1;show p<a.tmps.size;rw[show a.tmps.size=nt from hc.size];exact h3);exact qd (i:=i) (by rw[List.getElem?_zip_eq_some];exact⟨h1,h2⟩)
  show assign.wpIn (fr (some (w.heap.size+1))) 0 P _ {tmps:=(ps.zip vs'.toArray).foldl (fun tmps (t,a)=>tmps.setIfInBounds t a) a.tmps,defers:=[]} W;rw[<-htm]
  let J1:Jt:=JR false W Sc (fun b=>W.heap[b]?) (fun b=>own ρc b∨W.heap.size<=b)
  have hJ1:JC false J1:=⟨W,Sc,_,_,fun b hb=>Or.inr hb,hb.core.wf.low,rfl⟩;have hsg:SG J1 nt kl (fun t=>a.tmps.getD t undef) (ps.toList.zip x++T1) (hp n) {tmps:=tm,defers:=[]} W:=by
   refine⟨⟨Sc,ρc,Lc,⟨hb.core.wf,hsize,rfl,fun t=>?_,hb.core.rows,hb.core.dead⟩,hb.len,⟨fun b h=>⟨h,hb.core.wf.low b h,rfl⟩,Ext.refl _ _,fun b h=>Or.inl h⟩,[],rfl,List.nodup_nil,by simp⟩,fun t ht=>?_⟩
   ·refine b0X (R:=fun t c=>e8 W (Sx Sc ρc) ρc Lc c (tm.getD t undef)) ps.toList x T1 t (fun ht=>?_) (fun i p c h1 h2=>?_) (by simp[hxl])
    ·rw[hother t ht];exact hb.core.tmps t
    ·obtain⟨v,hv⟩:∃v,vs'[i]?=some v:=⟨_,qc (by have:=(qa.1 h2).1;omega)⟩;rw[hat i p v h1 hv];refine .pure _ _ ((hreps i c v h2 hv).ext (qo _) (fun b _ hn=>⟨rfl,?_⟩));rintro(h|h)
     ·exact hn (hb.within b h)
     ·exact hn (Or.inl (hb.mine b h).1)
   ·exact hother t (fun h=>(hpl t h).2 ht)
  refine wpIn_mono (round n x hxn hi (w.heap.size+1) J1 hJ1 hJ1.ok _ _ W hsg) ?_;rintro e a1 w1 ⟨T',H',q,s⟩
  cases e with
  | normal=>
   obtain⟨⟨S1,ρ1',L1',hc2,hL2,⟨hk1,hk2,hk3⟩,hmk1⟩,hkeep1⟩:=s;have hsW1:W.heap.size<=w1.heap.size:=hk2.size;have hlS:Sc (w.heap.size+1):=(hb.foreign _ (Or.inr (Or.inr rfl))).1;have hDS:Sc w.heap.size:=(hb.foreign _ (Or.inr (Or.inl rfl))).1;have hl1:w1.heap[w.heap.size+1]?=some (.loop (rec .ready none)):=(hk1 _ hlS).2.2.trans hb.record;have hbr:=run_beginRound (P:=P) hl1 (by rw[hrec]);refine⟨_,hbr,?_⟩;obtain⟨w2,hw2⟩:∃w2,w2=w1.putObj (w.heap.size+1) (.loop {rec .ready none with state:= .busy}):=⟨_,rfl⟩;rw[<-hw2];have hsz2:w2.heap.size=w1.heap.size:=by rw[hw2];simp
   have hne2:∀b,b≠w.heap.size+1->w2.heap[b]?=w1.heap[b]?:=fun b hb=>by rw[hw2];exact World.putObj_heap_other hb
   have hl2:w2.heap[w.heap.size+1]?=some (.loop {rec .ready none with state:= .busy}):=by rw[hw2];exact World.putObj_heap_same (hk1 _ hlS).2.1
   have hc3:N8 a0s S1 nt w2 ρ1' L1' (i8 T') (g8 H') (a2u a1):=hc2.foreign (by omega) (fun b hb' hn=>hne2 b (fun e=>hn (by rw[e];exact(hk1 _ hlS).1))) (fun b h=>⟨by rw[hsz2];exact hc2.wf.low b h,Or.inl h⟩)
   let J2:Jt:=JR false w2 S1 (fun b=>w2.heap[b]?) (fun b=>own ρ1' b∨w2.heap.size<=b)
   have hJ2:JC false J2:=⟨w2,S1,_,_,fun b hb=>Or.inr hb,fun b h=>by rw[hsz2];exact hc2.wf.low b h,rfl⟩;have hmk2:a8n J2 a1.defers S1 w2:=by
    obtain⟨Ds,h1,h2,h3⟩:=hmk1
    cases Ds with
    |nil=>exact⟨[],h1,h2,by simp⟩
    |cons D Ds=>exact absurd (h3 D (by simp)).2.1.1 (by simp)
   have hsg2:SG J2 nt kl (fun t=>a.tmps.getD t undef) T' H' a1 w2:=
    ⟨⟨S1,ρ1',L1',hc3,hL2,⟨fun b h=>⟨h,by rw[hsz2];exact hc2.wf.low b h,rfl⟩,Ext.refl _ _,fun b h=>Or.inl h⟩,hmk2⟩,hkeep1⟩
   refine wpIn_mono (q J2 hJ2 hJ2.ok _ a1 w2 hsg2) ?_;rintro e a3 w3 ⟨T3,H3,q3,⟨⟨S3,ρ3,L3,hc4,hL4,⟨hn1,hn2,hn3⟩,_⟩,hkeep3⟩⟩;have hsz3:w2.heap.size<=w3.heap.size:=hn2.size;have hlS1:S1 (w.heap.size+1):=(hk1 _ hlS).1;have hl3:w3.heap[w.heap.size+1]?=some (.loop {rec .ready none with state:= .busy}):=(hn1 _ hlS1).2.2.trans hl2;have hbsize:=hb.size;have fin:∀(Hx:Hp),Sub nt T3 H3 T1 Hx->∀(st:LoopState) (pe:Option Code) (w4:World),w4=w3.putObj (w.heap.size+1) (.loop (rec st pe))->
     W.heap.size<=w4.heap.size/\(∀b,b<W.heap.size->¬Si b->w4.heap[b]?=W.heap[b]?)/\∃Sc ρc Lc,B Hx (rec st pe) (a2R Si W w4) O w4 Sc ρc Lc:=by
    intro Hx hsub st pe w4 hw4;obtain⟨ρ4,L4,hc5,hL5,ho4⟩:=hc4.sub hL4 hsub;have hsz4:w4.heap.size=w3.heap.size:=by rw[hw4];simp
    have hne4:∀b,b≠w.heap.size+1->w4.heap[b]?=w3.heap[b]?:=fun b hb=>by rw[hw4];exact World.putObj_heap_other hb
    have hl4:w4.heap[w.heap.size+1]?=some (.loop (rec st pe)):=by rw[hw4];exact World.putObj_heap_same (hn1 _ hlS1).2.1
    have hlSi:Si (w.heap.size+1):=(hb.foreign _ (Or.inr (Or.inr rfl))).2;have hunch:∀b,b<W.heap.size->¬Si b->w4.heap[b]?=W.heap[b]?:=by
     intro b hlt hnS;have e1:w1.heap[b]?=W.heap[b]?:=hk2.block b hlt (by
      rintro(h|h)
      ·exact hnS (hb.mine b h).1
      ·omega)
     have hne:b≠w.heap.size+1:=fun e=>hnS (by rw[e];exact hlSi);have e3:w3.heap[b]?=w2.heap[b]?:=hn2.block b (by omega) (by
      rintro(h|h)
      ·rcases hk3 b h with h'|h'
       ·exact hnS (hb.mine b h').1
       ·omega
      ·omega)
     rw[hne4 b hne,e3,hne2 b hne,e1]
    have hfor:∀b,Sc b->b≠w.heap.size+1->w4.heap[b]?=W.heap[b]?:=by
     intro b hS hne;have k1:=hk1 b hS;rw[hne4 b hne];refine((hn1 b k1.1).2.2).trans ?_;show w2.heap[b]?=_;rw[hne2 b hne];exact k1.2.2
    refine⟨by omega,hunch,fun b=>S3 b/\(a2R Si W w4 b∨O b),ρ4,L4,⟨?_,hL5,?_,?_,?_,fun b h=>h.2,hl4,?_,?_,by omega,?_⟩⟩
    ·have hcore:N8 a0s S3 nt w3 ρ4 L4 (i8 T1) (g8 Hx) (a2u a):=by
      refine⟨hc5.wf,hc.size,rfl,fun t=>?_,hc5.rows,hc5.dead⟩
      by_cases ht:t∈kl
      ·have h1:=hc5.tmps t;have h2:(a2u a3).tmps.getD t undef=a.tmps.getD t undef:=hkeep3 t ht;rw[h2]at h1;exact h1
      ·rw[hT1 t ht];exact .pure _ _ (.any _)
     refine hcore.foreign (by omega) (fun b hb' hn=>hne4 b (fun e=>hn (by rw[e];exact(hn1 _ hlS1).1))) (fun b h=>⟨by rw[hsz4];exact hc5.wf.low b h.1,Or.inl h.1⟩)
    ·intro b hO;have h1:=hb.its b hO;exact⟨⟨(hn1 b (hk1 b h1.1).1).1,Or.inr hO⟩,h1.2⟩
    ·intro b ho;have h3:=hc4.owned b (ho4 b ho)
     rcases hn3 b (ho4 b ho)with h|h
     ·rcases hk3 b h with h'|h'
      ·exact⟨Or.inl (hb.mine b h').1,(hb.mine b h').2⟩
      ·exact⟨Or.inr ⟨h',by omega⟩,hBW1 b (by omega)⟩
     ·exact⟨Or.inr ⟨by omega,by omega⟩,hBW1 b (by omega)⟩
    ·intro b h;have h1:=hb.foreign b h;exact⟨⟨(hn1 b (hk1 b h1.1).1).1,Or.inl (Or.inl h1.2)⟩,Or.inl h1.2⟩
    ·rw[hfor _ hDS (by omega)];exact hb.mark
    ·refine hb.ext.trans ((hk2.mono (fun b _ h=>?_)).trans (?_:Ext B0 w1 w4))
     ·rcases h with h|h
      ·exact(hb.mine b h).2
      ·exact hBW1 b (by omega)
     ·have e2:Ext B0 w1 w2:=by rw[hw2];exact U8 (hBW _ (by omega)) (by intro c t s h;rw[hl1]at h;cases h)
      have e4:Ext B0 w3 w4:=by rw[hw4];exact U8 (hBW _ (by omega)) (by intro c t s h;rw[hl3]at h;cases h)
      refine e2.trans ((hn2.mono (fun b _ h=>?_)).trans e4)
      rcases h with h|h
      ·rcases hk3 b h with h'|h'
       ·exact(hb.mine b h').2
       ·exact hBW1 b (by omega)
      ·exact hBW1 b (by omega)
    ·intro b h;have hlt:=hc.wf.low b h;rw[hfor b (hb.foreign b (Or.inl h)).1 (by omega)];exact hb.old b h
   cases e with
   | normal=>
    obtain⟨hi',hsub⟩:=q3;obtain⟨f1,f2,f3⟩:=fin _ hsub .ready none _ rfl;refine⟨_,_,run_endRound (P:=P) none hl3,?_⟩;have:∀W',W'=w3.putObj (w.heap.size+1) (.loop (rec .ready none))->W.heap.size<=W'.heap.size/\(∀b,b<W.heap.size->¬Si b->W'.heap[b]?=W.heap[b]?)/\
      ((Ending.returned (.bool true)= .returned (.bool true)/\Jit.rel (Z8 (n+1)) (a2R Si W W') O W')∨(Ending.returned (.bool true)= .returned (.bool false)/\Jit.rel b1b (a2R Si W W') O W')):=by
     rintro W' rfl;exact⟨f1,f2,Or.inl ⟨rfl,Or.inl ⟨n+1,rfl,hi',f3⟩⟩⟩
    exact this _ (by rw[hrec];simp)
   | ret=>
    obtain⟨Hs,hsub,hq⟩:=q3;obtain⟨f1,f2,f3⟩:=fin _ hsub .done (some .ret) _ rfl;refine⟨_,_,run_endRound (P:=P) (some .ret) hl3,?_⟩;have:∀W',W'=w3.putObj (w.heap.size+1) (.loop (rec .done (some .ret)))->W.heap.size<=W'.heap.size/\(∀b,b<W.heap.size->¬Si b->W'.heap[b]?=W.heap[b]?)/\
      ((Ending.returned (.bool false)= .returned (.bool true)/\Jit.rel (Z8 (n+1)) (a2R Si W W') O W')∨(Ending.returned (.bool false)= .returned (.bool false)/\Jit.rel b1b (a2R Si W W') O W')):=by
     rintro W' rfl;exact⟨f1,f2,Or.inr ⟨rfl,Or.inr ⟨rfl,_,Hs,Or.inl ⟨rfl,hq⟩,f3⟩⟩⟩
    exact this _ (by rw[hrec];simp)
   | exit id=>
    obtain⟨Hs,hsub,hq⟩:=q3;obtain⟨f1,f2,f3⟩:=fin _ hsub .done (some (.exit id)) _ rfl;refine⟨_,_,run_endRound (P:=P) (some (.exit id)) hl3,?_⟩;have:∀W',W'=w3.putObj (w.heap.size+1) (.loop (rec .done (some (.exit id))))->W.heap.size<=W'.heap.size/\(∀b,b<W.heap.size->¬Si b->W'.heap[b]?=W.heap[b]?)/\
      ((Ending.returned (.bool false)= .returned (.bool true)/\Jit.rel (Z8 (n+1)) (a2R Si W W') O W')∨(Ending.returned (.bool false)= .returned (.bool false)/\Jit.rel b1b (a2R Si W W') O W')):=by
     rintro W' rfl;exact⟨f1,f2,Or.inr ⟨rfl,Or.inr ⟨rfl,_,Hs,Or.inr ⟨id,rfl,hq⟩,f3⟩⟩⟩
    exact this _ (by rw[hrec];simp)
   |goto t=>exact q3.elim
   |panic chain=>exact q3.elim
   |outgrown=>exact q3.elim
  |exit id=>exact q.elim
  |goto t=>exact q.elim
  |ret=>exact q.elim
  |panic chain=>exact q.elim
  |outgrown=>exact q.elim
 ·
  refine Or.inl ⟨0,rfl,h0,fun b=>(S0 b∨own ρi b)∨b=w.heap.size∨b=w.heap.size+1,ρ1,L1,⟨hc1.foreign hext1.size (fun b hb _=>hold1 b hb) ?_,hL1,fun b h=>⟨Or.inl (Or.inr h),Or.inr h⟩,fun b hb=>⟨Or.inr (Or.inl (ho1 b hb)),hj3 b (hor b (ho1 b hb))⟩,?_,?_,hL1',hK1,hj2.trans (hext1.mono fun b _ h=>h.elim),qo _,fun b hb=>hold1 b (hc.wf.low b hb)⟩⟩
  ·rintro b (h|h|h)
   ·have:=hcr.wf.low b h;exact⟨by omega,Or.inl h⟩
   ·exact⟨by omega,Or.inr (by omega)⟩
   ·exact⟨by omega,Or.inr (by omega)⟩
  ·rintro b (h|h|h)
   ·exact⟨Or.inl (Or.inl h),Or.inl h⟩
   ·exact⟨Or.inr (Or.inl h),Or.inr (Or.inr (Or.inl h))⟩
   ·exact⟨Or.inr (Or.inr h),Or.inr (Or.inr (Or.inr h))⟩
  ·rintro b ((h|h)|h|h)
   ·exact Or.inl (Or.inl h)
   ·exact Or.inr h
   ·exact Or.inl (Or.inr (Or.inr (Or.inl h)))
   ·exact Or.inl (Or.inr (Or.inr (Or.inr h)))
 ·
  rintro e W2 ⟨⟨v,rfl⟩,S',O',hl',ho',hrel⟩;have fin:∀(Hx:Hp) (rc:Loop) (Sc:Nat->Prop) (ρc:Nat->Option Loc) (Lc:Nat->Prop),B Hx rc S' O' W2 Sc ρc Lc->∀o,SG (JR true w0 S0r hp0 B0) nt kp kv T1 Hx {a with defers:=[a0t w.heap.size]++a.defers} (W2.putObj (w.heap.size+1) o):=by
   intro Hx rc Sc ρc Lc hb o;obtain⟨w4,hw4⟩:∃w4,w4=W2.putObj (w.heap.size+1) o:=⟨_,rfl⟩;rw[<-hw4];have hsz4:w4.heap.size=W2.heap.size:=by rw[hw4];simp
   have hne4:∀b,b≠w.heap.size+1->w4.heap[b]?=W2.heap[b]?:=fun b hb=>by rw[hw4];exact World.putObj_heap_other hb
   have hlS:Sc (w.heap.size+1):=(hb.foreign _ (Or.inr (Or.inr rfl))).1;obtain⟨Ds,hd1,hd2,hd3⟩:=hm;refine⟨⟨Sc,ρc,Lc,?_,hb.len,⟨?_,?_,fun b h=>(hb.mine b h).2⟩,w.heap.size::Ds,by simp[hd1],?_,?_⟩,hk⟩
   ·exact hb.core.foreign (by omega) (fun b hb' hn=>hne4 b (fun e=>hn (by rw[e];exact hlS))) (fun b h=>⟨by rw[hsz4];exact hb.core.wf.low b h,Or.inl h⟩)
   ·intro b h;obtain⟨k1,k2,k3⟩:=hj1 b h;refine⟨(hb.foreign b (Or.inl k1)).1,by have:=hb.size;omega,?_⟩;rw[hne4 b (by omega),hb.old b k1];exact k3
   ·rw[hw4];exact hb.ext.trans (U8 (hBW _ (by omega)) (by intro c t s h;rw[hb.record]at h;cases h))
   ·rw[List.nodup_cons];exact⟨fun h=>by have:=hc.wf.low _ (hd3 _ h).1;omega,hd2⟩
   ·intro D hD
    rcases List.mem_cons.1 hD with rfl|hD
    ·exact⟨(hb.foreign _ (Or.inr (Or.inl rfl))).1,⟨rfl,hw01⟩,by rw[hne4 _ (by omega)];exact hb.mark⟩
    ·obtain⟨k1,k2,k3⟩:=hd3 D hD;have:=hc.wf.low D k1;exact⟨(hb.foreign D (Or.inl k1)).1,k2,by rw[hne4 _ (by omega),hb.old D k1];exact k3⟩
  have hcase:(inv xs.length/\∃Sc ρc Lc,B (hp xs.length) (rec .ready none) S' O' W2 Sc ρc Lc)∨
    (∃c Hs,((c= .ret/\Q .ret T1 Hs)∨∃id,c= .exit id/\Q (.exit id) T1 Hs)/\∃Sc ρc Lc,B Hs (rec .done (some c)) S' O' W2 Sc ρc Lc):=by
   rcases hrel with hrel|hrel
   ·rcases hrel with⟨n',e,hi,hb⟩|⟨e,_⟩
    ·rw[b1W]at e;subst e;exact Or.inl ⟨hi,hb⟩
    ·exact absurd e (b0A _)
   ·rcases hrel with⟨n',e,hi,hb⟩|⟨_,h⟩
    ·exact absurd e.symm (b0A _)
    ·exact Or.inr h
  rcases hcase with⟨hi,Sc,ρc,Lc,hb⟩|⟨c,Hs,hq,Sc,ρc,Lc,hb⟩
  ·exact⟨none,_,by have:=run_endLoop (P:=P) hb.record (by rw[hrec];simp);rw[show(rec .ready none).pending=none by rw[hrec]]at this;exact this,T1,_,done hi,fin _ _ _ _ _ hb _⟩
  ·refine⟨some c,_,by have:=run_endLoop (P:=P) hb.record (by rw[hrec];simp);rw[show(rec .done (some c)).pending=some c by rw[hrec]]at this;exact this,?_⟩;have hsg:=fin _ _ _ _ _ hb
   rcases hq with⟨rfl,hq⟩|⟨id,rfl,hq⟩
   ·exact wpIn_ret ⟨T1,Hs,hq,hsg _⟩
   ·exact wpIn_exit ⟨T1,Hs,hq,hsg _⟩
theorem b6S {J:Jt} (hJC:JC true J) (T1:Tm) (kl:List Nat) (hp:Nat->Hp) (inv:Nat->Prop) {g:Operand} {ps:Array Tmp} {assign body:Code} {f:FuncId} {caps:List AV} {xs:List (List AV)} (hg:evT (i8 T) g= .clo f caps) (hnr:caps.all (AV.noRef 2)=true) (hic:X3 P f caps xs) (hnt:nt<=999999)
  (hps:ps.toList.Nodup) (hpl:∀p∈ps.toList,p<nt/\p∉kl) (hx:∀x∈xs,x.length=ps.size)
  (h0:inv 0) (hs0:Sub nt T H T1 (hp 0)) (hT1:∀t,t∉kl->i8 T1 t= .any)
  (round:∀n x,xs[n]?=some x->inv n->∀(l:Nat) (J1:Jt),JC false J1->GWp P (some l) J1 nt kl assign (ps.toList.zip x++T1) (hp n) (a9q fun T' H'=>∀J2:Jt,JC false J2->GWp P (some l) J2 nt kl body T' H' (a4w nt inv hp T1 Q n)))
  (done:inv xs.length->Q .normal T1 (hp xs.length)):GWp P none J nt kp (.rangeFunc g ps assign body) T H Q:=
 b2Y hJC (H0:=[]) rfl rfl T1 kl hp inv hg (by
  rw[qn]at hnr ⊢;intro c hc;have h:=hnr c hc;unfold c2y
  split
  ·simp[AV.noRef]at h
  ·exact h) hic hnt hps hpl hx h0 hs0 hT1 round done
theorem a0k {fn:Func} {tmps:Array Value} {R:Ending->World->Prop}:∀(Ds:List Nat) (w':World),Ds.Nodup->(∀D∈Ds,w'.heap[D]?=some (.deferred (some [])))->
  (∀w'',Ext (fun b=>b∈Ds) w' w''->w''.heap.size=w'.heap.size->∃v,(results fn tmps).run P w''= .ok v w''/\R (.returned v) w'')->LeavesInM Fence.wide 0 P fn tmps R (Ds.map a0t) .returning w'
 |[],w',_,_,h=>h w' (Ext.refl _ _) rfl
 |D::Ds,w',hn,hD,h=>by
  rw[List.nodup_cons]at hn;refine⟨by simp,Or.inl ⟨D,_,rfl,run_takeDeferred (hD D (by simp)),?_⟩⟩;refine a0k Ds _ hn.2 (fun D' hD'=>?_) (fun w'' hx hs=>h w'' ?_ ?_)
  ·rw[World.putObj_heap_other (fun e=>hn.1 (by rw[<-e];exact hD'))];exact hD D' (by simp[hD'])
  ·exact(U8 (B:=fun b=>b∈D::Ds) (by simp) (by intro c t s h;rw[hD D (by simp)]at h;cases h)).trans (hx.mono fun b _ hb=>by simp[hb])
  ·rw[hs];simp
theorem a0C (xs:List AV) (t:Nat):i8 (P5 0 xs) t=(xs[t]?).getD .any:=by rw[a0f];simp
theorem a9.of_bodyG {f : FuncId} {fn : Func} {c : Code} {args : List AV} {res : AV} (hf : P.funcs[f]? = some fn) (hb : fn.body = some c) (hname : (fn.name == "runtime.NumGoroutine") = false) (hnt : args.length <= fn.ntmps)
  (h:∀J:Jt,JC true J->GWp P none J fn.ntmps [] c (P5 0 args) [] (c5q P fn.results.toList res)):a9 P f args res:=by
 have hn' : ¬ fn.name = "runtime.NumGoroutine" := by simpa using hname
 refine Or.inl ⟨fun w vs=>by simp[callFunc,hf,hn',hb],?_⟩;intro S0 w vs hlow hlen hrep;refine callsIn_wide.1 (callsIn_of_wp_marks (n:=0) (F:=Fence.wide) hf hb trivial ?_)
 let ρ:Nat->Option Loc:=fun _=>none
 have hS:∀b,Sx S0 ρ b↔S0 b:=by
  intro b;constructor
  ·rintro(h|⟨r,l,h1,_⟩)
   ·exact h
   ·cases h1
  ·exact Or.inl
 have hsize:vs.toArray.size=args.length:=by simp[hlen]
 let J:Jt:=JR true w S0 (fun b=>w.heap[b]?) (fun b=>w.heap.size<=b)
 have hJ:JC true J:=⟨w,S0,_,_,fun b h=>h,hlow,rfl⟩;have hst:SG J fn.ntmps [] (fun _=>undef) (P5 0 args) [] {tmps:=vs.toArray++Array.replicate (fn.ntmps-vs.toArray.size) undef,defers:=[]} w:=by
  refine⟨⟨S0,ρ,fun _=>False,⟨⟨?_,?_,?_,hlow,fun b h=>trivial⟩,?_,rfl,?_,?_,?_⟩,fun r hr=>hr.elim,⟨fun b h=>⟨h,hlow b h,rfl⟩,Ext.refl _ _,?_⟩,[],rfl,List.nodup_nil,by simp⟩,by simp⟩
  ·intro r r' l l' b h1;cases h1
  ·intro r l b h1;cases h1
  ·intro r l h1;cases h1
  ·show(vs.toArray++Array.replicate (fn.ntmps-vs.toArray.size) undef).size=fn.ntmps;rw[Array.size_append,Array.size_replicate,hsize];omega
  ·intro t;rw[a0C]
   cases hx:args[t]? with
   |none=>exact .pure _ _ (.any _)
   | some x=>
    have ht:t<args.length:=(qa.1 hx).1;have ht':t<vs.length:=by omega
    have g8:(vs.toArray++Array.replicate (fn.ntmps-vs.toArray.size) undef).getD t undef=vs[t]:=by
     rw[qt,Array.getElem?_append_left (by simpa using ht')];simp[ht']
    show e8 w _ _ _ _ ((vs.toArray++Array.replicate (fn.ntmps-vs.toArray.size) undef).getD t undef);rw[g8];exact .pure _ _ ((hrep t x _ hx (qc ht')).ext (qo _) (fun b _ hn=>⟨rfl,fun k=>hn ((hS b).1 k)⟩))
  ·intro r row hr;cases r<;>cases hr
  ·intro r _;rfl
  ·rintro b ⟨r,l,h1,_⟩;cases h1
 refine wpIn_mono (h J hJ hJ.ok (fun _=>undef) _ w hst) ?_;rintro e a' w' ⟨T',H',q,⟨⟨S1,ρ1,L1,hc1,hL1,⟨hj1,hj2,hj3⟩,Ds,hds,hnd,hDs⟩,_⟩⟩;have hfin:(N6 P T' H' fn.results.toList fun xs=>M0 H' 6 (r9 xs)=res)->LeavesInM Fence.wide 0 P fn a'.tmps (fun e w'=>∃v,e= .returned v/\r8 w' S0 res v/\Ext (fun _=>False) w w') a'.defers .returning w':=by
  intro hr;rw[hds,show Ds.map a0t++J.base=Ds.map a0t from List.append_nil _];refine a0k Ds w' hnd (fun D hD=>(hDs D hD).2.2) (fun w'' hx hsz=>?_);have hc2:N8 a0s S1 fn.ntmps w'' ρ1 L1 (i8 T') (g8 H') (a2u a'):=hc1.foreign hx.size (fun b hb hn=>hx.block b hb (fun hD=>hn (hDs b hD).1)) (fun b hb=>⟨by rw[hsz];exact hc1.wf.low b hb,Or.inl hb⟩);obtain⟨xs,vs',h1,h2,h3,h4,h5⟩:=I3 hc2 fn.results.toList _ hr;have hm:(fn.results.mapM fun(x:ResultVar)=>(match x with
    | .tmp t=>pure (a'.tmps.getD t undef)
    | .cell ad t=>do loadVar t (<-asAddr (a'.tmps.getD ad undef)):Sem Value)).run P w''= .ok vs'.toArray w'':=by
   rw[Array.mapM_eq_mapM_toList,Sem.run_map];have h1':(fn.results.toList.mapM fun(x:ResultVar)=>(match x with
    | .tmp t=>pure (a'.tmps.getD t undef)
    | .cell ad t=>do loadVar t (<-asAddr (a'.tmps.getD ad undef)):Sem Value)).run P w''= .ok vs' w'':=h1
   rw[h1'];rfl
  have hrun:(results fn a'.tmps).run P w''= .ok (if h:vs'.toArray.size=1 then vs'.toArray[0]else .tuple vs'.toArray) w'':=by
   unfold results;rw[Sem.run_bind];exact congrArg (fun(r:Result (Array Value))=>r.andThen fun a w'=>Sem.run P (pure (if h:a.size=1 then a[0]else Value.tuple a)) w') hm
  refine⟨_,hrun,_,rfl,?_,?_⟩
  ·have hfz:r8 w'' S1 res (if h:vs'.toArray.size=1 then vs'.toArray[0]else .tuple vs'.toArray):=by
    rw[<-h5];refine b1N hc2.wf hc2.rows 6 _ _ ?_
    match xs,vs',h2,h3 with
    |[],[],_,_=>simp only[r9];rw[dif_neg (by simp)];exact .tup [] [] rfl (by simp)
    |[x],[v],_,h3=>simp only[r9];rw[dif_pos (by simp)];exact h3 0 x v rfl rfl
    |x::y::xs,v::u::vs',h2,h3=>simp only[r9];rw[dif_neg (by simp)];exact .tup _ (v::u::vs') h2 h3
   exact hfz.ext (qo _) (fun b _ hn=>⟨rfl,fun hb=>hn (hj1 b hb).1⟩)
  ·refine Ext.of_same (hx.os.trans hj2.os) (hx.tape.trans hj2.tape) (hx.output.trans hj2.output) (Nat.le_trans hj2.size hx.size) fun b hb=>?_;rw[hx.block b (qq hb hj2.size) (fun hD=>?_),hj2.block b hb (by omega)];have:=(hDs b hD).2.1.2;omega
 cases e with
 |ret=>exact hfin q
 |normal=>exact hfin q
 |exit id=>exact q.elim
 |goto l=>exact q.elim
 |panic ch=>exact q.elim
 |outgrown=>exact q.elim
end
end Go.AM
namespace Go.AM
attribute [simp] b7f b1r c2V a9q a4w c2Y
@[simp] theorem c3P (g:List (Option Nat)) (n k:Nat):p5 g (n+1) (Z8 k)=Z8 k:=by cases n<;>rfl
section
variable {P:Program} {ro:Option Nat} {J:Jt} {nt:Nat} {kp:List Nat} {l:List Oper} {dsts:List (Option Tmp)} {T:Tm} {H:Hp} {Q:Exit->Tm->Hp->Prop} {id:Nat} {y c:Code}
theorem c0a (hd:l.map (·.dst)=dsts) (hnt:nt<=999999) (hkp:z6 kp dsts=true) (hnd:l.all o4=true) (h:∀K:Tm->Hp->Prop,(∀T' H',GWp P ro J nt kp y T' H' Q->K T' H')->H4 P nt dsts l T H K):GWp P ro J nt kp (.seq (.region id l.toArray false) y) T H Q:=
 a2w (a6z hd hnt hkp hnd (h _ fun _ _ h=>h))
theorem c2p (hd:l.map (·.dst)=dsts) (hnt:nt<=999999) (hkp:z6 kp dsts=true) (hnd:l.all o4=true) (h:∀K:Tm->Hp->Prop,(∀T' H',Q .normal T' H'->K T' H')->H4 P nt dsts l T H K):GWp P ro J nt kp (.region id l.toArray false) T H Q:=
 a6z hd hnt hkp hnd (h _ fun _ _ h=>h)
theorem c0p (hm:P.follows .mixedOrders=true) (hd:l.map (·.dst)=dsts) (hnt:nt<=999999) (hkp:z6 kp dsts=true) (hnd:l.all o4=true)
  (h:∀K:Tm->Hp->List Tr->Prop,(∀T' H' tr,a1l l tr=true->GWp P ro J nt kp y T' H' Q->K T' H' tr)->U5 P nt dsts l T H [] K):GWp P ro J nt kp (.seq (.region id l.toArray true) y) T H Q:=
 a2w (a7t hm hd hnt hkp hnd h)
theorem b5I (hmk:∀D,¬J.mark D) {l0:Nat} {xs:List (List AV)} (hY:b0d P l0 J xs) (hd:l.map (·.dst)=dsts) (hnt:nt<=999999) (hkp:z6 kp dsts=true) (hnd:l.all o4=true)
  (h:∀K:Tm->Hp->Prop,(∀T' H',GWp P none J nt kp y T' H' Q->K T' H')->b7f P l0 xs nt dsts l T H K):GWp P none J nt kp (.seq (.region id l.toArray false) y) T H Q:=
 a2w (b3R hmk hY hd hnt hkp hnd (h _ fun _ _ h=>h))
theorem G0 {T':Tm} {H':Hp} (h:Sub nt T H T' H') (hy:i8 T' 999999=i8 T 999999):c0r nt T H T' H':=⟨h,hy⟩
theorem a2c (hnt:nt<=999998) (h:GWp P ro J nt kp c ((999998,c1o)::T) H Q):GWp P ro J nt kp c T H Q:=p8 (G0 (b8G hnt) (by simp[i8])) h
theorem a6q (T:Tm) (t:Nat):∀live:List Nat,t∈live->i8 (W8 T live) t=i8 T t
 |[],h=>by cases h
 |q::l,h=>by
  simp only[W8,List.map_cons,i8]
  split
  ·rename_i e;rw[e]
  ·rename_i e;exact a6q T t l ((List.mem_cons.1 h).resolve_left e)
theorem s9 (live:List Nat) (hy:live.contains 999999=true∨i8 T 999999= .any) (h:GWp P ro J nt kp c (W8 T live) H Q):GWp P ro J nt kp c T H Q:=by
 refine p8 ⟨c9 (a2v T live),?_⟩ h
 by_cases hl:999999∈live
 ·exact a6q T _ live hl
 ·rcases hy with hy|hy
  ·exact absurd (by simpa using hy) hl
  ·rw[hy];have gen:∀live:List Nat,999999∉live->i8 (W8 T live) 999999= .any:=by
    intro live
    induction live with
    |nil=>intro _;rfl
    |cons q l ih=>
     intro h;simp only[List.mem_cons,not_or]at h;simp only[W8,List.map_cons,i8];rw[if_neg h.1];exact ih h.2
   exact gen live hl
theorem e9 {α:Type} (live:List Nat) (upd:α->Tm) (hp:α->Hp) (inv:α->Prop) (μ:α->Nat) (x0:α) (h0:inv x0) (hs0:c0r nt T H (upd x0++W8 T live) (hp x0))
  (round:∀x,inv x->GWp P ro J nt kp c (upd x++W8 T live) (hp x) (Z3 (fun T' H'=>∃y,inv y/\μ y<μ x/\c0r nt T' H' (upd y++W8 T live) (hp y)) Q)):GWp P ro J nt kp (.loop c) T H Q:=
 b9j (fun x=>(upd x++W8 T live,hp x)) inv μ x0 h0 hs0 round
theorem c1v {kl:List Nat} (h:T.map (·.1)=kl):∀t,t∉kl->i8 T t= .any:=by
 subst h;intro t ht
 induction T with
 |nil=>rfl
 |cons p T ih=>
  obtain⟨i,x⟩:=p;simp only[List.map_cons,List.mem_cons,not_or]at ht;simp only[i8];rw[if_neg ht.1];exact ih ht.2
theorem a1e {J:Jt} (hJC:JC true J) (kl:List Nat) (hp:Nat->Hp) (inv:Nat->Prop) {g:Operand} {ps:Array Tmp} {assign body:Code} {f:FuncId} {caps:List AV} {xs:List (List AV)} (hT1:T.map (·.1)=kl) (hic:X3 P f caps xs) (hg:evT (i8 T) g= .clo f caps) (hnr:caps.all (AV.noRef 2)=true) (hnt:nt<=999999)
  (hps:ps.toList.Nodup) (hpl:∀p∈ps.toList,p<nt/\p∉kl) (hx:∀x∈xs,x.length=ps.size)
  (h0:inv 0) (hs0:Sub nt T H T (hp 0))
  (round:∀n x,xs[n]?=some x->inv n->∀(l:Nat) (J1:Jt),JC false J1->GWp P (some l) J1 nt kl assign (ps.toList.zip x++T) (hp n) (a9q fun T' H'=>∀J2:Jt,JC false J2->GWp P (some l) J2 nt kl body T' H' (a4w nt inv hp T Q n)))
  (done:inv xs.length->Q .normal T (hp xs.length)):GWp P none J nt kp (.rangeFunc g ps assign body) T H Q:=
 b6S hJC T kl hp inv hg hnr hic hnt hps hpl hx h0 hs0 (c1v hT1) round done
end
end Go.AM
namespace Go.AM
def a6L:List AV->Nat->Prop
 |[],_=>False
 | .ptr q _ _::cs,r=>q=r∨a6L cs r
 |_::cs,r=>a6L cs r
def a6U:List AV->Nat->Prop
 |[],_=>False
 | .clo _ caps::cs,r=>a6L caps r∨a6U cs r
 | .row q _ n::cs,r=>(q=r/\1<=n)∨a6U cs r
 |_::cs,r=>a6U cs r
def c1Q:AV->Nat->Prop
 | .ptr q _ _,r=>q=r
 | .vptr cs,r=>a6U cs r
 | .row q _ n,r=>q=r/\1<=n
 | .ifc _ (.ptr q _ _),r=>q=r
 |_,_=>False
def A1:Option n9->Option n9->Prop
 |some (.els s _),some (.els s' _)=>s=s'
 |some _,none=>True
 |_,_=>False
def c3m (T0:Tm) (H0:Hp) (T:Tm) (H:Hp):Nat->List Nat->Prop
 |_,[]=>True
 |r,t::ts=>c1Q (i8 T0 t) r/\i8 T t=i8 T0 t/\A1 (g8 H0 r) (g8 H r)/\c3m T0 H0 T H (r+1) ts
attribute [simp] c1Q a6U a6L A1 c3m
def b3L (g:List (Option Nat)) (T:Tm):Tm:=T.map fun p=>(p.1,p5 g 40 (i8 T p.1))
attribute [simp] b3L
theorem a6I {nt:Nat} {T:Tm} {H:Hp} (g:List (Option Nat)) (hn:N5 g=true):Sub nt T H (b3L g T) (b4a H g):=by
 refine g7 g hn ?_ rfl;have gen:∀l:Tm,c0l g T (l.map fun p=>(p.1,p5 g 40 (i8 T p.1))):=by
  intro l
  induction l with
  |nil=>trivial
  |cons x l ih=>exact⟨Or.inr rfl,ih⟩
 exact gen T
def b3T (P:Program) (pins:List Nat) (T0:Tm) (H0:Hp) (rs:List ResultVar) (res:AV) (H':Hp) (T:Tm) (H:Hp):Prop:=
 ∃g,N5 g=true/\i8 (b3L g T) 999999=i8 T 999999/\b4a H g=H'/\c3m T0 H0 (b3L g T) H' 0 pins/\N6 P (b3L g T) H' rs fun xs=>r9 xs=res
def c6s (P:Program) (pins:List Nat) (T0:Tm) (H0:Hp) (rs:List ResultVar) (res:AV) (H':Hp):Exit->Tm->Hp->Prop
 | .ret,T,H=>b3T P pins T0 H0 rs res H' T H
 | .normal,T,H=>b3T P pins T0 H0 rs res H' T H
 |_,_,_=>False
section
variable {P:Program}
theorem a6N {T0:Tm} {H0:Hp} {T:Tm} {H:Hp}:∀{ts:List Nat} {r0 r t:Nat},c3m T0 H0 T H r0 ts->ts[r]?=some t->c1Q (i8 T0 t) (r0+r)/\i8 T t=i8 T0 t/\A1 (g8 H0 (r0+r)) (g8 H (r0+r))
 |[],r0,r,t,_,h=>by simp at h
 |t0::ts,r0,0,t,h,ht=>by
  simp only[List.getElem?_cons_zero,qb]at ht;subst ht;exact⟨h.1,h.2.1,h.2.2.1⟩
 |t0::ts,r0,r+1,t,h,ht=>by
  have:=a6N h.2.2.2 (by simpa using ht)
  rwa [show r0+1+r=r0+(r+1)by omega]at this
theorem a8t:∀{cs:List AV} {r:Nat},a6L cs r->∃(i j o:Nat),cs[i]?=some (AV.ptr r j o)
 |[],r,h=>h.elim
 | x::cs,r,h=>by
  have tail:a6L cs r->∃(i j o:Nat),(x::cs)[i]?=some (AV.ptr r j o):=fun h=>by
   obtain⟨i,j,n,h1⟩:=a8t h;exact⟨i+1,j,n,by simpa using h1⟩
  cases x with
  |ptr q j n=>
   simp only[a6L]at h
   rcases h with rfl|h
   ·exact⟨0,j,n,rfl⟩
   ·exact tail h
  |_=>exact tail h
theorem a8L:∀{cs:List AV} {r:Nat},a6U cs r->(∃(i j n:Nat),cs[i]?=some (AV.row r j n)/\1<=n)∨∃(i:Nat) (f:FuncId) (caps:List AV),cs[i]?=some (AV.clo f caps)/\a6L caps r
 |[],r,h=>h.elim
 | x::cs,r,h=>by
  have tail:a6U cs r->(∃(i j n:Nat),(x::cs)[i]?=some (AV.row r j n)/\1<=n)∨∃(i:Nat) (f:FuncId) (caps:List AV),(x::cs)[i]?=some (AV.clo f caps)/\a6L caps r:=fun h=>by
   rcases a8L h with⟨i,j,n,h1,h2⟩|⟨i,f,caps,h1,h2⟩
   ·exact Or.inl ⟨i+1,j,n,by simpa using h1,h2⟩
   ·exact Or.inr ⟨i+1,f,caps,by simpa using h1,h2⟩
  cases x with
  |row q j n=>
   simp only[a6U]at h
   rcases h with⟨rfl,h⟩|h
   ·exact Or.inl ⟨0,j,n,rfl,h⟩
   ·exact tail h
  |clo f caps=>
   simp only[a6U]at h
   rcases h with h|h
   ·exact Or.inr ⟨0,f,caps,rfl,h⟩
   ·exact tail h
  |_=>exact tail h
theorem a4R {w w':World} {S S':Nat->Prop} {ρ ρ':Nat->Option Loc} {L L':Nat->Prop} {x:AV} {r:Nat} {v:Value} {l l':Loc} {sz:Nat} {es es':List (List AV)} (hp:c1Q x r) (h:e8 w S ρ L x v) (h':e8 w' S' ρ' L' x v) (hl:ρ r=some l) (hl':ρ' r=some l')
  (hr:i7 w S ρ L l (.els sz es)) (hr':i7 w' S' ρ' L' l' (.els sz es')) (hc:∀(b:Nat) c t s,w.heap[b]?=some (Obj.cells c t s)->∃c' t' s',w'.heap[b]?=some (Obj.cells c' t' s')/\c'.size=c.size)
  (hsame:∀b,b<w.heap.size->¬S b->w'.heap[b]?=w.heap[b]?):l'=l:=by
 have fin:∀b,l.b=some b->l'.b=some b->l.o=l'.o->l'=l:=by
  intro b h1 h2 h3;obtain⟨e1,_,_,e4⟩:=hr;obtain⟨f1,_,_,f4⟩:=hr';obtain⟨c,t,p1,p2,_⟩:=e4 b h1;obtain⟨c',t',q1,q2,_⟩:=f4 b h2;obtain⟨c'',t'',s'',k1,k2⟩:=hc b c t _ p1;rw[q1]at k1;simp only[qb,Obj.cells.injEq]at k1;have hm:l'.m=l.m:=by rw[<-q2,<-p2,k1.1,k2]
  cases l;cases l'
  simp only at h1 h2 h3 e1 f1 hm;subst h1 h2 h3 e1 f1 hm
  rfl
 have hsz:l.sz=l'.sz:=hr.1.trans hr'.1.symm;have ptr:∀{i off:Nat} {v:Value},e8 w S ρ L (.ptr r i off) v->e8 w' S' ρ' L' (.ptr r i off) v->l'=l:=by
  intro i off v h h'
  cases h with
  |pure _ _ h=>cases h
  | ptr _ _ _ _ _ _ h=>
   cases h' with
   |pure _ _ h'=>cases h'
   |ptr _ _ _ _ _ _ h'=>
    obtain⟨b,h1,h2⟩:=h l hl;obtain⟨b',k1,k2⟩:=h' l' hl';rw[h2]at k2;simp only[Value.pointer.injEq,qb,Addr.mk.injEq,and_true]at k2;obtain⟨rfl,k2⟩:=k2;rw[hsz]at k2;exact fin b h1 k1 (by omega)
 have row:∀{i n:Nat} {v:Value},1<=n->e8 w S ρ L (.row r i n) v->e8 w' S' ρ' L' (.row r i n) v->l'=l:=by
  intro i n v hn h h'
  cases h with
  |pure _ _ h=>cases h
  | row _ _ _ _ _ _ h=>
   cases h' with
   |pure _ _ h'=>cases h'
   | row _ _ _ _ _ _ h'=>
    obtain⟨h0,h1⟩:=h l hl;obtain⟨k0,k1⟩:=h' l' hl'
    cases hb:l.b with
    |none=>have:=(h0 hb).2.1;omega
    | some b=>
     obtain⟨off,cap,h2,h3,h4⟩:=h1 b hb
     cases hb':l'.b with
     |none=>have:=(k0 hb').2.1;omega
     |some b'=>
      obtain⟨off',cap',k2,k3,k4⟩:=k1 b' hb';rw[h2]at k2;simp only[Value.slice.injEq,qb,Addr.mk.injEq,and_true]at k2;obtain⟨⟨rfl,rfl⟩,_,rfl⟩:=k2;have e1:=h4.resolve_left (by omega);have e2:=k4.resolve_left (by omega);rw[<-hsz]at e2;exact fin b hb hb' (by omega)
 cases x with
 | vptr cs=>
  obtain⟨b,off,vs,rfl,hSb,hb,hln,hv,hc1⟩:=y9 h;obtain⟨b',off',vs',e,hSb',hb',hln',hv',hc1'⟩:=y9 h';simp only[Value.pointer.injEq,qb,Addr.mk.injEq,and_true]at e;obtain⟨rfl,rfl⟩:=e
  rcases a8L hp with⟨i,j,n,h1,h2⟩|⟨i,f,caps,h1,h2⟩
  rotate_left
  ·have hi:i<cs.length:=(qa.1 h1).1;have g1:=qc (l:=vs) (i:=i) (by omega);have g2:=qc (l:=vs') (i:=i) (by omega);have q1:=(hv i _ g1).1;have q2:=(hv' i _ g2).1;rw[B2 (hsame b hb hSb),q1]at q2;simp only[qb]at q2;have r1:=hc1 i _ _ h1 g1;have r2:=hc1' i _ _ h1 g2;rw[<-q2]at r2;obtain⟨ks,e1,l1,m1⟩:=E8 r1;obtain⟨ks',e2,l2,m2⟩:=E8 r2;rw[e1]at e2;simp only[Value.func.injEq,true_and]at e2;have e3:ks=ks':=by simpa using congrArg Array.toList e2
   subst e3;obtain⟨u,ju,ou,hu⟩:=a8t h2;have hul:u<caps.length:=(qa.1 hu).1;have g3:=qc (l:=ks) (i:=u) (by omega);exact ptr (m1 u _ _ hu g3) (m2 u _ _ hu g3)
  have hi:i<cs.length:=(qa.1 h1).1;have g1:=qc (l:=vs) (i:=i) (by omega);have g2:=qc (l:=vs') (i:=i) (by omega);have q1:=(hv i _ g1).1;have q2:=(hv' i _ g2).1;rw[B2 (hsame b hb hSb),q1]at q2;simp only[qb]at q2;have r1:=hc1 i _ _ h1 g1;have r2:=hc1' i _ _ h1 g2;rw[<-q2]at r2;exact row h2 r1 r2
 |ptr q i off=>
  simp only[c1Q]at hp;subst hp;exact ptr h h'
 | ifc t x=>
  obtain⟨y,e1,h⟩:=B6 h;obtain⟨y',e2,h'⟩:=B6 h';rw[e1]at e2;simp only[Value.iface.injEq,true_and]at e2;subst e2
  cases x with
  |ptr q i off=>
   simp only[c1Q]at hp;subst hp;exact ptr h h'
  |_=>exact hp.elim
 |row q i n=>
  simp only[c1Q]at hp;obtain⟨rfl,hn⟩:=hp;exact row hn h h'
 |_=>exact hp.elim
theorem c7.of_bodyG {f : FuncId} {fn : Func} {c : Code} {args : List AV} {Hk Hd : Hp} {res : AV} {Hk' Hn : Hp} (pins : List Nat) (hf : P.funcs[f]? = some fn) (hb : fn.body = some c) (hname : (fn.name == "runtime.NumGoroutine") = false) (hnt : args.length <= fn.ntmps) (hlk : Hk.length = Hk'.length) (hpl : pins.length = Hk.length)
    (h:∀J:Jt,JC true J->GWp P none J fn.ntmps pins c (P5 0 args) (Hk++Hd) (c6s P pins (P5 0 args) (Hk++Hd) fn.results.toList res (Hk'++Hn))):c7 P f args Hk Hd res Hk' Hn:=by
  have hn' : ¬ fn.name = "runtime.NumGoroutine" := by simpa using hname
  refine⟨fun w vs=>by simp[callFunc,hf,hn',hb],hlk,?_⟩
  intro S0 w ρ vs hh hlen hrep
  refine callsIn_wide.1 (callsIn_of_wp_marks (n:=0) (F:=Fence.wide) hf hb trivial ?_)
  have hsize:vs.toArray.size=args.length:=by simp[hlen]
  let J:Jt:=JR true w S0 (fun b=>w.heap[b]?) (fun b=>own ρ b∨w.heap.size<=b)
  have hJ:JC true J:=⟨w,S0,_,_,fun b h=>Or.inr h,hh.wf.low,rfl⟩
  obtain⟨tm,htm⟩:∃tm,tm=vs.toArray++Array.replicate (fn.ntmps-vs.toArray.size) undef:=⟨_,rfl⟩
  have htmps:∀t,e8 w (Sx S0 ρ) ρ (fun r=>r<(Hk++Hd).length) (i8 (P5 0 args) t) (tm.getD t undef):=by
    intro t
    rw[a0C]
    cases hx:args[t]? with
    |none=>exact .pure _ _ (.any _)
    | some x=>
      have ht:t<args.length:=(qa.1 hx).1
      have ht':t<vs.length:=by omega
      have g8:tm.getD t undef=vs[t]:=by
        rw[htm,qt,Array.getElem?_append_left (by simpa using ht')]
        simp[ht']
      rw[g8]
      exact hrep t x _ hx (qc ht')
  have hst:SG J fn.ntmps pins (fun t=>tm.getD t undef) (P5 0 args) (Hk++Hd) {tmps:=vs.toArray++Array.replicate (fn.ntmps-vs.toArray.size) undef,defers:=[]} w:=by
    rw[<-htm]
    refine⟨⟨S0,ρ,fun r=>r<(Hk++Hd).length,⟨hh.wf,?_,rfl,htmps,hh.rows,hh.dead⟩,fun r hr=>hr,⟨fun b h=>⟨h,hh.wf.low b h,rfl⟩,Ext.refl _ _,fun b hb=>Or.inl hb⟩,[],rfl,List.nodup_nil,by simp⟩,fun t _=>rfl⟩
    show tm.size=fn.ntmps
    rw[htm,Array.size_append,Array.size_replicate,hsize];omega
  refine wpIn_mono (h J hJ hJ.ok (fun t=>tm.getD t undef) _ w hst) ?_
  rintro e a' w' ⟨T',H',q,hsg⟩
  have hfin : b3T P pins (P5 0 args) (Hk++Hd) fn.results.toList res (Hk'++Hn) T' H'->LeavesInM Fence.wide 0 P fn a'.tmps (fun e w'=>∃v ρ',e= .returned v/\a6W S0 w' ρ' (Hk'++Hn)/\e8 w' (Sx S0 ρ') ρ' (fun r=>r<(Hk'++Hn).length) res v/\
        (∀r l,r<Hk.length->ρ' r=some l->ρ r=some l)/\(∀b,own ρ' b->own ρ b∨w.heap.size<=b)/\Ext (own ρ) w w') a'.defers .returning w':=by
    rintro⟨g,hgn,hgy,hH,hpin,hr⟩
    have hsg':=hsg.sub hJ.ok ⟨a6I g hgn,hgy⟩
    rw[hH]at hsg'
    obtain⟨H2,hH2⟩:∃H2,H2=Hk'++Hn:=⟨_,rfl⟩
    rw[<-hH2]at hsg' hpin hr
    clear hH
    have hH:=hH2
    generalize b3L g T'=T' at hsg' hpin hr
    obtain⟨⟨S1,ρ1,L1,hc1,hL1,⟨hj1,hj2,hj3⟩,Ds,hds,hnd,hDs⟩,hkeep⟩:=hsg'
    rw[hds,show Ds.map a0t++J.base=Ds.map a0t from List.append_nil _]
    refine a0k Ds w' hnd (fun D hD=>(hDs D hD).2.2) (fun w'' hx hsz=>?_)
    have hc2:N8 a0s S1 fn.ntmps w'' ρ1 L1 (i8 T') (g8 H2) (a2u a'):=hc1.foreign hx.size (fun b hb hn=>hx.block b hb (fun hD=>hn (hDs b hD).1)) (fun b hb=>⟨by rw[hsz];exact hc1.wf.low b hb,Or.inl hb⟩)
    obtain⟨xs,vs',h1,h2,h3,h4,h5⟩:=I3 hc2 fn.results.toList _ hr
    have hm:(fn.results.mapM fun(x:ResultVar)=>(match x with
        | .tmp t=>pure (a'.tmps.getD t undef)
        | .cell ad t=>do loadVar t (<-asAddr (a'.tmps.getD ad undef)):Sem Value)).run P w''= .ok vs'.toArray w'':=by
      rw[Array.mapM_eq_mapM_toList,Sem.run_map]
      have h1':(fn.results.toList.mapM fun(x:ResultVar)=>(match x with
        | .tmp t=>pure (a'.tmps.getD t undef)
        | .cell ad t=>do loadVar t (<-asAddr (a'.tmps.getD ad undef)):Sem Value)).run P w''= .ok vs' w'':=h1
      rw[h1'];rfl
    have hrun:(results fn a'.tmps).run P w''= .ok (if h:vs'.toArray.size=1 then vs'.toArray[0]else .tuple vs'.toArray) w'':=by
      unfold results
      rw[Sem.run_bind]
      exact congrArg (fun(r:Result (Array Value))=>r.andThen fun a w'=>Sem.run P (pure (if h:a.size=1 then a[0]else Value.tuple a)) w') hm
    have hSx:∀b,¬Sx S1 ρ1 b->¬Sx S0 ρ1 b:=by
      rintro b hn (h|h)
      · exact hn (Or.inl (hj1 b h).1)
      · exact hn (Or.inr h)
    have hLb:∀r,L1 r->r<(Hk'++Hn).length:=fun r hr=>by rw[<-hH];exact hL1 r hr
    have hrows:∀r row,g8 (Hk'++Hn) r=some row->∃l,ρ1 r=some l/\i7 w'' (Sx S0 ρ1) ρ1 (fun r=>r<(Hk'++Hn).length) l row:=by
      intro r row hr
      obtain⟨l,g1,g2⟩:=hc2.rows r row (by rw[hH];exact hr)
      exact⟨l,g1,g2.ext (qo _) (fun b _ hn=>⟨rfl,hSx b hn⟩) hLb (fun r l _ h=>h) (fun _ _=>rfl)⟩
    have hold:∀b,b<w.heap.size->¬own ρ b->w''.heap[b]?=w.heap[b]?:=by
      intro b hb hno
      rw[hx.block b (qq hb hj2.size) (fun hD=>?_),hj2.block b hb (by rintro(h|h);exact hno h;omega)]
      have:=(hDs b hD).2.1.2
      omega
    have hcells:∀(b:Nat) c t s,w.heap[b]?=some (Obj.cells c t s)->∃c' t' s',w''.heap[b]?=some (Obj.cells c' t' s')/\c'.size=c.size:=(hj2.trans (hx.mono (M':=fun b=>own ρ b∨w.heap.size<=b) (fun b _ hD=>Or.inr (hDs b hD).2.1.2))).cells
    refine⟨_,hrun,_,ρ1,rfl,⟨⟨hc2.wf.inj,fun r l b g1 g2=>?_,fun r l g1=>hLb r (hc2.wf.given r l g1),fun b hb=>?_,fun _ _=>trivial⟩,hrows,fun r hr=>hc2.dead r (by rw[hH];exact hr)⟩,?_,?_,hj3,?_⟩
    · obtain⟨g3,g4,_⟩:=hc2.wf.own r l b g1 g2
      exact⟨g3,fun h=>g4 (hj1 b h).1,trivial⟩
    · exact qq (hj1 b hb).2.1 (Nat.le_of_eq hsz.symm)
    · rw[<-h5]
      have hz:e8 w'' (Sx S1 ρ1) ρ1 L1 (r9 xs) (if h:vs'.toArray.size=1 then vs'.toArray[0]else .tuple vs'.toArray):=by
        match xs,vs',h2,h3 with
        |[],[],_,_=>simp only[r9];rw[dif_neg (by simp)];exact .tup [] [] rfl (by simp)
        |[x],[v],_,h3=>simp only[r9];rw[dif_pos (by simp)];exact h3 0 x v rfl rfl
        |x::y::xs,v::u::vs',h2,h3=>simp only[r9];rw[dif_neg (by simp)];exact .tup _ (v::u::vs') h2 h3
      exact hz.ext (qo _) (fun b _ hn=>⟨rfl,hSx b hn⟩) hLb (fun r l _ h=>h)
    · intro r l' hrk hl'
      obtain⟨t,ht⟩:∃t,pins[r]?=some t:=⟨_,qc (by omega)⟩
      obtain⟨p1,p2,p3⟩:=a6N hpin ht
      rw[Nat.zero_add]at p1 p3
      have hv:=hc2.tmps t
      rw[p2]at hv
      have hk:=hkeep t (qd ht)
      have hv':(a2u a').tmps.getD t undef=tm.getD t undef:=hk
      rw[hv']at hv
      cases h0:g8 (Hk++Hd) r with
      |none=>rw[h0]at p3;simp only[A1]at p3
      | some row=>
        cases row with
        | map=>
          rw[h0]at p3
          cases h8:g8 H2 r with
          |none=>have:=hc2.dead r h8;rw[this]at hl';cases hl'
          |some row'=>rw[h8]at p3;simp only[A1]at p3
        | itr=>
          rw[h0]at p3
          cases h8:g8 H2 r with
          |none=>have:=hc2.dead r h8;rw[this]at hl';cases hl'
          |some row'=>rw[h8]at p3;simp only[A1]at p3
        | mpa=>
          rw[h0]at p3
          cases h8:g8 H2 r with
          |none=>have:=hc2.dead r h8;rw[this]at hl';cases hl'
          |some row'=>rw[h8]at p3;simp only[A1]at p3
        | els sz es=>
          rw[h0]at p3
          cases h8:g8 H2 r with
          |none=>have:=hc2.dead r h8;rw[this]at hl';cases hl'
          | some row'=>
            rw[h8]at p3
            cases row' with
            |map=>simp only[A1]at p3
            |itr=>simp only[A1]at p3
            |mpa=>simp only[A1]at p3
            | els sz' es'=>
              simp only[A1]at p3
              subst p3
              obtain⟨l,g1,g2⟩:=hh.rows r _ h0
              obtain⟨l2,g3,g4⟩:=hc2.rows r _ h8
              rw[hl']at g3
              simp only[qb]at g3
              subst g3
              rw[a4R p1 (htmps t) hv g1 hl' g2 g4 hcells (fun b hb hn=>hold b hb (fun⟨r,l,k1,k2⟩=>hn (Or.inr ⟨r,l,k1,k2⟩)))];exact g1
    · have he:=hj2.trans (hx.mono (M':=fun b=>own ρ b∨w.heap.size<=b) (fun b _ hD=>Or.inr (hDs b hD).2.1.2))
      exact⟨he.os,he.tape,he.output,he.size,hold,he.cells⟩
  cases e with
  |ret=>exact hfin q
  |normal=>exact hfin q
  |exit id=>exact q.elim
  |goto l=>exact q.elim
  |panic ch=>exact q.elim
  |outgrown=>exact q.elim
end
end Go.AM
namespace Go.AM
theorem a3l:∀(l:List MapEntry) (i:Nat) (e:MapEntry),(l.map (·.born)).Nodup->l[i]?=some e->l.filter (fun x=> !(x.born==e.born))=l.eraseIdx i
 |[],i,e,_,h=>by simp at h
 |x::l,0,e,hn,h=>by
  simp only[List.getElem?_cons_zero,qb]at h;subst h;simp only[List.map_cons,List.nodup_cons]at hn;simp only[List.filter_cons,beq_self_eq_true,Bool.not_true,Bool.false_eq_true,if_false,List.eraseIdx_cons_zero];rw[List.filter_eq_self];intro y hy;have:y.born≠x.born:=fun e=>hn.1 (by rw[<-e];exact qu hy);simp[this]
 |x::l,i+1,e,hn,h=>by
  simp only[List.getElem?_cons_succ]at h;simp only[List.map_cons,List.nodup_cons]at hn;have hx:x.born≠e.born:=fun k=>hn.1 (by rw[k];exact qu (qd h));have ih:=a3l l i e hn.2 h;have hb:(!(x.born==e.born))=true:=by simp[hx]
  rw[List.filter_cons,if_pos hb,ih,List.eraseIdx_cons_succ]
theorem O3 {α β:Type} (f:α->β):∀(l:List α) (j:Nat),(l.eraseIdx j).map f=(l.map f).eraseIdx j
 |[],_=>by simp
 |_::_,0=>by simp
 |x::l,j+1=>by simp[O3 f l j]
section
variable {P:Program} {nt:Nat}
theorem b8A {w:World} {S:Nat->Prop} {b:Nat} {ag:Bool} {kts:List KT} {left:List (List KC×Value)} {cur:Option (List KC×Value)} (h:a5R w S b ag kts left cur) (hSb:S b) (ty:TypeId):
  (left=[]/\(Instr.next (.pointer (some ⟨b,0,none⟩)) false ty).run P w= .ok (.tuple #[.bool false]) w)∨
  ∃i p,left[i]?=some p/\∃(w1:World) (ob:Obj),(w1=w∨w1=w.drew)/\(Instr.next (.pointer (some ⟨b,0,none⟩)) false ty).run P w= .ok (.tuple #[.bool true,g9 ag p.1,p.2]) {w1 with heap:=w1.heap.setIfInBounds b ob}/\
   (∀c t s,w.heap[b]?≠some (Obj.cells c t s))/\a5R {w1 with heap:=w1.heap.setIfInBounds b ob} S b ag kts (left.eraseIdx i) (some p):=by
 obtain⟨mb,since,seen,c0,es,clock,h1,h2,h3,h4,h5,h6,h7,h8,h9,h10⟩:=h;have hne:b≠mb:=by rintro rfl;exact h2 hSb
 have hlt:b<w.heap.size:=(Array.getElem?_eq_some_iff.1 h1).1
 rcases run_next_at w ty b mb since c0 seen es clock h1 h4 h7 h5.1 with⟨k1,k2⟩|⟨e,he,w1,hw1,hrun⟩
 ·left
  refine⟨?_,k2⟩;have:(leftOf es seen).toList.length=0:=by rw[Array.length_toList];exact k1
  have h8':=congrArg List.length h8;simp only[List.length_map]at h8';exact List.eq_nil_of_length_eq_zero (by omega)
 ·right
  obtain⟨i,hi⟩:=List.getElem?_of_mem he;have hi2:((leftOf es seen).toList.map (fun e=>(e.key,e.val)))[i]?=some (e.key,e.val):=by rw[qe,hi];rfl
  rw[h8,qe,qf]at hi2;obtain⟨p,hp,hpe⟩:=hi2;simp only[qr]at hpe;have hm:=mem_left he;refine⟨i,p,hp,w1, .mapIter (some mb) since (seen.push e.born) clock,hw1,?_,?_,?_⟩
  ·rw[hpe.1,hpe.2];exact hrun
  ·intro c t s hc;rw[h1]at hc;cases hc
  ·have hheap:w1.heap=w.heap:=by rcases hw1 with rfl|rfl<;>rfl
   refine⟨mb,since,seen.push e.born,clock,es,clock,?_,h2,?_,?_,?_,h6,h7,?_,?_,?_⟩
   ·show(w1.heap.setIfInBounds b _)[b]?=_;rw[hheap];simp[hlt]
   ·show mb<(w1.heap.setIfInBounds b _).size;rw[hheap];simpa using h3
   ·show(w1.heap.setIfInBounds b _)[mb]?=_;rw[hheap,Array.getElem?_setIfInBounds_ne hne];exact h4
   ·exact⟨h5.2,h5.2⟩
   ·have hl:(leftOf es (seen.push e.born)).toList=(leftOf es seen).toList.eraseIdx i:=by
     have hnd:((leftOf es seen).toList.map (·.born)).Nodup:=by
      unfold leftOf;rw[Array.toList_filter];exact List.Nodup.sublist ((List.filter_sublist).map _) h6
     rw[<-a3l _ i e hnd hi];unfold leftOf;simp only[Array.toList_filter,List.filter_filter]
     congr 1
     funext x
     rw[contains_push]
     cases seen.contains x.born<;>cases (x.born==e.born)<;>rfl
    rw[hl,O3,h8,O3]
   ·intro q hq;exact h9 q (List.mem_of_mem_eraseIdx hq)
   ·intro q hq;simp only[qb]at hq;subst hq;exact⟨e,hm.1,seen,rfl,rfl,hpe.1.symm,hpe.2.symm⟩
theorem SG.next {J:Jt} (hJ:JOk J) {o:Oper} {kp:List Nat} {kv:Nat->Value} {T:Tm} {H:Hp} {a:Act} {w:World} (hs:SG J nt kp kv T H a w) (hnt:nt<=999999) {it:Operand} {r:Nat} {ag:Bool} {kts:List KT} {left:List (List KC×Value)} {cur:Option (List KC×Value)}
  (ho:o.op= .next it false) (hx:evT (i8 T) it= .ptr r 0 0) (hr:g8 H r=some (.itr ag kts left cur)) (hrl:r<H.length)
  (hd:∀d,o.dst=some d->d<nt) (hkp:∀d,o.dst=some d->∀t∈kp,d≠t) {K:Act->World->Prop} {Q:Exit->Act->World->Prop}
  (h0:left=[]->∀a' w',SG J nt kp kv (a2t T o.dst (.tup [.v (.bool false)])) H a' w'->K a' w')
  (h1:∀i p,left[i]?=some p->∀a' w',SG J nt kp kv (a2t T o.dst (.tup [.v (.bool true), .v (g9 ag p.1), .v p.2])) (p9 H r (some (.itr ag kts (left.eraseIdx i) (some p)))) a' w'->K a' w'):o.wp P a w K Q:=by
 obtain⟨⟨S0,ρ,L,hc,hL,hj,hm⟩,hk⟩:=hs;obtain⟨l,hl,b,hb,ho0,hrep⟩:=hc.rows r _ hr;have hy:a.eval it= .pointer (some ⟨b,0,none⟩):=by
  have he:=L6 (a:=a) hc.tmps it;rw[hx]at he;generalize a.eval it=y at he
  cases he with
  |pure _ _ h=>cases h
  |ptr _ _ _ y q1 q2 q3=>
   obtain⟨b',hb',hy⟩:=q3 l hl;rw[hb]at hb';simp only[qb]at hb';subst hb';rw[hy,ho0];simp
 have hSb:Sx S0 ρ b:=Or.inr ⟨r,l,hl,hb⟩
 rcases b8A (P:=P) hrep hSb o.type with⟨k1,k2⟩|⟨i,p,hp,w1,ob,hw1,hrun,hnc,hrep'⟩
 ·unfold Oper.wp;have:(execOp a.eval o).run P w= .ok (.value (.tuple #[.bool false])) w:=by
   simp only[execOp,ho,hy,Sem.run_bind,k2,Result.andThen_ok,Sem.run_pure]
  rw[this];refine h0 k1 _ _ (SG.post (e:=⟨.tup [.v (.bool false)],[],[]⟩) hJ hc hL hj hm hk hnt (a1u hc.wf ?_) hd hkp trivial rfl);exact .pure _ _ (.tup _ [.bool false] rfl (fun i c y q1 q2=>by
   match i with
   |0=>simp at q1 q2;subst q1 q2;exact .v _
   |n+1=>simp at q1))
 ·unfold Oper.wp;have:(execOp a.eval o).run P w= .ok (.value (.tuple #[.bool true,g9 ag p.1,p.2])) {w1 with heap:=w1.heap.setIfInBounds b ob}:=by
   simp only[execOp,ho,hy,Sem.run_bind,hrun,Result.andThen_ok,Sem.run_pure]
  rw[this];have hheap:w1.heap=w.heap:=by rcases hw1 with rfl|rfl<;>rfl
  have hos:w1.os=w.os/\w1.tape=w.tape/\w1.output=w.output:=by rcases hw1 with rfl|rfl<;>exact⟨rfl,rfl,rfl⟩
  have hsize:({w1 with heap:=w1.heap.setIfInBounds b ob}:World).heap.size=w.heap.size:=by simp[hheap]
  have hother:∀k,k≠b->({w1 with heap:=w1.heap.setIfInBounds b ob}:World).heap[k]?=w.heap[k]?:=by
   intro k hk;show(w1.heap.setIfInBounds b ob)[k]?=_;rw[hheap,Array.getElem?_setIfInBounds_ne (Ne.symm hk)]
  have hin:a1v H [(r,some (n9.itr ag kts (left.eraseIdx i) (some p)))]:=⟨Nat.le_of_lt hrl,trivial⟩;refine h1 i p hp _ _ (SG.post (e:=⟨.tup [.v (.bool true), .v (g9 ag p.1), .v p.2],[(r,some (.itr ag kts (left.eraseIdx i) (some p)))],[]⟩) (ρ':=ρ) hJ hc hL hj hm hk hnt ?_ hd hkp hin rfl);exact
   {wf:=⟨hc.wf.inj,fun r l b h1 h2=>by rw[hsize];exact hc.wf.own r l b h1 h2,fun r l h1=>Or.inl (hc.wf.given r l h1),fun b h=>by rw[hsize];exact hc.wf.low b h,fun b h=>trivial⟩
    rep:= .pure _ _ (.tup _ [.bool true,g9 ag p.1,p.2] rfl (fun i c y q1 q2=>by
     match i with
     |0=>simp at q1 q2;subst q1 q2;exact .v _
     |1=>simp at q1 q2;subst q1 q2;exact .v _
     |2=>simp at q1 q2;subst q1 q2;exact .v _
     |n+3=>simp at q1))
    ups:=by
     intro r' o' hm;simp only[List.mem_singleton,qr]at hm;obtain⟨rfl,rfl⟩:=hm;exact⟨l,hl,b,hb,ho0,hrep'⟩
    others:=fun r _=>rfl
    only:=fun r l hl=>Or.inl hl
    ext:=⟨hos.1,hos.2.1,hos.2.2,by omega,fun k hk hm=>hother k (by rintro rfl;exact hm ⟨r,l,some (.itr ag kts (left.eraseIdx i) (some p)),by simp,hl,hb⟩),fun k c t s hc=>by
     by_cases e:k=b
     ·subst e;exact absurd hc (hnc c t s)
     ·exact⟨c,t,s,(hother k e).trans hc,rfl⟩⟩}
theorem c4d {ro:Option Nat} {J:Jt} {kp:List Nat} {T:Tm} {H:Hp} {Q:Exit->Tm->Hp->Prop} {id:Nat} {o:Oper} {l:List Oper} {y:Code} {dsts:List (Option Tmp)} (it:Operand) (r:Nat) {ag:Bool} {kts:List KT} {left:List (List KC×Value)} {cur:Option (List KC×Value)}
  (hd:(o::l).map (·.dst)=dsts) (hnt:nt<=999999) (hkp:z6 kp dsts=true) (hnd:(o::l).all o4=true) (ho:o.op= .next it false) (hg:o.guard=none) (hdk:b3a nt o.dst)
  (hx:evT (i8 T) it= .ptr r 0 0) (hr:g8 H r=some (.itr ag kts left cur))
  (h0:left=[]->∀K:Tm->Hp->Prop,(∀T' H',GWp P ro J nt kp y T' H' Q->K T' H')->H4 P nt dsts l (a2t T o.dst (.tup [.v (.bool false)])) H K)
  (h1:∀i p,left[i]?=some p->∀K:Tm->Hp->Prop,(∀T' H',GWp P ro J nt kp y T' H' Q->K T' H')->H4 P nt dsts l (a2t T o.dst (.tup [.v (.bool true), .v (g9 ag p.1), .v p.2])) (p9 H r (some (.itr ag kts (left.eraseIdx i) (some p)))) K):
  GWp P ro J nt kp (.seq (.region id (o::l).toArray false) y) T H Q:=by
 refine a2w ?_;intro hJ kv a w hs;refine wpIn_region_lit ?_;have hrl:r<H.length:=by
  rcases Nat.lt_or_ge r H.length with h|h
  ·exact h
  ·rw[a1P H r h]at hr;cases hr
 have hall:=qn.1 hnd;have hrest:∀o'∈l,o4 o'=true/\o'.dst∈dsts:=fun o' ho'=>⟨hall o' (by simp[ho']),by rw[<-hd];exact qu (by simp[ho'])⟩;have hdst:o.dst∈dsts:=by rw[<-hd];exact qu (by simp)
 have snd:=fun T H a w=>S2 (P:=P) (ro:=ro) (QQ:=fun e a' w'=>∃T' H',Z3 (fun T' H'=>GWp P ro J nt kp y T' H' Q) Q e T' H'/\SG J nt kp kv T' H' a' w') hJ hnt (ops:=(o::l).toArray) (dsts:=dsts) (K:=fun T' H'=>GWp P ro J nt kp y T' H' Q) (by intro j;rw[<-hd,qe,List.getElem?_toArray]) hkp (fun T H a w q s=>⟨T,H,q,s⟩) l hrest T H a w;have:=hs.next (P:=P) (o:=o) (K:=fun a w=>wpListIn (fr ro) 0 P (o::l).toArray (fun e a' w'=>∃T' H',Z3 (fun T' H'=>GWp P ro J nt kp y T' H' Q) Q e T' H'/\SG J nt kp kv T' H' a' w') l a w) (Q:=fun e a' w'=>∃T' H',Z3 (fun T' H'=>GWp P ro J nt kp y T' H' Q) Q e T' H'/\SG J nt kp kv T' H' a' w')
  hJ hnt ho hx hr hrl (fun d hd=>by rw[hd]at hdk;exact hdk) (fun d hd'=>I4 hkp (by rw[<-hd'];exact hdst))
  (fun hl0 a' w' hs'=>snd _ _ a' w' (h0 hl0 _ fun _ _ h=>h) hs') (fun i p hp a' w' hs'=>snd _ _ a' w' (h1 i p hp _ fun _ _ h=>h) hs')
 unfold wpListIn
 split
 ·exact B9 (hall o (by simp)) this
 ·rename_i hw;exact absurd (by simp[Region.wanted,hg]) hw
end
end Go.AM
namespace Go.AM
section
variable {P:Program}
theorem a2d {fn:Func} {tmps:Array Value} {R:Ending->World->Prop} {ch:List PanicEntry}:∀(Ds:List Nat) (w':World),Ds.Nodup->(∀D∈Ds,w'.heap[D]?=some (.deferred (some [])))->
  (∀w'',Ext (fun b=>b∈Ds) w' w''->w''.heap.size=w'.heap.size->R (.panicked ch) w'')->LeavesInM Fence.wide 0 P fn tmps R (Ds.map a0t) (.panicking ch) w'
 |[],w',_,_,h=>h w' (Ext.refl _ _) rfl
 |D::Ds,w',hn,hD,h=>by
  rw[List.nodup_cons]at hn;refine⟨by simp,Or.inl ⟨D,_,rfl,run_takeDeferred (hD D (by simp)),?_⟩⟩;refine a2d Ds _ hn.2 (fun D' hD'=>?_) (fun w'' hx hs=>h w'' ?_ ?_)
  ·rw[World.putObj_heap_other (fun e=>hn.1 (by rw[<-e];exact hD'))];exact hD D' (by simp[hD'])
  ·exact(U8 (B:=fun b=>b∈D::Ds) (by simp) (by intro c t s h;rw[hD D (by simp)]at h;cases h)).trans (hx.mono fun b _ hb=>by simp[hb])
  ·rw[hs];simp
def l8 (P:Program) (f:FuncId) (args:List AV) (Hk Hd:Hp) (v:Value) (Hk' Hn:Hp):Prop:=
 (∀ (w:World) (vs:Array Value),(callFunc f vs).run P w= .ok (.enter f vs) w)/\Hk.length=Hk'.length/\
  ∀ (S0:Nat->Prop) (w:World) (ρ:Nat->Option AM.Loc) (vs:List Value),a6W S0 w ρ (Hk++Hd)->args.length=vs.length->
   (∀(i:Nat) c x,args[i]?=some c->vs[i]?=some x->e8 w (Sx S0 ρ) ρ (fun r=>r<(Hk++Hd).length) c x)->
   Calls P f vs.toArray w fun e w'=>e= .panicked [{v:=v,recovered:=false}]/\∃ρ',a6W S0 w' ρ' (Hk'++Hn)/\
    (∀r l,r<Hk.length->ρ' r=some l->ρ r=some l)/\(∀b,own ρ' b->own ρ b∨w.heap.size<=b)/\Ext (own ρ) w w'
def c6n (pins:List Nat) (T0:Tm) (H0:Hp) (H':Hp) (T:Tm) (H:Hp):Prop:=
 ∃g,N5 g=true/\i8 (b3L g T) 999999=i8 T 999999/\b4a H g=H'/\c3m T0 H0 (b3L g T) H' 0 pins
def c7L (pins:List Nat) (T0:Tm) (H0:Hp) (v:Value) (H':Hp):Exit->Tm->Hp->Prop
 | .panic ch,T,H=>ch=[{v:=v,recovered:=false}]/\c6n pins T0 H0 H' T H
 |_,_,_=>False
theorem l8.of_bodyG {f : FuncId} {fn : Func} {c : Code} {args : List AV} {Hk Hd : Hp} {v : Value} {Hk' Hn : Hp} (pins : List Nat) (hf : P.funcs[f]? = some fn) (hb : fn.body = some c) (hname : (fn.name == "runtime.NumGoroutine") = false) (hnt : args.length <= fn.ntmps) (hlk : Hk.length = Hk'.length) (hpl : pins.length = Hk.length)
    (h:∀J:Jt,JC true J->GWp P none J fn.ntmps pins c (P5 0 args) (Hk++Hd) (c7L pins (P5 0 args) (Hk++Hd) v (Hk'++Hn))):l8 P f args Hk Hd v Hk' Hn:=by
  have hn' : ¬ fn.name = "runtime.NumGoroutine" := by simpa using hname
  refine⟨fun w vs=>by simp[callFunc,hf,hn',hb],hlk,?_⟩
  intro S0 w ρ vs hh hlen hrep
  refine callsIn_wide.1 (callsIn_of_wp_marks (n:=0) (F:=Fence.wide) hf hb trivial ?_)
  have hsize:vs.toArray.size=args.length:=by simp[hlen]
  let J:Jt:=JR true w S0 (fun b=>w.heap[b]?) (fun b=>own ρ b∨w.heap.size<=b)
  have hJ:JC true J:=⟨w,S0,_,_,fun b h=>Or.inr h,hh.wf.low,rfl⟩
  obtain⟨tm,htm⟩:∃tm,tm=vs.toArray++Array.replicate (fn.ntmps-vs.toArray.size) undef:=⟨_,rfl⟩
  have htmps:∀t,e8 w (Sx S0 ρ) ρ (fun r=>r<(Hk++Hd).length) (i8 (P5 0 args) t) (tm.getD t undef):=by
    intro t
    rw[a0C]
    cases hx:args[t]? with
    |none=>exact .pure _ _ (.any _)
    | some x=>
      have ht:t<args.length:=(qa.1 hx).1
      have ht':t<vs.length:=by omega
      have g8:tm.getD t undef=vs[t]:=by
        rw[htm,qt,Array.getElem?_append_left (by simpa using ht')]
        simp[ht']
      rw[g8]
      exact hrep t x _ hx (qc ht')
  have hst:SG J fn.ntmps pins (fun t=>tm.getD t undef) (P5 0 args) (Hk++Hd) {tmps:=vs.toArray++Array.replicate (fn.ntmps-vs.toArray.size) undef,defers:=[]} w:=by
    rw[<-htm]
    refine⟨⟨S0,ρ,fun r=>r<(Hk++Hd).length,⟨hh.wf,?_,rfl,htmps,hh.rows,hh.dead⟩,fun r hr=>hr,⟨fun b h=>⟨h,hh.wf.low b h,rfl⟩,Ext.refl _ _,fun b hb=>Or.inl hb⟩,[],rfl,List.nodup_nil,by simp⟩,fun t _=>rfl⟩
    show tm.size=fn.ntmps
    rw[htm,Array.size_append,Array.size_replicate,hsize];omega
  refine wpIn_mono (h J hJ hJ.ok (fun t=>tm.getD t undef) _ w hst) ?_
  rintro e a' w' ⟨T',H',q,hsg⟩
  have hfin : ∀ch,ch=[{v:=v,recovered:=false}]->c6n pins (P5 0 args) (Hk++Hd) (Hk'++Hn) T' H'->LeavesInM Fence.wide 0 P fn a'.tmps (fun e w'=>e= .panicked [{v:=v,recovered:=false}]/\∃ρ',a6W S0 w' ρ' (Hk'++Hn)/\
        (∀r l,r<Hk.length->ρ' r=some l->ρ r=some l)/\(∀b,own ρ' b->own ρ b∨w.heap.size<=b)/\Ext (own ρ) w w') a'.defers (.panicking ch) w':=by
    rintro ch rfl ⟨g,hgn,hgy,hH,hpin⟩
    have hsg':=hsg.sub hJ.ok ⟨a6I g hgn,hgy⟩
    rw[hH]at hsg'
    obtain⟨H2,hH2⟩:∃H2,H2=Hk'++Hn:=⟨_,rfl⟩
    rw[<-hH2]at hsg' hpin
    clear hH
    have hH:=hH2
    generalize b3L g T'=T' at hsg' hpin
    obtain⟨⟨S1,ρ1,L1,hc1,hL1,⟨hj1,hj2,hj3⟩,Ds,hds,hnd,hDs⟩,hkeep⟩:=hsg'
    rw[hds,show Ds.map a0t++J.base=Ds.map a0t from List.append_nil _]
    refine a2d Ds w' hnd (fun D hD=>(hDs D hD).2.2) (fun w'' hx hsz=>?_)
    have hc2:N8 a0s S1 fn.ntmps w'' ρ1 L1 (i8 T') (g8 H2) (a2u a'):=hc1.foreign hx.size (fun b hb hn=>hx.block b hb (fun hD=>hn (hDs b hD).1)) (fun b hb=>⟨by rw[hsz];exact hc1.wf.low b hb,Or.inl hb⟩)
    have hSx:∀b,¬Sx S1 ρ1 b->¬Sx S0 ρ1 b:=by
      rintro b hn (h|h)
      · exact hn (Or.inl (hj1 b h).1)
      · exact hn (Or.inr h)
    have hLb:∀r,L1 r->r<(Hk'++Hn).length:=fun r hr=>by rw[<-hH];exact hL1 r hr
    have hrows:∀r row,g8 (Hk'++Hn) r=some row->∃l,ρ1 r=some l/\i7 w'' (Sx S0 ρ1) ρ1 (fun r=>r<(Hk'++Hn).length) l row:=by
      intro r row hr
      obtain⟨l,g1,g2⟩:=hc2.rows r row (by rw[hH];exact hr)
      exact⟨l,g1,g2.ext (qo _) (fun b _ hn=>⟨rfl,hSx b hn⟩) hLb (fun r l _ h=>h) (fun _ _=>rfl)⟩
    have hold:∀b,b<w.heap.size->¬own ρ b->w''.heap[b]?=w.heap[b]?:=by
      intro b hb hno
      rw[hx.block b (qq hb hj2.size) (fun hD=>?_),hj2.block b hb (by rintro(h|h);exact hno h;omega)]
      have:=(hDs b hD).2.1.2
      omega
    have hcells:∀(b:Nat) c t s,w.heap[b]?=some (Obj.cells c t s)->∃c' t' s',w''.heap[b]?=some (Obj.cells c' t' s')/\c'.size=c.size:=(hj2.trans (hx.mono (M':=fun b=>own ρ b∨w.heap.size<=b) (fun b _ hD=>Or.inr (hDs b hD).2.1.2))).cells
    refine⟨rfl,ρ1,⟨⟨hc2.wf.inj,fun r l b g1 g2=>?_,fun r l g1=>hLb r (hc2.wf.given r l g1),fun b hb=>?_,fun _ _=>trivial⟩,hrows,fun r hr=>hc2.dead r (by rw[hH];exact hr)⟩,?_,hj3,?_⟩
    · obtain⟨g3,g4,_⟩:=hc2.wf.own r l b g1 g2
      exact⟨g3,fun h=>g4 (hj1 b h).1,trivial⟩
    · exact qq (hj1 b hb).2.1 (Nat.le_of_eq hsz.symm)
    · intro r l' hrk hl'
      obtain⟨t,ht⟩:∃t,pins[r]?=some t:=⟨_,qc (by omega)⟩
      obtain⟨p1,p2,p3⟩:=a6N hpin ht
      rw[Nat.zero_add]at p1 p3
      have hv:=hc2.tmps t
      rw[p2]at hv
      have hk:=hkeep t (qd ht)
      have hv':(a2u a').tmps.getD t undef=tm.getD t undef:=hk
      rw[hv']at hv
      cases h0:g8 (Hk++Hd) r with
      |none=>rw[h0]at p3;simp only[A1]at p3
      | some row=>
        cases row with
        | map=>
          rw[h0]at p3
          cases h8:g8 H2 r with
          |none=>have:=hc2.dead r h8;rw[this]at hl';cases hl'
          |some row'=>rw[h8]at p3;simp only[A1]at p3
        | itr=>
          rw[h0]at p3
          cases h8:g8 H2 r with
          |none=>have:=hc2.dead r h8;rw[this]at hl';cases hl'
          |some row'=>rw[h8]at p3;simp only[A1]at p3
        | mpa=>
          rw[h0]at p3
          cases h8:g8 H2 r with
          |none=>have:=hc2.dead r h8;rw[this]at hl';cases hl'
          |some row'=>rw[h8]at p3;simp only[A1]at p3
        | els sz es=>
          rw[h0]at p3
          cases h8:g8 H2 r with
          |none=>have:=hc2.dead r h8;rw[this]at hl';cases hl'
          | some row'=>
            rw[h8]at p3
            cases row' with
            |map=>simp only[A1]at p3
            |itr=>simp only[A1]at p3
            |mpa=>simp only[A1]at p3
            | els sz' es'=>
              simp only[A1]at p3
              subst p3
              obtain⟨l,g1,g2⟩:=hh.rows r _ h0
              obtain⟨l2,g3,g4⟩:=hc2.rows r _ h8
              rw[hl']at g3
              simp only[qb]at g3
              subst g3
              rw[a4R p1 (htmps t) hv g1 hl' g2 g4 hcells (fun b hb hn=>hold b hb (fun⟨r,l,k1,k2⟩=>hn (Or.inr ⟨r,l,k1,k2⟩)))];exact g1
    · have he:=hj2.trans (hx.mono (M':=fun b=>own ρ b∨w.heap.size<=b) (fun b _ hD=>Or.inr (hDs b hD).2.1.2))
      exact⟨he.os,he.tape,he.output,he.size,hold,he.cells⟩
  cases e with
  |ret=>exact q.elim
  |normal=>exact q.elim
  |exit id=>exact q.elim
  |goto l=>exact q.elim
  |panic ch=>exact hfin ch q.1 q.2
  |outgrown=>exact q.elim
theorem A6 {ro:Option Nat} {J:Jt} {nt:Nat} {kp:List Nat} (hJ:JOk J) (hnt:nt<=999999) {ops:Array Oper} {dsts:List (Option Tmp)} (hd:∀j:Nat,dsts[j]?=(ops[j]?).map (·.dst)) (hkp:z6 kp dsts=true) {kv:Nat->Value} {QQ:Exit->Act->World->Prop} {K:Tm->Hp->Prop} {tail:List Oper}
  (hK:∀T H a w,K T H->SG J nt kp kv T H a w->wpListIn (fr ro) 0 P ops QQ tail a w):∀(l:List Oper) (hl:∀o∈l,o4 o=true/\o.dst∈dsts) (T:Tm) (H:Hp) (a:Act) (w:World),H4 P nt dsts l T H K->SG J nt kp kv T H a w->wpListIn (fr ro) 0 P ops QQ (l++tail) a w
 |[],_,T,H,a,w,h,hs=>hK T H a w h hs
 | o::rest,hl,T,H,a,w,h,hs=>by
  obtain⟨e,hst,h1,h2,h3,h4⟩:=G2 hd h (fun _=>trivial);have:=hs.step (K:=wpListIn (fr ro) 0 P ops QQ (rest++tail)) (Q:=QQ) hJ hnt hst (fun d hd=>by rw[hd]at h1;exact h1) (fun d hd'=>I4 hkp (by rw[<-hd'];exact(hl o (by simp)).2)) h2 h3
   (fun a' w' hs'=>A6 hJ hnt hd hkp hK rest (fun o ho=>hl o (by simp[ho])) _ _ a' w' h4 hs')
  rw[List.cons_append];unfold wpListIn
  split
  ·rename_i hw;rw[if_pos hw]at this;exact B9 (hl o (by simp)).1 this
  ·rename_i hw;rw[if_neg hw]at this;exact⟨fun _ _=>trivial,this⟩
def b7O (o:Oper) (ev:Operand->AV):Option (FuncId×List AV):=match o.op with
 | .call c=>match c.callee with
  | .value x=>match ev x with
   | .clo f caps=>some (f,c.args.toList.map ev++caps)
   | .bnd f bs=>some (f,bs++c.args.toList.map ev)
   |_=>none
  |_=>none
 |_=>none
theorem b1G {o:Oper} {ev:Operand->AV} {H:Nat->Option n9} {f:FuncId} {raw:List AV} (h:b7O o ev=some (f,raw)):U6 P o ev H f raw []/\o4 o=true:=by
 unfold b7O at h
 split at h
 ·rename_i c ho;obtain⟨callee,args,ts⟩:=c;refine⟨?_,by simp[o4,ho]⟩
  split at h
  ·rename_i x hx;simp only at hx;subst hx
   split at h
   ·rename_i f' caps hev;simp only[qb,qr]at h;obtain⟨rfl,rfl⟩:=h;exact a3t ho hev
   ·rename_i f' bs hev;simp only[qb,qr]at h;obtain⟨rfl,rfl⟩:=h;exact a5V ho hev
   ·cases h
  ·cases h
 ·cases h
def c1B (P:Program) (o:Oper) (T:Tm) (H:Hp) (Q:Exit->Tm->Hp->Prop):Prop:=
 ∃(f:FuncId) (raw:List AV) (gk gd:List Nat) (Hk Hd Hk' Hn:Hp) (pv:Value),b7O o (evT (i8 T))=some (f,raw)/\a3g (gk++gd) H.length=true/\Hk++Hd=(gk++gd).map (fun r=>(g8 H r).map (C2 ((gk++gd).map some)))/\gk.length=Hk.length/\(Hk++Hd).all Option.isSome=true/\
  l8 P f (raw.map (p5 ((gk++gd).map some) 40)) Hk Hd pv Hk' Hn/\a1v H (r6 (C5 gk H.length Hn.length) gk Hk'++(v7 gd++y7 (C5 gk H.length Hn.length) H.length Hn))/\
  I6 (r6 (C5 gk H.length Hn.length) gk Hk'++(v7 gd++y7 (C5 gk H.length Hn.length) H.length Hn))=true/\Q (.panic [{v:=pv,recovered:=false}]) T (a5W H (r6 (C5 gk H.length Hn.length) gk Hk'++(v7 gd++y7 (C5 gk H.length Hn.length) H.length Hn)))
theorem v8 {o:Oper} {T:Tm} {H:Hp} {Q:Exit->Tm->Hp->Prop} (gk gd:List Nat) (bg:List (Option Nat)) {f:FuncId} {raw args':List AV} {Hk Hd Hk' Hn:Hp} {pv:Value} (h:l8 P f args' Hk Hd pv Hk' Hn)
  (hraw:b7O o (evT (i8 T))=some (f,raw)) (hnd:a3g (gk++gd) H.length=true) (hbg:C5 gk H.length Hn.length=bg) (ha:raw.map (p5 ((gk++gd).map some) 40)=args') (hH:(gk++gd).map (fun r=>(g8 H r).map (C2 ((gk++gd).map some)))=Hk++Hd)
  (hkl:gk.length=Hk.length) (hall:(Hk++Hd).all Option.isSome=true) (hin:a1v H (r6 bg gk Hk'++(v7 gd++y7 bg H.length Hn))) (ho:I6 (r6 bg gk Hk'++(v7 gd++y7 bg H.length Hn))=true)
  (hq:Q (.panic [{v:=pv,recovered:=false}]) T (a5W H (r6 bg gk Hk'++(v7 gd++y7 bg H.length Hn)))):c1B P o T H Q:=by
 subst hbg ha;exact⟨f,raw,gk,gd,Hk,Hd,Hk',Hn,pv,hraw,hnd,hH.symm,hkl,hall,h,hin,ho,hq⟩
theorem a9b {g:List Nat} {N:Nat} (h:a3g g N=true):g.Nodup/\∀r∈g,r<N:=by
 simp only[a3g,qh,decide_eq_true_eq,qn]at h;exact h
theorem b3K {ro:Option Nat} {J:Jt} {nt:Nat} {kp:List Nat} {T:Tm} {H:Hp} {Q:Exit->Tm->Hp->Prop} {id:Nat} {l:List Oper} {o:Oper} {dsts:List (Option Tmp)} (hd:(l++[o]).map (·.dst)=dsts) (hnt:nt<=999999) (hkp:z6 kp dsts=true) (hnd:l.all o4=true) (hg:o.guard=none)
  (h:H4 P nt dsts l T H (fun T' H'=>c1B P o T' H' Q)):GWp P ro J nt kp (.region id (l++[o]).toArray false) T H Q:=by
 intro hJ kv a w hs;refine wpIn_region_lit ?_;refine A6 (tail:=[o]) hJ hnt (ops:=(l++[o]).toArray) (dsts:=dsts) (K:=fun T' H'=>c1B P o T' H' Q) (by intro j;rw[<-hd,qe,List.getElem?_toArray]) hkp ?_ l (fun o' ho=>⟨qn.1 hnd o' ho,by rw[<-hd];exact qu (List.mem_append_left _ ho)⟩) T H a w h hs;rintro T1 H1 a1 w1 ⟨f,raw,gk,gd,Hk,Hd,Hk',Hn,pv,hraw,hnod,hH,hkl,hall,hmp,hin,honce,hq⟩ hs1;obtain⟨hop,hndo⟩:=b1G (H:=g8 H1) hraw;obtain⟨hno,hlt⟩:=a9b hnod;obtain⟨⟨S0,ρ,L,hc,hL,hj,hm⟩,hk⟩:=hs1;refine wpListIn_plain hg fun K hK=>B9 hndo ?_;have hops:∀x∈o.op.operands,e8 w1 (Sx S0 ρ) ρ L (evT (i8 T1) x) (a1.eval x):=fun x _=>L6 (a:=a1) hc.tmps x;obtain⟨vs,h1,h2⟩:=a9s (E:=fun e v=>e= .panicked [{v:=pv,recovered:=false}]) (res:= .any) (rdx:=[]) (RR:=gk++gd) (N:=H1.length) hop (by simp) (fun r hr=>hr) (by simp) hno hlt hH hkl (fun y hy=>qn.1 hall y hy) hmp.1 hmp.2.1 (by
  intro B S0 w ρ L vs hw _ hheld hl hreps;refine(hmp.2.2 _ w _ vs hheld (by simp[hl]) (fun i c y h1 h2=>?_)).mono ?_
  ·simp only[qe,qf]at h1;obtain⟨c',h1,rfl⟩:=h1;refine(F6 (fun b=>a9U) 40 c' y (hreps i c' y h1 h2)).ext (qo _) (fun b _ hnb=>⟨rfl,hnb⟩) ?_ (fun r l _ h=>h);rintro r ⟨q,hq⟩;have:=(qa.1 hq).1;rw[hH];simpa using this
  ·rintro e w' ⟨he,ρ',hh,hkeep,hfresh,hext⟩;exact⟨undef,ρ',he,hh, .pure _ _ (.any _),hkeep,hfresh,hext⟩) a0s S0 a1 w1 ρ L hc.wf (by
  intro r hr _ hlr;exact Nat.lt_irrefl _ (Nat.lt_of_le_of_lt hr (hL r hlr))) hops (fun r _ row hr=>hc.rows r row hr)
 unfold Oper.wp;rw[h1,Oper.upon_enter];refine h2.mono fun e w' he=>?_;obtain⟨v,ρ',rfl,hp⟩:=he;refine⟨_,_,hq,?_⟩;have:=SG.post (dst:=none) hJ hc hL hj hm hk hnt hp (by simp) (by simp) hin honce;exact this
def knP (w:World) (S:Nat->Prop) (kn:List (List KC×AV×Value)):Prop:=∀x∈kn,r8 w S x.2.1 x.2.2
def b6J (J:Jt) (kn:List (List KC×AV×Value)):Jt:={J with rel:=fun y S0 O w=>J.rel y S0 O w/\knP w (fun b=>S0 b∨O b) kn}
def b0o (J:Jt) (kn:List (List KC×AV×Value)):Prop:=∀y S0 O w,J.rel y S0 O w->knP w (fun b=>S0 b∨O b) kn
theorem a4X (J:Jt) (kn:List (List KC×AV×Value)):b0o (b6J J kn) kn:=fun y S0 O w h=>h.2
theorem b7n {J:Jt} {kn:List (List KC×AV×Value)} (hJ:JOk J):JOk (b6J J kn):=by
 rintro y S0 O O' A A' ⟨h1,h2⟩ hlow hown hext hO;refine⟨hJ y S0 O O' A A' h1 hlow hown hext hO,fun x hx=>(h2 x hx).ext hext.size fun b hb hn=>⟨hext.block b hb (fun h=>hn (Or.inr h)),?_⟩⟩;rintro(h|h)
 ·exact hn (Or.inl h)
 ·rcases(hO b h).2 with h'|h'
  ·exact hn (Or.inr h')
  ·omega
theorem SG.unknow {J:Jt} {kn:List (List KC×AV×Value)} {nt:Nat} {kp:List Nat} {kv:Nat->Value} {T:Tm} {H:Hp} {a:Act} {w:World} (hs:SG (b6J J kn) nt kp kv T H a w):SG J nt kp kv T H a w:=by
 obtain⟨⟨S0,ρ,L,hc,hL,hj,hm⟩,hk⟩:=hs;exact⟨⟨S0,ρ,L,hc,hL,hj.1,hm⟩,hk⟩
theorem N8.row {B S0:Nat->Prop} {nt:Nat} {w:World} {ρ:Nat->Option Loc} {L:Nat->Prop} {T:Nat->AV} {H:Hp} {a:Act} (hc:N8 B S0 nt w ρ L T (g8 H) a) {r:Nat} {row row':n9} (hr:g8 H r=some row) (hlt:r<H.length)
  (h:∀l,ρ r=some l->i7 w (Sx S0 ρ) ρ L l row->i7 w (Sx S0 ρ) ρ L l row'):N8 B S0 nt w ρ L T (g8 (p9 H r (some row'))) a:=by
 refine⟨hc.wf,hc.size,hc.defers,hc.tmps,fun q row0 hq=>?_,fun q hq=>?_⟩
 ·rw[y5 H r _ q (Nat.le_of_lt hlt)]at hq
  split at hq
  ·rename_i e;subst e;simp only[qb]at hq;subst hq;obtain⟨l,h1,h2⟩:=hc.rows q row hr;exact⟨l,h1,h l h1 h2⟩
  ·exact hc.rows q row0 hq
 ·rw[y5 H r _ q (Nat.le_of_lt hlt)]at hq
  split at hq
  ·cases hq
  ·exact hc.dead q hq
theorem b8l {ro:Option Nat} {J:Jt} {nt:Nat} {kp:List Nat} {T:Tm} {H:Hp} {Q:Exit->Tm->Hp->Prop} {c:Code} (r:Nat) {ag:Bool} {kts:List KT} {kvs:List (List KC×AV)} (hr:g8 H r=some (.mpa ag kts kvs)) (hlt:r<H.length) (hp:∀p∈kvs,p.2.noRef 2=true)
  (h:∀kn:List (List KC×AV×Value),(kn.map fun x=>(x.1,x.2.1)).Perm kvs->(kvs.map (·.1)).Nodup->GWp P ro (b6J J kn) nt kp c T (p9 H r (some (.map ag kts (kn.map fun x=>(x.1,x.2.2))))) Q):GWp P ro J nt kp c T H Q:=by
 intro hJ kv a w hs;obtain⟨⟨S0,ρ,L,hc,hL,hj,hm⟩,hk⟩:=hs;obtain⟨l,hl,b,hb,vs,ks,h1,h2,h3,h4,h5⟩:=hc.rows r _ hr;obtain⟨kn,hkn⟩:∃kn:List (List KC×AV×Value),kn=(ks.zip vs).map fun x=>(x.1.1,x.1.2,x.2.2):=⟨_,rfl⟩;have e1:(kn.map fun x=>(x.1,x.2.1))=ks:=by
  rw[hkn,List.map_map];have:((fun x:List KC×AV×Value=>(x.1,x.2.1))∘fun x:(List KC×AV)×(List KC×Value)=>(x.1.1,x.1.2,x.2.2))=fun x=>x.1:=by funext x;rfl
  rw[this];have:=List.map_fst_zip (l₁:=ks) (l₂:=vs) (by omega);exact this
 have e2:(kn.map fun x=>(x.1,x.2.2))=vs:=by
  apply List.ext_getElem?;intro i;rw[hkn,List.map_map,qe]
  cases hv:vs[i]? with
  |none=>
   rw[List.getElem?_eq_none (by rw[List.length_zip];have:=List.getElem?_eq_none_iff.1 hv;omega)];rfl
  |some q=>
   obtain⟨p,hp'⟩:∃p,ks[i]?=some p:=⟨_,qc (by rw[h4];exact(qa.1 hv).1)⟩;have hz:(ks.zip vs)[i]?=some (p,q):=by rw[List.getElem?_zip_eq_some];exact⟨hp',hv⟩
   rw[hz];obtain⟨k1,_⟩:=h5 i p q hp' hv;simp[k1]
 have hk1:knP w (fun b=>S0 b∨own ρ b) kn:=by
  intro x hx;rw[hkn]at hx;obtain⟨z,hz,rfl⟩:=List.mem_map.1 hx;obtain⟨i,hi⟩:=List.getElem?_of_mem hz;rw[List.getElem?_zip_eq_some]at hi;obtain⟨_,k2⟩:=h5 i z.1 z.2 hi.1 hi.2;exact B7 2 _ _ (hp z.1 (h2.mem_iff.1 (qd hi.1))) k2
 have hs':SG (b6J J kn) nt kp kv T (p9 H r (some (.map ag kts (kn.map fun x=>(x.1,x.2.2))))) a w:=by
  refine⟨⟨S0,ρ,L,hc.row hr hlt fun l' hl' n8=>?_,fun q hq=>by rw[O4 H r _ hlt];exact hL q hq,⟨hj,hk1⟩,hm⟩,hk⟩;rw[hl]at hl';simp only[qb]at hl';subst hl';rw[e2];exact⟨b,hb,h1⟩
 exact wpIn_mono (h kn (by rw[e1];exact h2) h3 (b7n hJ) kv a w hs') fun e a' w' ⟨T',H',q,s⟩=>⟨T',H',q,s.unknow⟩
theorem b6W {ro:Option Nat} {J:Jt} {nt:Nat} {kp:List Nat} {T:Tm} {H:Hp} {Q:Exit->Tm->Hp->Prop} {c:Code} {kn:List (List KC×AV×Value)} (r:Nat) {ag:Bool} {kts:List KT} (kvs:List (List KC×AV)) (hkn:b0o J kn) (hr:g8 H r=some (.map ag kts (kn.map fun x=>(x.1,x.2.2)))) (hlt:r<H.length)
  (hp:(kn.map fun x=>(x.1,x.2.1)).Perm kvs) (hn:(kvs.map (·.1)).Nodup) (h:GWp P ro J nt kp c T (p9 H r (some (.mpa ag kts kvs))) Q):GWp P ro J nt kp c T H Q:=by
 intro hJ kv a w hs;refine h hJ kv a w ?_;obtain⟨⟨S0,ρ,L,hc,hL,hj,hm⟩,hk⟩:=hs;refine⟨⟨S0,ρ,L,hc.row hr hlt fun l hl n8=>?_,fun q hq=>by rw[O4 H r _ hlt];exact hL q hq,hj,hm⟩,hk⟩;obtain⟨b,hb,h1⟩:=n8;refine⟨b,hb,_,_,h1,hp,hn,by simp,fun i p q hp' hq=>?_⟩;rw[qe,qf]at hp' hq;obtain⟨x,hx,rfl⟩:=hp';obtain⟨y,hy,rfl⟩:=hq;rw[hx]at hy;simp only[qb]at hy;subst hy;exact⟨rfl, .pure _ _ (hkn _ _ _ _ hj x (qd hx))⟩
theorem a9R {nt:Nat} {T:Tm} {H:Hp} (r:Nat) {row row':n9} (hr:g8 H r=some row) (hlt:r<H.length) (h:∀w S ρ L l,i7 w S ρ L l row->i7 w S ρ L l row'):Sub nt T H T (p9 H r (some row')):=by
 rintro w0 B S0 a w ⟨⟨ρ,L,hc,hL⟩,hext⟩;exact⟨⟨ρ,L,hc.row hr hlt fun l _ n8=>h _ _ _ _ l n8,fun q hq=>by rw[O4 H r _ hlt];exact hL q hq⟩,hext⟩
theorem b9C {w:World} {S:Nat->Prop} {ρ:Nat->Option Loc} {L:Nat->Prop} {l:Loc} {ag:Bool} {kts:List KT} {kvs kvs':List (List KC×AV)} (hp:kvs.Perm kvs') (h:i7 w S ρ L l (.mpa ag kts kvs)):i7 w S ρ L l (.mpa ag kts kvs'):=by
 obtain⟨b,hb,vs,ks,h1,h2,h3,h4⟩:=h;exact⟨b,hb,vs,ks,h1,h2.trans hp,(hp.map _).nodup_iff.1 h3,h4⟩
theorem b0G {w:World} {S:Nat->Prop} {ρ:Nat->Option Loc} {L:Nat->Prop} {l:Loc} {ag:Bool} {kts:List KT} (h:i7 w S ρ L l (.map ag kts [])):i7 w S ρ L l (.mpa ag kts []):=by
 obtain⟨b,hb,h1⟩:=h;exact⟨b,hb,[],[],h1,List.Perm.refl _,by simp,rfl,by simp⟩
end
end Go.AM
namespace Go.AM
section
variable {P:Program}
theorem c2s {fn:Func} {args:List AV} {Hk Hd:Hp} {res:AV} {Hk' Hn:Hp} {pins:List Nat} (hlk:Hk.length=Hk'.length) (hpl:pins.length=Hk.length) {S0:Nat->Prop} {w:World} {ρ:Nat->Option Loc} {tm:Array Value} (hh:a6W S0 w ρ (Hk++Hd))
  (htmps:∀t,e8 w (Sx S0 ρ) ρ (fun r=>r<(Hk++Hd).length) (i8 (P5 0 args) t) (tm.getD t undef)) {T':Tm} {H':Hp} {a':Act} {w':World}
  (hsg:SG (JR true w S0 (fun b=>w.heap[b]?) (fun b=>own ρ b∨w.heap.size<=b)) fn.ntmps pins (fun t=>tm.getD t undef) T' H' a' w') (hq:b3T P pins (P5 0 args) (Hk++Hd) fn.results.toList res (Hk'++Hn) T' H'):
  ∃v,(results fn a'.tmps).run P w'= .ok v w'/\∃v' ρ',Ending.returned v= .returned v'/\a6W S0 w' ρ' (Hk'++Hn)/\e8 w' (Sx S0 ρ') ρ' (fun r=>r<(Hk'++Hn).length) res v'/\
   (∀r l,r<Hk.length->ρ' r=some l->ρ r=some l)/\(∀b,own ρ' b->own ρ b∨w.heap.size<=b)/\Ext (own ρ) w w':=by
 obtain⟨g,hgn,hgy,hH,hpin,hr⟩:=hq;have hJ:JC true (JR true w S0 (fun b=>w.heap[b]?) (fun b=>own ρ b∨w.heap.size<=b)):=⟨w,S0,_,_,fun b h=>Or.inr h,hh.wf.low,rfl⟩;have hsg':=hsg.sub hJ.ok ⟨a6I g hgn,hgy⟩;rw[hH]at hsg';obtain⟨H2,hH2⟩:∃H2,H2=Hk'++Hn:=⟨_,rfl⟩;rw[<-hH2]at hsg' hpin hr;clear hH;have hH:=hH2;generalize b3L g T'=T' at hsg' hpin hr;obtain⟨⟨S1,ρ1,L1,hc1,hL1,⟨hj1,hj2,hj3⟩,Ds,hds,hnd,hDs⟩,hkeep⟩:=hsg';obtain⟨w'',hw⟩:∃w'',w''=w':=⟨_,rfl⟩;have hx:Ext (fun b=>b∈Ds) w' w'':=by rw[hw];exact Ext.refl _ _
 have hsz:w''.heap.size=w'.heap.size:=by rw[hw]
 have hgoal:∀R:Prop,R->R:=fun R h=>h;rw[<-hw];have hc2:N8 a0s S1 fn.ntmps w'' ρ1 L1 (i8 T') (g8 H2) (a2u a'):=hc1.foreign hx.size (fun b hb hn=>hx.block b hb (fun hD=>hn (hDs b hD).1)) (fun b hb=>⟨by rw[hsz];exact hc1.wf.low b hb,Or.inl hb⟩);obtain⟨xs,vs',h1,h2,h3,h4,h5⟩:=I3 hc2 fn.results.toList _ hr;have hm:(fn.results.mapM fun(x:ResultVar)=>(match x with
   | .tmp t=>pure (a'.tmps.getD t undef)
   | .cell ad t=>do loadVar t (<-asAddr (a'.tmps.getD ad undef)):Sem Value)).run P w''= .ok vs'.toArray w'':=by
  rw[Array.mapM_eq_mapM_toList,Sem.run_map];have h1':(fn.results.toList.mapM fun(x:ResultVar)=>(match x with
   | .tmp t=>pure (a'.tmps.getD t undef)
   | .cell ad t=>do loadVar t (<-asAddr (a'.tmps.getD ad undef)):Sem Value)).run P w''= .ok vs' w'':=h1
  rw[h1'];rfl
 have hrun:(results fn a'.tmps).run P w''= .ok (if h:vs'.toArray.size=1 then vs'.toArray[0]else .tuple vs'.toArray) w'':=by
  unfold results;rw[Sem.run_bind];exact congrArg (fun(r:Result (Array Value))=>r.andThen fun a w'=>Sem.run P (pure (if h:a.size=1 then a[0]else Value.tuple a)) w') hm
 have hSx:∀b,¬Sx S1 ρ1 b->¬Sx S0 ρ1 b:=by
  rintro b hn (h|h)
  ·exact hn (Or.inl (hj1 b h).1)
  ·exact hn (Or.inr h)
 have hLb:∀r,L1 r->r<(Hk'++Hn).length:=fun r hr=>by rw[<-hH];exact hL1 r hr
 have hrows:∀r row,g8 (Hk'++Hn) r=some row->∃l,ρ1 r=some l/\i7 w'' (Sx S0 ρ1) ρ1 (fun r=>r<(Hk'++Hn).length) l row:=by
  intro r row hr;obtain⟨l,g1,g2⟩:=hc2.rows r row (by rw[hH];exact hr);exact⟨l,g1,g2.ext (qo _) (fun b _ hn=>⟨rfl,hSx b hn⟩) hLb (fun r l _ h=>h) (fun _ _=>rfl)⟩
 have hold:∀b,b<w.heap.size->¬own ρ b->w''.heap[b]?=w.heap[b]?:=by
  intro b hb hno;rw[hx.block b (qq hb hj2.size) (fun hD=>?_),hj2.block b hb (by rintro(h|h);exact hno h;omega)];have:=(hDs b hD).2.1.2;omega
 have hcells:∀(b:Nat) c t s,w.heap[b]?=some (Obj.cells c t s)->∃c' t' s',w''.heap[b]?=some (Obj.cells c' t' s')/\c'.size=c.size:=(hj2.trans (hx.mono (M':=fun b=>own ρ b∨w.heap.size<=b) (fun b _ hD=>Or.inr (hDs b hD).2.1.2))).cells;refine⟨_,hrun,_,ρ1,rfl,⟨⟨hc2.wf.inj,fun r l b g1 g2=>?_,fun r l g1=>hLb r (hc2.wf.given r l g1),fun b hb=>?_,fun _ _=>trivial⟩,hrows,fun r hr=>hc2.dead r (by rw[hH];exact hr)⟩,?_,?_,hj3,?_⟩
 ·obtain⟨g3,g4,_⟩:=hc2.wf.own r l b g1 g2;exact⟨g3,fun h=>g4 (hj1 b h).1,trivial⟩
 ·exact qq (hj1 b hb).2.1 (Nat.le_of_eq hsz.symm)
 ·rw[<-h5];have hz:e8 w'' (Sx S1 ρ1) ρ1 L1 (r9 xs) (if h:vs'.toArray.size=1 then vs'.toArray[0]else .tuple vs'.toArray):=by
   match xs,vs',h2,h3 with
   |[],[],_,_=>simp only[r9];rw[dif_neg (by simp)];exact .tup [] [] rfl (by simp)
   |[x],[v],_,h3=>simp only[r9];rw[dif_pos (by simp)];exact h3 0 x v rfl rfl
   |x::y::xs,v::u::vs',h2,h3=>simp only[r9];rw[dif_neg (by simp)];exact .tup _ (v::u::vs') h2 h3
  exact hz.ext (qo _) (fun b _ hn=>⟨rfl,hSx b hn⟩) hLb (fun r l _ h=>h)
 ·intro r l' hrk hl';obtain⟨t,ht⟩:∃t,pins[r]?=some t:=⟨_,qc (by omega)⟩;obtain⟨p1,p2,p3⟩:=a6N hpin ht;rw[Nat.zero_add]at p1 p3;have hv:=hc2.tmps t;rw[p2]at hv;have hk:=hkeep t (qd ht);have hv':(a2u a').tmps.getD t undef=tm.getD t undef:=hk;rw[hv']at hv
  cases h0:g8 (Hk++Hd) r with
  |none=>rw[h0]at p3;simp only[A1]at p3
  | some row=>
   cases row with
   |map=>
    rw[h0]at p3
    cases h8:g8 H2 r with
    |none=>have:=hc2.dead r h8;rw[this]at hl';cases hl'
    |some row'=>rw[h8]at p3;simp only[A1]at p3
   |itr=>
    rw[h0]at p3
    cases h8:g8 H2 r with
    |none=>have:=hc2.dead r h8;rw[this]at hl';cases hl'
    |some row'=>rw[h8]at p3;simp only[A1]at p3
   |mpa=>
    rw[h0]at p3
    cases h8:g8 H2 r with
    |none=>have:=hc2.dead r h8;rw[this]at hl';cases hl'
    |some row'=>rw[h8]at p3;simp only[A1]at p3
   | els sz es=>
    rw[h0]at p3
    cases h8:g8 H2 r with
    |none=>have:=hc2.dead r h8;rw[this]at hl';cases hl'
    | some row'=>
     rw[h8]at p3
     cases row' with
     |map=>simp only[A1]at p3
     |itr=>simp only[A1]at p3
     |mpa=>simp only[A1]at p3
     |els sz' es'=>
      simp only[A1]at p3;subst p3;obtain⟨l,g1,g2⟩:=hh.rows r _ h0;obtain⟨l2,g3,g4⟩:=hc2.rows r _ h8;rw[hl']at g3;simp only[qb]at g3;subst g3;rw[a4R p1 (htmps t) hv g1 hl' g2 g4 hcells (fun b hb hn=>hold b hb (fun⟨r,l,k1,k2⟩=>hn (Or.inr ⟨r,l,k1,k2⟩)))];exact g1
 ·have he:=hj2.trans (hx.mono (M':=fun b=>own ρ b∨w.heap.size<=b) (fun b _ hD=>Or.inr (hDs b hD).2.1.2));exact⟨he.os,he.tape,he.output,he.size,hold,he.cells⟩
def a4j (P:Program) (d:Deferred) (u:FrameMode) (w:World) (R:World->Prop):Prop:=
 u≠ .run/\∃fv cap f args,d.target= .fn fv cap/\(invoke d.target d.args).run P w= .ok (.enter f args) w/\
  CallsDIn Fence.wide 0 P f args u w (fun e u' w1=>(∃v,e= .returned v)/\settle u'= .returning/\R w1)
theorem a4j.leaves {fn:Func} {tmps:Array Value} {d:Deferred} {u:FrameMode} {w:World} {R:World->Prop} {R':Ending->World->Prop} (h:a4j P d u w R) (hr:∀w1,R w1->∃v,(results fn tmps).run P w1= .ok v w1/\R' (.returned v) w1):LeavesInM Fence.wide 0 P fn tmps R' [d] u w:=by
 obtain⟨hu,fv,cap,f,args,h1,h2,h3⟩:=h;refine⟨hu,Or.inr ⟨by intro h;simp[Fence.wide]at h,fv,cap,f,args,h1,h2,fun _ _=>trivial,?_⟩⟩;refine⟨h3.1,fun c cs hc hroom=>?_⟩;obtain⟨e,u',w',fr,⟨⟨v,rfl⟩,h5,h6⟩,h7⟩:=h3.2 c cs hc hroom;refine⟨_,u',w',fr,?_,h7⟩;show LeavesInM Fence.wide 0 P fn tmps R' [] (settle u') w';rw[h5];exact hr w' h6
def c5t (P:Program) (R:Act->World->Prop):Exit->Act->World->Prop
 | .normal,a,w=>∃d,a.defers=[d]/\a4j P d .returning w (R {a with defers:=[]})
 | .ret,a,w=>∃d,a.defers=[d]/\a4j P d .returning w (R {a with defers:=[]})
 | .panic ch,a,w=>∃d,a.defers=[d]/\a4j P d (.panicking ch) w (R {a with defers:=[]})
 |_,_,_=>False
theorem c7.of_exitD {f : FuncId} {fn : Func} {c : Code} {args : List AV} {Hk Hd : Hp} {res : AV} {Hk' Hn : Hp} (pins : List Nat) (hf : P.funcs[f]? = some fn) (hb : fn.body = some c) (hname : (fn.name == "runtime.NumGoroutine") = false) (hnt : args.length <= fn.ntmps) (hlk : Hk.length = Hk'.length) (hpl : pins.length = Hk.length)
  (h:∀J:Jt,JC true J->J.base=[]->∀kv a w,SG J fn.ntmps pins kv (P5 0 args) (Hk++Hd) a w->a.defers=[]->c.wpIn (fr none) 0 P (c5t P fun a' w1=>∃T' H',SG J fn.ntmps pins kv T' H' a' w1/\b3T P pins (P5 0 args) (Hk++Hd) fn.results.toList res (Hk'++Hn) T' H') a w):c7 P f args Hk Hd res Hk' Hn:=by
 have hn' : ¬ fn.name = "runtime.NumGoroutine" := by simpa using hname
 refine⟨fun w vs=>by simp[callFunc,hf,hn',hb],hlk,?_⟩;intro S0 w ρ vs hh hlen hrep;refine callsIn_wide.1 (callsIn_of_wp_marks (n:=0) (F:=Fence.wide) hf hb trivial ?_);have hsize:vs.toArray.size=args.length:=by simp[hlen]
 let J:Jt:=JR true w S0 (fun b=>w.heap[b]?) (fun b=>own ρ b∨w.heap.size<=b)
 have hJ:JC true J:=⟨w,S0,_,_,fun b h=>Or.inr h,hh.wf.low,rfl⟩;obtain⟨tm,htm⟩:∃tm,tm=vs.toArray++Array.replicate (fn.ntmps-vs.toArray.size) undef:=⟨_,rfl⟩;have htmps:∀t,e8 w (Sx S0 ρ) ρ (fun r=>r<(Hk++Hd).length) (i8 (P5 0 args) t) (tm.getD t undef):=by
  intro t;rw[a0C]
  cases hx:args[t]? with
  |none=>exact .pure _ _ (.any _)
  | some x=>
   have ht:t<args.length:=(qa.1 hx).1;have ht':t<vs.length:=by omega
   have g8:tm.getD t undef=vs[t]:=by
    rw[htm,qt,Array.getElem?_append_left (by simpa using ht')];simp[ht']
   rw[g8];exact hrep t x _ hx (qc ht')
 have hst:SG J fn.ntmps pins (fun t=>tm.getD t undef) (P5 0 args) (Hk++Hd) {tmps:=vs.toArray++Array.replicate (fn.ntmps-vs.toArray.size) undef,defers:=[]} w:=by
  rw[<-htm];refine⟨⟨S0,ρ,fun r=>r<(Hk++Hd).length,⟨hh.wf,?_,rfl,htmps,hh.rows,hh.dead⟩,fun r hr=>hr,⟨fun b h=>⟨h,hh.wf.low b h,rfl⟩,Ext.refl _ _,fun b hb=>Or.inl hb⟩,[],rfl,List.nodup_nil,by simp⟩,fun t _=>rfl⟩;show tm.size=fn.ntmps;rw[htm,Array.size_append,Array.size_replicate,hsize];omega
 refine wpIn_mono (h J hJ rfl (fun t=>tm.getD t undef) _ w hst rfl) ?_;rintro e a' w' hq;have fin:∀u,(∃d,a'.defers=[d]/\a4j P d u w' (fun w1=>∃T' H',SG J fn.ntmps pins (fun t=>tm.getD t undef) T' H' {a' with defers:=[]} w1/\b3T P pins (P5 0 args) (Hk++Hd) fn.results.toList res (Hk'++Hn) T' H'))->
   LeavesInM Fence.wide 0 P fn a'.tmps (fun e w'=>∃v ρ',e= .returned v/\a6W S0 w' ρ' (Hk'++Hn)/\e8 w' (Sx S0 ρ') ρ' (fun r=>r<(Hk'++Hn).length) res v/\
    (∀r l,r<Hk.length->ρ' r=some l->ρ r=some l)/\(∀b,own ρ' b->own ρ b∨w.heap.size<=b)/\Ext (own ρ) w w') a'.defers u w':=by
  rintro u ⟨d,h1,h2⟩;rw[h1];refine h2.leaves fun w1 ⟨T',H',hsg,hend⟩=>?_;exact c2s (a':={a' with defers:=[]}) hlk hpl hh htmps hsg hend
 cases e with
 |ret=>exact fin _ hq
 |normal=>exact fin _ hq
 |exit id=>exact hq.elim
 |goto l=>exact hq.elim
 |panic ch=>exact fin _ hq
 |outgrown=>exact hq.elim
structure b4c (P:Program) (g:FuncId) (ty:TypeId):Prop where
 enter:∀(w:World) (vs:Array Value),(callFunc g vs).run P w= .ok (.enter g vs) w
 calm:∀(v:Value) (w:World),CallsDIn Fence.wide 0 P g #[v] .returning w (fun e u w1=>(∃x,e= .returned x)/\u= .returning/\w1=w)
 caught:∀{J:Jt} {nt:Nat} {kp:List Nat} {kv:Nat->Value} {T:Tm} {H:Hp} {a:Act} {w:World} (t r:Nat) (row:List AV) (x y:Value),JOk J->nt<=999999->SG J nt kp kv T H a w->i8 T t= .ptr r 0 0->g8 H r=some (.els 2 [row])->row.length=2->x.oneCell'=true->y.oneCell'=true->
  CallsDIn Fence.wide 0 P g #[a.tmps.getD t undef] (.panicking [{v:= .iface ty (.agg #[x,y]),recovered:=false}]) w (fun e u w1=>(∃x,e= .returned x)/\settle u= .returning/\SG J nt kp kv T (p9 H r (some (.els 2 [[.v x, .v y]]))) a w1)
def c6l (P:Program) (pins:List Nat) (T0:Tm) (H0:Hp) (rs:List ResultVar) (res:AV) (H':Hp) (ty:TypeId) (t:Nat):Exit->Tm->Hp->Prop
 | .normal,T,H=>b3T P pins T0 H0 rs res H' T H
 | .ret,T,H=>b3T P pins T0 H0 rs res H' T H
 | .panic ch,T,H=>∃(r:Nat) (row:List AV) (x y:Value),ch=[{v:= .iface ty (.agg #[x,y]),recovered:=false}]/\i8 T t= .ptr r 0 0/\g8 H r=some (.els 2 [row])/\row.length=2/\x.oneCell'=true/\y.oneCell'=true/\
   b3T P pins T0 H0 rs res H' T (p9 H r (some (.els 2 [[.v x, .v y]])))
 |_,_,_=>False
theorem CallsDIn.monoW {f:FuncId} {args:Array Value} {u:FrameMode} {w:World} {R R':Ending->FrameMode->World->Prop} (h:CallsDIn Fence.wide 0 P f args u w R) (hr:∀e u' w',R e u' w'->R' e u' w'):CallsDIn Fence.wide 0 P f args u w R':=
 ⟨h.1,fun c cs hc hroom=>let ⟨e,u',w',fr,r,rest⟩:=h.2 c cs hc hroom;⟨e,u',w',fr,hr _ _ _ r,rest⟩⟩
theorem c7.of_bodyD {f : FuncId} {fn : Func} {id id1 : Nat} {l : List Oper} {od : Oper} {rest : Code} {args : List AV} {Hk Hd : Hp} {res : AV} {Hk' Hn : Hp} {g : FuncId} {ty : TypeId} {ts : Array TypeId} {dsts : List (Option Tmp)} (t : Nat) (pins : List Nat) (hf : P.funcs[f]? = some fn) (hb : fn.body = some (.seq (.region id l.toArray false) (.seq (.region id1 [od].toArray false) rest))) (hname : (fn.name == "runtime.NumGoroutine") = false) (hnt : args.length <= fn.ntmps) (hnt9 : fn.ntmps <= 999999) (hlk : Hk.length = Hk'.length) (hpl : pins.length = Hk.length)
  (hc:b4c P g ty) (hd:l.map (·.dst)=dsts) (hkp:z6 pins dsts=true) (hnd:l.all o4=true) (hod:od.op= .defer {callee:= .value (.func g),args:= #[.tmp t],argTypes:=ts}) (hdst:od.dst=none) (hg:od.guard=none)
  (h:∀K:Tm->Hp->Prop,(∀T1 H1,(∀J:Jt,JOk J->GWp P none J fn.ntmps (t::pins) rest T1 H1 (c6l P pins (P5 0 args) (Hk++Hd) fn.results.toList res (Hk'++Hn) ty t))->K T1 H1)->H4 P fn.ntmps dsts l (P5 0 args) (Hk++Hd) K):c7 P f args Hk Hd res Hk' Hn:=by
 refine c7.of_exitD pins hf hb hname hnt hlk hpl fun J hJ hJb kv a w hs hdf=>?_;refine wpIn_seq (wpIn_region_lit ?_)
 let d:Value->Deferred:=fun v=>⟨.fn (.func g) #[], #[v]⟩
 let J0:Jt:={J with base:=[],mark:=fun _=>False}
 let J':Value->Jt:=fun v=>{J with base:=[d v],mark:=fun _=>False}
 have hJ0:JOk J0:=hJ.ok;have hJ':∀v,JOk (J' v):=fun v=>hJ.ok;have hs0:SG J0 fn.ntmps pins kv (P5 0 args) (Hk++Hd) a w:=by
  obtain⟨⟨S0,ρ,L,hc1,hL1,hj1,_⟩,hk1⟩:=hs;exact⟨⟨S0,ρ,L,hc1,hL1,hj1,[],by simp[hdf,J0],List.nodup_nil,by simp⟩,hk1⟩
 refine S2 hJ0 hnt9 (ops:=l.toArray) (dsts:=dsts) (K:=fun T1 H1=>∀J:Jt,JOk J->GWp P none J fn.ntmps (t::pins) rest T1 H1 (c6l P pins (P5 0 args) (Hk++Hd) fn.results.toList res (Hk'++Hn) ty t)) (by intro j;rw[<-hd,qe,List.getElem?_toArray]) hkp ?_ l
  (fun o' ho=>⟨qn.1 hnd o' ho,by rw[<-hd];exact qu ho⟩) _ _ a w (h _ fun _ _ h=>h) hs0
 rintro T1 H1 a1 w1 hq ⟨⟨S0,ρ,L,hc1,hL1,hj1,Ds,hds,_,hDs⟩,hk1⟩;have hDs0:Ds=[]:=by
  cases Ds with
  |nil=>rfl
  |cons D Ds=>exact(hDs D (by simp)).2.1.elim
 have hd1:a1.defers=[]:=by rw[hds,hDs0];rfl
 obtain⟨v,hv⟩:∃v,v=a1.tmps.getD t undef:=⟨_,rfl⟩;refine wpIn_seq (wpIn_region_lit ?_);refine wpListIn_plain hg fun K hK=>?_;have hrun:(execOp a1.eval od).run P w1= .ok (.defer (d v)) w1:=by
  simp[execOp,hod,resolve,Deferred.ofValue,Act.eval,d,hv]
 refine⟨fun _ _=>trivial,?_⟩;rw[show(fr none).round=none from rfl,Oper.semAt_none,hrun];refine hK _ _ ?_;rw[hdst];have hs2:SG (J' v) fn.ntmps (t::pins) (fun q=>a1.tmps.getD q undef) T1 H1 {a1 with defers:=[d v]} w1:=
  ⟨⟨S0,ρ,L,hc1,hL1,hj1,[],rfl,List.nodup_nil,by simp⟩,fun _ _=>rfl⟩
 have hact:({a1 with defers:=d v::a1.defers}:Act).put none undef={a1 with defers:=[d v]}:=by rw[hd1];rfl
 rw[hact];refine wpIn_mono (hq (J' v) (hJ' v) (hJ' v) _ _ w1 hs2) ?_;have strip:∀{T:Tm} {H:Hp} {a':Act} {w':World},SG (J' v) fn.ntmps (t::pins) (fun q=>a1.tmps.getD q undef) T H a' w'->SG J fn.ntmps pins kv T H {a' with defers:=[]} w':=by
  rintro T H a' w' ⟨⟨S0,ρ,L,k1,k2,k3,_⟩,k4⟩;exact⟨⟨S0,ρ,L,k1,k2,k3,[],by simp[hJb],List.nodup_nil,by simp⟩,fun p hp=>(k4 p (by simp[hp])).trans (hk1 p hp)⟩
 rintro e a' w' ⟨T',H',q,s⟩;have hdd:a'.defers=[d v]:=by
  obtain⟨⟨_,_,_,_,_,_,Ds,k1,_,k2⟩,_⟩:=s
  cases Ds with
  |nil=>exact k1
  |cons D Ds=>exact(k2 D (by simp)).2.1.elim
 have hvt:a'.tmps.getD t undef=v:=(s.keep t (by simp)).trans hv.symm;have calm:b3T P pins (P5 0 args) (Hk++Hd) fn.results.toList res (Hk'++Hn) T' H'->a4j P (d v) .returning w' (fun w1=>∃T' H',SG J fn.ntmps pins kv T' H' {a' with defers:=[]} w1/\b3T P pins (P5 0 args) (Hk++Hd) fn.results.toList res (Hk'++Hn) T' H'):=by
  intro hend;refine⟨by simp, .func g, #[],g, #[v],rfl,by simp[d,invoke,hc.enter],CallsDIn.monoW (hc.calm v w') ?_⟩;rintro e u' w2 ⟨h1,rfl,rfl⟩;exact⟨h1,rfl,T',H',strip s,hend⟩
 cases e with
 |ret=>exact⟨d v,hdd,calm q⟩
 |normal=>exact⟨d v,hdd,calm q⟩
 |exit id=>exact q.elim
 |goto l=>exact q.elim
 |panic ch=>
  obtain⟨r,row,x,y,rfl,q1,q2,q3,q4,q5,q6⟩:=q;refine⟨d v,hdd,by simp, .func g, #[],g, #[v],rfl,by simp[d,invoke,hc.enter],?_⟩;have:=hc.caught t r row x y (hJ' v) hnt9 s q1 q2 q3 q4 q5;rw[hvt]at this;refine CallsDIn.monoW this ?_;rintro e u' w2 ⟨h1,h2,h3⟩;exact⟨h1,h2,T',_,strip h3,q6⟩
 |outgrown=>exact q.elim
theorem b9E {J:Jt} (hJ:JOk J) {nt:Nat} (hnt:nt<=999999) {kp:List Nat} {kv:Nat->Value} {T:Tm} {H:Hp} {a:Act} {w:World} (hs:SG J nt kp kv T H a w) {t r:Nat} {ty:TypeId} {row:List AV} {x y:Value} (ht:i8 T t= .ptr r 0 0) (hr:g8 H r=some (.els 2 [row])) (hlt:r<H.length) (n8:row.length=2)
  (hx:x.oneCell'=true) (hy:y.oneCell'=true) (hty:d6 P ty≠ .bad) (hsz:(d6 P ty).size=2):∃w2,(Instr.storeAt ty (a.tmps.getD t undef) (.agg #[x,y])).run P w= .ok () w2/\SG J nt kp kv T (p9 H r (some (.els 2 [[.v x, .v y]]))) a w2:=by
 let o : Oper := { op := .store ty (.tmp t) (.const (.agg #[x, y])), dst := none, guard := none, type := ty, pos := "", after := #[] }
 have hok:p6 P o (evT (i8 T)) (g8 H) H.length ⟨.any,[(r,some (.els 2 [[.v x, .v y]]))],[r]⟩:=by
  have:=b2t (P:=P) (o:=o) (ev:=evT (i8 T)) (H:=g8 H) (N:=H.length) (t:=ty) (p:= .tmp t) (x:= .const (.agg #[x,y])) (r:=r) (i:=0) (off:=0) (sz:=2) (es:=[row]) (e:=row) (cs:=[.v x, .v y]) rfl hty ht hr rfl (by simp[evT,a4h,hx,hy,AV.cells]) (by rw[hsz];rfl) (by rw[n8];exact qo _);have hd:List.drop 2 row=[]:=List.drop_eq_nil_of_le (by omega);simpa [a0v,hd]using this
 obtain⟨⟨S0,ρ,L,hc,hL,hj,hm⟩,hk⟩:=hs;have hw:=hok a0s S0 a w ρ L hc.wf (by intro q hq _ hlq;exact Nat.lt_irrefl _ (Nat.lt_of_le_of_lt hq (hL q hlq))) (fun z _=>L6 (a:=a) hc.tmps z) (fun r _ row hr=>hc.rows r row hr) (fun a' w'=>a'=a/\SG J nt kp kv T (p9 H r (some (.els 2 [[.v x, .v y]]))) a w') (fun _ _ _=>False) (fun v w' ρ' hp=>?_)
 ·unfold Oper.wp at hw;have hrun:(execOp a.eval o).run P w=((Instr.storeAt ty (a.tmps.getD t undef) (.agg #[x,y])).run P w).andThen fun _ w'=> .ok .skip w':=by
   simp[o,execOp,Act.eval]
  rw[hrun]at hw
  cases hst:(Instr.storeAt ty (a.tmps.getD t undef) (.agg #[x,y])).run P w with
  |ok u w2=>
   rw[hst]at hw;exact⟨w2,rfl,hw.2⟩
  |halt z w2=>
   rw[hst]at hw
   cases z<;>first|exact hw.elim|simp[Oper.upon]at hw
 ·refine⟨rfl,?_⟩;exact SG.post (dst:=none) hJ hc hL hj hm hk hnt hp (by simp) (by simp) ⟨Nat.le_of_lt hlt,trivial⟩ rfl
theorem a1c {ro:Option Nat} {J:Jt} {nt:Nat} {kp:List Nat} {T:Tm} {H:Hp} {Q:Exit->Tm->Hp->Prop} {id:Nat} {ops:List Oper} {dsts:List (Option Tmp)} (hne:ops≠[]) (hd:ops.map (·.dst)=dsts) (hnt:nt<=999999) (hkp:z6 kp dsts=true) (hnd:ops.dropLast.all o4=true) (hg:(ops.getLast hne).guard=none)
  (h:∀K:Tm->Hp->Prop,(∀T' H',c1B P (ops.getLast hne) T' H' Q->K T' H')->H4 P nt dsts ops.dropLast T H K):GWp P ro J nt kp (.region id ops.toArray false) T H Q:=by
 have e:=List.dropLast_concat_getLast hne;have:=b3K (P:=P) (ro:=ro) (J:=J) (kp:=kp) (Q:=Q) (id:=id) (l:=ops.dropLast) (o:=ops.getLast hne) (dsts:=dsts) (by rw[e];exact hd) hnt hkp hnd hg (h _ fun _ _ h=>h);rw[e]at this;exact this
theorem c4a {ro:Option Nat} {J:Jt} {nt:Nat} {kp:List Nat} {T:Tm} {H:Hp} {Q:Exit->Tm->Hp->Prop} {id:Nat} {ops:List Oper} {dsts:List (Option Tmp)} {x:Operand} (hne:ops≠[]) (hd:ops.map (·.dst)=dsts) (hnt:nt<=999999) (hkp:z6 kp dsts=true) (hnd:ops.dropLast.all o4=true) (hg:(ops.getLast hne).guard=none) (ho:(ops.getLast hne).op= .panic x)
  (h:∀K:Tm->Hp->Prop,(∀T' H' ty a b,evT (i8 T') x= .ifc ty (.agg [.v a, .v b])->Q (.panic [{v:= .iface ty (.agg #[a,b]),recovered:=false}]) T' H'->K T' H')->H4 P nt dsts ops.dropLast T H K):GWp P ro J nt kp (.region id ops.toArray false) T H Q:=by
 intro hJ kv a w hs;refine wpIn_region_lit ?_;have e:=List.dropLast_concat_getLast hne;have key:=A6 (ro:=ro) (kp:=kp) (kv:=kv) (QQ:=fun e a' w'=>∃T' H',Q e T' H'/\SG J nt kp kv T' H' a' w') (tail:=[ops.getLast hne]) hJ hnt (ops:=ops.toArray) (dsts:=dsts) (K:=fun T' H'=>∃ty a b,evT (i8 T') x= .ifc ty (.agg [.v a, .v b])/\Q (.panic [{v:= .iface ty (.agg #[a,b]),recovered:=false}]) T' H')
  (by intro j;rw[<-hd,qe,List.getElem?_toArray]) hkp ?_ ops.dropLast (fun o' ho'=>⟨qn.1 hnd o' ho',by rw[<-hd];exact qu (List.dropLast_subset _ ho')⟩) T H a w (h _ fun T' H' ty a b h1 h2=>⟨ty,a,b,h1,h2⟩) hs
 ·rw[e]at key;exact key
 rintro T1 H1 a1 w1 ⟨ty,u,v,hx,hq⟩ hs1;have hv:a1.eval x= .iface ty (.agg #[u,v]):=by
  obtain⟨⟨S0,ρ,L,hc,_⟩,_⟩:=hs1;have hr:=L6 (a:=a1) hc.tmps x;rw[hx]at hr;obtain⟨y,hy,hr2⟩:=B6 hr;obtain⟨vs,rfl,hl,hcs⟩:=A2 hr2
  match vs,hl with
  |[p,q],_=>
   have h1:=j5 (hcs 0 _ _ rfl rfl).2;have h2:=j5 (hcs 1 _ _ rfl rfl).2;rw[hy,h1,h2]
 refine wpListIn_plain hg fun K hK=>B9 (by simp[o4,ho]) ?_;unfold Oper.wp;have hrun:(execOp a1.eval (ops.getLast hne)).run P w1= .halt (.panic (.iface ty (.agg #[u,v]))) w1:=by
  simp[execOp,ho,hv,Instr.panic]
 rw[hrun,Oper.upon_panic];exact⟨_,_,hq,hs1⟩
end
end Go.AM
namespace Go.AM
section
variable {P:Program} {nt:Nat} {dsts:List (Option Tmp)} {l:List Oper} {Ts:Nat->Tm} {Hs:Nat->Hp} {es:Nat->Eff} {J:Jt} {ro:Option Nat} {kp:List Nat}
theorem b0l (hJ:JOk J) (hnt:nt<=999999) {kp:List Nat} (hkp:z6 kp dsts=true) {kv:Nat->Value} {ol:Oper} {ops:Array Oper} (hops:ops=(l++[ol]).toArray) (hlex:Lex P nt ops dsts l Ts Hs es) (hdst:(l++[ol]).map (·.dst)=dsts)
    (hB:a1l l (l.zipIdx.map fun(p:Oper×Nat)=>A9 dsts p.1 (es p.2))=true) (hbl:b3i (l++[ol]) 0=true) (hlast:((List.range l.length).all fun j=>((b3O (l++[ol]) []).getD l.length 0).testBit j)=true) (hgl:ol.guard=none) {Q:Exit->Act->World->Prop}
    (hQ:∀a w,SG J nt kp kv (Ts l.length) (Hs l.length) a w->∀K,ol.wp P a w K Q) {a:Act} {w:World} (hs:SG J nt kp kv (Ts 0) (Hs 0) a w):
    wpAny P .any ops Q ops.size (Array.replicate ops.size false) a w:=by
  have hol:∀(k:Nat) o,l[k]?=some o->ops[k]?=some o:=by
    intro k o h
    rw[hops]
    simp only[List.getElem?_toArray]
    rw[qw (qa.1 h).1];exact h
  have hol':∀(k:Nat) o,k≠l.length->ops[k]?=some o->l[k]?=some o:=by
    intro k o hk h
    rw[hops]at h
    simp only[List.getElem?_toArray]at h
    have hlt:=(qa.1 h).1
    simp only[List.length_append,List.length_cons,List.length_nil]at hlt
    rwa [qw (by omega)]at h
  have holl:ops[l.length]?=some ol:=by rw[hops];simp
  have hszo:ops.size=l.length+1:=by rw[hops];simp
  have c2P:∀{D:Nat->Bool},a5x ops D->a5x l.toArray D:=fun hD k o ho=>hD k o (hol k o (by simpa using ho))
  have lastAll:∀{D:Nat->Bool},a5x ops D->D l.length=true->∀j,j<l.length->D j=true:=by
    intro D hD hl j hj
    simp only[qn,List.mem_range]at hlast
    exact a0n (ops:=ops) hD (l++[ol]) [] (by intro j;rw[hops];simp) (by simp) l.length j hl (hlast j hj)
  have hy:∀k,k<=l.length->i8 (Ts k) 999999=i8 (Ts 0) 999999:=by
    intro k
    induction k with
    |zero=>intro _;rfl
    | succ k ih=>
      intro hk
      obtain⟨_,hdk,_,_,hts,_⟩:=hlex.ok k _ (qc (by omega))
      rw[hts,x5,if_neg,ih (by omega)]
      intro e'
      rw[e']at hdk
      exact absurd hdk (Nat.not_lt.2 hnt)
  have hmem:∀(i:Nat) o,l[i]?=some o->∀d,o.dst=some d->∀t∈kp,d≠t:=by
    intro i o ho d hd
    refine I4 hkp ?_
    rw[<-hdst,<-hd]
    exact qu (List.mem_append_left _ (qd ho))
  obtain⟨hback,hconf⟩:=Bool.and_eq_true_iff.1 hB
  simp only[qn,List.mem_range]at hconf
  have htr:∀(k:Nat) o,l[k]?=some o->((l.zipIdx.map fun(p:Oper×Nat)=>A9 dsts p.1 (es p.2)).getD k ([],[]))=A9 dsts o (es k):=by
    intro k o hk
    rw[List.getD_eq_getElem?_getD,qe,List.getElem?_zipIdx,hk]
    simp
  have hord:∀(j k:Nat) oj ok,j<k->l[j]?=some oj->l[k]?=some ok->(∃x,(x∈(A9 dsts oj (es j)).2/\x∈(A9 dsts ok (es k)).1)∨(x∈(A9 dsts ok (es k)).2/\x∈(A9 dsts oj (es j)).1))->
      ∀D,a5x ops D->D k=true->D j=true:=by
    intro j k oj ok hjk hj hk hx D hD0 hDk
    have hD:=c2P hD0
    have hkl:k<l.length:=(qa.1 hk).1
    have h1:=hconf k hkl j hjk
    rw[htr j oj hj,htr k ok hk]at h1
    have hc:b0b (A9 dsts oj (es j)) (A9 dsts ok (es k))=true:=by
      simp only[b0b,Bool.or_eq_true,qy,List.contains_iff_mem]
      obtain⟨x,hx|hx⟩:=hx
      · exact Or.inl ⟨x,hx.1,hx.2⟩
      · exact Or.inr ⟨x,hx.1,hx.2⟩
    rw[hc]at h1
    simp only[Bool.not_true,Bool.false_or]at h1
    exact a0n hD l [] (by simp) (by simp) k j hDk h1
  have hlen : ∀i j,i<=j->j<=l.length->(Hs i).length<=(Hs j).length:=by
    intro i j hij
    induction j with
    | zero => intro _;have:i=0:=by omega
              subst this;exact qo _
    | succ j ih=>
      intro hj
      by_cases e:i=j+1
      · subst e;exact qo _
      · have hjl:j<l.length:=by omega
        obtain⟨_,_,hin,_,_,hh⟩:=hlex.ok j _ (qc hjl)
        rw[hh]
        exact Nat.le_trans (ih (by omega) (by omega)) (B3 _ _ hin).1
  have hupl:∀k r o,k<l.length->(r,o)∈(es k).ups->r<(Hs (k+1)).length:=by
    intro k r o hk hm
    obtain⟨_,_,hin,_,_,hh⟩:=hlex.ok k _ (qc hk)
    rw[hh]
    exact(B3 _ _ hin).2 r o hm
  let vS:(Nat->Bool)->Nat->AV:=fun D t=>Z6 D (wS l t) (fun k=>i8 (Ts k) t) l.length
  let vR:(Nat->Bool)->Nat->Option n9:=fun D r=>Z6 D (wR es r) (fun k=>g8 (Hs k) r) l.length
  have keepS:∀t k,k<l.length->wS l t k=false->i8 (Ts (k+1)) t=i8 (Ts k) t:=by
    intro t k hk hw
    have ho:=qc hk
    obtain⟨_,_,_,_,ht,_⟩:=hlex.ok k _ ho
    rw[ht,x5,if_neg]
    intro e
    rw[(a1S ho).2 e]at hw
    cases hw
  have keepR:∀r k,k<l.length->wR es r k=false->g8 (Hs (k+1)) r=g8 (Hs k) r:=by
    intro r k hk hw
    obtain⟨_,_,hin,hon,_,hh⟩:=hlex.ok k _ (qc hk)
    rw[hh]
    refine(G1 _ _ hin hon r).2 (fun o hm=>?_)
    rw[H9.2 ⟨o,hm⟩]at hw
    cases hw
  let Inv:(Nat->Bool)->Act->World->Prop:=fun D a w=>(∃S0 ρ L,N8 a0s S0 nt w ρ L (vS D) (vR D) (a2u a)/\(∀r,L r->r<(Hs 0).length∨∃k,k<l.length/\D k=true/\wR es r k=true)/\J.rel (i8 (Ts 0) 999999) S0 (own ρ) w/\a8n J a.defers S0 w)/\∀t∈kp,a.tmps.getD t undef=kv t
  have step :∀(D:Nat->Bool) (i:Nat) (o:Oper) (a:Act) (w:World) (K:Act->World->Prop),a5x ops D->a5x ops (fun k=>D k||k==i)->l[i]?=some o->D i=false->Inv D a w->
      (∀a' w',Inv (fun k=>D k||k==i) a' w'->K a' w')->if Region.wanted o (yielded ops a.tmps)then o.wp P a w K Q else K (a.put o.dst undef) w:=by
    intro D i o a w K hD hD' ho hDi hinv hK
    obtain⟨⟨S0,ρ,L,hc,hL,hj,hmk⟩,hkeep⟩:=hinv
    have hil:i<l.length:=(qa.1 ho).1
    obtain⟨hst,hdk,hin,hon,hts,hhs⟩:=hlex.ok i o ho
    have ordS:∀t,2*t∈(A9 dsts o (es i)).1->∀k,k<l.length->wS l t k=true->(D k=true↔k<i):=by
      intro t ht k hk hw
      have hok:=qc hk
      have hwd:=(a1S hok).1 hw
      have hmem:2*t∈(A9 dsts l[k] (es k)).2:=by simp[A9,hwd,a7n]
      rcases Nat.lt_trichotomy k i with h|h|h
      · have:=hord k i _ o h hok ho ⟨2*t,Or.inl ⟨hmem,ht⟩⟩ _ hD' (by simp)
        simp only[Bool.or_eq_true,beq_iff_eq]at this
        exact⟨fun _=>h,fun _=>this.resolve_right (by omega)⟩
      · subst h;simp[hDi]
      · refine⟨fun hDk=>?_,fun hlt=>by omega⟩
        have:=hord i k o _ h ho hok ⟨2*t,Or.inr ⟨hmem,ht⟩⟩ _ hD hDk
        rw[hDi]at this;cases this
    have ordR:∀r,2*r+1∈(A9 dsts o (es i)).1->∀k,k<l.length->wR es r k=true->(D k=true↔k<i):=by
      intro r hr k hk hw
      have hok:=qc hk
      obtain⟨q,hm⟩:=H9.1 hw
      have hmem:2*r+1∈(A9 dsts l[k] (es k)).2:=by simp only[A9,List.mem_append];exact Or.inr (a1i hm)
      rcases Nat.lt_trichotomy k i with h|h|h
      · have:=hord k i _ o h hok ho ⟨2*r+1,Or.inl ⟨hmem,hr⟩⟩ _ hD' (by simp)
        simp only[Bool.or_eq_true,beq_iff_eq]at this
        exact⟨fun _=>h,fun _=>this.resolve_right (by omega)⟩
      · subst h;simp[hDi]
      · refine⟨fun hDk=>?_,fun hlt=>by omega⟩
        have:=hord i k o _ h ho hok ⟨2*r+1,Or.inr ⟨hmem,hr⟩⟩ _ hD hDk
        rw[hDi]at this;cases this
    have hdm:∀t,o.dst=some t->2*t∈(A9 dsts o (es i)).1:=by intro t ht;simp[A9,ht,a7n]
    have hum:∀r q,(r,q)∈(es i).ups->2*r+1∈(A9 dsts o (es i)).1:=by
      intro r q hm;simp only[A9,List.mem_append];exact Or.inr (Or.inr (Or.inr (Or.inr (a1i hm))))
    have hrm:∀r,r∈(es i).reads->2*r+1∈(A9 dsts o (es i)).1:=by
      intro r hm;simp only[A9,List.mem_append];exact Or.inr (Or.inr (Or.inr (Or.inl (a1A hm))))
    have hsm:∀t∈o.looksAt ops,2*t∈(A9 dsts o (es i)).1:=by
      intro t ht
      simp only[Oper.looksAt,List.mem_append,List.mem_filterMap]at ht
      simp only[A9,List.mem_append]
      rcases ht with⟨x,hx,hxt⟩|ht
      · left
        cases x with
        |tmp t'=>simp only[qb]at hxt;subst hxt;exact a3X hx
        |_=>cases hxt
      · right;left
        cases hg:o.guard with
        |none=>rw[hg]at ht;cases ht
        | some g=>
          obtain⟨j,want⟩:=g
          rw[hg]at ht
          simp only[Option.mem_toList]at ht
          simp only[a4u]
          have:dsts[j]?=some (some t):=by
            rw[<-hdst,qe]
            have he:ops[j]?=(l++[ol])[j]?:=by rw[hops];simp
            rw[he]at ht
            cases hj:(l++[ol])[j]? with
            |none=>simp[hj]at ht
            |some oj=>simp[hj]at ht;simp[ht]
          rw[this];simp
    have vS_at:∀t,2*t∈(A9 dsts o (es i)).1->vS D t=i8 (Ts i) t:=fun t ht=>r4 l.length i (by omega) (keepS t) (ordS t ht)
    have vR_at:∀r,2*r+1∈(A9 dsts o (es i)).1->vR D r=g8 (Hs i) r:=fun r hr=>r4 l.length i (by omega) (keepR r) (ordR r hr)
    have hN:a2E L (Hs i).length (es i):=by
      rintro r hr ⟨q,hm⟩ hLN
      rcases hL r hLN with h|⟨k,hk,hDk,hw⟩
      · have:=hlen 0 i (by omega) (by omega);omega
      · have hlt:=(ordR _ (hum _ q hm) k hk hw).1 hDk
        obtain⟨q',hm'⟩:=H9.1 hw
        have h1:=hupl k _ q' hk hm'
        have h2:=hlen (k+1) i (by omega) (by omega)
        omega
    have hnew:∀(wr:Nat->Bool),(∀k,k<l.length->wr k=true->(D k=true↔k<i))->∀k,k<l.length->wr k=true->((D k||k==i)=true↔k<i+1):=by
      intro wr h k hk hw
      have:=h k hk hw
      simp only[Bool.or_eq_true,beq_iff_eq,this]
      omega
    refine hst a0s S0 a w ρ L hc.wf hN (fun t ht=>by rw[<-vS_at t (hsm t ht)];exact hc.tmps t) (fun r hr row n8=>hc.rows r row (by rw[vR_at r (hrm r hr)];exact n8)) K Q (fun v w' ρ' hp=>hK _ _ ⟨⟨S0,ρ',nL L (es i),N8.stepb hc hN hp (fun d hd=>by rw[hd]at hdk;exact hdk) (fun t=>?_) (fun r=>⟨fun q hm=>?_,fun hno=>?_⟩),?_,(a1K hJ hc hj hmk hp).1,by rw[a0P];exact(a1K hJ hc hj hmk hp).2⟩,fun t ht=>by rw[a1G a o.dst v t (fun e'=>hmem i o ho _ e' t ht rfl)];exact hkeep t ht⟩)
    · by_cases e:o.dst=some t
      · rw[if_pos e]
        have:=r4 (D:=fun k=>D k||k==i) (wr:=wS l t) (f:=fun k=>i8 (Ts k) t) l.length (i+1) (by omega) (keepS t) (hnew _ (ordS t (hdm t e)))
        show Z6 _ _ _ _=_
        rw[this,hts,x5,if_pos e]
      · rw[if_neg e]
        refine F4 _ (fun k hk hw=>?_)
        have:k≠i:=by rintro rfl;exact e ((a1S ho).1 hw)
        simp[this]
    · have:=r4 (D:=fun k=>D k||k==i) (wr:=wR es r) (f:=fun k=>g8 (Hs k) r) l.length (i+1) (by omega) (keepR r) (hnew _ (ordR r (hum r q hm)))
      show Z6 _ _ _ _=_
      rw[this,hhs]
      exact(G1 _ _ hin hon r).1 q hm
    · refine F4 _ (fun k hk hw=>?_)
      have:k≠i:=by rintro rfl;obtain⟨q,hm⟩:=H9.1 hw;exact hno q hm
      simp[this]
    · rintro r (hr|⟨q,hm⟩)
      · rcases hL r hr with h|⟨k,hk,hDk,hw⟩
        · exact Or.inl h
        · exact Or.inr ⟨k,hk,by simp[hDk],hw⟩
      · exact Or.inr ⟨i,hil,by simp,H9.2 ⟨q,hm⟩⟩
  have sgOf:∀(D:Nat->Bool) (a:Act) (w:World),Inv D a w->(∀k,k<l.length->D k=true)->SG J nt kp kv (Ts l.length) (Hs l.length) a w:=by
    intro D a w hinv hall
    obtain⟨⟨S0,ρ,L,hc,hL,hj,hmk⟩,hkeep⟩:=hinv
    have eS:vS D=i8 (Ts l.length):=by
      funext t
      exact r4 l.length l.length (qo _) (keepS t) (fun k hk _=>⟨fun _=>hk,fun _=>hall k hk⟩)
    have eR:vR D=g8 (Hs l.length):=by
      funext r
      exact r4 l.length l.length (qo _) (keepR r) (fun k hk _=>⟨fun _=>hk,fun _=>hall k hk⟩)
    rw[eS,eR]at hc
    refine⟨⟨S0,ρ,L,hc,fun r hr=>?_,by rw[hy _ (qo _)];exact hj,hmk⟩,hkeep⟩
    rcases hL r hr with h|⟨k,hk,_,hw⟩
    · exact qq h (hlen 0 _ (by omega) (qo _))
    · obtain⟨q,hm⟩:=H9.1 hw
      exact qq (hupl k r q hk hm) (hlen _ _ (by omega) (qo _))
  have all : ∀ (fuel:Nat) (listed:Array Bool) (a:Act) (w:World),listed.size=l.length+1->listed.toList.count false=fuel->listed.getD l.length false=false->a5x ops (fun k=>listed.getD k false)->Inv (fun k=>listed.getD k false) a w->
      wpAny P .any ops Q fuel listed a w:=by
    intro fuel
    have done : ∀(listed:Array Bool),listed.size=l.length+1->listed.getD l.length false=false->Region.ready .any ops listed≠[]:=by
      intro listed hsz hlf hr
      have hall :∀k,k<l.length+1->listed.getD k false=true:=by
        intro k
        induction k using Nat.strongRecOn with
        | _ k ih=>
          intro hk
          cases hv:listed.getD k false with
          |true=>rfl
          | false=>
            exfalso
            have hmem:k∈Region.ready .any ops listed:=by
              obtain⟨ok,hok⟩:∃ok,(l++[ol])[k]?=some ok:=⟨_,qc (by simpa using hk)⟩
              refine mem_ready.2 ⟨?_,ok,by rw[hops];simpa using hok,fun e he hb=>?_⟩
              · have hk':k<listed.size:=by omega
                simp only[qt,Array.getElem?_eq_getElem hk',Option.getD_some]at hv ⊢
                exact hv
              · have:=a2l (l++[ol]) 0 hbl k ok hok e he hb
                exact ih e.on (by omega) (by omega)
            rw[hr]at hmem;cases hmem
      rw[hall l.length (by omega)]at hlf
      cases hlf
    induction fuel with
    | zero=>
      intro listed a w hsz hcount hlf hD hinv
      exfalso
      rw[List.count_eq_zero]at hcount
      have hk':l.length<listed.size:=by omega
      simp only[qt,Array.getElem?_eq_getElem hk',Option.getD_some]at hlf
      exact hcount (by rw[<-hlf];simp)
    | succ fuel ih=>
      intro listed a w hsz hcount hlf hD hinv
      refine⟨fun hr=>absurd hr (done listed hsz hlf),fun i hi=>?_⟩
      obtain⟨h1,o,ho,hpre⟩:=mem_ready.1 hi
      have hils:i<listed.size:=by
        have:=(Array.getElem?_eq_some_iff.1 ho).1
        omega
      have hDi:listed.getD i false=false:=by
        simp only[qt,Array.getElem?_eq_getElem hils,Option.getD_some]at h1 ⊢
        exact h1
      have eD:(fun k=>(listed.setIfInBounds i true).getD k false)=fun k=>listed.getD k false||k==i:=by
        funext k
        by_cases e:k=i
        · subst e
          simp[qt,Array.getElem?_setIfInBounds_self_of_lt hils]
        · rw[getD_set_ne false (fun h=>e h.symm)]
          simp[e]
      have hD':a5x ops (fun k=>listed.getD k false||k==i):=by
        intro k ok hok hk e he hb
        simp only[Bool.or_eq_true,beq_iff_eq]at hk ⊢
        rcases hk with hk|rfl
        · exact Or.inl (hD k ok hok hk e he hb)
        · rw[ho]at hok
          simp only[qb]at hok
          subst hok
          exact Or.inl (hpre e he hb)
      by_cases hil:i=l.length
      · subst hil
        rw[holl]at ho
        simp only[qb]at ho
        subst ho
        have hsg:=sgOf _ a w hinv (fun k hk=>by
          have:=lastAll hD' (by simp) k hk
          simp only[Bool.or_eq_true,beq_iff_eq]at this
          exact this.resolve_right (by omega))
        unfold wpOp
        simp only[holl]
        split
        · exact Or.inl (hQ a w hsg _)
        · rename_i hw;exact absurd (by simp[Region.wanted,hgl]) hw
      have ho':l[i]?=some o:=hol' i o hil ho
      have:=step (fun k=>listed.getD k false) i o a w (wpAny P .any ops Q fuel (listed.setIfInBounds i true)) hD hD' ho' hDi hinv (fun a' w' hinv'=>ih _ a' w' (by simp[hsz]) (by
        rw[Array.toList_setIfInBounds,List.count_set (by simpa using hils),hcount]
        have:listed.toList[i]'(by simpa using hils)=false:=by
          simp only[qt,Array.getElem?_eq_getElem hils,Option.getD_some]at hDi
          simpa using hDi
        simp[this]) (by rw[getD_set_ne false hil];exact hlf) (by rw[eD];exact hD') (by rw[eD];exact hinv'))
      unfold wpOp
      simp only[ho]
      split
      · rename_i hw;rw[if_pos hw]at this;exact Or.inl this
      · rename_i hw;rw[if_neg hw]at this;exact this
  obtain⟨⟨S0,ρ,L,hc,hL,hj,hmk⟩,hkeep⟩:=hs
  have e0:(fun k=>(Array.replicate ops.size false).getD k false)=fun _=>false:=by
    funext k
    simp only[qt,Array.getElem?_replicate]
    split<;>rfl
  refine all _ _ a w (by simp[hszo]) (by simp) (congrFun e0 l.length) ?_ ?_
  · rw[e0];intro k o _ h;cases h
  · rw[e0]
    refine⟨⟨S0,ρ,L,?_,fun r hr=>Or.inl (hL r hr),hj,hmk⟩,hkeep⟩
    have eS:vS (fun _=>false)=i8 (Ts 0):=by
      funext t
      exact r4 l.length 0 (by omega) (keepS t) (fun k hk _=>by simp)
    have eR:vR (fun _=>false)=g8 (Hs 0):=by
      funext r
      exact r4 l.length 0 (by omega) (keepR r) (fun k hk _=>by simp)
    rw[eS,eR]
    exact hc
theorem c1j {T1:Tm} {H1:Hp} {kp:List Nat} {kv:Nat->Value} {o:Oper} {Q:Exit->Tm->Hp->Prop} (hJ:JOk J) (hnt:nt<=999999) {a1:Act} {w1:World} (hs1:SG J nt kp kv T1 H1 a1 w1) (hp:c1B P o T1 H1 Q) (K:Act->World->Prop) (QQ:Exit->Act->World->Prop)
  (hQQ:∀ch T' H' a' w',Q (.panic ch) T' H'->SG J nt kp kv T' H' a' w'->QQ (.panic ch) a' w'):o.wp P a1 w1 K QQ:=by
 obtain⟨f,raw,gk,gd,Hk,Hd,Hk',Hn,pv,hraw,hnod,hH,hkl,hall,hmp,hin,honce,hq⟩:=hp;obtain⟨hop,hndo⟩:=b1G (H:=g8 H1) hraw;obtain⟨hno,hlt⟩:=a9b hnod;obtain⟨⟨S0,ρ,L,hc,hL,hj,hm⟩,hk⟩:=hs1;have hops:∀x∈o.op.operands,e8 w1 (Sx S0 ρ) ρ L (evT (i8 T1) x) (a1.eval x):=fun x _=>L6 (a:=a1) hc.tmps x;obtain⟨vs,h1,h2⟩:=a9s (E:=fun e v=>e= .panicked [{v:=pv,recovered:=false}]) (res:= .any) (rdx:=[]) (RR:=gk++gd) (N:=H1.length) hop (by simp) (fun r hr=>hr) (by simp) hno hlt hH hkl (fun y hy=>qn.1 hall y hy) hmp.1 hmp.2.1 (by
  intro B S0 w ρ L vs hw _ hheld hl hreps;refine(hmp.2.2 _ w _ vs hheld (by simp[hl]) (fun i c y h1 h2=>?_)).mono ?_
  ·simp only[qe,qf]at h1;obtain⟨c',h1,rfl⟩:=h1;refine(F6 (fun b=>a9U) 40 c' y (hreps i c' y h1 h2)).ext (qo _) (fun b _ hnb=>⟨rfl,hnb⟩) ?_ (fun r l _ h=>h);rintro r ⟨q,hq⟩;have:=(qa.1 hq).1;rw[hH];simpa using this
  ·rintro e w' ⟨he,ρ',hh,hkeep,hfresh,hext⟩;exact⟨undef,ρ',he,hh, .pure _ _ (.any _),hkeep,hfresh,hext⟩) a0s S0 a1 w1 ρ L hc.wf (by
  intro r hr _ hlr;exact Nat.lt_irrefl _ (Nat.lt_of_le_of_lt hr (hL r hlr))) hops (fun r _ row hr=>hc.rows r row hr)
 unfold Oper.wp;rw[h1,Oper.upon_enter];refine h2.mono fun e w' he=>?_;obtain⟨v,ρ',rfl,hp⟩:=he;refine hQQ _ _ _ _ _ hq ?_;have:=SG.post (dst:=none) hJ hc hL hj hm hk hnt hp (by simp) (by simp) hin honce;exact this
def a4t (R:List PanicEntry->Act->World->Prop):Exit->Act->World->Prop
 | .panic ch=>R ch
 |_=>fun _ _=>False
theorem a9v {ops:Array Oper} {R:List PanicEntry->Act->World->Prop} (hnd:∀o∈ops.toList,o4 o=true):∀(fuel:Nat) (listed:Array Bool) (a:Act) (w:World),wpAny P .any ops (a4t R) fuel listed a w->wpAnyIn (fr ro) 0 P .any ops (a4t R) fuel listed a w:=by
 intro fuel
 induction fuel with
 |zero=>intro listed a w h;exact h
 | succ fuel ih=>
  intro listed a w h;refine⟨h.1,fun i hi=>?_⟩;have h2:=h.2 i hi;unfold wpOp at h2;unfold wpOpIn
  split
  ·rename_i ho;rw[ho]at h2;exact ih _ _ _ h2
  ·rename_i o ho;rw[ho]at h2;simp only at h2
   split
   ·rename_i hw;rw[if_pos hw]at h2
    rcases h2 with h2|⟨_,⟨_,_,h2⟩⟩
    ·exact B9 (hnd o (by have:=Array.mem_of_getElem? ho;simpa using this)) (Oper.wp_mono (fun a w=>ih _ a w) h2)
    ·exact h2.elim
   ·rename_i hw;rw[if_neg hw]at h2;exact⟨fun _ _=>trivial,ih _ _ _ h2⟩
theorem a5i {id:Nat} {ops:List Oper} {T:Tm} {H:Hp} {Q:Exit->Tm->Hp->Prop} (hne:ops≠[]) (hm:P.follows .mixedOrders=true) (hd:ops.map (·.dst)=dsts) (hnt:nt<=999999) (hkp:z6 kp dsts=true) (hnd:ops.all o4=true) (hg:(ops.getLast hne).guard=none) (hbl:b3i ops 0=true)
  (hlast:((List.range ops.dropLast.length).all fun j=>((b3O ops []).getD ops.dropLast.length 0).testBit j)=true)
  (h:∀K:Tm->Hp->List Tr->Prop,(∀T' H' tr,a1l ops.dropLast tr=true->c1B P (ops.getLast hne) T' H' Q->K T' H' tr)->U5 P nt dsts ops.dropLast T H [] K):GWp P ro J nt kp (.region id ops.toArray true) T H Q:=by
 intro hJ kv a w hs;have e:=List.dropLast_concat_getLast hne;have h':=h (fun T' H' tr=>a1l ops.dropLast tr=true/\c1B P (ops.getLast hne) T' H' Q) (fun _ _ _ h1 h2=>⟨h1,h2⟩);have hd':∀j:Nat,dsts[j]?=(ops.toArray[j]?).map (·.dst):=by intro j;rw[<-hd];simp
 obtain⟨Ts,Hs,es,t0,h0,hlex,hB,hP⟩:=b1Y hd' ops.dropLast T H [] h';refine wpIn_region_any hm ?_;have:=b0l (ol:=ops.getLast hne) (ops:=ops.toArray) hJ hnt hkp (kv:=kv) (by rw[e]) hlex (by rw[e];exact hd) (by simpa using hB) (by rw[e];exact hbl) (by rw[e];exact hlast) hg
  (Q:=a4t fun ch a' w'=>∃T' H',Q (.panic ch) T' H'/\SG J nt kp kv T' H' a' w') (fun a w hst K=>c1j hJ hnt hst hP K _ fun ch T' H' a' w' q s=>⟨T',H',q,s⟩) (a:=a) (w:={w with drawn:=w.drawn+1}) (by rw[t0,h0];exact hs.draw hJ _)
 have h2:=a9v (ro:=ro) (by intro o ho;exact qn.1 hnd o (by simpa using ho)) _ _ _ _ this;exact a1W (fun e a w h=>by cases e<;>first|exact h|exact h.elim) _ _ _ _ h2
end
end Go.AM
end
section
namespace Go.AM
theorem zP : (∀ (T : Tm) (L : List Nat), W8 T L = L.map fun t => (t, i8 T t)) /\ (∀ {α β : Type} (f : α -> β) (a : α) (l : List α), List.map f (a :: l) = f a :: List.map f l) /\ (∀ {α β : Type} (f : α -> β), List.map f [] = []) /\
 (∀ t, i8 [] t = .any) /\ (∀ i x r t, i8 ((i, x) :: r) t = if t = i then x else i8 r t) /\ (∀ {α : Type} (a : α) (l r : List α), a :: l ++ r = a :: (l ++ r)) /\ (∀ {α : Type} (l : List α), [] ++ l = l) :=
 ⟨fun _ _ => rfl, fun _ _ _ => rfl, fun _ => rfl, fun _ => rfl, fun _ _ _ _ => rfl, fun _ _ _ => rfl, fun _ => rfl⟩
theorem zT : (∀ (n : Tm -> Hp -> Prop) Q, Z3 n Q .normal = n) /\ (∀ (n : Tm -> Hp -> Prop) Q k, Z3 n Q (.exit k) = Q (.exit k)) /\ (∀ (n : Tm -> Hp -> Prop) Q, Z3 n Q .ret = Q .ret) /\
 (∀ (i : Nat) Q k, H5 i Q (.exit k) = if k = i then Q .normal else Q (.exit k)) /\ (∀ (i : Nat) Q, H5 i Q .normal = Q .normal) /\ (∀ (i : Nat) Q, H5 i Q .ret = Q .ret) /\
 (∀ Q, a4I Q .normal = Q .normal) /\ (∀ Q k, a4I Q (.exit k) = Q (.exit k)) /\ (∀ Q, a4I Q .ret = Q .ret) /\ (∀ {α : Type} (a : α), (a = a) = True) :=
 ⟨fun _ _ => rfl, fun _ _ _ => rfl, fun _ _ => rfl, fun _ _ _ => rfl, fun _ _ => rfl, fun _ _ => rfl, fun _ => rfl, fun _ _ => rfl, fun _ => rfl, fun _ => eq_self _⟩
theorem zW (k : Nat) (h : k <= 9223372036854775806) : IntKind.i64.wrap ((k : Int) + 1) = (k : Int) + 1 := IntWalk.i64_in _ ⟨by omega, by omega⟩
section
variable {P : Program} {ro : Option Nat} {J : Jt} {nt : Nat} {kp : List Nat} {dsts : List (Option Tmp)} {l : List Oper} {y : Code} {id : Nat} {T : Tm} {H : Hp} {Q : Exit -> Tm -> Hp -> Prop}
theorem gS (h : ∀ K : Tm -> Hp -> Prop, (∀ T' H', GWp P ro J nt kp y T' H' Q -> K T' H') -> H4 P nt dsts l T H K) (hd : l.map (·.dst) = dsts := by rfl) (hnt : nt <= 999999 := by decide) (hkp : z6 kp dsts = true := by rfl) (hnd : l.all o4 = true := by rfl) : GWp P ro J nt kp (.seq (.region id l.toArray false) y) T H Q := c0a hd hnt hkp hnd h
theorem gR (h : ∀ K : Tm -> Hp -> Prop, (∀ T' H', Q .normal T' H' -> K T' H') -> H4 P nt dsts l T H K) (hd : l.map (·.dst) = dsts := by rfl) (hnt : nt <= 999999 := by decide) (hkp : z6 kp dsts = true := by rfl) (hnd : l.all o4 = true := by rfl) : GWp P ro J nt kp (.region id l.toArray false) T H Q := c2p hd hnt hkp hnd h
theorem aS (h : ∀ K : Tm -> Hp -> Prop, (∀ T' H', AWp P nt y T' H' Q -> K T' H') -> H4 P nt dsts l T H K) (hd : l.map (·.dst) = dsts := by rfl) : AWp P nt (.seq (.region id l.toArray false) y) T H Q := b9G hd h
theorem aR (h : ∀ K : Tm -> Hp -> Prop, (∀ T' H', Q .normal T' H' -> K T' H') -> H4 P nt dsts l T H K) (hd : l.map (·.dst) = dsts := by rfl) : AWp P nt (.region id l.toArray false) T H Q := c3U hd h
end
end Go.AM
end
section
namespace Go.AM
theorem zQ {p q : Prop} (h : q) (e : p = q := by simp only [zT, reduceIte, Nat.reduceEqDiff]; exact rfl) : p := by rw [e]; exact h
theorem zN {p q : Prop} (h : q) (e : p = q := by simp only [zP, Nat.reduceEqDiff, reduceIte]; exact rfl) : p := by rw [e]; exact h
section
variable {P : Program} {ro : Option Nat} {J : Jt} {nt : Nat} {kp : List Nat} {l : List Oper} {y c : Code} {id : Nat} {T T' : Tm} {H H' : Hp} {Q : Exit -> Tm -> Hp -> Prop}
theorem aW (h : AWp P nt y T' H' Q) (e : ∀ K : Tm -> Hp -> Prop, K T' H' -> H4 P nt (l.map (·.dst)) l T H K := by intro K hK; simp -dsimp; exact hK) : AWp P nt (.seq (.region id l.toArray false) y) T H Q := b9G rfl fun K hK => e K (hK _ _ h)
theorem aV (h : Q .normal T' H') (e : ∀ K : Tm -> Hp -> Prop, K T' H' -> H4 P nt (l.map (·.dst)) l T H K := by intro K hK; simp -dsimp; exact hK) : AWp P nt (.region id l.toArray false) T H Q := c3U rfl fun K hK => e K (hK _ _ h)
theorem aP (L : List Nat) (h : AWp P nt c T' H Q) (e : W8 T L = T' := by simp only [zP, Nat.reduceEqDiff, reduceIte]; exact rfl) : AWp P nt c T H Q := b4v L (by rw [e]; exact h)
theorem gW (h : GWp P ro J nt kp y T' H' Q) (e : ∀ K : Tm -> Hp -> Prop, K T' H' -> H4 P nt (l.map (·.dst)) l T H K := by intro K hK; simp -dsimp; exact hK) (hnt : nt <= 999999 := by decide) (hkp : z6 kp (l.map (·.dst)) = true := by rfl) (hnd : l.all o4 = true := by rfl) : GWp P ro J nt kp (.seq (.region id l.toArray false) y) T H Q := c0a rfl hnt hkp hnd fun K hK => e K (hK _ _ h)
theorem gV (h : Q .normal T' H') (e : ∀ K : Tm -> Hp -> Prop, K T' H' -> H4 P nt (l.map (·.dst)) l T H K := by intro K hK; simp -dsimp; exact hK) (hnt : nt <= 999999 := by decide) (hkp : z6 kp (l.map (·.dst)) = true := by rfl) (hnd : l.all o4 = true := by rfl) : GWp P ro J nt kp (.region id l.toArray false) T H Q := c2p rfl hnt hkp hnd fun K hK => e K (hK _ _ h)
theorem gP (L : List Nat) (h : GWp P ro J nt kp c T' H Q) (hy : L.contains 999999 = true ∨ i8 T 999999 = .any := by exact Or.inr (by simp)) (e : W8 T L = T' := by simp only [zP, Nat.reduceEqDiff, reduceIte]; exact rfl) : GWp P ro J nt kp c T H Q := s9 L hy (by rw [e]; exact h)
theorem gU (g : List (Option Nat)) (h : GWp P ro J nt kp c T' H' Q) (hn : N5 g = true := by rfl) (hT : a4V H g T T' := by repeat' (first | exact trivial | exact .inr (by simp) | refine ⟨?_, ?_⟩)) (hH : a2i H g = H' := by simp) (hy : i8 T' 999999 = i8 T 999999 := by simp) : GWp P ro J nt kp c T H Q := p8 (G0 (a5F g hn hT hH) hy) h
theorem gB (g : List (Option Nat)) (hn : N5 g = true := by rfl) (hT : c0l g T T' := by simp) (hH : b4a H g = H' := by simp) (hy : i8 T' 999999 = i8 T 999999 := by simp) : c0r nt T H T' H' := G0 (g7 g hn hT hH) hy
theorem aB (g : List (Option Nat)) (hn : N5 g = true := by rfl) (hT : c0l g T T' := by simp) (hH : b4a H g = H' := by simp) : Sub nt T H T' H' := g7 g hn hT hH
end
section
variable {P : Program} {m : List Bool} {f : FuncId} {args : List AV} {fl : Bool} {rd rd0 : List Nat} {raw : List AV} {H : Nat -> Option n9} {N : Nat} {K : Eff -> Prop} {bg : List (Option Nat)} {args' : List AV} {Hk Hd : Hp} {res : AV} {Hk' Hn : Hp}
theorem cM (gk gd : List Nat) (h : c7 P f args' Hk Hd res Hk' Hn) (hk : K ⟨p5 bg 3 res, r6 bg gk Hk' ++ (v7 gd ++ y7 bg N Hn), rd0 ++ (gk ++ gd)⟩)
  (hnd : a3g (gk ++ gd) N = true := by decide) (hbg : C5 gk N Hn.length = bg := by simp [C5, List.range, List.range.loop]; exact rfl) (ha : raw.map (p5 ((gk ++ gd).map some) 40) = args' := by simp) (hH : (gk ++ gd).map (fun r => (H r).map (C2 ((gk ++ gd).map some))) = Hk ++ Hd := by simp) (hkl : gk.length = Hk.length := by rfl) (hall : (Hk ++ Hd).all Option.isSome = true := by simp) : a2P P m f args fl rd rd0 raw H N K := b5O gk gd bg h hnd hbg ha hH hkl hall hk
theorem cI (h : a9 P f args res) (hk : K ⟨res, [], rd⟩) (hn : fl = true ∨ res.flat 3 = true := by simp) : a2P P [] f args fl rd rd0 raw H N K := b0M _ h hn hk
theorem cY (h : m.all id = true -> a9 P f args res) (hk : K ⟨res, [], rd⟩) (hn : fl = true ∨ res.flat 3 = true := by simp) : a2P P m f args fl rd rd0 raw H N K := a9i _ h hn hk
end
section
variable {P : Program} {f : FuncId} {fn : Func} {c : Code} {args : List AV} {res : AV} {n : Nat} {rs : Array ResultVar}
theorem oB (hf : P.funcs[f]? = some fn) (hN : fn.ntmps = n) (hR : fn.results = rs) (h : AWp P n c (P5 0 args) [] (c5q P rs.toList res)) (hb : fn.body = some c := by exact rfl) (hname : (fn.name == "runtime.NumGoroutine") = false := by decide) (hnt : args.length <= n := by simp) : a9 P f args res := a9.of_body hf hb hname (by rw [hN]; exact hnt) (by rw [hN, hR]; exact h)
theorem oG {Hk Hd Hk' Hn : Hp} (pins : List Nat) (hf : P.funcs[f]? = some fn) (hN : fn.ntmps = n) (hR : fn.results = rs) (h : ∀ J : Jt, JC true J -> GWp P none J n pins c (P5 0 args) (Hk ++ Hd) (c6s P pins (P5 0 args) (Hk ++ Hd) rs.toList res (Hk' ++ Hn))) (hb : fn.body = some c := by exact rfl) (hname : (fn.name == "runtime.NumGoroutine") = false := by decide) (hnt : args.length <= n := by simp) (hlk : Hk.length = Hk'.length := by rfl) (hpl : pins.length = Hk.length := by rfl) : c7 P f args Hk Hd res Hk' Hn := c7.of_bodyG pins hf hb hname (by rw [hN]; exact hnt) hlk hpl (by rw [hN, hR]; exact h)
theorem gT {T : Tm} {H : Hp} {pins : List Nat} {T0 : Tm} {H0 H' : Hp} {rs : List ResultVar} (g : List (Option Nat)) (h1 : N5 g = true := by rfl) (h2 : i8 (b3L g T) 999999 = i8 T 999999 := by simp) (h3 : b4a H g = H' := by simp) (h4 : c3m T0 H0 (b3L g T) H' 0 pins := by simp) (h5 : N6 P (b3L g T) H' rs (fun xs => r9 xs = res) := by simp [N6, r9]) : b3T P pins T0 H0 rs res H' T H := ⟨g, h1, h2, h3, h4, h5⟩
end
theorem gx {α : Type} {l : List α} {i : Nat} (h : i < l.length) : ∃ x, l[i]? = some x := ⟨_, qc h⟩
theorem gJ {α : Type} {l : List α} {i : Nat} {a : α} (h : l[i]? = some a) : ∃ h : i < l.length, l[i] = a := qa.1 h
theorem gN {α : Type} {l : List α} {i : Nat} {a : α} (h : l[i]? = some a) : a ∈ l := qd h
end Go.AM
end
section
namespace Go.AM
open Go.Proofs
@[simp] theorem td3:d6 Tryz.prog 3= .cell (.int .i64 0):=by kernel_rfl
@[simp] theorem bt3:Tryz.prog.bytesOf 3=8:=by kernel_rfl
@[simp] theorem td4:d6 Tryz.prog 4= .cell (.bool false):=by kernel_rfl
@[simp] theorem bt4:Tryz.prog.bytesOf 4=1:=by kernel_rfl
@[simp] theorem td9:d6 Tryz.prog 9= .cell (.string ByteArray.empty):=by kernel_rfl
@[simp] theorem c6X:d6 Tryz.prog 22= .slice 80:=by kernel_rfl
@[simp] theorem c8e:d6 Tryz.prog 23= .slice 83:=by kernel_rfl
@[simp] theorem c7g:d6 Tryz.prog 25= .agg [.slice none 0 0, .slice none 0 0] [(0,1,22),(1,1,23)]:=by kernel_rfl
@[simp] theorem c7P:d6 Tryz.prog 26= .slice 108:=by kernel_rfl
@[simp] theorem c7f:d6 Tryz.prog 27= .slice 85:=by kernel_rfl
@[simp] theorem c6m:d6 Tryz.prog 29= .agg [.slice none 0 0, .slice none 0 0, .slice none 0 0, .slice none 0 0] [(0,2,25),(2,1,26),(3,1,27)]:=by kernel_rfl
@[simp] theorem c8i:d6 Tryz.prog 37= .slice 152:=by kernel_rfl
@[simp] theorem c8N:d6 Tryz.prog 39= .agg [.slice none 0 0, .slice none 0 0, .slice none 0 0, .slice none 0 0, .slice none 0 0] [(0,4,29),(4,1,37)]:=by kernel_rfl
@[simp] theorem c8L:d6 Tryz.prog 40= .slice 51:=by kernel_rfl
@[simp] theorem c8U:d6 Tryz.prog 41= .slice 3:=by kernel_rfl
@[simp] theorem c8o:d6 Tryz.prog 43= .agg [.slice none 0 0, .slice none 0 0] [(0,1,40),(1,1,41)]:=by kernel_rfl
@[simp] theorem c6Y:d6 Tryz.prog 49= .slice 56:=by kernel_rfl
@[simp] theorem c8k:d6 Tryz.prog 51= .agg [.int .i64 0, .int .i64 0, .slice none 0 0, .int .i64 0] [(0,1,3),(1,1,3),(2,1,49),(3,1,3)]:=by kernel_rfl
@[simp] theorem c8W:Tryz.prog.bytesOf 51=48:=by kernel_rfl
@[simp] theorem c6p:d6 Tryz.prog 54= .slice 70:=by kernel_rfl
@[simp] theorem c7G:d6 Tryz.prog 56= .agg [.int .i64 0, .bool false] [(0,1,3),(1,1,4)]:=by kernel_rfl
@[simp] theorem c9e:Tryz.prog.bytesOf 56=16:=by kernel_rfl
@[simp] theorem c8q:d6 Tryz.prog 60= .cell (.int .i64 0):=by kernel_rfl
@[simp] theorem c8y:d6 Tryz.prog 62= .agg [.int .i64 0, .int .i64 0] [(0,1,60),(1,1,3)]:=by kernel_rfl
@[simp] theorem c7T:d6 Tryz.prog 70= .agg [.int .i64 0, .int .i64 0, .int .i64 0, .slice none 0 0, .int .i64 0, .bool false] [(0,1,3),(1,1,3),(2,1,3),(3,1,49),(4,2,56)]:=by kernel_rfl
@[simp] theorem c7w:d6 Tryz.prog 76= .agg [.int .i64 0, .int .i64 0] [(0,1,3),(1,1,3)]:=by kernel_rfl
@[simp] theorem c8v:Tryz.prog.bytesOf 76=16:=by kernel_rfl
@[simp] theorem c8D:d6 Tryz.prog 77= .cell (.int .i64 0):=by kernel_rfl
@[simp] theorem c7s:d6 Tryz.prog 78= .slice 161:=by kernel_rfl
@[simp] theorem c7l:d6 Tryz.prog 80= .agg [.int .i64 0, .int .i64 0, .int .i64 0, .slice none 0 0, .int .i64 0] [(0,2,76),(2,1,77),(3,1,78),(4,1,3)]:=by kernel_rfl
@[simp] theorem c8C:Tryz.prog.bytesOf 80=56:=by kernel_rfl
@[simp] theorem c7m:d6 Tryz.prog 81= .slice 76:=by kernel_rfl
@[simp] theorem c8c:d6 Tryz.prog 83= .agg [.int .i64 0, .int .i64 0, .slice none 0 0, .int .i64 0, .int .i64 0] [(0,1,3),(1,1,3),(2,1,81),(3,1,3),(4,1,3)]:=by kernel_rfl
@[simp] theorem c8M:Tryz.prog.bytesOf 83=56:=by kernel_rfl
@[simp] theorem c7F:d6 Tryz.prog 85= .agg [.slice none 0 0] [(0,1,49)]:=by kernel_rfl
@[simp] theorem c8t:Tryz.prog.bytesOf 85=24:=by kernel_rfl
@[simp] theorem c9a:d6 Tryz.prog 88= .cell (.pointer none):=by kernel_rfl
@[simp] theorem c8u:d6 Tryz.prog 92= .cell (.map none):=by kernel_rfl
@[simp] theorem c8Y:d6 Tryz.prog 93= .cell (.map none):=by kernel_rfl
@[simp] theorem c8s:d6 Tryz.prog 94= .cell (.map none):=by kernel_rfl
@[simp] theorem c8z:d6 Tryz.prog 95= .cell (.map none):=by kernel_rfl
@[simp] theorem c8G:d6 Tryz.prog 96= .cell (.map none):=by kernel_rfl
@[simp] theorem c8m:d6 Tryz.prog 98= .agg [.slice none 0 0, .slice none 0 0, .slice none 0 0, .slice none 0 0, .map none, .map none, .map none, .map none, .map none] [(0,4,29),(4,1,92),(5,1,93),(6,1,94),(7,1,95),(8,1,96)]:=by kernel_rfl
@[simp] theorem c9c:d6 Tryz.prog 99= .cell (.pointer none):=by kernel_rfl
@[simp] theorem c6U:d6 Tryz.prog 100= .cell (.map none):=by kernel_rfl
@[simp] theorem c7U:d6 Tryz.prog 102= .agg [.pointer none, .map none, .slice none 0 0] [(0,1,88),(1,1,100),(2,1,41)]:=by kernel_rfl
@[simp] theorem c7b:d6 Tryz.prog 104= .agg [.pointer none] [(0,1,99)]:=by kernel_rfl
@[simp] theorem c5w:d6 Tryz.prog 108= .agg [.int .i64 0, .int .i64 0] [(0,1,3),(1,1,3)]:=by kernel_rfl
@[simp] theorem c6K:Tryz.prog.bytesOf 108=16:=by kernel_rfl
@[simp] theorem c7A:d6 Tryz.prog 109= .slice 4:=by kernel_rfl
@[simp] theorem c6H:d6 Tryz.prog 116= .slice 119:=by kernel_rfl
@[simp] theorem c6z:d6 Tryz.prog 119= .agg [.int .i64 0, .int .i64 0] [(0,1,3),(1,1,3)]:=by kernel_rfl
@[simp] theorem c7K:Tryz.prog.bytesOf 119=16:=by kernel_rfl
@[simp] theorem c7B:d6 Tryz.prog 152= .agg [.int .i64 0, .int .i64 0, .int .i64 0, .int .i64 0] [(0,1,3),(1,1,3),(2,1,3),(3,1,3)]:=by kernel_rfl
@[simp] theorem c6P:Tryz.prog.bytesOf 152=32:=by kernel_rfl
@[simp] theorem c7C:d6 Tryz.prog 153= .arr [.int .i64 0, .int .i64 0, .int .i64 0, .int .i64 0] 4 3:=by kernel_rfl
@[simp] theorem c6b:d6 Tryz.prog 161= .agg [.int .i64 0, .bool false] [(0,1,3),(1,1,4)]:=by kernel_rfl
@[simp] theorem c6O:Tryz.prog.bytesOf 161=16:=by kernel_rfl
@[simp] theorem c7d:d6 Tryz.prog 184= .cell (.nilFunc):=by kernel_rfl
@[simp] theorem c7R:d6 Tryz.prog 185= .slice 184:=by kernel_rfl
@[simp] theorem c7k:d6 Tryz.prog 200= .cell (.pointer none):=by kernel_rfl
@[simp] theorem c7e:d6 Tryz.prog 209= .agg [.int .i64 0, .int .i64 0] [(0,1,3),(1,1,3)]:=by kernel_rfl
@[simp] theorem c7X:d6 Tryz.prog 217= .cell (.pointer none):=by kernel_rfl
@[simp] theorem c6T:d6 Tryz.prog 222= .agg [.int .i64 0, .int .i64 0] [(0,2,62)]:=by kernel_rfl
@[simp] theorem c7O:d6 Tryz.prog 226= .cell (.nilFunc):=by kernel_rfl
@[simp] theorem c6E:d6 Tryz.prog 229= .arr [.int .i64 0, .bool false, .int .i64 0, .bool false] 2 56:=by kernel_rfl
@[simp] theorem c7t:d6 Tryz.prog 231= .agg [.int .i64 0, .int .i64 0, .bool false] [(0,2,119),(2,1,4)]:=by kernel_rfl
@[simp] theorem c7Z:d6 Tryz.prog 241= .arr [.int .i64 0, .int .i64 0, .int .i64 0, .int .i64 0, .int .i64 0, .int .i64 0, .int .i64 0] 7 3:=by kernel_rfl
@[simp] theorem c7M:d6 Tryz.prog 245= .slice 254:=by kernel_rfl
@[simp] theorem c8a:d6 Tryz.prog 247= .agg [.slice none 0 0, .slice none 0 0, .slice none 0 0] [(0,2,25),(2,1,245)]:=by kernel_rfl
@[simp] theorem c6J:d6 Tryz.prog 252= .agg [.int .i64 0, .int .i64 0] [(0,1,3),(1,1,3)]:=by kernel_rfl
@[simp] theorem c7i:d6 Tryz.prog 254= .slice 258:=by kernel_rfl
@[simp] theorem c7j:Tryz.prog.bytesOf 254=24:=by kernel_rfl
@[simp] theorem c7I:d6 Tryz.prog 256= .agg [.int .i64 0, .int .i64 0, .int .i64 0, .int .i64 0] [(0,2,76),(2,2,76)]:=by kernel_rfl
@[simp] theorem c6R:d6 Tryz.prog 258= .agg [.int .i64 0, .int .i64 0, .int .i64 0, .int .i64 0, .int .i64 0, .int .i64 0, .slice none 0 0, .int .i64 0, .int .i64 0] [(0,2,209),(2,4,256),(6,1,81),(7,1,3),(8,1,3)]:=by kernel_rfl
@[simp] theorem c6S:Tryz.prog.bytesOf 258=88:=by kernel_rfl
@[simp] theorem c7Y:d6 Tryz.prog 266= .cell (.nilFunc):=by kernel_rfl
@[simp] theorem c6D:d6 Tryz.prog 277= .cell (.map none):=by kernel_rfl
@[simp] theorem c6Z:d6 Tryz.prog 279= .agg [.slice none 0 0, .slice none 0 0, .slice none 0 0, .map none] [(0,2,25),(2,1,41),(3,1,277)]:=by kernel_rfl
@[simp] theorem c6W:d6 Tryz.prog 289= .slice 292:=by kernel_rfl
@[simp] theorem c7E:d6 Tryz.prog 292= .agg [.nilFunc] [(0,1,266)]:=by kernel_rfl
@[simp] theorem c7o:d6 Tryz.prog 305= .cell (.int .u64 0):=by kernel_rfl
@[simp] theorem c7n:d6 Tryz.prog 309= .slice 81:=by kernel_rfl
@[simp] theorem c7V:d6 Tryz.prog 322= .agg [.int .i64 0, .int .i64 0, .int .i64 0, .slice none 0 0, .int .i64 0] [(0,5,80)]:=by kernel_rfl
@[simp] theorem c7z:d6 Tryz.prog 330= .cell (.nilFunc):=by kernel_rfl
@[simp] theorem c7p:d6 Tryz.prog 331= .arr [.nilFunc, .nilFunc, .nilFunc, .nilFunc, .nilFunc, .nilFunc, .nilFunc] 7 330:=by kernel_rfl
@[simp] theorem c7N:d6 Tryz.prog 336= .arr [.int .u64 0, .int .u64 0] 2 305:=by kernel_rfl
@[simp] theorem c8S:L2 Tryz.prog 22=false:=by kernel_rfl
@[simp] theorem c8P:L2 Tryz.prog 23=false:=by kernel_rfl
@[simp] theorem c8p:L2 Tryz.prog 26=false:=by kernel_rfl
@[simp] theorem c9d:L2 Tryz.prog 27=false:=by kernel_rfl
@[simp] theorem c8O:L2 Tryz.prog 37=false:=by kernel_rfl
@[simp] theorem c9b:L2 Tryz.prog 40=false:=by kernel_rfl
@[simp] theorem c8J:L2 Tryz.prog 41=false:=by kernel_rfl
@[simp] theorem c8B:L2 Tryz.prog 49=false:=by kernel_rfl
@[simp] theorem c8g:L2 Tryz.prog 78=false:=by kernel_rfl
@[simp] theorem c8w:L2 Tryz.prog 81=false:=by kernel_rfl
@[simp] theorem c6V:L2 Tryz.prog 116=false:=by kernel_rfl
@[simp] theorem c6x:L2 Tryz.prog 185=false:=by kernel_rfl
@[simp] theorem c7a:a9F Tryz.prog 222=true:=by kernel_rfl
@[simp] theorem c6I:L2 Tryz.prog 245=false:=by kernel_rfl
@[simp] theorem c7r:L2 Tryz.prog 254=false:=by kernel_rfl
@[simp] theorem c8b:L2 Tryz.prog 289=false:=by kernel_rfl
@[simp] theorem c7x:L2 Tryz.prog 309=false:=by kernel_rfl
@[simp] theorem kt3:a3y Tryz.prog 3=some (.i .i64):=by kernel_rfl
@[simp] theorem c7H:a5v Tryz.prog 56=some [.i .i64, .b]:=by kernel_rfl
@[simp] theorem c7y:a5v Tryz.prog 62=some [.i .i64, .i .i64]:=by kernel_rfl
@[simp] theorem c8Q:a2r Tryz.prog 92=some (true,[.i .i64, .i .i64, .i .i64, .i .i64], .bool false):=by kernel_rfl
@[simp] theorem c8x:a2r Tryz.prog 93=some (false,[.i .i64], .int .i64 0):=by kernel_rfl
@[simp] theorem c8j:a2r Tryz.prog 94=some (true,[.i .i64, .b], .bool false):=by kernel_rfl
@[simp] theorem c8n:a2r Tryz.prog 95=some (true,[.i .i64, .b, .i .i64, .b], .bool false):=by kernel_rfl
@[simp] theorem c8E:a2r Tryz.prog 96=some (true,[.i .i64, .b, .i .i64, .b], .agg [.int .i64 0, .int .i64 0, .bool false].toArray):=by kernel_rfl
@[simp] theorem c6L:a2r Tryz.prog 100=some (false,[.i .i64], .agg [.int .i64 0, .int .i64 0, .slice none 0 0, .int .i64 0].toArray):=by kernel_rfl
@[simp] theorem c6u:a5v Tryz.prog 152=some [.i .i64, .i .i64, .i .i64, .i .i64]:=by kernel_rfl
@[simp] theorem c6w:a5v Tryz.prog 161=some [.i .i64, .b]:=by kernel_rfl
@[simp] theorem c6N:a2r Tryz.prog 199=some (true,[.i .i64, .b], .bool false):=by kernel_rfl
@[simp] theorem c7J:a2r Tryz.prog 212=some (false,[.i .i64], .bool false):=by kernel_rfl
@[simp] theorem c6G:a2r Tryz.prog 277=some (true,[.i .i64, .b], .int .i64 0):=by kernel_rfl
theorem a1H:Tryz.prog.follows .mixedOrders=true:=by kernel_rfl
end Go.AM
end
section
namespace Go.AM
open Go.Proofs
section
variable {J : Jt} {ro : Option Nat} {nt : Nat} {kp : List Nat} {l : List Oper} {y : Code} {id : Nat} {T T' : Tm} {H H' : Hp} {tr : List Tr} {Q : Exit -> Tm -> Hp -> Prop}
theorem aD (h : AWp Tryz.prog nt y T' H' Q) (e : ∀ K : Tm -> Hp -> List Tr -> Prop, K T' H' tr -> U5 Tryz.prog nt (l.map (·.dst)) l T H [] K := by intro K hK; simp -dsimp; exact hK) (hd : a1l l tr = true := by decide +kernel) : AWp Tryz.prog nt (.seq (.region id l.toArray true) y) T H Q := b1p a1H rfl fun K hK => e K (hK _ _ _ hd h)
theorem aE (h : Q .normal T' H') (e : ∀ K : Tm -> Hp -> List Tr -> Prop, K T' H' tr -> U5 Tryz.prog nt (l.map (·.dst)) l T H [] K := by intro K hK; simp -dsimp; exact hK) (hd : a1l l tr = true := by decide +kernel) : AWp Tryz.prog nt (.region id l.toArray true) T H Q := b1a a1H rfl fun K hK => e K (hK _ _ _ hd h)
theorem gD (h : GWp Tryz.prog ro J nt kp y T' H' Q) (e : ∀ K : Tm -> Hp -> List Tr -> Prop, K T' H' tr -> U5 Tryz.prog nt (l.map (·.dst)) l T H [] K := by intro K hK; simp -dsimp; exact hK) (hd : a1l l tr = true := by decide +kernel) (hnt : nt <= 999999 := by decide) (hkp : z6 kp (l.map (·.dst)) = true := by rfl) (hnd : l.all o4 = true := by rfl) : GWp Tryz.prog ro J nt kp (.seq (.region id l.toArray true) y) T H Q := c0p a1H rfl hnt hkp hnd fun K hK => e K (hK _ _ _ hd h)
theorem gE (h : Q .normal T' H') (e : ∀ K : Tm -> Hp -> List Tr -> Prop, K T' H' tr -> U5 Tryz.prog nt (l.map (·.dst)) l T H [] K := by intro K hK; simp -dsimp; exact hK) (hd : a1l l tr = true := by decide +kernel) (hnt : nt <= 999999 := by decide) (hkp : z6 kp (l.map (·.dst)) = true := by rfl) (hnd : l.all o4 = true := by rfl) : GWp Tryz.prog ro J nt kp (.region id l.toArray true) T H Q := a7t a1H rfl hnt hkp hnd fun K hK => e K (hK _ _ _ hd h)
end
end Go.AM
end
section
namespace Go.Tram
open Go.AM
structure Spot where
 X:Int
 Y:Int
 deriving DecidableEq,Inhabited
structure E1 where
 Rail:Int
 Last:Bool
 deriving DecidableEq,Inhabited
structure Node where
 Spot:Spot
 Kind:Int
 Ends:List E1
 Normal:Int
 deriving Inhabited
structure Rail where
 From:Int
 To:Int
 Shape:List Spot
 Limit:Int
 Slope:Int
 deriving Inhabited
structure Plan where
 Nodes:List Node
 Rails:List Rail
 deriving Inhabited
structure b0z where
 Rail:Int
 Segment:Int
 deriving DecidableEq,Inhabited
structure Profile where
 Half:Int
 Swing:Int
 deriving DecidableEq,Inhabited
structure b7R where
 Rail:Int
 From:Int
 To:Int
 deriving DecidableEq,Inhabited
structure F5 where
 RailA:Int
 ProfileA:Int
 RailB:Int
 ProfileB:Int
 deriving DecidableEq,Inhabited
@[simp] def Spot.cells (s:Spot):List AV:=[I s.X,I s.Y]
@[simp] def E1.cells (s:E1):List AV:=[I s.Rail,Bo s.Last]
@[simp] def Node.cells (n:Node):List AV:=[I n.Spot.X,I n.Spot.Y,I n.Kind, .lst 2 (n.Ends.map E1.cells),I n.Normal]
@[simp] def Rail.cells (r:Rail):List AV:=[I r.From,I r.To, .lst 2 (r.Shape.map Spot.cells),I r.Limit,I r.Slope]
@[simp] def Plan.cells (p:Plan):List AV:=[.lst 5 (p.Nodes.map Node.cells), .lst 5 (p.Rails.map Rail.cells)]
@[simp] def b0z.cells (s:b0z):List AV:=[I s.Rail,I s.Segment]
@[simp] def Profile.cells (s:Profile):List AV:=[I s.Half,I s.Swing]
@[simp] def b7R.cells (s:b7R):List AV:=[I s.Rail,I s.From,I s.To]
@[simp] def F5.cells (s:F5):List AV:=[I s.RailA,I s.ProfileA,I s.RailB,I s.ProfileB]
abbrev Spot.av (s:Spot):AV:= .agg s.cells
abbrev Plan.av (s:Plan):AV:= .agg s.cells
abbrev b0z.av (s:b0z):AV:= .agg s.cells
abbrev Profile.av (s:Profile):AV:= .agg s.cells
abbrev Node.av (s:Node):AV:= .agg s.cells
abbrev Rail.av (s:Rail):AV:= .agg s.cells
abbrev E1.av (s:E1):AV:= .agg s.cells
abbrev b7R.av (s:b7R):AV:= .agg s.cells
abbrev F5.av (s:F5):AV:= .agg s.cells
theorem c4 {n:Int} (h1:-9223372036854775808<=n) (h2:n<=9223372036854775807):IntKind.i64.wrap n=n:=IntWalk.i64_in n ⟨h1,h2⟩
theorem y6 {a b A B:Int} (ha:-A<=a) (ha':a<=A) (hb:-B<=b) (hb':b<=B):-(A*B)<=a*b/\a*b<=A*B:=by
 have hA:0<=A:=by omega
 have hB:0<=B:=by omega
 have h1:(a*b).natAbs<=(A*B).natAbs:=by
  rw[Int.natAbs_mul,Int.natAbs_mul];exact Nat.mul_le_mul (by omega) (by omega)
 have h2:0<=A*B:=Int.mul_nonneg hA hB;omega
theorem b2C (a:Int):0<=a*a:=by
 rcases Int.le_total 0 a with h|h
 ·exact Int.mul_nonneg h h
 ·have:=Int.mul_nonneg (show 0<=-a by omega) (show 0<=-a by omega)
  rwa [Int.neg_mul_neg]at this
def inr (x lo hi:Int):Bool:=decide (lo<=x)&&decide (x<=hi)
theorem g6 {x lo hi:Int}:inr x lo hi=true↔lo<=x/\x<=hi:=by simp[inr]
def b9u (n r:Int):Prop:=0<=r/\r*r<=n/\n<(r+1)*(r+1)
def a7j:Nat->Nat
 |0=>0
 |n+1=>if (a7j n+1)*(a7j n+1)<=n+1 then a7j n+1 else a7j n
@[irreducible] def isq (n:Int):Int:=(a7j n.toNat:Int)
theorem a8D:∀n:Nat,a7j n*a7j n<=n/\n<(a7j n+1)*(a7j n+1)
 |0=>by simp[a7j]
 |n+1=>by
  obtain⟨h1,h2⟩:=a8D n;simp only[a7j]
  split
  ·rename_i h;refine⟨h,?_⟩;have:(a7j n+1)*(a7j n+1)<(a7j n+1+1)*(a7j n+1+1):=Nat.mul_lt_mul'' (by omega) (by omega);omega
  ·exact⟨by omega,by omega⟩
theorem a7C {n:Int} (h:0<=n):b9u n (isq n):=by
 obtain⟨h1,h2⟩:=a8D n.toNat;refine⟨by simp[isq],?_,?_⟩
 ·have:((a7j n.toNat*a7j n.toNat:Nat):Int)<=n:=by omega
  simpa [isq]using this
 ·have:n<(((a7j n.toNat+1)*(a7j n.toNat+1):Nat):Int):=by omega
  simpa [isq]using this
theorem b0a {n r s:Int} (h:b9u n r) (k:b9u n s):r=s:=by
 obtain⟨h1,h2,h3⟩:=h;obtain⟨k1,k2,k3⟩:=k
 rcases Int.lt_trichotomy r s with h|h|h
 ·have:(r+1)*(r+1)<=s*s:=Int.mul_le_mul (by omega) (by omega) (by omega) (by omega);omega
 ·exact h
 ·have:(s+1)*(s+1)<=r*r:=Int.mul_le_mul (by omega) (by omega) (by omega) (by omega);omega
theorem b1B {n r:Int} (h:b9u n r):isq n=r:=by
 have h0:0<=n:=Int.le_trans (Int.mul_nonneg h.1 h.1) h.2.1;exact b0a (a7C h0) h
def l7 (s:Spot):Bool:=inr s.X (-10000000) 10000000&&inr s.Y (-10000000) 10000000
def sqd (a b:Spot):Int:=(a.X-b.X)*(a.X-b.X)+(a.Y-b.Y)*(a.Y-b.Y)
def far (a b:Spot):Int:=isq (sqd a b)
theorem K0 {s:Spot}:l7 s=true↔(-10000000<=s.X/\s.X<=10000000)/\-10000000<=s.Y/\s.Y<=10000000:=by simp[l7,g6]
theorem b4F {a b:Spot} (ha:l7 a=true) (hb:l7 b=true):0<=sqd a b/\sqd a b<=800000000000000:=by
 rw[K0]at ha hb;have h1:=y6 (a:=a.X-b.X) (b:=a.X-b.X) (A:=20000000) (B:=20000000) (by omega) (by omega) (by omega) (by omega);have h2:=y6 (a:=a.Y-b.Y) (b:=a.Y-b.Y) (A:=20000000) (B:=20000000) (by omega) (by omega) (by omega) (by omega);have h3:=b2C (a.X-b.X);have h4:=b2C (a.Y-b.Y);unfold sqd;omega
theorem c4u {a b:Spot} (ha:l7 a=true) (hb:l7 b=true):0<=far a b/\far a b<30000000:=by
 obtain⟨h1,h2⟩:=b4F ha hb;obtain⟨k1,k2,k3⟩:=a7C h1;refine⟨k1,?_⟩;unfold far
 rcases Int.lt_or_le (isq (sqd a b)) 30000000 with h|h
 ·exact h
 ·have:(30000000:Int)*30000000<=isq (sqd a b)*isq (sqd a b):=Int.mul_le_mul h h (by omega) (by omega);omega
@[irreducible] def Plan.node (p:Plan) (i:Int):Node:=p.Nodes[i.toNat]?.getD default
@[irreducible] def Plan.rail (p:Plan) (i:Int):Rail:=p.Rails[i.toNat]?.getD default
theorem b9J {α:Type} [Inhabited α] {l:List α} {i:Int} (h0:0<=i) (h1:i<l.length):l[i.toNat]?=some (l[i.toNat]?.getD default):=by
 have:i.toNat<l.length:=by omega
 simp[this]
theorem Plan.node_get {p:Plan} {i:Int} (h0:0<=i) (h1:i<p.Nodes.length):p.Nodes[i.toNat]?=some (p.node i):=by unfold Plan.node;exact b9J h0 h1
theorem Plan.rail_get {p:Plan} {i:Int} (h0:0<=i) (h1:i<p.Rails.length):p.Rails[i.toNat]?=some (p.rail i):=by unfold Plan.rail;exact b9J h0 h1
def T7 (k:Int):Int:=if k=1 then 1 else if k=2 then 2 else if k=3 then 4 else if k=4∨k=5∨k=6 then 3 else 0
def v9 (p:Plan) (r:Rail):List Spot:=(p.node r.From).Spot::(r.Shape++[(p.node r.To).Spot])
def Plan.line (p:Plan) (i:Int):List Spot:=v9 p (p.rail i)
def Plan.at (p:Plan) (e:E1):Int:=if e.Last then(p.rail e.Rail).To else(p.rail e.Rail).From
def nth (l:List Spot) (k:Nat):Spot:=l[k]?.getD default
@[irreducible] def D4 (l:List Spot) (k:Nat):Int:=far (nth l k) (nth l (k+1))
def N7 (l:List Spot):Nat->Int
 |0=>0
 |k+1=>N7 l k+D4 l k
@[irreducible] def Plan.len (p:Plan) (i:Int):Int:=N7 (p.line i) ((p.rail i).Shape.length+1)
theorem y8 {l:List Spot} {k:Nat} (h:k<l.length):l[k]?=some (nth l k):=by simp[nth,h]
theorem b1v (p:Plan) (i:Int):(p.line i).length=(p.rail i).Shape.length+2:=by simp[Plan.line,v9]
def C3 (n:Node):Bool:=(if n.Kind=5∨n.Kind=6 then inr n.Normal 1 2 else decide (n.Normal=0))&&(l7 n.Spot&&(decide (T7 n.Kind≠0)&&decide ((n.Ends.length:Int)=T7 n.Kind)))
def a8O (l:List Spot) (k:Nat):Bool:=inr (D4 l k) 1 1000000
def S8 (p:Plan) (r:Rail):Bool:=inr r.From 0 (p.Nodes.length-1)&&(inr r.To 0 (p.Nodes.length-1)&&(decide (r.Shape.length<=30)&&(inr r.Limit 1 50000&&inr r.Slope (-120) 120)))
def E5 (p:Plan) (r:Rail):Bool:=S8 p r&&(r.Shape.all l7&&(List.range (r.Shape.length+1)).all (a8O (v9 p r)))
def s6 (p:Plan):Nat->List (Nat×E1)
 |0=>[]
 |k+1=>s6 p k++(p.node k).Ends.map fun e=>(k,e)
def endB (p:Plan) (x:Nat×E1):Bool:=inr x.2.Rail 0 (p.Rails.length-1)&&decide (p.at x.2=(x.1:Int))
def a1d (p:Plan):Bool:=inr p.Nodes.length 1 300&&inr p.Rails.length 1 400&&p.Nodes.all C3&&p.Rails.all (E5 p)
def a1b (p:Plan):Bool:=(s6 p p.Nodes.length).all (endB p)&&(decide ((s6 p p.Nodes.length).map (·.2)).Nodup&&decide ((s6 p p.Nodes.length).length=2*p.Rails.length))
def d8 (p:Plan):Bool:=a1d p&&a1b p
theorem a0h {α:Type} {l:List α} {f:α->Bool} {k:Nat} {x:α} (h:l[k]?=some x):(l.take (k+1)).all f=((l.take k).all f&&f x):=by
 rw[qz,List.all_append,h];simp
theorem Y2 {α:Type} {l:List α} {f:α->Bool} {k:Nat} (hk:l.length<=k) (h:(l.take k).all f=true):l.all f=true:=by rwa [qg hk]at h
theorem b1m {α:Type} {l:List α} {f:α->Bool} {k:Nat} {x:α} (h:l[k]?=some x) (hf:f x=false):l.all f=false:=by
 rw[List.all_eq_false];exact⟨x,qd h,by simp[hf]⟩
theorem a1B {p:Plan} {k:Nat} {n:Node} (h:p.Nodes[k]?=some n) (hf:C3 n=false):d8 p=false:=by simp[d8,a1d,b1m h hf]
theorem Y3 {p:Plan} {k:Nat} {r:Rail} (h:p.Rails[k]?=some r) (hf:E5 p r=false):d8 p=false:=by simp[d8,a1d,b1m h hf]
def a0S (p:Plan) (i j:Nat):List (Nat×E1):=s6 p i++((p.node i).Ends.take j).map fun e=>(i,e)
@[simp] def b4p (l:List (Nat×E1)):List (List AV):=l.map fun x=>x.2.cells
theorem a1X (p:Plan) (i:Nat):a0S p i 0=s6 p i:=by simp[a0S]
theorem Q9 {p:Plan} {i j:Nat} {e:E1} (he:(p.node i).Ends[j]?=some e):a0S p i (j+1)=a0S p i j++[(i,e)]:=by
 simp[a0S,qz,he]
theorem b1S {p:Plan} {i j:Nat} (h:(p.node i).Ends.length<=j):a0S p i j=s6 p (i+1):=by
 simp[a0S,s6,qg h]
theorem a2p (p:Plan) (i:Nat):∀d,∃rest,s6 p (i+d)=s6 p i++rest
 |0=>⟨[],by simp⟩
 |d+1=>by
  obtain⟨r,hr⟩:=a2p p i d;exact⟨r++(p.node ((i+d:Nat):Int)).Ends.map fun e=>(i+d,e),by rw[<-Nat.add_assoc];simp only[s6];rw[hr,List.append_assoc]⟩
theorem a6P {p:Plan} {i j:Nat} (hi:i<p.Nodes.length) {e:E1} (he:(p.node i).Ends[j]?=some e):∃rest,s6 p p.Nodes.length=a0S p i j++(i,e)::rest:=by
 obtain⟨r,hr⟩:=a2p p (i+1) (p.Nodes.length-(i+1));rw[show i+1+(p.Nodes.length-(i+1))=p.Nodes.length by omega]at hr;refine⟨((p.node i).Ends.drop (j+1)).map (fun e=>(i,e))++r,?_⟩;rw[hr];have hj:j<(p.node i).Ends.length:=(qa.1 he).1;have he':(p.node i).Ends[j]=e:=(qa.1 he).2;have:(p.node i).Ends=(p.node i).Ends.take j++e::(p.node i).Ends.drop (j+1):=by
  rw[<-he',List.getElem_cons_drop,List.take_append_drop]
 simp only[s6,a0S]
 conv=>lhs;rw[this]
 simp
theorem a3m {p:Plan} {i j:Nat} (hi:i<p.Nodes.length) {e:E1} (he:(p.node i).Ends[j]?=some e) (hf:endB p (i,e)=false):d8 p=false:=by
 obtain⟨r,hr⟩:=a6P hi he;simp[d8,a1b,hr,hf]
theorem a0w {p:Plan} {i j m:Nat} (hi:i<p.Nodes.length) {e:E1} (he:(p.node i).Ends[j]?=some e) {x:Nat×E1} (hx:(a0S p i j)[m]?=some x) (hxe:x.2=e):d8 p=false:=by
 obtain⟨r,hr⟩:=a6P hi he;have hm:e∈(a0S p i j).map (·.2):=by rw[<-hxe];exact qu (qd hx)
 have:¬((s6 p p.Nodes.length).map (·.2)).Nodup:=by
  rw[hr,List.map_append,List.map_cons,List.nodup_append];rintro⟨_,_,h⟩;exact h _ hm _ (by simp) rfl
 simp[d8,a1b,this]
theorem C4 {p:Plan} (h:p.Nodes.all C3=true) {i:Int} (h0:0<=i) (h1:i<p.Nodes.length):C3 (p.node i)=true:=qn.1 h _ (qd (p.node_get h0 h1))
theorem O7 {n:Node} (h:C3 n=true):l7 n.Spot=true:=by simp[C3]at h;exact h.2.1
theorem a0c {n:Node} (h:C3 n=true):n.Ends.length<=4:=by
 simp only[C3,qh,decide_eq_true_eq]at h;have h2:=h.2.2.2;unfold T7 at h2
 repeat (split at h2;omega)
 omega
theorem a0D {p:Plan} (h:p.Nodes.all C3=true):∀i,i<=p.Nodes.length->(s6 p i).length<=4*i
 |0,_=>by simp[s6]
 |i+1,hi=>by
  have:=a0D h i (by omega);have h2:=a0c (C4 h (i:=(i:Int)) (by omega) (by omega));simp only[s6,List.length_append,List.length_map];omega
theorem b8p {p:Plan} (h:p.Nodes.all C3=true) {i j:Nat} (hi:i<p.Nodes.length):(a0S p i j).length<=4*i+4:=by
 have h1:=a0D h i (by omega);have h2:=a0c (C4 h (i:=(i:Int)) (by omega) (by omega));simp only[a0S,List.length_append,List.length_map,qm];omega
theorem a6g {p:Plan} {i:Int} (hf:l7 (p.node (p.rail i).From).Spot=true) (ht:l7 (p.node (p.rail i).To).Spot=true) (hs:(p.rail i).Shape.all l7=true):(p.line i).all l7=true:=by
 simp only[Plan.line,v9,List.all_cons,List.all_append,List.all_nil,hf,ht,hs,Bool.and_self]
end Go.Tram
end
section
namespace Go.Tram
open Go.AM Go.Proofs
theorem b3w (x lo hi:Int):a9 Tryz.prog 75 [I x,I lo,I hi] (Bo (inr x lo hi)):=by
 refine oB Tryz.func75 Tryz.ntmps75 Tryz.results75 ?_;refine aW ?_;refine aW ?_;exact a6 (by simp[inr])
theorem D5 (x lo hi:Int):a9 Tryz.prog 109 [I x,I lo,I hi] (Bo (inr x lo hi)):=by
 refine oB Tryz.func109 Tryz.ntmps109 Tryz.results109 ?_;refine aW ?_;refine aW ?_;exact a6 (by simp[inr])
theorem c4B (n:Int) (h0:0<=n) (h1:n<900000000000000):a9 Tryz.prog 120 [I n] (I (isq n)):=by
 refine oB Tryz.func120 Tryz.ntmps120 Tryz.results120 ?_;refine aW ?_;refine aW ?_;refine a5 fun K1 hK1=>?_;refine b8 ?_;refine aP [0,3,4] ?_;refine c6 [0] (α:=Int×Int) (fun x=>[(3,I x.1),(4,I x.2)]) (fun _=>[]) (fun x=>0<=x.1/\x.1<x.2/\x.2<=30000000/\x.1*x.1<=n/\n<x.2*x.2) (fun x=>(x.2-x.1).toNat) (0,30000000) ?_ ?_ ?_
 ·simp;omega
 ·exact c9 (by simp)
 rintro⟨lo,hi⟩ ⟨i1,i2,i3,i4,i5⟩;simp only[]at i1 i2 i3 i4 i5;have w1:IntKind.i64.wrap (hi-lo)=hi-lo:=c4 (by omega) (by omega);have w2:IntKind.i64.wrap (lo+hi)=lo+hi:=c4 (by omega) (by omega);have w3:(lo+hi).tdiv 2=(lo+hi)/2:=Int.tdiv_eq_ediv_of_nonneg (by omega);have w4:IntKind.i64.wrap ((lo+hi)/2)=(lo+hi)/2:=c4 (by omega) (by omega);have b1:=y6 (a:=(lo+hi)/2) (b:=(lo+hi)/2) (A:=30000000) (B:=30000000) (by omega) (by omega) (by omega) (by omega);have w5:IntKind.i64.wrap ((lo+hi)/2*((lo+hi)/2))=(lo+hi)/2*((lo+hi)/2):=c4 (by omega) (by omega);refine zN ?_;refine a5 fun K2 hK2=>?_;refine aW ?_;refine a7 rfl (fun hc0=>?_) (fun hc0=>?_)
 ·skip
  try simp at hc0
  refine b9 ?_;refine zQ (hK2 _ _ ?_);refine aP [0,3,4] ?_;refine b8 ?_;refine aW ?_ fun K hK=>by simp -dsimp [w1];exact hK
  refine aW ?_ fun K hK=>by simp -dsimp [w2,w3,w4];exact hK
  refine a7 rfl (fun hc1=>?_) (fun hc1=>?_)
  ·skip
   try simp at hc1
   refine aV ?_ fun K hK=>by simp -dsimp [w5];exact hK
   refine zQ ?_;refine⟨((lo+hi)/2,hi),?_,?_,c9 (by simp)⟩<;>simp<;>omega
  ·skip
   try simp at hc1
   refine aV ?_;refine zQ ?_;refine⟨(lo,(lo+hi)/2),?_,?_,c9 (by simp)⟩<;>simp<;>omega
 ·skip
  try simp at hc0
  refine d4 ?_;refine zQ (hK1 _ _ ?_);refine aP [3] ?_;refine aW ?_;refine a6 ?_;have:hi=lo+1:=by omega
  subst this;simp[b1B (n:=n) (r:=lo) ⟨i1,i4,i5⟩]
theorem b4Z (s:Spot):a9 Tryz.prog 76 [s.av] (Bo (l7 s)):=by
 refine oB Tryz.func76 Tryz.ntmps76 Tryz.results76 ?_;refine aW ?_;refine aW ?_ fun K hK=>by simp -dsimp;refine cI (b3w _ _ _) ?_;simp -dsimp;refine cY (fun hm=>b3w _ _ _) ?_;simp -dsimp;exact hK
 exact a6 (by simp[l7])
theorem c6e (a b:Spot) (ha:l7 a=true) (hb:l7 b=true):a9 Tryz.prog 79 [a.av,b.av] (I (far a b)):=by
 have hs:=b4F ha hb;have ha':=K0.1 ha;have hb':=K0.1 hb;have w1:IntKind.i64.wrap (a.X-b.X)=a.X-b.X:=c4 (by omega) (by omega);have w2:IntKind.i64.wrap (a.Y-b.Y)=a.Y-b.Y:=c4 (by omega) (by omega);have h1:=y6 (a:=a.X-b.X) (b:=a.X-b.X) (A:=20000000) (B:=20000000) (by omega) (by omega) (by omega) (by omega);have h2:=y6 (a:=a.Y-b.Y) (b:=a.Y-b.Y) (A:=20000000) (B:=20000000) (by omega) (by omega) (by omega) (by omega);have w3:IntKind.i64.wrap ((a.X-b.X)*(a.X-b.X))=(a.X-b.X)*(a.X-b.X):=c4 (by omega) (by omega);have w4:IntKind.i64.wrap ((a.Y-b.Y)*(a.Y-b.Y))=(a.Y-b.Y)*(a.Y-b.Y):=c4 (by omega) (by omega);have w5:IntKind.i64.wrap ((a.X-b.X)*(a.X-b.X)+(a.Y-b.Y)*(a.Y-b.Y))=sqd a b:=c4 (by unfold sqd at hs;omega) (by unfold sqd at hs;omega);refine oB Tryz.func79 Tryz.ntmps79 Tryz.results79 ?_;refine aW ?_ fun K hK=>by simp -dsimp [w1,w2,w3,w4,w5];exact hK
 refine aD ?_ fun K hK=>by simp -dsimp [w1,w2,w3,w4,w5];exact hK
 refine aW ?_ fun K hK=>by simp -dsimp [w1,w2,w3,w4,w5];refine cI (c4B _ hs.1 (by omega)) ?_;simp -dsimp [w1,w2,w3,w4,w5];exact hK
 exact a6 (by simp[far])
theorem b2c (k:Int):a9 Tryz.prog 77 [I k] (I (T7 k)):=by
 refine oB Tryz.func77 Tryz.ntmps77 Tryz.results77 ?_;refine aW ?_;refine a5 fun K1 hK1=>?_;refine aW ?_;refine b8 ?_;refine aW ?_;refine a7 rfl (fun hc0=>?_) (fun hc0=>?_)
 ·skip
  try simp at hc0
  refine aW ?_;exact a6 (by simp_all [T7])
 ·skip
  try simp at hc0
  refine aW ?_;refine a7 rfl (fun hc1=>?_) (fun hc1=>?_)
  ·skip
   try simp at hc1
   refine aW ?_;exact a6 (by simp_all [T7])
  ·skip
   try simp at hc1
   refine aW ?_;refine a7 rfl (fun hc2=>?_) (fun hc2=>?_)
   ·skip
    try simp at hc2
    refine aW ?_;exact a6 (by simp_all [T7])
   ·skip
    try simp at hc2
    refine a5 fun K2 hK2=>?_;refine aW ?_;refine a7 rfl (fun hc3=>?_) (fun hc3=>?_)
    ·skip
     try simp at hc3
     refine b9 ?_;refine zQ (hK2 _ _ ?_);refine aP [10] ?_;refine a7 rfl (fun hc5=>?_) (fun hc5=>?_)
     ·skip
      try simp at hc5
      refine aW ?_;exact a6 (by simp_all [T7])
     ·skip
      try simp at hc5
      refine b9 ?_;refine zQ (hK1 _ _ ?_);refine aP [] ?_;refine aW ?_;exact a6 (by simp_all [T7])
    ·skip
     try simp at hc3
     refine aW ?_;refine a7 rfl (fun hc4=>?_) (fun hc4=>?_)
     ·skip
      try simp at hc4
      refine b9 ?_;refine zQ (hK2 _ _ ?_);refine aP [10] ?_;refine a7 rfl (fun hc5=>?_) (fun hc5=>?_)
      ·skip
       try simp at hc5
       refine aW ?_;exact a6 (by simp_all [T7])
      ·skip
       try simp at hc5
       refine b9 ?_;refine zQ (hK1 _ _ ?_);refine aP [] ?_;refine aW ?_;exact a6 (by simp_all [T7])
     ·skip
      try simp at hc4
      refine aV ?_;refine zQ (hK2 _ _ ?_);refine aP [10] ?_;refine a7 rfl (fun hc5=>?_) (fun hc5=>?_)
      ·skip
       try simp at hc5
       refine aW ?_;exact a6 (by simp_all [T7])
      ·skip
       try simp at hc5
       refine b9 ?_;refine zQ (hK1 _ _ ?_);refine aP [] ?_;refine aW ?_;exact a6 (by simp_all [T7])
end Go.Tram
end
section
namespace Go.Tram
open Go.AM Go.Proofs
theorem b6Z (p:Plan) (i:Int) (h0:0<=i) (h1:i<p.Rails.length) (hf:0<=(p.rail i).From/\(p.rail i).From<p.Nodes.length) (ht:0<=(p.rail i).To/\(p.rail i).To<p.Nodes.length) (hs:(p.rail i).Shape.length<=1000):
  a9 Tryz.prog 78 [p.av,I i] (.lst 2 ((p.line i).map Spot.cells)):=by
 have e1:p.Rails[i.toNat]?=some (p.rail i):=Plan.rail_get h0 h1;have e2:p.Nodes[(p.rail i).From.toNat]?=some (p.node (p.rail i).From):=Plan.node_get hf.1 hf.2;have e3:p.Nodes[(p.rail i).To.toNat]?=some (p.node (p.rail i).To):=Plan.node_get ht.1 ht.2;have b0:R2 (1+1) 17:=n7 (by omega) (by omega);have b1:R2 ((p.rail i).Shape.length+1) 17:=n7 (by omega) (by omega);have b2:R2 (1+(p.rail i).Shape.length) 17:=n7 (by omega) (by omega);have b3:R2 (1+(p.rail i).Shape.length+1) 17:=n7 (by omega) (by omega);have b4:R2 (1+(1+(p.rail i).Shape.length)) 17:=n7 (by omega) (by omega);have b5:R2 2 17:=n7 (by omega) (by omega)
 by_cases hsh:(p.rail i).Shape=[]
 ·refine oB Tryz.func78 Tryz.ntmps78 Tryz.results78 ?_;refine aW ?_;refine aW ?_ fun K hK=>by simp -dsimp [e1,h0];exact hK
  refine aW ?_ fun K hK=>by simp -dsimp [e2,hf.1];exact hK
  refine aW ?_ fun K hK=>by simp -dsimp [hsh];exact hK
  refine aW ?_ fun K hK=>by simp -dsimp [e3,ht.1,b0,b5];exact hK
  exact a6 (by simp[Plan.line,v9,hsh])
 ·refine oB Tryz.func78 Tryz.ntmps78 Tryz.results78 ?_;refine aW ?_;refine aW ?_ fun K hK=>by simp -dsimp [e1,h0];exact hK
  refine aW ?_ fun K hK=>by simp -dsimp [e2,hf.1];exact hK
  refine aW ?_ fun K hK=>by simp -dsimp [hsh,b1,b2];exact hK
  refine aW ?_ fun K hK=>by simp -dsimp [e3,ht.1,b1,b2,b3,b4,Nat.add_comm,List.take_succ_cons,qg];exact hK
  exact a6 (by simp[Plan.line,v9,Nat.add_comm,qg,Function.comp_def])
theorem c5H (p:Plan) (e:E1) (h0:0<=e.Rail) (h1:e.Rail<p.Rails.length):a9 Tryz.prog 80 [p.av,e.av] (I (p.at e)):=by
 have e1:p.Rails[e.Rail.toNat]?=some (p.rail e.Rail):=Plan.rail_get h0 h1;refine oB Tryz.func80 Tryz.ntmps80 Tryz.results80 ?_;refine aW ?_;refine a5 fun K1 hK1=>?_;refine aW ?_;refine a7 rfl (fun hc0=>?_) (fun hc0=>?_)
 ·skip
  try simp at hc0
  refine aW ?_ fun K hK=>by simp -dsimp [e1,h0];exact hK
  exact a6 (by simp[Plan.at,hc0])
 ·skip
  try simp at hc0
  refine b9 ?_;refine zQ (hK1 _ _ ?_);refine aP [2,3] ?_;refine aW ?_ fun K hK=>by simp -dsimp [e1,h0];exact hK
  exact a6 (by simp[Plan.at,hc0])
end Go.Tram
end
section
namespace Go.Sq
open Ieee
theorem b0Q {q r:Nat} (hq:1<=q) (hq2:q<2047) (hr:r<4503599627370496):double.read (q*4503599627370496+r)= .number false (4503599627370496+r) (double.leastPlace+(q-1:Nat)):=by
 have hb:double.binade=4503599627370496:=by decide
 have hs:double.signWeight=9223372036854775808:=by decide
 have hi:double.infRung=2047*4503599627370496:=by decide
 unfold Format.read;rw[hb,hs,hi];have h1:q*4503599627370496+r<9223372036854775808:=by omega
 rw[Nat.mod_eq_of_lt h1,Nat.div_eq_of_lt h1];have h2:¬q*4503599627370496+r<4503599627370496:=by omega
 have h3:q*4503599627370496+r<2047*4503599627370496:=by omega
 have h4:(q*4503599627370496+r)/4503599627370496=q:=by omega
 have h5:(q*4503599627370496+r) % 4503599627370496=r:=by omega
 simp only[h2,h3,if_true,if_false,h4,h5];simp
theorem c3Q {n drop:Nat} (h:n<2^(53+drop)):Toward.even.cut false n drop<=2^53:=by
 unfold Toward.cut;simp only[Nat.shiftLeft_eq,Nat.one_mul]
 by_cases hd:drop<=n.log2+2
 ·rw[Nat.min_eq_left hd];have hlow:n/2^drop<2^53:=by rw[Nat.div_lt_iff_lt_mul (Nat.two_pow_pos _),<-Nat.pow_add];exact h
  have:∀b:Bool,b.toNat<=1:=by intro b;cases b<;>simp
  refine Nat.le_trans (Nat.add_le_add_left (this _) _) hlow
 ·rw[Nat.min_eq_right (by omega)];have hlt:n<2^(n.log2+2):=qq (Nat.lt_log2_self) (Nat.pow_le_pow_right (by omega) (by omega));rw[Nat.div_eq_of_lt hlt];have:∀b:Bool,b.toNat<=1:=by intro b;cases b<;>simp
  exact Nat.le_trans (Nat.add_le_add_left (this _) _) (by decide)
theorem b8D (n:Nat):Toward.even.cut false n 0=n:=by
 unfold Toward.cut;simp[Nat.mod_one]
theorem a5e (n drop:Nat):Toward.zero.cut false n drop<=n/2^drop:=by
 unfold Toward.cut;simp only[Nat.shiftLeft_eq,Nat.one_mul,Bool.toNat_false,Nat.add_zero]
 by_cases hd:drop<=n.log2+2
 ·rw[Nat.min_eq_left hd];exact qo _
 ·rw[Nat.min_eq_right (by omega)];have hlt:n<2^(n.log2+2):=qq (Nat.lt_log2_self) (Nat.pow_le_pow_right (by omega) (by omega));rw[Nat.div_eq_of_lt hlt];exact qp _
theorem a4N (n:Nat):∀todo root,root*root<=n->Datum.rootFrom n todo root*Datum.rootFrom n todo root<=n
 |0,root,h=>by simpa [Datum.rootFrom]using h
 |todo+1,root,h=>by
  simp only[Datum.rootFrom];refine a4N n todo _ ?_
  split
  ·assumption
  ·exact h
theorem b9a {n:Nat} (h1:1<=n) (h2:n<2^53):∃m:Nat,∃e:Int,double.read (double.write (.number false n 0))= .number false m e/\2^52<=m/\m<2^53/\e=(n.log2:Int)-52:=by
 have hn:n≠0:=by omega
 have hL:n.log2<53:=(Nat.log2_lt hn).2 h2;have hlo:=Nat.log2_self_le hn;have hhi:= @Nat.lt_log2_self n;have hlp:double.leastPlace=-1074:=by decide
 have hb:double.binade=4503599627370496:=by decide
 have hi:double.infRung=2047*4503599627370496:=by decide
 have hf:double.fractionBits=52:=rfl;refine⟨n*2^(52-n.log2),(n.log2:Int)-52,?_,?_,?_,rfl⟩
 ·simp only[Format.write,Format.nearest,hn,if_false,hf,hlp,hi,hb];have hmax:max ((0:Int)+(n.log2:Int)-(52:Nat)) (-1074)=(n.log2:Int)-52:=by omega
  rw[hmax];have e1:((0:Int)-((n.log2:Int)-52)).toNat=52-n.log2:=by omega
  have e2:(((n.log2:Int)-52)-0).toNat=0:=by omega
  have e3:(((n.log2:Int)-52)- -1074).toNat=n.log2+1022:=by omega
  rw[e1,e2,e3,b8D,Nat.shiftLeft_eq];have hk1:2^52<=n*2^(52-n.log2):=by
   have:=Nat.mul_le_mul_right (2^(52-n.log2)) hlo;rw[<-Nat.pow_add]at this
   rwa [show n.log2+(52-n.log2)=52 by omega]at this
  have hk2:n*2^(52-n.log2)<2^53:=by
   have:=Nat.mul_lt_mul_of_pos_right hhi (Nat.two_pow_pos (52-n.log2));rw[<-Nat.pow_add]at this
   rwa [show n.log2+1+(52-n.log2)=53 by omega]at this
  generalize n*2^(52-n.log2)=k at hk1 hk2 ⊢;rw[Nat.min_eq_left (by omega)];have hq:(n.log2+1022)*4503599627370496+k=(n.log2+1023)*4503599627370496+(k-4503599627370496):=by omega
  simp only[Format.word,Bool.false_eq_true,if_false];rw[hq,b0Q (by omega) (by omega) (by omega),hlp];rw[show 4503599627370496+(k-4503599627370496)=k by omega,show(-1074:Int)+((n.log2+1023-1:Nat):Int)=(n.log2:Int)-52 by omega]
 ·have:=Nat.mul_le_mul_right (2^(52-n.log2)) hlo;rw[<-Nat.pow_add]at this
  rwa [show n.log2+(52-n.log2)=52 by omega]at this
 ·have:=Nat.mul_lt_mul_of_pos_right hhi (Nat.two_pow_pos (52-n.log2));rw[<-Nat.pow_add]at this
  rwa [show n.log2+1+(52-n.log2)=53 by omega]at this
theorem b3f {m:Nat} {e:Int} (h1:1<=m) (hm:m<2^60) (he:-100<=e) (he2:e<=100):∃(k:Nat) (d:Int),double.read (double.write (.number false m e))= .number false k d/\k<=2^53/\d<=e+(m.log2:Int)-51/\-1000<=d:=by
 have hn:m≠0:=by omega
 have hL:m.log2<60:=(Nat.log2_lt hn).2 hm;have hhi:= @Nat.lt_log2_self m;have hlp:double.leastPlace=-1074:=by decide
 have hb:double.binade=4503599627370496:=by decide
 have hi:double.infRung=2047*4503599627370496:=by decide
 have hf:double.fractionBits=52:=rfl;simp only[Format.write,Format.nearest,hn,if_false,hf,hlp,hi,hb];have hmax:max (e+(m.log2:Int)-(52:Nat)) (-1074)=e+(m.log2:Int)-52:=by omega
 rw[hmax];have hkept:Toward.even.cut false (m<<< (e-(e+(m.log2:Int)-52)).toNat) ((e+(m.log2:Int)-52)-e).toNat<=2^53:=by
  refine c3Q ?_;rw[Nat.shiftLeft_eq];have:=Nat.mul_lt_mul_of_pos_right hhi (Nat.two_pow_pos (e-(e+(m.log2:Int)-52)).toNat);rw[<-Nat.pow_add]at this;refine qq this (Nat.pow_le_pow_right (by omega) ?_);omega
 generalize Toward.even.cut false (m<<< (e-(e+(m.log2:Int)-52)).toNat) ((e+(m.log2:Int)-52)-e).toNat=k at hkept;obtain⟨q,hq⟩:∃q:Nat,(e+(m.log2:Int)-52- -1074).toNat=q:=⟨_,rfl⟩;rw[hq];have hq1:(q:Int)=e+(m.log2:Int)+1022:=by omega
 rw[Nat.min_eq_left (by omega)];simp only[Format.word,Bool.false_eq_true,if_false];have hkq:q*4503599627370496+k=(q+k/4503599627370496)*4503599627370496+k % 4503599627370496:=by omega
 rw[hkq,b0Q (by omega) (by omega) (by omega),hlp];refine⟨_,_,rfl,by omega,by omega,by omega⟩
theorem sqrt_bd {n:Nat} (h:n<2^50):∃r x:Nat,FloatKind.f64.format.sqrt (FloatKind.f64.nearest n)=some r/\floatToIntVal .f64 r .i64=some (x:Int)/\x<=2^30:=by
 have hfm:FloatKind.f64.format=double:=rfl
 by_cases h0:n=0
 ·subst h0;exact⟨0,0,by decide,by decide,by decide⟩
 have hne:FloatKind.f64.nearest (n:Int)=double.write (.number false n 0):=by
  simp only[FloatKind.nearest,FloatKind.encode,hfm,Int.natAbs_natCast]
  congr 1
 obtain⟨m,e,hr,hm1,hm2,he⟩:=b9a (n:=n) (by omega) (Nat.lt_trans h (by decide));have hL:n.log2<50:=(Nat.log2_lt h0).2 h;have hmne:m≠0:=by omega
 have hml:m.log2=52:=by
  have a1:m.log2<53:=(Nat.log2_lt hmne).2 hm2;have a2:52<=m.log2:=(Nat.le_log2 hmne).2 hm1;omega
 have hf:double.fractionBits=52:=rfl;rw[hne,hfm];simp only[Format.sqrt,hr,hf,Datum.root,hmne,if_false,hml,Bool.false_eq_true];obtain⟨t,ht⟩:∃t:Nat,2*(52+2)-52+((e-((2*(52+2)-52:Nat):Int)) % 2).toNat=t:=⟨_,rfl⟩;rw[ht];have ht1:56<=t/\t<=57:=by omega
 obtain⟨w,hw⟩:∃w,Datum.rootFrom (m<<<t) ((m<<<t).log2/2+1) 0=w:=⟨_,rfl⟩;have hws:w*w<=m<<<t:=by rw[<-hw];exact a4N _ _ _ (qp _)
 rw[hw];have hN:m<<<t<2^110:=by
  rw[Nat.shiftLeft_eq];have:=Nat.mul_lt_mul_of_pos_right hm2 (Nat.two_pow_pos t);rw[<-Nat.pow_add]at this;exact qq this (Nat.pow_le_pow_right (by omega) (by omega))
 have hw55:w<2^55:=by
  rcases Nat.lt_or_ge w (2^55)with h|h
  ·exact h
  ·have:=Nat.mul_le_mul h h;rw[<-Nat.pow_add]at this;omega
 have hNpos:0<m<<<t:=by rw[Nat.shiftLeft_eq];exact Nat.mul_pos (by omega) (Nat.two_pow_pos _)
 obtain⟨g,hg⟩:∃g,2*w+(w*w !=m<<<t).toNat=g:=⟨_,rfl⟩;have hbt:∀b:Bool,b.toNat<=1:=by intro b;cases b<;>simp
 have hg1:1<=g:=by
  rw[<-hg]
  by_cases hw0:w=0
  ·subst hw0;have:(0*0 !=m<<<t)=true:=by simp;omega
   rw[this];decide
  ·omega
 have hg2:g<2^56:=by rw[<-hg];have:=hbt (w*w !=m<<<t);omega
 rw[hg];simp only[Option.map_some];obtain⟨k,d,hk,hk1,hd1,hd2⟩:=b3f (m:=g) (e:=(e-(t:Int))/2-1) hg1 (Nat.lt_trans hg2 (by decide)) (by omega) (by omega);have hgl:g.log2<56:=(Nat.log2_lt (by omega)).2 hg2;refine⟨_,Toward.zero.cut false k (-d).toNat,rfl,?_,?_⟩
 ·have hd0:d.toNat=0:=by omega
  have hx:Toward.zero.cut false k (-d).toNat<=k:=Nat.le_trans (a5e _ _) (Nat.div_le_self _ _);have hI:(FloatKind.f64.decode (double.write (.number false g ((e-(t:Int))/2-1)))).toInt .zero=some ((Toward.zero.cut false k (-d).toNat:Nat):Int):=by
   simp only[FloatKind.decode,hfm,hk,Datum.toInt,Datum.integral,hd0,signed,Nat.shiftLeft_zero,Bool.false_eq_true,if_false]
  unfold floatToIntVal;rw[hI];have hmin:IntKind.i64.min=-9223372036854775808:=by decide
  have hmax:IntKind.i64.max=9223372036854775807:=by decide
  simp only[hmin,hmax];rw[if_pos (by omega)]
 ·refine Nat.le_trans (a5e _ _) ?_;have h27:27<=(-d).toNat:=by omega
  have:k/2^(-d).toNat<=k/2^27:=Nat.div_le_div_left (Nat.pow_le_pow_right (by omega) h27) (by decide);refine Nat.le_trans this ?_;omega
end Go.Sq
end
section
namespace Go.Tram
open Go.AM
def O5 (a b:Int):Int:=if a<b then-1 else if b<a then 1 else 0
theorem a3V {a b:Int}:O5 a b<0↔a<b:=by unfold O5;split<;>(try split)<;>omega
theorem c2C {a b:Int}:O5 a b<=0↔a<=b:=by unfold O5;split<;>(try split)<;>omega
theorem a0m {a b:Int}:-1<=O5 a b/\O5 a b<=1:=by unfold O5;split<;>(try split)<;>omega
def z4 (a b c d:Spot):Int:=(b.X-a.X)*(d.X-c.X)+(b.Y-a.Y)*(d.Y-c.Y)
def j6 (a b c d:Spot):Int:=(b.X-a.X)*(d.Y-c.Y)-(b.Y-a.Y)*(d.X-c.X)
def x7 (a b p:Spot) (d:Int):Int:=
 if z4 a b a p<=0 then O5 (z4 a p a p) (d*d)
 else if z4 a b a b<=z4 a b a p then O5 (z4 b p b p) (d*d)
 else O5 (j6 a b a p*j6 a b a p) (d*d*z4 a b a b)
def N0 (a b p:Spot):Int:=O5 (j6 a b a p) 0
def X7 (a b c d:Spot):Bool:=decide (N0 a b c*N0 a b d<0)&&decide (N0 c d a*N0 c d b<0)
def c3q (a b c d:Int):Int:=min (min (min a b) c) d
def apart (a b c d:Spot) (r:Int):Int:=if X7 a b c d=true then O5 0 r else c3q (x7 a b c r) (x7 a b d r) (x7 c d a r) (x7 c d b r)
def a0R (less:Bool) (k:Int):Bool:=if less then decide (k<0)else decide (k<=0)
def bis (f:Int->Bool):Nat->Int->Int->Int
 |0,lo,_=>lo
 |n+1,lo,hi=>if hi-lo>1 then(if f ((lo+hi)/2)then bis f n ((lo+hi)/2) hi else bis f n lo ((lo+hi)/2))else lo
theorem a7i {f:Int->Bool} {n:Nat} {lo hi:Int} (h:hi-lo<=1):bis f n lo hi=lo:=by
 cases n with
 |zero=>rfl
 |succ n=>unfold bis;rw[if_neg (by omega)]
theorem a6S {f:Int->Bool}:∀(n m:Nat) (lo hi:Int),(hi-lo).toNat<=n+1->(hi-lo).toNat<=m+1->bis f n lo hi=bis f m lo hi
 |0,m,lo,hi,h1,h2=>by rw[a7i (n:=m) (by omega)];rfl
 |n+1,0,lo,hi,h1,h2=>by rw[a7i (n:=n+1) (by omega)];rfl
 |n+1,m+1,lo,hi,h1,h2=>by
  unfold bis
  split
  ·rw[a6S n m ((lo+hi)/2) hi (by omega) (by omega),a6S n m lo ((lo+hi)/2) (by omega) (by omega)]
  ·rfl
theorem a7K {f:Int->Bool}:∀(n:Nat) (lo hi:Int),lo<hi->(hi-lo).toNat<=n+1->
  lo<=bis f n lo hi/\bis f n lo hi<hi/\(bis f n lo hi=lo∨f (bis f n lo hi)=true)/\(bis f n lo hi+1=hi∨f (bis f n lo hi+1)=false)
 |0,lo,hi,h0,h1=>by
  have:hi=lo+1:=by omega
  subst this;exact⟨Int.le_refl _,by simp[bis];omega,Or.inl rfl,Or.inl rfl⟩
 | n+1,lo,hi,h0,h1=>by
  unfold bis
  split
  ·split
   ·rename_i hf;obtain⟨k1,k2,k3,k4⟩:=a7K n ((lo+hi)/2) hi (by omega) (by omega);refine⟨by omega,k2,?_,k4⟩
    rcases k3 with k3|k3
    ·rw[k3];exact Or.inr hf
    ·exact Or.inr k3
   ·rename_i hf;obtain⟨k1,k2,k3,k4⟩:=a7K (f:=f) n lo ((lo+hi)/2) (by omega) (by omega);refine⟨k1,by omega,k3,?_⟩
    rcases k4 with k4|k4
    ·rw[k4];exact Or.inr (by simpa using hf)
    ·exact Or.inr k4
  ·exact⟨by omega,by omega,Or.inl rfl,Or.inl (by omega)⟩
def gap (a b c d:Spot):Int:=bis (fun r=>decide (0<=apart a b c d r)) 5000 0 5001
theorem a1U (a b:Spot):z4 a b a b=sqd a b:=by
 have h1:(b.X-a.X)*(b.X-a.X)=(a.X-b.X)*(a.X-b.X):=by rw[<-Int.neg_mul_neg];congr 1<;>omega
 have h2:(b.Y-a.Y)*(b.Y-a.Y)=(a.Y-b.Y)*(a.Y-b.Y):=by rw[<-Int.neg_mul_neg];congr 1<;>omega
 simp only[z4,sqd,h1,h2]
theorem a6M (a b:Spot):0<=z4 a b a b:=by
 have:=b2C (b.X-a.X);have:=b2C (b.Y-a.Y);unfold z4;omega
theorem a1q {a b c d:Spot} (ha:l7 a=true) (hb:l7 b=true) (hc:l7 c=true) (hd:l7 d=true):-800000000000000<=z4 a b c d/\z4 a b c d<=800000000000000:=by
 rw[K0]at ha hb hc hd;have h1:=y6 (a:=b.X-a.X) (b:=d.X-c.X) (A:=20000000) (B:=20000000) (by omega) (by omega) (by omega) (by omega);have h2:=y6 (a:=b.Y-a.Y) (b:=d.Y-c.Y) (A:=20000000) (B:=20000000) (by omega) (by omega) (by omega) (by omega);unfold z4;omega
theorem a9d {a b c d:Spot} (ha:l7 a=true) (hb:l7 b=true) (hc:l7 c=true) (hd:l7 d=true):-800000000000000<=j6 a b c d/\j6 a b c d<=800000000000000:=by
 rw[K0]at ha hb hc hd;have h1:=y6 (a:=b.X-a.X) (b:=d.Y-c.Y) (A:=20000000) (B:=20000000) (by omega) (by omega) (by omega) (by omega);have h2:=y6 (a:=b.Y-a.Y) (b:=d.X-c.X) (A:=20000000) (B:=20000000) (by omega) (by omega) (by omega) (by omega);unfold j6;omega
theorem lag (x y u v:Int):(x*v-y*u)*(x*v-y*u)+(x*u+y*v)*(x*u+y*v)=(x*x+y*y)*(u*u+v*v):=by
 simp only[Int.mul_sub,Int.sub_mul,Int.mul_add,Int.add_mul];have e1:x*v*(x*v)=x*x*(v*v):=by ac_rfl
 have e2:y*u*(y*u)=y*y*(u*u):=by ac_rfl
 have e3:x*v*(y*u)=x*u*(y*v):=by ac_rfl
 have e4:y*u*(x*v)=x*u*(y*v):=by ac_rfl
 have e5:y*v*(x*u)=x*u*(y*v):=by ac_rfl
 have e6:x*u*(x*u)=x*x*(u*u):=by ac_rfl
 have e7:y*v*(y*v)=y*y*(v*v):=by ac_rfl
 omega
theorem b2s (a b c d:Spot):j6 a b c d*j6 a b c d+z4 a b c d*z4 a b c d=z4 a b a b*z4 c d c d:=by
 simp only[j6,z4];exact lag _ _ _ _
theorem c2N (a b p:Spot):z4 b p b p=z4 a p a p-2*z4 a b a p+z4 a b a b:=by
 simp only[z4];have hx:p.X-b.X=(p.X-a.X)-(b.X-a.X):=by omega
 have hy:p.Y-b.Y=(p.Y-a.Y)-(b.Y-a.Y):=by omega
 rw[hx,hy];generalize p.X-a.X=x;generalize p.Y-a.Y=y;generalize b.X-a.X=u;generalize b.Y-a.Y=v;simp only[Int.mul_sub,Int.sub_mul];have e1:x*u=u*x:=Int.mul_comm _ _;have e2:y*v=v*y:=Int.mul_comm _ _;omega
theorem b7o {a b k:Int} (h:0<k):O5 (k*a) (k*b)=O5 a b:=by
 unfold O5;simp only[Int.mul_lt_mul_left h]
theorem a8K {a b p:Spot} {d:Int} (h:z4 a b a p=z4 a b a b) (h0:0<z4 a b a b):O5 (j6 a b a p*j6 a b a p) (d*d*z4 a b a b)=O5 (z4 b p b p) (d*d):=by
 have e1:=b2s a b a p;have e2:=c2N a b p;rw[h]at e1 e2;have e3:j6 a b a p*j6 a b a p=z4 a b a b*z4 b p b p:=by
  have:z4 b p b p=z4 a p a p-z4 a b a b:=by omega
  rw[this,Int.mul_sub];omega
 rw[e3,Int.mul_comm (d*d),b7o h0]
theorem c0X {a b c d:Int}:c3q a b c d<=0↔(a<=0∨b<=0∨c<=0∨d<=0):=by unfold c3q;omega
theorem b2o {a b c d:Int}:c3q a b c d<0↔(a<0∨b<0∨c<0∨d<0):=by unfold c3q;omega
end Go.Tram
namespace Go.Tram
open Go.AM
theorem a9l (x y B:Int):x*y=(x/B)*(y/B)*(B*B)+(x/B)*(y % B)*B+(x % B)*(y/B)*B+(x % B)*(y % B):=by
 have hx:=Int.mul_ediv_add_emod x B;have hy:=Int.mul_ediv_add_emod y B;generalize x/B=x1 at*
 generalize x % B=x0 at*
 generalize y/B=y1 at*
 generalize y % B=y0 at*
 subst hx hy;simp only[Int.mul_add,Int.add_mul];have e1:B*x1*(B*y1)=x1*y1*(B*B):=by ac_rfl
 have e2:B*x1*y0=x1*y0*B:=by ac_rfl
 have e3:x0*(B*y1)=x0*y1*B:=by ac_rfl
 omega
theorem u9 {a b A B:Int} (h0:0<=a) (h1:a<A) (k0:0<=b) (k1:b<B):0<=a*b/\a*b<=(A-1)*(B-1):=
 ⟨Int.mul_nonneg h0 k0,Int.mul_le_mul (by omega) (by omega) k0 (by omega)⟩
theorem c5b {x y:Int} (hx:0<=x) (hx':x<18446744073709551616) (hy:0<=y) (hy':y<18446744073709551616):
  (x/4294967296)*(y/4294967296)+((x/4294967296)*(y % 4294967296)+(x % 4294967296)*(y % 4294967296)/4294967296)/4294967296+
   (((x/4294967296)*(y % 4294967296)+(x % 4294967296)*(y % 4294967296)/4294967296) % 4294967296+(x % 4294967296)*(y/4294967296))/4294967296=x*y/18446744073709551616:=by
 have h:=a9l x y 4294967296;have a1:=u9 (a:=x/4294967296) (b:=y/4294967296) (A:=4294967296) (B:=4294967296) (by omega) (by omega) (by omega) (by omega);have a2:=u9 (a:=x/4294967296) (b:=y % 4294967296) (A:=4294967296) (B:=4294967296) (by omega) (by omega) (by omega) (by omega);have a3:=u9 (a:=x % 4294967296) (b:=y/4294967296) (A:=4294967296) (B:=4294967296) (by omega) (by omega) (by omega) (by omega);have a4:=u9 (a:=x % 4294967296) (b:=y % 4294967296) (A:=4294967296) (B:=4294967296) (by omega) (by omega) (by omega) (by omega);generalize (x/4294967296)*(y/4294967296)=p at*
 generalize (x/4294967296)*(y % 4294967296)=q at*
 generalize (x % 4294967296)*(y/4294967296)=r at*
 generalize (x % 4294967296)*(y % 4294967296)=s at*
 omega
theorem b5F {p q:Int} (M:Int) (hM:0<M):(if O5 (p/M) (q/M)≠0 then O5 (p/M) (q/M)else O5 (p % M) (q % M))=O5 p q:=by
 have hp:=Int.mul_ediv_add_emod p M;have hq:=Int.mul_ediv_add_emod q M;have p0:=Int.emod_nonneg p (by omega:M≠0);have q0:=Int.emod_nonneg q (by omega:M≠0);have p1:=Int.emod_lt_of_pos p hM;have q1:=Int.emod_lt_of_pos q hM
 rcases Int.lt_trichotomy (p/M) (q/M)with h|h|h
 ·have:M*(p/M+1)<=M*(q/M):=Int.mul_le_mul_of_nonneg_left (by omega) (by omega);rw[Int.mul_add]at this;have hpq:p<q:=by omega
  simp[O5,h,hpq]
 ·rw[h]at hp;have e1:O5 (p/M) (q/M)=0:=by rw[h];simp[O5]
  rw[e1];simp only[ne_eq,not_true_eq_false,if_false];have l1:p % M<q % M↔p<q:=by omega
  have l2:q % M<p % M↔q<p:=by omega
  simp only[O5,l1,l2]
 ·have:M*(q/M+1)<=M*(p/M):=Int.mul_le_mul_of_nonneg_left (by omega) (by omega);rw[Int.mul_add]at this;have hpq:q<p:=by omega
  have n1:¬p<q:=by omega
  have n2:¬p/M<q/M:=by omega
  simp[O5,h,hpq,n1,n2]
theorem b4f {m:Int} (h0:0<=m) (h1:m<18446744073709551616):bits .and .u64 m 4294967295=m % 4294967296:=by
 obtain⟨n,rfl⟩:∃n:Nat,m=n:=⟨m.toNat,by omega⟩;have:=bits_and_u64_nat n 4294967295 (by omega) (by omega);rw[show((4294967295:Nat):Int)=4294967295 from rfl]at this;rw[this,show(4294967295:Nat)=2^32-1 from rfl,Nat.and_two_pow_sub_one_eq_mod];omega
theorem c3O {a b:Int} (ha:0<=a) (ha':a<4611686018427387904) (hb:0<=b) (hb':b<4611686018427387904):
  (a/2147483648*(b/2147483648)+(a/2147483648*(b % 2147483648)+a % 2147483648*(b % 2147483648)/2147483648)/2147483648)+
   ((a/2147483648*(b % 2147483648)+a % 2147483648*(b % 2147483648)/2147483648) % 2147483648+a % 2147483648*(b/2147483648))/2147483648=a*b/4611686018427387904/\
  ((a/2147483648*(b % 2147483648)+a % 2147483648*(b % 2147483648)/2147483648) % 2147483648+a % 2147483648*(b/2147483648)) % 2147483648*2147483648+a % 2147483648*(b % 2147483648) % 2147483648=a*b % 4611686018427387904:=by
 have h:=a9l a b 2147483648;have a1:=u9 (a:=a/2147483648) (b:=b/2147483648) (A:=2147483648) (B:=2147483648) (by omega) (by omega) (by omega) (by omega);have a2:=u9 (a:=a/2147483648) (b:=b % 2147483648) (A:=2147483648) (B:=2147483648) (by omega) (by omega) (by omega) (by omega);have a3:=u9 (a:=a % 2147483648) (b:=b/2147483648) (A:=2147483648) (B:=2147483648) (by omega) (by omega) (by omega) (by omega);have a4:=u9 (a:=a % 2147483648) (b:=b % 2147483648) (A:=2147483648) (B:=2147483648) (by omega) (by omega) (by omega) (by omega);generalize a/2147483648*(b/2147483648)=p at*
 generalize a/2147483648*(b % 2147483648)=q at*
 generalize a % 2147483648*(b/2147483648)=r at*
 generalize a % 2147483648*(b % 2147483648)=s at*
 constructor<;>omega
end Go.Tram
namespace Go.Tram
open Go.AM
structure SS where
 Rail:Int
 Segment:Int
 a:Spot
 b:Spot
 bends:List Spot
 From:Int
 To:Int
 deriving Inhabited
@[simp] def SS.cells (s:SS):List AV:=[I s.Rail,I s.Segment,I s.a.X,I s.a.Y,I s.b.X,I s.b.Y, .lst 2 (s.bends.map Spot.cells),I s.From,I s.To]
abbrev SS.av (s:SS):AV:= .agg s.cells
def T8 (l:List Spot) (k:Nat):Bool:=decide (j6 (nth l (k-1)) (nth l k) (nth l k) (nth l (k+1))=0)&&decide (0<z4 (nth l (k-1)) (nth l k) (nth l k) (nth l (k+1)))
def a7U (l:List Spot) (k:Nat):Bool:=decide (0<k)&&(decide (k+1<l.length)&& !T8 l k)
def N1 (l:List Spot) (k:Nat):List Spot:=if a7U l k then [nth l k]else []
def o9 (l:List Spot) (r:Int) (k:Nat):SS:=⟨r,k,nth l k,nth l (k+1),N1 l k++N1 l (k+1),N7 l k,N7 l (k+1)⟩
def A0 (l:List Spot) (r:Int) (n:Nat):List SS:=(List.range n).map (o9 l r)
def Plan.strips (p:Plan) (r:Int):List SS:=A0 (p.line r) r ((p.rail r).Shape.length+1)
def k8 (p:Plan) (n:Nat):List (List AV):=(List.range n).map fun(r:Nat)=>[.lst 9 ((p.strips (r:Int)).map SS.cells)]
def a3F (p:Plan):List AV:=p.cells++[.lst 1 (k8 p p.Rails.length)]
def z5 (x:Profile):Bool:=inr x.Half 1 2000&&inr x.Swing 0 1500
def P4 (s t:SS) (d:Int):Bool:=s.bends.any fun q=>decide (x7 t.a t.b q d<=0)
def a5s (s t:SS) (d:Int):Bool:=s.bends.any fun q=>t.bends.any fun r=>decide (z4 q r q r<=d*d)
def Z5 (s:SS) (x:Profile) (t:SS) (y:Profile):Bool:=
 decide (apart s.a s.b t.a t.b (x.Half+y.Half)<=0)||(P4 s t (x.Half+x.Swing+y.Half)||(P4 t s (y.Half+y.Swing+x.Half)||a5s s t (x.Half+x.Swing+y.Half+y.Swing)))
structure SS.Ok (s:SS):Prop where
 a:l7 s.a=true
 b:l7 s.b=true
 l:s.bends.all l7=true
 n:s.bends.length<=2
 p:0<z4 s.a s.b s.a s.b
def Plan.strip (p:Plan) (s:b0z):SS:=o9 (p.line s.Rail) s.Rail s.Segment.toNat
theorem a5Z (p:Plan) (r:Int):(p.strips r).length=(p.rail r).Shape.length+1:=by simp[Plan.strips,A0]
theorem a5I {p:Plan} {r:Int} {k:Nat} (h:k<(p.rail r).Shape.length+1):(p.strips r)[k]?=some (o9 (p.line r) r k):=by
 simp[Plan.strips,A0,h]
theorem j9 {p:Plan} (h:d8 p=true):(1<=p.Nodes.length/\p.Nodes.length<=300)/\(1<=p.Rails.length/\p.Rails.length<=400)/\p.Nodes.all C3=true/\p.Rails.all (E5 p)=true/\a1b p=true:=by
 simp only[d8,a1d,qh,g6]at h;obtain⟨⟨⟨⟨h1,h2⟩,h3⟩,h4⟩,h5⟩:=h;exact⟨by omega,by omega,h3,h4,h5⟩
structure a0g (p:Plan) (r:Int):Prop where
 f:0<=(p.rail r).From/\(p.rail r).From<p.Nodes.length
 t:0<=(p.rail r).To/\(p.rail r).To<p.Nodes.length
 s:(p.rail r).Shape.length<=30
 spots:(p.line r).all l7=true
 spot:∀k,k<(p.line r).length->l7 (nth (p.line r) k)=true
 seg:∀k,k+1<(p.line r).length->1<=D4 (p.line r) k/\D4 (p.line r) k<=1000000
 len:(p.line r).length=(p.rail r).Shape.length+2
theorem P9 {p:Plan} (h:d8 p=true) {r:Int} (h0:0<=r) (h1:r<p.Rails.length):a0g p r:=by
 obtain⟨_,_,hA,hR,_⟩:=j9 h;have hb:E5 p (p.rail r)=true:=qn.1 hR _ (qd (p.rail_get h0 h1));simp only[E5,S8,qh,g6,decide_eq_true_eq]at hb;obtain⟨⟨b1,b2,b3,b4,b5⟩,b6,b7⟩:=hb;have sF:=O7 (C4 hA (i:=(p.rail r).From) (by omega) (by omega));have sT:=O7 (C4 hA (i:=(p.rail r).To) (by omega) (by omega));have hl:=b1v p r;have hsp:=a6g (p:=p) (i:=r) sF sT b6;refine⟨by omega,by omega,b3,hsp,fun k hk=>qn.1 hsp _ (qd (y8 hk)),fun k hk=>?_,hl⟩;have:=qn.1 b7 k (by simp;omega);simp only[a8O,g6]at this;exact this
theorem a1o {a b:Spot} (h:1<=far a b):0<z4 a b a b:=by
 have h0:=a6M a b
 rcases Int.lt_or_eq_of_le h0 with h1|h1
 ·exact h1
 ·have hs:sqd a b=0:=by rw[<-a1U,<-h1]
  have:far a b=0:=by unfold far;rw[hs];exact b1B ⟨by omega,by omega,by omega⟩
  omega
theorem a8F {l:List Spot} {k:Nat} {s:Spot} (h:s∈N1 l k):0<k/\k+1<l.length/\s=nth l k:=by
 unfold N1 at h
 split at h
 ·rename_i hb;simp only[a7U,qh,decide_eq_true_eq]at hb;exact⟨hb.1,hb.2.1,by simpa using h⟩
 ·cases h
theorem a1x (l:List Spot) (k:Nat):(N1 l k).length<=1:=by unfold N1;split<;>simp
theorem a7q {p:Plan} {r:Int} (h:a0g p r) {k:Nat} (hk:k<(p.rail r).Shape.length+1):(o9 (p.line r) r k).Ok:=by
 have hl:=h.len;refine⟨h.spot _ (by omega),h.spot _ (by omega),?_,?_,?_⟩
 ·rw[qn];intro s hs;simp only[o9,List.mem_append]at hs
  rcases hs with hs|hs
  ·obtain⟨_,h2,rfl⟩:=a8F hs;exact h.spot _ (by omega)
  ·obtain⟨_,h2,rfl⟩:=a8F hs;exact h.spot _ (by omega)
 ·have:=a1x (p.line r) k;have:=a1x (p.line r) (k+1);simp only[o9,List.length_append];omega
 ·have:=(h.seg k (by omega)).1;unfold D4 at this;exact a1o this
theorem V3 {p:Plan} {r:Int} (h:a0g p r) {s:SS} (hs:s∈p.strips r):s.Ok:=by
 simp only[Plan.strips,A0,List.mem_map,List.mem_range]at hs;obtain⟨k,hk,rfl⟩:=hs;exact a7q h hk
theorem a1N {p:Plan} {r:Int} (h:a0g p r):∀k,k+1<=(p.line r).length->(k:Int)<=N7 (p.line r) k/\N7 (p.line r) k<=1000000*k
 |0,_=>by simp[N7]
 |k+1,hk=>by
  have h1:=a1N h k (by omega);have h2:=h.seg k (by omega);simp only[N7];omega
theorem b8Y {l:List Spot} {k:Nat} (h1:1<=D4 l (k-1)) (h2:1<=D4 l k) (hk:0<k):
  T8 l k= !(decide (j6 (nth l (k-1)) (nth l k) (nth l k) (nth l (k+1))≠0)||decide (z4 (nth l (k-1)) (nth l k) (nth l k) (nth l (k+1))<0)):=by
 unfold D4 at h1 h2;rw[show k-1+1=k by omega]at h1;have p1:=a1o h1;have p2:=a1o h2;have e:=b2s (nth l (k-1)) (nth l k) (nth l k) (nth l (k+1));have p3:=Int.mul_pos p1 p2;unfold T8
 by_cases hc:j6 (nth l (k-1)) (nth l k) (nth l k) (nth l (k+1))=0
 ·have hd:z4 (nth l (k-1)) (nth l k) (nth l k) (nth l (k+1))≠0:=by
   intro hd;rw[hc,hd]at e;omega
  simp only[hc,decide_true,Bool.true_and,ne_eq,not_true_eq_false,decide_false,Bool.false_or];rw[<-decide_not];exact decide_eq_decide.2 (by omega)
 ·simp[hc]
theorem b8j (a b:Spot):z4 a b a b=z4 b a b a:=by
 rw[a1U,a1U];unfold sqd;have h1:(a.X-b.X)*(a.X-b.X)=(b.X-a.X)*(b.X-a.X):=by rw[<-Int.neg_mul_neg];congr 1<;>omega
 have h2:(a.Y-b.Y)*(a.Y-b.Y)=(b.Y-a.Y)*(b.Y-a.Y):=by rw[<-Int.neg_mul_neg];congr 1<;>omega
 rw[h1,h2]
end Go.Tram
namespace Go.Tram
open Go.AM
theorem a2g {a b:Spot} {r:Int} (h:0<r):x7 a b a r<0:=by
 have h1:z4 a b a a=0:=by simp[z4]
 have h2:z4 a a a a=0:=by simp[z4]
 unfold x7;rw[if_pos (by omega),h2,a3V];exact Int.mul_pos h h
theorem a1Q {a b:Spot} {r:Int} (hp:0<z4 a b a b) (h:0<r):x7 a b b r<0:=by
 have h2:z4 b b b b=0:=by simp[z4]
 unfold x7;rw[if_neg (by omega),if_pos (by omega),h2,a3V];exact Int.mul_pos h h
theorem b3H {a b c d:Spot} {r:Int} (hp:0<z4 a b a b) (hq:0<z4 c d c d) (hm:c=a∨c=b∨d=a∨d=b) (h:0<r):apart a b c d r<0:=by
 unfold apart
 split
 ·rw[a3V];exact h
 ·rw[b2o]
  rcases hm with rfl|rfl|rfl|rfl
  ·exact Or.inl (a2g h)
  ·exact Or.inl (a1Q hp h)
  ·exact Or.inr (Or.inl (a2g h))
  ·exact Or.inr (Or.inl (a1Q hp h))
end Go.Tram
namespace Go.Tram
open Go.AM
def a2A (p:Plan) (a b:Int):List (SS×SS):=(p.strips a).flatMap fun s=>(p.strips b).map fun t=>(s,t)
theorem a5T {α β γ:Type} (f:α->β->γ) (ys:List β):∀(xs:List α) (k j:Nat) (x:α) (y:β),xs[k]?=some x->ys[j]?=some y->(xs.flatMap fun x=>ys.map (f x))[k*ys.length+j]?=some (f x y)
 |[],k,j,x,y,h,_=>by simp at h
 |z::xs,0,j,x,y,h,hy=>by
  simp only[List.getElem?_cons_zero,qb]at h;subst h;have hj:j<ys.length:=(qa.1 hy).1;rw[List.flatMap_cons,qw (by simp;omega)];simp[hy]
 |z::xs,k+1,j,x,y,h,hy=>by
  have h':xs[k]?=some x:=by simpa using h
  rw[List.flatMap_cons,qv (by simp[Nat.succ_mul];omega)];have:=a5T f ys xs k j x y h' hy;rw[List.length_map,show(k+1)*ys.length+j-ys.length=k*ys.length+j by rw[Nat.succ_mul];omega];exact this
theorem b8M {p:Plan} {a b:Int} {k j:Nat} {s t:SS} (hs:(p.strips a)[k]?=some s) (ht:(p.strips b)[j]?=some t):(a2A p a b)[k*(p.strips b).length+j]?=some (s,t):=a5T _ _ _ _ _ _ _ hs ht
theorem b6h (p:Plan) (a b:Int):(a2A p a b).length=(p.strips a).length*(p.strips b).length:=by
 unfold a2A
 induction p.strips a with
 |nil=>simp
 |cons x l ih=>rw[List.flatMap_cons,List.length_append,ih];simp[Nat.succ_mul];omega
theorem b6K {p:Plan} {a b:Int} {q:SS×SS} (h:q∈a2A p a b):q.1∈p.strips a/\q.2∈p.strips b:=by
 simp only[a2A,List.mem_flatMap,List.mem_map]at h;obtain⟨s,hs,t,ht,rfl⟩:=h;exact⟨hs,ht⟩
def b5U (p:Plan) (a b:Int):Bool:=
 decide (a=b)||(decide ((p.rail a).From=(p.rail b).From)||(decide ((p.rail a).From=(p.rail b).To)||(decide ((p.rail a).To=(p.rail b).From)||decide ((p.rail a).To=(p.rail b).To))))
def Y6 (p:Plan) (a:Int) (x:Profile) (b:Int) (y:Profile):Bool:=(a2A p a b).any fun q=>Z5 q.1 x q.2 y
theorem A7 (p:Plan) (r:Int):o9 (p.line r) r 0∈p.strips r:=qd (a5I (k:=0) (by omega))
theorem I5 (p:Plan) (r:Int):o9 (p.line r) r (p.rail r).Shape.length∈p.strips r:=qd (a5I (k:=(p.rail r).Shape.length) (by omega))
theorem a0K (p:Plan) (r:Int):nth (p.line r) 0=(p.node (p.rail r).From).Spot:=by simp[nth,Plan.line,v9]
theorem a2e (p:Plan) (r:Int):nth (p.line r) ((p.rail r).Shape.length+1)=(p.node (p.rail r).To).Spot:=by simp[nth,Plan.line,v9]
theorem b6C {x:Profile} (h:z5 x=true):1<=x.Half/\0<=x.Swing:=by
 simp only[z5,qh,g6]at h;omega
theorem V1 {s t:SS} {x y:Profile} (hs:s.Ok) (ht:t.Ok) (hx:z5 x=true) (hy:z5 y=true) (hm:t.a=s.a∨t.a=s.b∨t.b=s.a∨t.b=s.b):Z5 s x t y=true:=by
 have h1:=b6C hx;have h2:=b6C hy;have h3:=b3H hs.p ht.p hm (r:=x.Half+y.Half) (by omega);simp only[Z5];rw[decide_eq_true (show apart s.a s.b t.a t.b (x.Half+y.Half)<=0 by omega)]
 rfl
theorem U1 {p:Plan} {a b:Int} {x y:Profile} {s t:SS} (hs:s∈p.strips a) (ht:t∈p.strips b) (h:Z5 s x t y=true):Y6 p a x b y=true:=
 qy.2 ⟨(s,t),by simp only[a2A,List.mem_flatMap,List.mem_map];exact⟨s,hs,t,ht,rfl⟩,h⟩
theorem a5G {p:Plan} {a b:Int} {x y:Profile} (hv:d8 p=true) (ha:inr a 0 (p.Rails.length-1)=true) (hb:inr b 0 (p.Rails.length-1)=true) (hx:z5 x=true) (hy:z5 y=true) (hm:b5U p a b=true):Y6 p a x b y=true:=by
 have ia:=g6.1 ha;have ib:=g6.1 hb;have ra:=P9 hv (r:=a) (by omega) (by omega);have rb:=P9 hv (r:=b) (by omega) (by omega);have fa:=V3 ra (A7 p a);have la:=V3 ra (I5 p a);have fb:=V3 rb (A7 p b);have lb:=V3 rb (I5 p b);simp only[b5U,Bool.or_eq_true,decide_eq_true_eq]at hm
 rcases hm with rfl|h|h|h|h
 ·exact U1 (A7 p a) (A7 p a) (V1 fa fa hx hy (Or.inl rfl))
 ·refine U1 (A7 p a) (A7 p b) (V1 fa fb hx hy (Or.inl ?_));show nth (p.line b) 0=nth (p.line a) 0;rw[a0K,a0K,h]
 ·refine U1 (A7 p a) (I5 p b) (V1 fa lb hx hy (Or.inr (Or.inr (Or.inl ?_))));show nth (p.line b) ((p.rail b).Shape.length+1)=nth (p.line a) 0;rw[a0K,a2e,h]
 ·refine U1 (I5 p a) (A7 p b) (V1 la fb hx hy (Or.inr (Or.inl ?_)));show nth (p.line b) 0=nth (p.line a) ((p.rail a).Shape.length+1);rw[a0K,a2e,h]
 ·refine U1 (I5 p a) (I5 p b) (V1 la lb hx hy (Or.inr (Or.inr (Or.inr ?_))));show nth (p.line b) ((p.rail b).Shape.length+1)=nth (p.line a) ((p.rail a).Shape.length+1);rw[a2e,a2e,h]
def pr (l:List Profile) (k:Nat):Profile:=l[k]?.getD default
theorem b2l {l:List Profile} {k:Nat} {x:Profile} (h:l[k]?=some x):pr l k=x:=by simp[pr,h]
@[irreducible] def b1D (p:Plan) (l:List Profile) (a i b k:Nat):Bool:=(decide (a<b)||decide (i<=k))&&Y6 p a (pr l i) b (pr l k)
def fK (p:Plan) (l:List Profile) (a i b n:Nat):List F5:=(List.range n).flatMap fun k=>if b1D p l a i b k then [⟨a,i,b,k⟩]else []
def fB (p:Plan) (l:List Profile) (a i n:Nat):List F5:=(List.range n).flatMap fun d=>fK p l a i (a+d) l.length
def fI (p:Plan) (l:List Profile) (a n:Nat):List F5:=(List.range n).flatMap fun i=>fB p l a i (p.Rails.length-a)
def fA (p:Plan) (l:List Profile) (n:Nat):List F5:=(List.range n).flatMap fun a=>fI p l a l.length
def A8 (p:Plan) (l:List Profile):List F5:=fA p l p.Rails.length
theorem b6k (p:Plan) (l:List Profile) (a i b n:Nat):fK p l a i b (n+1)=fK p l a i b n++(if b1D p l a i b n then [⟨a,i,b,n⟩]else []):=by
 simp only[fK,List.range_succ,List.flatMap_append,List.flatMap_cons,List.flatMap_nil,List.append_nil]
theorem b4O (p:Plan) (l:List Profile) (a i n:Nat):fB p l a i (n+1)=fB p l a i n++fK p l a i (a+n) l.length:=by
 simp only[fB,List.range_succ,List.flatMap_append,List.flatMap_cons,List.flatMap_nil,List.append_nil]
theorem a4H (p:Plan) (l:List Profile) (a n:Nat):fI p l a (n+1)=fI p l a n++fB p l a n (p.Rails.length-a):=by
 simp only[fI,List.range_succ,List.flatMap_append,List.flatMap_cons,List.flatMap_nil,List.append_nil]
theorem a7h (p:Plan) (l:List Profile) (n:Nat):fA p l (n+1)=fA p l n++fI p l n l.length:=by
 simp only[fA,List.range_succ,List.flatMap_append,List.flatMap_cons,List.flatMap_nil,List.append_nil]
theorem b2e {α β:Type} (f:α->List β) (B:Nat):∀(l:List α),(∀x∈l,(f x).length<=B)->(l.flatMap f).length<=l.length*B
 |[],_=>by simp
 |x::l,h=>by
  rw[List.flatMap_cons,List.length_append,List.length_cons,Nat.succ_mul];have h1:=h x (by simp);have h2:=b2e f B l fun y hy=>h y (by simp[hy]);omega
theorem J4 {β:Type} (f:Nat->List β) (B n:Nat) (h:∀k,(f k).length<=B):((List.range n).flatMap f).length<=n*B:=by
 have:=b2e f B (List.range n) fun x _=>h x
 rwa [List.length_range]at this
theorem b9U (p:Plan) (l:List Profile) (a i b n:Nat):(fK p l a i b n).length<=n:=by
 have:=J4 (fun k=>if b1D p l a i b k then [(⟨a,i,b,k⟩:F5)]else []) 1 n (fun k=>by split<;>simp);unfold fK;omega
theorem b9L (p:Plan) (l:List Profile) (a i n:Nat):(fB p l a i n).length<=n*l.length:=J4 _ _ _ fun d=>b9U p l a i (a+d) l.length
theorem c0z (p:Plan) (l:List Profile) (a n:Nat):(fI p l a n).length<=n*(p.Rails.length*l.length):=
 J4 _ _ _ fun i=>Nat.le_trans (b9L p l a i _) (Nat.mul_le_mul (by omega) (qo _))
theorem c0q (p:Plan) (l:List Profile) (n:Nat):(fA p l n).length<=n*(l.length*(p.Rails.length*l.length)):=J4 _ _ _ fun a=>c0z p l a l.length
theorem b2d (p:Plan) (l:List Profile) {N a i d k:Nat} (hN:p.Rails.length<=N) (hl:l.length<=16) (ha:a<p.Rails.length) (hi:i<=l.length) (hd:d<=p.Rails.length) (hk:k<=l.length):
  (fA p l a++fI p l a i++fB p l a i d++fK p l a i (a+d) k).length<=N*(16*(N*16))+16*(N*16)+N*16+16:=by
 have h1:=c0q p l a;have h2:=c0z p l a i;have h3:=b9L p l a i d;have h4:=b9U p l a i (a+d) k;have k1:a*(l.length*(p.Rails.length*l.length))<=N*(16*(N*16)):=Nat.mul_le_mul (by omega) (Nat.mul_le_mul hl (Nat.mul_le_mul hN hl));have k2:i*(p.Rails.length*l.length)<=16*(N*16):=Nat.mul_le_mul (by omega) (Nat.mul_le_mul hN hl);have k3:d*l.length<=N*16:=Nat.mul_le_mul (by omega) hl;simp only[List.length_append];omega
theorem b3b {p:Plan} {l:List Profile} {f:F5}:f∈A8 p l↔∃a,a<p.Rails.length/\∃i,i<l.length/\∃d,d<p.Rails.length-a/\∃k,k<l.length/\b1D p l a i (a+d) k=true/\f=⟨a,i,(a+d:Nat),k⟩:=by
 simp only[A8,fA,fI,fB,fK,List.mem_flatMap,List.mem_range];constructor
 ·rintro⟨a,ha,i,hi,d,hd,k,hk,h⟩;refine⟨a,ha,i,hi,d,hd,k,hk,?_⟩
  split at h
  ·rename_i e;exact⟨e,by simpa using h⟩
  ·simp at h
 ·rintro⟨a,ha,i,hi,d,hd,k,hk,h,rfl⟩;exact⟨a,ha,i,hi,d,hd,k,hk,by rw[if_pos h];simp⟩
theorem b2V {p:Plan} {x:Profile} {f:F5}:f∈A8 p [x]↔∃a b:Nat,a<=b/\b<p.Rails.length/\Y6 p a x b x=true/\f=⟨a,0,b,0⟩:=by
 rw[b3b];constructor
 ·rintro⟨a,ha,i,hi,d,hd,k,hk,h,rfl⟩;have hi0:i=0:=by simpa using hi
  have hk0:k=0:=by simpa using hk
  subst hi0 hk0;unfold b1D at h;simp only[qh]at h;exact⟨a,a+d,by omega,by omega,by simpa [pr]using h.2,rfl⟩
 ·rintro⟨a,b,hab,hb,h,rfl⟩;refine⟨a,by omega,0,by simp,b-a,by omega,0,by simp,?_,by rw[show a+(b-a)=b by omega];rfl⟩;unfold b1D;rw[show a+(b-a)=b by omega];simpa [pr]using h
theorem b2K {p:Plan} {x:Profile} (hv:d8 p=true) (hx:z5 x=true) {a b:Nat} (hab:a<=b) (hb:b<p.Rails.length) (hm:b5U p a b=true):(⟨a,0,b,0⟩:F5)∈A8 p [x]:=
 b2V.2 ⟨a,b,hab,hb,a5G hv (g6.2 (by omega)) (g6.2 (by omega)) hx hx hm,rfl⟩
structure c6q where
 a:b0z
 b:b0z
 gap:Int
 deriving Inhabited
@[simp] def c6q.cells (q:c6q):List AV:=[I q.a.Rail,I q.a.Segment,I q.b.Rail,I q.b.Segment,I q.gap]
end Go.Tram
namespace Go.Tram
open Go.AM
section
variable {m:Spot->Spot}
structure Mv (m:Spot->Spot) (s s':SS):Prop where
 a:s'.a=m s.a
 b:s'.b=m s.b
 bends:s'.bends=s.bends.map m
theorem a7V (p:Plan) (a:Int) (x:Profile) (b:Int) (y:Profile):Y6 p a x b y=
  (List.range ((p.rail a).Shape.length+1)).any fun i=>(List.range ((p.rail b).Shape.length+1)).any fun k=>Z5 (o9 (p.line a) a i) x (o9 (p.line b) b k) y:=by
 unfold Y6 a2A;rw[List.any_flatMap];unfold Plan.strips A0;simp only[List.any_map,Function.comp_def]
end
end Go.Tram
end
section
namespace Go.Tram
open Go.AM Go.Proofs
theorem c3R (n:Int) (h0:1<=n) (h1:n<=1000):I7 Tryz.prog 201 [.v (.slice none 0 0),I n] 0 0 2 (List.replicate n.toNat [I 0,I 0]):=by
 have w1:IntKind.i64.wrap 0=0:=by decide
 have w2:IntKind.i64.wrap n=n:=c4 (by omega) (by omega);have f1:R2 n.toNat 17:=n7 (by omega) (by omega);have n1:¬n<0:=by omega
 have n2:0<n:=by omega
 have n3:¬n<=0:=by omega
 refine I7.of_body Tryz.func201 rfl (by decide) (by simp[Tryz.ntmps201]) (by simp) (by simp;omega) ?_;simp only[Tryz.ntmps201,Tryz.results201];refine aW ?_ fun K hK=>by simp -dsimp [w1,w2,f1,n1,n2,n3,h0];exact hK
 refine a5 fun K1 hK1=>?_;refine aW ?_ fun K hK=>by simp -dsimp [w1,w2,f1,n1,n2,n3,h0];exact hK
 refine a7 rfl (fun hc0=>?_) (fun hc0=>?_)
 ·simp at hc0
 ·refine b9 ?_;refine zQ (hK1 _ _ ?_);refine aP [0,1] ?_;refine a5 fun K2 hK2=>?_;refine aW ?_ fun K hK=>by simp -dsimp [w1,w2,f1,n1,n2,n3,h0];exact hK
  refine aW ?_ fun K hK=>by simp -dsimp [w1,w2,f1,n1,n2,n3,h0];exact hK
  refine a7 rfl (fun hc1=>?_) (fun hc1=>?_)
  ·refine aV ?_ fun K hK=>by simp -dsimp [w1,w2,f1,n1,n2,n3,h0];exact hK
   refine zQ (hK2 _ _ ?_);refine aP [0] ?_;refine aW ?_ fun K hK=>by simp -dsimp [w1,w2,f1,n1,n2,n3,h0];exact hK
   exact a6 ⟨4,0,rfl,by simp,by simp⟩
  ·simp at hc1
theorem a7E (n:Int):a9 Tryz.prog 214 [I n] (Bo false):=by
 refine oB Tryz.func214 Tryz.ntmps214 Tryz.results214 ?_;refine aW ?_;refine aW ?_;exact a6 (by simp)
theorem b1I (n:Int):a9 Tryz.prog 240 [.v (.int .u64 n)] (Bo false):=by
 refine oB Tryz.func240 Tryz.ntmps240 Tryz.results240 ?_;refine aW ?_;refine aW ?_;exact a6 (by simp)
theorem a1T (a b:Int):a9 Tryz.prog 232 [I a,I b] (I (O5 a b)):=by
 refine oB Tryz.func232 Tryz.ntmps232 Tryz.results232 ?_;refine aW ?_;refine aW ?_ fun K hK=>by simp -dsimp;refine cI (a7E a) ?_;simp -dsimp;exact hK
 refine aW ?_ fun K hK=>by simp -dsimp;refine cI (a7E b) ?_;simp -dsimp;exact hK
 refine a5 fun K1 hK1=>?_;refine aW ?_;refine a7 rfl (fun hc0=>?_) (fun hc0=>?_)
 ·simp at hc0
 ·refine b9 ?_;refine zQ (hK1 _ _ ?_);refine aP [0,1,6] ?_;refine a5 fun K2 hK2=>?_;refine aW ?_;refine a7 rfl (fun hc2=>?_) (fun hc2=>?_)
  ·simp at hc2
  ·refine b9 ?_;refine zQ (hK2 _ _ ?_);refine aP [0,1] ?_;refine a5 fun K3 hK3=>?_;refine aW ?_;refine a7 rfl (fun hc3=>?_) (fun hc3=>?_)
   ·skip
    try simp at hc3
    refine aW ?_;exact a6 (by simp_all [O5];try omega)
   ·skip
    try simp at hc3
    refine b9 ?_;refine zQ (hK3 _ _ ?_);refine aP [0,1] ?_;refine a5 fun K4 hK4=>?_;refine aW ?_;refine a7 rfl (fun hc4=>?_) (fun hc4=>?_)
    ·skip
     try simp at hc4
     refine aW ?_;exact a6 (by simp_all [O5];try omega)
    ·skip
     try simp at hc4
     refine b9 ?_;refine zQ (hK4 _ _ ?_);refine aP [] ?_;refine aW ?_;exact a6 (by simp_all [O5];try omega)
theorem a6s (a b:Int):a9 Tryz.prog 239 [.v (.int .u64 a), .v (.int .u64 b)] (I (O5 a b)):=by
 refine oB Tryz.func239 Tryz.ntmps239 Tryz.results239 ?_;refine aW ?_;refine aW ?_ fun K hK=>by simp -dsimp;refine cI (b1I a) ?_;simp -dsimp;exact hK
 refine aW ?_ fun K hK=>by simp -dsimp;refine cI (b1I b) ?_;simp -dsimp;exact hK
 refine a5 fun K1 hK1=>?_;refine aW ?_;refine a7 rfl (fun hc0=>?_) (fun hc0=>?_)
 ·simp at hc0
 ·refine b9 ?_;refine zQ (hK1 _ _ ?_);refine aP [0,1,6] ?_;refine a5 fun K2 hK2=>?_;refine aW ?_;refine a7 rfl (fun hc2=>?_) (fun hc2=>?_)
  ·simp at hc2
  ·refine b9 ?_;refine zQ (hK2 _ _ ?_);refine aP [0,1] ?_;refine a5 fun K3 hK3=>?_;refine aW ?_;refine a7 rfl (fun hc3=>?_) (fun hc3=>?_)
   ·skip
    try simp at hc3
    refine aW ?_;exact a6 (by simp_all [O5];try omega)
   ·skip
    try simp at hc3
    refine b9 ?_;refine zQ (hK3 _ _ ?_);refine aP [0,1] ?_;refine a5 fun K4 hK4=>?_;refine aW ?_;refine a7 rfl (fun hc4=>?_) (fun hc4=>?_)
    ·skip
     try simp at hc4
     refine aW ?_;exact a6 (by simp_all [O5];try omega)
    ·skip
     try simp at hc4
     refine b9 ?_;refine zQ (hK4 _ _ ?_);refine aP [] ?_;refine aW ?_;exact a6 (by simp_all [O5];try omega)
def b0r (parts:List (List Spot)):AV:= .lst 1 (parts.map fun q=>[.lst 2 (q.map Spot.cells)])
@[irreducible] def tot (parts:List (List Spot)) (k:Nat):Nat:=(parts.take k).flatten.length
theorem a7m (parts:List (List Spot)):tot parts 0=0:=by unfold tot;simp
theorem b1s {parts:List (List Spot)} {k:Nat} {q:List Spot} (h:parts[k]?=some q):tot parts (k+1)=tot parts k+q.length:=by
 unfold tot;rw[qz,h];simp
theorem c2A {parts:List (List Spot)} {k:Nat} (h:parts.length<=k):tot parts k=parts.flatten.length:=by unfold tot;rw[qg h]
theorem c0c (parts:List (List Spot)) (k:Nat):tot parts k<=parts.flatten.length:=by
 unfold tot;have:=congrArg (fun l=>l.flatten.length) (List.take_append_drop k parts);simp only[List.flatten_append,List.length_append]at this;omega
def cat (parts:List (List Spot)) (k:Nat):List (List AV):=(parts.take k).flatten.map Spot.cells
theorem b7G {parts:List (List Spot)} {k:Nat} {q:List Spot} (h:parts[k]?=some q):cat parts (k+1)=cat parts k++q.map Spot.cells:=by
 unfold cat;rw[qz,h];simp
theorem a9L (parts:List (List Spot)) (k:Nat):(cat parts k).length=tot parts k:=by unfold cat tot;rw[List.length_map]
theorem c0W (parts:List (List Spot)) (k:Nat) (g:List (Option Nat)):(cat parts k).map (fun e=>e.map (p5 g 3))=cat parts k:=by unfold cat;rw[List.map_map];exact List.map_congr_left fun s _=>rfl
theorem c1W (parts:List (List Spot)) (k:Nat) (H:Hp):(cat parts k).map (fun e=>e.map (M0 H 5))=cat parts k:=by unfold cat;rw[List.map_map];exact List.map_congr_left fun s _=>rfl
theorem c2E {parts:List (List Spot)} {k:Nat} (h:parts.length<=k):cat parts k=parts.flatten.map Spot.cells:=by unfold cat;rw[qg h]
theorem b8B (parts:List (List Spot)) (h1:1<=parts.flatten.length) (h2:parts.flatten.length<=1000) (h3:parts.length<=1000):a9 Tryz.prog 179 [b0r parts] (.lst 2 (parts.flatten.map Spot.cells)):=by
 unfold b0r;refine oB Tryz.func179 Tryz.ntmps179 Tryz.results179 ?_;refine aW ?_;refine aW ?_;refine a5 fun K1 hK1=>?_;refine aW ?_;refine b8 ?_;refine aP [0,3,9,10,11] ?_;refine c6 [0,9,10] (α:=Nat) (fun k=>[(3,I (tot parts k:Nat)),(11,I k)]) (fun _=>[]) (fun k=>k<=parts.length) (fun k=>parts.length-k) 0 ?_ ?_ ?_
 ·simp
 ·exact c9 (by simp[a7m])
 rintro k k1;refine zN ?_;refine aW ?_;refine a5 fun K2 hK2=>?_;refine a7 rfl (fun hc0=>?_) (fun hc0=>?_)
 ·skip
  try simp at hc0
  obtain⟨q,hq⟩:=gx (l:=parts) (i:=k) hc0;have hs:=b1s hq;have hle:=c0c parts (k+1);have w1:IntKind.i64.wrap ((tot parts k:Int)+(q.length:Int))=(tot parts (k+1):Nat):=by rw[c4 (by omega) (by omega)];omega
  have wk:=zW k (by omega);have wn:¬((tot parts (k+1):Nat):Int)<0:=by omega
  refine b9 ?_;refine zQ (hK2 _ _ ?_);refine aP [0,3,9,10,11] ?_;refine a5 fun K3 hK3=>?_;refine b8 ?_;refine aW ?_ fun K hK=>by simp -dsimp [hq];exact hK
  refine aW ?_ fun K hK=>by simp -dsimp [w1];exact hK
  refine aW ?_ fun K hK=>by simp -dsimp [wn];exact hK
  refine a7 rfl (fun hc1=>?_) (fun hc1=>?_)
  ·simp at hc1
  ·refine b9 ?_;refine zQ (hK3 _ _ ?_);refine aP [0,3,9,10,11] ?_;refine aV ?_ fun K hK=>by simp -dsimp [wk];exact hK
   refine zQ ?_;exact⟨k+1,by omega,by omega,c9 (by simp)⟩
 ·skip
  try simp at hc0
  have hk:tot parts k=parts.flatten.length:=c2A (by omega);refine d4 ?_;refine zQ (hK1 _ _ ?_);refine aP [0,3] ?_;refine aW ?_ fun K hK=>by simp -dsimp;refine T6 (c3R (tot parts k:Nat) (by omega) (by omega)) ?_;simp -dsimp;exact hK
  refine a5 fun K4 hK4=>?_;refine aW ?_;refine b8 ?_;refine aP [6,25,26,27] ?_;refine c6 [25,26] (α:=Nat×List (List AV)) (fun x=>[(6, .row 0 0 (tot parts x.1)),(27,I x.1)]) (fun x=>[some (.els 2 x.2)]) (fun x=>x.1<=parts.length/\x.2.take (tot parts x.1)=cat parts x.1/\tot parts x.1<=x.2.length) (fun x=>parts.length-x.1) (0,List.replicate (tot parts k) [I 0,I 0]) ?_ ?_ ?_
  ·simp[a7m,cat]
  ·exact c9 (by simp[a7m])
  rintro⟨k,es⟩ ⟨k1,k2,k3⟩;simp only at k1 k2 k3;refine zN ?_;refine aW ?_;refine a5 fun K5 hK5=>?_;refine a7 rfl (fun hc2=>?_) (fun hc2=>?_)
  ·skip
   try simp at hc2
   obtain⟨q,hq⟩:=gx (l:=parts) (i:=k) hc2;have hs:=b1s hq;have hle:=c0c parts (k+1);have hcl:=a9L parts k;have wk:=zW k (by omega);have f1:R2 (tot parts k+q.length) 17:=n7 (by omega) (by omega);refine b9 ?_;refine zQ (hK5 _ _ ?_);refine aP [6,25,26,27] ?_;refine a5 fun K6 hK6=>?_;refine b8 ?_;refine aW ?_ fun K hK=>by simp -dsimp [hq];exact hK
   refine aV ?_ fun K hK=>by simp -dsimp [k2,k3,hcl,f1];exact hK
   refine zQ (hK6 _ _ ?_);refine aP [6,25,26,27] ?_;refine aV ?_ fun K hK=>by simp -dsimp [wk];exact hK
   refine zQ ?_;exact⟨(k+1,cat parts (k+1)),⟨by omega,by rw[qg (by rw[a9L];exact qo _)],by rw[a9L];exact qo _⟩,by simp;omega,g7 [some 1] rfl (by simp[hs]) (by simp[b7G hq,c0W,Function.comp_def])⟩
  ·skip
   try simp at hc2
   refine d4 ?_;refine zQ (hK4 _ _ ?_);refine aP [6] ?_;refine aW ?_;exact a6 (by simp[k2,k3,c1W];rw[c2E hc2,List.map_flatten])
end Go.Tram
end
