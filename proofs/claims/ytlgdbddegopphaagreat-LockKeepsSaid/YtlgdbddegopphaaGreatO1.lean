import Derived.Maps.RangeRun
import Derived.Orders
import Derived.WalkKit
set_option maxRecDepth 100000
set_option maxHeartbeats 8000000
set_option linter.unusedVariables false
set_option linter.unusedSimpArgs false
namespace Go
theorem qa.{u}:∀{α:Type u} {i:Nat} {a:α} {l:List α},l[i]?=some a↔∃h:i<l.length,l[i]=a:=@List.getElem?_eq_some_iff
theorem qb.{u}:∀{α:Type u} (a b:α),(some a=some b)=(a=b):=@Option.some.injEq
theorem qc.{u}:∀{α:Type u} {l:List α} {i:Nat} (h:i<l.length),l[i]?=some l[i]:=@List.getElem?_eq_getElem
theorem qd.{u}:∀{α:Type u} {l:List α} {i:Nat} {a:α},l[i]?=some a->a∈l:=@List.mem_of_getElem?
theorem qe.{u,v}:∀{α:Type u} {β:Type v} {f:α->β} {l:List α} {i:Nat},(List.map f l)[i]?=Option.map f l[i]?:=@List.getElem?_map
theorem qf.{u,v}:∀{α:Type u} {b:α} {β:Type v} {x:Option β} {f:β->α},Option.map f x=some b↔∃a,x=some a/\f a=b:=@Option.map_eq_some_iff
theorem qg.{u}:∀{α:Type u} {i:Nat} {l:List α},l.length<=i->List.take i l=l:=@List.take_of_length_le
theorem qh:∀(a b:Bool),((a&&b)=true)=(a=true/\b=true):=@Bool.and_eq_true
theorem qj:∀{a b:Bool},a=b↔(a=true↔b=true):=@Bool.eq_iff_iff
theorem qk.{u}:∀{α:Type u} {l:List α} {i j:Nat},(List.take i l)[j]?=if j<i then l[j]? else none:=@List.getElem?_take
theorem ql.{u}:∀{α:Type u} {xs:List α} {i j:Nat},(List.drop i xs)[j]?=xs[i+j]?:=@List.getElem?_drop
theorem qm.{u}:∀{α:Type u} {i:Nat} {l:List α},(List.take i l).length=min i l.length:=@List.length_take
theorem qn.{u}:∀{α:Type u} {p:α->Bool} {l:List α},l.all p=true↔∀x,x∈l->p x=true:=@List.all_eq_true
theorem qo:∀(n:Nat),n<=n:=@Nat.le_refl
theorem qp:∀(n:Nat),0<=n:=@Nat.zero_le
theorem qq:∀{n m k:Nat},n<m->m<=k->n<k:=@Nat.lt_of_lt_of_le
theorem qr.{u,v}:∀{α:Type u} {β:Type v} (a:α) (b:β) (c:α) (d:β),((a,b)=(c,d))=(a=c/\b=d):=@Prod.mk.injEq
theorem qt.{u}:∀{α:Type u} {xs:Array α} {i:Nat} {d:α},xs.getD i d=xs[i]?.getD d:=@Array.getD_eq_getD_getElem?
theorem qu.{u,v}:∀{α:Type u} {β:Type v} {l:List α} {a:α} {f:α->β},a∈l->f a∈List.map f l:=@List.mem_map_of_mem
theorem qv.{u}:∀{α:Type u} {k l:List α} {i:Nat},k.length<=i->(k++l)[i]?=l[i-k.length]?:=@List.getElem?_append_right
theorem qw.{u}:∀{α:Type u} {k l:List α} {i:Nat},i<k.length->(k++l)[i]?=k[i]?:=@List.getElem?_append_left
theorem qx.{u}:∀{α:Type u} {i:Nat} {l:List α},(List.drop i l).length=l.length-i:=@List.length_drop
theorem qy.{u}:∀{α:Type u} {p:α->Bool} {l:List α},l.any p=true↔∃x,x∈l/\p x=true:=@List.any_eq_true
theorem qz.{u}:∀{α:Type u} {l:List α} {i:Nat},List.take (i+1) l=List.take i l++l[i]?.toList:=@List.take_add_one
end Go
section
namespace Go.AM
inductive KC where
 |i (k:IntKind) (n:Int)
 |b (x:Bool)
 deriving DecidableEq
inductive KT where
 |i (k:IntKind)
 |b
 deriving DecidableEq
def KC.val:KC->Value
 | .i k n=> .int k n
 | .b x=> .bool x
def KC.fits:KC->KT->Bool
 | .i k _, .i k'=>decide (k=k')
 | .b _, .b=>true
 |_,_=>false
def o1:List KT->List KC->Bool
 |[],[]=>true
 |t::ts,c::cs=>c.fits t&&o1 ts cs
 |_,_=>false
def g9 (ag:Bool) (ks:List KC):Value:=if ag then .agg (ks.map KC.val).toArray else(ks.headD (.b false)).val
def J6 (w:World) (b:Nat) (ag:Bool) (kts:List KT) (kvs:List (List KC×Value)):Prop:=
 ∃es clock,w.heap[b]?=some (.map es clock)/\es.toList.map (fun e=>(e.key,e.val))=kvs.map (fun p=>(g9 ag p.1,p.2))/\(∀p∈kvs,o1 kts p.1=true)/\
  (es.toList.map (·.born)).Nodup/\∀e∈es.toList,e.born<clock
theorem J6.same {w w':World} {b:Nat} {ag:Bool} {kts:List KT} {kvs:List (List KC×Value)} (h:J6 w b ag kts kvs) (hb:w'.heap[b]?=w.heap[b]?):J6 w' b ag kts kvs:=by
 obtain⟨es,clock,h1,h2⟩:=h;exact⟨es,clock,hb.trans h1,h2⟩
inductive AV where
 |v (x:Value)
 |agg (cs:List AV)
 |tup (cs:List AV)
 |lst (sz:Nat) (els:List (List AV))
 |full (sz:Nat) (els:List (List AV))
 |iptr (cs:List AV)
 |vptr (cs:List AV)
 |row (r i n:Nat)
 |ptr (r i off:Nat)
 |clo (f:FuncId) (caps:List AV)
 |bnd (f:FuncId) (bs:List AV)
 |ifc (t:TypeId) (x:AV)
 |mp (r:Nat)
 |mpc (ag:Bool) (kts:List KT) (kvs:List (List KC×Value))
 |may (l:List Bool) (x:AV)
 |any
 |fptr (x:Value) (r i off:Nat)
instance:Inhabited AV:=⟨.any⟩
inductive n9 where
 |els (sz:Nat) (es:List (List AV))
 |map (ag:Bool) (kts:List KT) (kvs:List (List KC×Value))
 |itr (ag:Bool) (kts:List KT) (left:List (List KC×Value)) (cur:Option (List KC×Value))
 |mpa (ag:Bool) (kts:List KT) (kvs:List (List KC×AV))
def I0:Value->Bool
 | .agg _=>false
 | .tuple _=>false
 |_=>true
inductive r8 (w:World) (S:Nat->Prop):AV->Value->Prop where
 |v (x:Value):r8 w S (.v x) x
 |any (x:Value):r8 w S .any x
 | agg (cs:List AV) (vs:List Value) (hl:cs.length=vs.length) (hc:∀x∈vs,I0 x=true)
   (h:∀(i:Nat) c x,cs[i]?=some c->vs[i]?=some x->r8 w S c x):r8 w S (.agg cs) (.agg vs.toArray)
 | tup (cs:List AV) (vs:List Value) (hl:cs.length=vs.length)
   (h:∀(i:Nat) c x,cs[i]?=some c->vs[i]?=some x->r8 w S c x):r8 w S (.tup cs) (.tuple vs.toArray)
 | lst (sz:Nat) (els:List (List AV)) (b off cap:Nat) (vs:List Value) (hS:¬S b) (hb:b<w.heap.size) (hcap:els.length<=cap)
   (hel:∀e∈els,e.length=sz) (hl:els.flatten.length=vs.length)
   (hv:∀(i:Nat) x,vs[i]?=some x->w.cell? ⟨b,off+i,none⟩=some x/\I0 x=true)
   (h:∀(i:Nat) c x,els.flatten[i]?=some c->vs[i]?=some x->r8 w S c x):r8 w S (.lst sz els) (.slice (some ⟨b,off,none⟩) els.length cap)
 |lstNil (sz:Nat) (a:Option Addr) (cap:Nat):r8 w S (.lst sz []) (.slice a 0 cap)
 | full (sz:Nat) (els:List (List AV)) (b off:Nat) (vs:List Value) (hS:¬S b) (hb:b<w.heap.size)
   (hel:∀e∈els,e.length=sz) (hl:els.flatten.length=vs.length)
   (hv:∀(i:Nat) x,vs[i]?=some x->w.cell? ⟨b,off+i,none⟩=some x/\I0 x=true)
   (h:∀(i:Nat) c x,els.flatten[i]?=some c->vs[i]?=some x->r8 w S c x):r8 w S (.full sz els) (.slice (some ⟨b,off,none⟩) els.length els.length)
 | iptr (cs:List AV) (b off:Nat) (vs:List Value) (hS:¬S b) (hb:b<w.heap.size) (hl:cs.length=vs.length)
   (hv:∀(i:Nat) x,vs[i]?=some x->w.cell? ⟨b,off+i,none⟩=some x/\I0 x=true)
   (h:∀(i:Nat) c x,cs[i]?=some c->vs[i]?=some x->r8 w S c x):r8 w S (.iptr cs) (.pointer (some ⟨b,off,none⟩))
 | clo (f:FuncId) (caps:List AV) (vs:List Value) (hl:caps.length=vs.length)
   (h:∀(i:Nat) c x,caps[i]?=some c->vs[i]?=some x->r8 w S c x):r8 w S (.clo f caps) (.func (.func f) #[] vs.toArray)
 | bnd (f:FuncId) (bs:List AV) (vs:List Value) (hl:bs.length=vs.length)
   (h:∀(i:Nat) c x,bs[i]?=some c->vs[i]?=some x->r8 w S c x):r8 w S (.bnd f bs) (.func (.func f) vs.toArray #[])
 |ifc (t:TypeId) (x:AV) (y:Value) (h:r8 w S x y):r8 w S (.ifc t x) (.iface t y)
 |mpc (ag:Bool) (kts:List KT) (kvs:List (List KC×Value)) (b:Nat) (hS:¬S b) (hb:b<w.heap.size) (h:J6 w b ag kts kvs):r8 w S (.mpc ag kts kvs) (.map (some b))
 |mayT (l:List Bool) (x:AV) (y:Value) (ht:l.all id=true) (h:r8 w S x y):r8 w S (.may l x) y
 |mayF (l:List Bool) (x:AV) (hf:l.all id=false):r8 w S (.may l x) undef
structure Loc where
 b:Option Nat
 o:Nat
 sz:Nat
 m:Nat
inductive e8 (w:World) (S:Nat->Prop) (ρ:Nat->Option Loc) (L:Nat->Prop):AV->Value->Prop where
 |pure (x:AV) (y:Value) (h:r8 w S x y):e8 w S ρ L x y
 | row (r i n:Nat) (y:Value) (hL:L r) (hy:I0 y=true)
   (h:∀l,ρ r=some l->(l.b=none->y= .slice none 0 0/\n=0/\i=0)/\
    (∀b,l.b=some b->∃off cap,y= .slice (some ⟨b,off,none⟩) n cap/\n<=cap/\(cap=0∨off=l.o+i*l.sz/\l.o+(i+cap)*l.sz<=l.m))):e8 w S ρ L (.row r i n) y
 | ptr (r i off:Nat) (y:Value) (hL:L r) (hy:I0 y=true)
   (h:∀l,ρ r=some l->∃b,l.b=some b/\y= .pointer (some ⟨b,l.o+i*l.sz+off,none⟩)):e8 w S ρ L (.ptr r i off) y
 |mp (r:Nat) (y:Value) (hL:L r) (hy:I0 y=true) (h:∀l,ρ r=some l->∃b,l.b=some b/\y= .map (some b)):e8 w S ρ L (.mp r) y
 | agg (cs:List AV) (vs:List Value) (hl:cs.length=vs.length) (hc:∀x∈vs,I0 x=true)
   (h:∀(i:Nat) c x,cs[i]?=some c->vs[i]?=some x->e8 w S ρ L c x):e8 w S ρ L (.agg cs) (.agg vs.toArray)
 | tup (cs:List AV) (vs:List Value) (hl:cs.length=vs.length)
   (h:∀(i:Nat) c x,cs[i]?=some c->vs[i]?=some x->e8 w S ρ L c x):e8 w S ρ L (.tup cs) (.tuple vs.toArray)
 | clo (f:FuncId) (caps:List AV) (vs:List Value) (hl:caps.length=vs.length)
   (h:∀(i:Nat) c x,caps[i]?=some c->vs[i]?=some x->e8 w S ρ L c x):e8 w S ρ L (.clo f caps) (.func (.func f) #[] vs.toArray)
 | bnd (f:FuncId) (bs:List AV) (vs:List Value) (hl:bs.length=vs.length)
   (h:∀(i:Nat) c x,bs[i]?=some c->vs[i]?=some x->e8 w S ρ L c x):e8 w S ρ L (.bnd f bs) (.func (.func f) vs.toArray #[])
 | vptr (cs:List AV) (b off:Nat) (vs:List Value) (hS:¬S b) (hb:b<w.heap.size) (hl:cs.length=vs.length)
   (hv:∀(i:Nat) x,vs[i]?=some x->w.cell? ⟨b,off+i,none⟩=some x/\I0 x=true)
   (h:∀(i:Nat) c x,cs[i]?=some c->vs[i]?=some x->e8 w S ρ L c x):e8 w S ρ L (.vptr cs) (.pointer (some ⟨b,off,none⟩))
 |ifc (t:TypeId) (x:AV) (y:Value) (h:e8 w S ρ L x y):e8 w S ρ L (.ifc t x) (.iface t y)
 |mayT (l:List Bool) (x:AV) (y:Value) (ht:l.all id=true) (h:e8 w S ρ L x y):e8 w S ρ L (.may l x) y
 |mayF (l:List Bool) (x:AV) (hf:l.all id=false):e8 w S ρ L (.may l x) undef
 |fptr (x:Value) (r i off:Nat) (h:e8 w S ρ L (.ptr r i off) x):e8 w S ρ L (.fptr x r i off) x
def a5R (w:World) (S:Nat->Prop) (b:Nat) (ag:Bool) (kts:List KT) (left:List (List KC×Value)) (cur:Option (List KC×Value)):Prop:=
 ∃mb since seen c0 es clock,w.heap[b]?=some (.mapIter (some mb) since seen c0)/\¬S mb/\mb<w.heap.size/\w.heap[mb]?=some (.map es clock)/\(since<=c0/\since<=clock)/\(es.toList.map (·.born)).Nodup/\
  (∀e∈es.toList,e.born<since)/\(leftOf es seen).toList.map (fun e=>(e.key,e.val))=left.map (fun p=>(g9 ag p.1,p.2))/\(∀p∈left,o1 kts p.1=true)/\
  ∀p,cur=some p->∃e∈es.toList,∃seen':Array Nat,seen=seen'.push e.born/\c0=clock/\e.key=g9 ag p.1/\e.val=p.2
theorem a5R.same {w w':World} {S S':Nat->Prop} {b:Nat} {ag:Bool} {kts:List KT} {left:List (List KC×Value)} {cur:Option (List KC×Value)} (h:a5R w S b ag kts left cur) (hb:w'.heap[b]?=w.heap[b]?) (hs:w.heap.size<=w'.heap.size)
  (hk:∀b,b<w.heap.size->¬S b->w'.heap[b]?=w.heap[b]?/\¬S' b):a5R w' S' b ag kts left cur:=by
 obtain⟨mb,since,seen,c0,es,clock,h1,h2,h3,h4,h5⟩:=h;exact⟨mb,since,seen,c0,es,clock,hb.trans h1,(hk mb h3 h2).2,qq h3 hs,(hk mb h3 h2).1.trans h4,h5⟩
def a1a (w:World) (S:Nat->Prop) (ρ:Nat->Option Loc) (L:Nat->Prop) (b:Nat) (ag:Bool) (kts:List KT) (kvs:List (List KC×AV)):Prop:=
 ∃vs ks,J6 w b ag kts vs/\List.Perm ks kvs/\(kvs.map (·.1)).Nodup/\ks.length=vs.length/\∀(i:Nat) p q,ks[i]?=some p->vs[i]?=some q->p.1=q.1/\e8 w S ρ L p.2 q.2
theorem a1a.map {w w':World} {S S':Nat->Prop} {ρ ρ':Nat->Option Loc} {L L':Nat->Prop} {b:Nat} {ag:Bool} {kts:List KT} {kvs:List (List KC×AV)} (h:a1a w S ρ L b ag kts kvs) (f:AV->AV)
  (hf:∀x y,e8 w S ρ L x y->e8 w' S' ρ' L' (f x) y) (hb:w'.heap[b]?=w.heap[b]?):a1a w' S' ρ' L' b ag kts (kvs.map fun p=>(p.1,f p.2)):=by
 obtain⟨vs,ks,h1,h2,h3,h4,h5⟩:=h;refine⟨vs,ks.map fun p=>(p.1,f p.2),h1.same hb,h2.map _,by rw[List.map_map];exact h3,by rw[List.length_map];exact h4,fun i p q hp hq=>?_⟩;rw[qe,qf]at hp;obtain⟨p0,hp0,rfl⟩:=hp;obtain⟨k1,k2⟩:=h5 i p0 q hp0 hq;exact⟨k1,hf _ _ k2⟩
def i7 (w:World) (S:Nat->Prop) (ρ:Nat->Option Loc) (L:Nat->Prop) (l:Loc):n9->Prop
 | .els sz es=>l.sz=sz/\(∀e∈es,e.length=sz)/\(l.b=none->es=[])/\
   ∀b,l.b=some b->∃c t,w.heap[b]?=some (.cells c t (0,0))/\c.size=l.m/\l.o+es.length*sz<=l.m/\
    ∀(i:Nat) a,es.flatten[i]?=some a->∃x,c[l.o+i]?=some x/\I0 x=true/\e8 w S ρ L a x
 | .map ag kts kvs=>∃b,l.b=some b/\J6 w b ag kts kvs
 | .itr ag kts left cur=>∃b,l.b=some b/\l.o=0/\a5R w S b ag kts left cur
 | .mpa ag kts kvs=>∃b,l.b=some b/\a1a w S ρ L b ag kts kvs
structure Ext (M:Nat->Prop) (w w':World):Prop where
 os:w'.os=w.os
 tape:w'.tape=w.tape
 output:w'.output=w.output
 size:w.heap.size<=w'.heap.size
 block:∀b,b<w.heap.size->¬M b->w'.heap[b]?=w.heap[b]?
 cells:∀(b:Nat) c t s,w.heap[b]?=some (Obj.cells c t s)->∃c' t' s',w'.heap[b]?=some (Obj.cells c' t' s')/\c'.size=c.size
theorem Ext.of_same {M:Nat->Prop} {w w':World} (ho:w'.os=w.os) (ht:w'.tape=w.tape) (hp:w'.output=w.output) (hs:w.heap.size<=w'.heap.size) (h:∀b,b<w.heap.size->w'.heap[b]?=w.heap[b]?):Ext M w w':=
 ⟨ho,ht,hp,hs,fun b hb _=>h b hb,fun b c t s hc=>⟨c,t,s,(h b (Array.getElem?_eq_some_iff.1 hc).1).trans hc,rfl⟩⟩
theorem Ext.refl (M:Nat->Prop) (w:World):Ext M w w:=Ext.of_same rfl rfl rfl (qo _) fun _ _=>rfl
theorem Ext.trans {M:Nat->Prop} {a b c:World} (h:Ext M a b) (k:Ext M b c):Ext M a c:=
 ⟨k.os.trans h.os,k.tape.trans h.tape,k.output.trans h.output,Nat.le_trans h.size k.size,fun i hi hm=>(k.block i (qq hi h.size) hm).trans (h.block i hi hm),
  fun b c t s hc=>by obtain⟨c1,t1,s1,h1,e1⟩:=h.cells b c t s hc;obtain⟨c2,t2,s2,h2,e2⟩:=k.cells b c1 t1 s1 h1;exact⟨c2,t2,s2,h2,e2.trans e1⟩⟩
theorem Ext.mono {M M':Nat->Prop} {w w':World} (h:Ext M w w') (hm:∀b,b<w.heap.size->M b->M' b):Ext M' w w':=
 ⟨h.os,h.tape,h.output,h.size,fun b hb hn=>h.block b hb (fun k=>hn (hm b hb k)),h.cells⟩
theorem Ext.draw {M:Nat->Prop} {w w':World} (h:Ext M w w') (n:Nat):Ext M w {w' with drawn:=n}:=⟨h.os,h.tape,h.output,h.size,h.block,h.cells⟩
theorem B2 {w w':World} {p:Addr} (h:w'.heap[p.block]?=w.heap[p.block]?):w'.cell? p=w.cell? p:=by
 unfold World.cell?;rw[h]
theorem r8.ext {w w':World} {S S':Nat->Prop} {x:AV} {y:Value} (h:r8 w S x y) (hs:w.heap.size<=w'.heap.size)
  (hb:∀b,b<w.heap.size->¬S b->w'.heap[b]?=w.heap[b]?/\¬S' b):r8 w' S' x y:=by
 induction h with
 |v x=>exact .v x
 |any x=>exact .any x
 |agg cs vs hl hc h ih=>exact .agg cs vs hl hc ih
 |tup cs vs hl h ih=>exact .tup cs vs hl ih
 | lst sz els b off cap vs hS hlt hcap hel hl hv h ih=>
  exact .lst sz els b off cap vs (hb b hlt hS).2 (qq hlt hs) hcap hel hl
   (fun i x hx=>⟨(B2 (hb b hlt hS).1).trans (hv i x hx).1,(hv i x hx).2⟩) ih
 |lstNil sz a cap=>exact .lstNil sz a cap
 | full sz els b off vs hS hlt hel hl hv h ih=>
  exact .full sz els b off vs (hb b hlt hS).2 (qq hlt hs) hel hl
   (fun i x hx=>⟨(B2 (hb b hlt hS).1).trans (hv i x hx).1,(hv i x hx).2⟩) ih
 | iptr cs b off vs hS hlt hl hv h ih=>
  exact .iptr cs b off vs (hb b hlt hS).2 (qq hlt hs) hl
   (fun i x hx=>⟨(B2 (hb b hlt hS).1).trans (hv i x hx).1,(hv i x hx).2⟩) ih
 |clo f caps vs hl h ih=>exact .clo f caps vs hl ih
 |bnd f bs vs hl h ih=>exact .bnd f bs vs hl ih
 |ifc t x y h ih=>exact .ifc t x y ih
 |mpc ag kts kvs b hS hlt h=>exact .mpc ag kts kvs b (hb b hlt hS).2 (qq hlt hs) (h.same (hb b hlt hS).1)
 |mayT l x y ht h ih=>exact .mayT l x y ht ih
 |mayF l x hf=>exact .mayF l x hf
theorem e8.ext {w w':World} {S S':Nat->Prop} {ρ ρ':Nat->Option Loc} {L L':Nat->Prop} {x:AV} {y:Value} (h:e8 w S ρ L x y)
  (hs:w.heap.size<=w'.heap.size) (hb:∀b,b<w.heap.size->¬S b->w'.heap[b]?=w.heap[b]?/\¬S' b)
  (hL:∀r,L r->L' r) (hρ:∀r l,L r->ρ' r=some l->ρ r=some l):e8 w' S' ρ' L' x y:=by
 induction h with
 |pure x y h=>exact .pure x y (h.ext hs hb)
 |row r i n y h1 hy h=>exact .row r i n y (hL r h1) hy (fun l hl=>h l (hρ r l h1 hl))
 |ptr r i off y h1 hy h=>exact .ptr r i off y (hL r h1) hy (fun l hl=>h l (hρ r l h1 hl))
 |mp r y h1 hy h=>exact .mp r y (hL r h1) hy (fun l hl=>h l (hρ r l h1 hl))
 |agg cs vs hl hc h ih=>exact .agg cs vs hl hc ih
 |tup cs vs hl h ih=>exact .tup cs vs hl ih
 |clo f caps vs hl h ih=>exact .clo f caps vs hl ih
 |bnd f bs vs hl h ih=>exact .bnd f bs vs hl ih
 | vptr cs b off vs hS hlt hl hv h ih=>
  exact .vptr cs b off vs (hb b hlt hS).2 (qq hlt hs) hl
   (fun i x hx=>⟨(B2 (hb b hlt hS).1).trans (hv i x hx).1,(hv i x hx).2⟩) ih
 |ifc t x y h ih=>exact .ifc t x y ih
 |mayT l x y ht h ih=>exact .mayT l x y ht ih
 |mayF l x hf=>exact .mayF l x hf
 |fptr x r i off h ih=>exact .fptr x r i off ih
theorem i7.ext {w w':World} {S S':Nat->Prop} {ρ ρ':Nat->Option Loc} {L L':Nat->Prop} {l:Loc} {row:n9} (h:i7 w S ρ L l row)
  (hs:w.heap.size<=w'.heap.size) (hb:∀b,b<w.heap.size->¬S b->w'.heap[b]?=w.heap[b]?/\¬S' b)
  (hL:∀r,L r->L' r) (hρ:∀r l,L r->ρ' r=some l->ρ r=some l) (hsame:∀b,l.b=some b->w'.heap[b]?=w.heap[b]?):i7 w' S' ρ' L' l row:=by
 cases row with
 |els sz es=>
  obtain⟨h1,h2,h3,h4⟩:=h;refine⟨h1,h2,h3,fun b hlb=>?_⟩;obtain⟨c,t,k1,k2,k3,k4⟩:=h4 b hlb;refine⟨c,t,(hsame b hlb).trans k1,k2,k3,fun i a hi=>?_⟩;obtain⟨x,q1,q2,q3⟩:=k4 i a hi;exact⟨x,q1,q2,q3.ext hs hb hL hρ⟩
 |map ag kts kvs=>obtain⟨b,h1,h2⟩:=h;exact⟨b,h1,h2.same (hsame b h1)⟩
 |itr ag kts left cur=>obtain⟨b,h1,h0,h2⟩:=h;exact⟨b,h1,h0,h2.same (hsame b h1) hs hb⟩
 |mpa ag kts kvs=>
  obtain⟨b,h1,h2⟩:=h;have:=h2.map (fun x=>x) (fun x y h=>h.ext hs hb hL hρ) (hsame b h1);exact⟨b,h1,by simpa using this⟩
def Sx (S0:Nat->Prop) (ρ:Nat->Option Loc) (b:Nat):Prop:=S0 b∨∃r l,ρ r=some l/\l.b=some b
structure WF (B S0:Nat->Prop) (w:World) (ρ:Nat->Option Loc) (L:Nat->Prop):Prop where
 inj:∀r r' l l' b,ρ r=some l->ρ r'=some l'->l.b=some b->l'.b=some b->r=r'
 own:∀r l b,ρ r=some l->l.b=some b->b<w.heap.size/\¬S0 b/\B b
 given:∀r l,ρ r=some l->L r
 low:∀b,S0 b->b<w.heap.size
 new:∀b,w.heap.size<=b->B b
structure Eff where
 av:AV
 ups:List (Nat×Option n9)
 reads:List Nat
def nL (L:Nat->Prop) (e:Eff) (r:Nat):Prop:=L r∨∃o,(r,o)∈e.ups
def a2E (L:Nat->Prop) (N:Nat) (e:Eff):Prop:=∀r,N<=r->(∃o,(r,o)∈e.ups)->¬L r
structure a3D (B S0:Nat->Prop) (w:World) (ρ:Nat->Option Loc) (L:Nat->Prop) (N:Nat) (e:Eff) (w':World) (ρ':Nat->Option Loc) (v:Value):Prop where
 wf:WF B S0 w' ρ' (nL L e)
 rep:e8 w' (Sx S0 ρ') ρ' (nL L e) e.av v
 ups:∀r o,(r,o)∈e.ups->match o with|none=>ρ' r=none|some row=>∃l,ρ' r=some l/\i7 w' (Sx S0 ρ') ρ' (nL L e) l row
 others:∀r,(∀o,(r,o)∉e.ups)->ρ' r=ρ r
 only:∀r l,ρ' r=some l->ρ r=some l∨(N<=r/\(∃o,(r,o)∈e.ups)/\∀b,l.b=some b->w.heap.size<=b∨∃r0 l0,ρ r0=some l0/\l0.b=some b)
 ext:Ext (fun b=>∃r l o,(r,o)∈e.ups/\ρ r=some l/\l.b=some b) w w'
theorem a3D.keeps {B S0:Nat->Prop} {w:World} {ρ:Nat->Option Loc} {L:Nat->Prop} {N:Nat} {e:Eff} {w':World} {ρ':Nat->Option Loc} {v:Value}
  (h:a3D B S0 w ρ L N e w' ρ' v):∀b,b<w.heap.size->¬Sx S0 ρ b->w'.heap[b]?=w.heap[b]?/\¬Sx S0 ρ' b:=by
 intro b hb hn;refine⟨h.ext.block b hb ?_,?_⟩
 ·rintro⟨r,l,o,_,hr,hl⟩;exact hn (Or.inr ⟨r,l,hr,hl⟩)
 ·rintro(hs|⟨r,l,hr,hl⟩)
  ·exact hn (Or.inl hs)
  ·rcases h.only r l hr with h1|⟨_,_,h1⟩
   ·exact hn (Or.inr ⟨r,l,h1,hl⟩)
   ·rcases h1 b hl with h2|⟨r0,l0,q1,q2⟩
    ·omega
    ·exact hn (Or.inr ⟨r0,l0,q1,q2⟩)
theorem a3D.keepsV {B S0:Nat->Prop} {w:World} {ρ:Nat->Option Loc} {L:Nat->Prop} {N:Nat} {e:Eff} {w':World} {ρ':Nat->Option Loc} {v:Value}
  (h:a3D B S0 w ρ L N e w' ρ' v) (hN:a2E L N e) {x:AV} {y:Value} (k:e8 w (Sx S0 ρ) ρ L x y):e8 w' (Sx S0 ρ') ρ' (nL L e) x y:=
 k.ext h.ext.size h.keeps (fun r=>Or.inl) (fun r l hr hl=>(h.only r l hl).resolve_right (fun q=>hN r q.1 q.2.1 hr))
theorem a3D.keepsRow {B S0:Nat->Prop} {w:World} {ρ:Nat->Option Loc} {L:Nat->Prop} {N:Nat} {e:Eff} {w':World} {ρ':Nat->Option Loc} {v:Value}
  (h:a3D B S0 w ρ L N e w' ρ' v) (hw:WF B S0 w ρ L) (hN:a2E L N e) {r:Nat} {l:Loc} {row:n9} (hr:∀o,(r,o)∉e.ups) (hl:ρ r=some l)
  (k:i7 w (Sx S0 ρ) ρ L l row):i7 w' (Sx S0 ρ') ρ' (nL L e) l row:=
 k.ext h.ext.size h.keeps (fun r=>Or.inl) (fun r l hr hl=>(h.only r l hl).resolve_right (fun q=>hN r q.1 q.2.1 hr)) fun b hb=>
  h.ext.block b (hw.own r l b hl hb).1 (by
   rintro⟨r',l',o,hm,hr',hl'⟩;have:=hw.inj r r' l l' b hl hr' hb hl';subst this;exact hr o hm)
def p6 (P:Program) (o:Oper) (ev:Operand->AV) (H:Nat->Option n9) (N:Nat) (e:Eff):Prop:=
 ∀(B S0:Nat->Prop) (a:Act) (w:World) (ρ:Nat->Option Loc) (L:Nat->Prop),WF B S0 w ρ L->a2E L N e->
  (∀x∈o.op.operands,e8 w (Sx S0 ρ) ρ L (ev x) (a.eval x))->
  (∀r∈e.reads,∀row,H r=some row->∃l,ρ r=some l/\i7 w (Sx S0 ρ) ρ L l row)->
  ∀(K:Act->World->Prop) (Q:Exit->Act->World->Prop),(∀v w' ρ',a3D B S0 w ρ L N e w' ρ' v->K (a.put o.dst v) w')->o.wp P a w K Q
end Go.AM
namespace Go.AM
inductive TD where
 |cell (z:Value)
 |slice (e:TypeId)
 |agg (z:List Value) (fs:List (Nat×Nat×TypeId))
 |arr (z:List Value) (n:Nat) (e:TypeId)
 |bad
def TD.size:TD->Nat
 | .cell _=>1
 | .slice _=>1
 | .agg z _=>z.length
 | .arr z _ _=>z.length
 | .bad=>0
def TD.isAgg:TD->Bool
 | .agg _ _=>true
 | .arr _ _ _=>true
 |_=>false
def TD.zero:TD->List Value
 | .cell z=>[z]
 | .slice _=>[.slice none 0 0]
 | .agg z _=>z
 | .arr z _ _=>z
 | .bad=>[]
def d6 (P:Program) (t:TypeId):TD:=
 match P.info? t with
 |none=> .bad
 |some i=>
  match P.underlying t,i.zero with
  |some (.struct fs),some (.agg z)=>if z.size=i.size/\z.toList.all Value.oneCell'=true/\fs.toList.all (fun f=>(P.info? f.type).isSome)=true then .agg z.toList (fs.toList.map fun f=>(f.offset,P.cellsOf f.type,f.type))else .bad
  |some (.array n e),some (.agg z)=>if z.size=i.size/\z.toList.all Value.oneCell'=true then .arr z.toList n e else .bad
  |some (.struct _),_=> .bad
  |some (.array _ _),_=> .bad
  |some (.slice e),some (.slice none 0 0)=>if i.size=1 then .slice e else .bad
  |some (.slice _),_=> .bad
  |some _,some z=>if i.size=1/\z.oneCell'=true then .cell z else .bad
  |_,_=> .bad
section
variable {P:Program} {t:TypeId}
theorem G9 {z:List Value} {fs:List (Nat×Nat×TypeId)} (h:d6 P t= .agg z fs):
  ∃i fa,P.info? t=some i/\P.underlying t=some (.struct fa)/\i.zero=some (.agg z.toArray)/\i.size=z.length/\fs=fa.toList.map (fun f=>(f.offset,P.cellsOf f.type,f.type))/\z.all Value.oneCell'=true/\
   ∀f∈fa.toList,(P.info? f.type).isSome=true:=by
 unfold d6 at h
 split at h
 ·cases h
 ·rename_i i hi
  split at h
  ·rename_i fa z' hu hz
   split at h
   ·rename_i hc;simp only[TD.agg.injEq]at h;obtain⟨rfl,rfl⟩:=h;exact⟨i,fa,hi,hu,by simpa using hz,by simpa using hc.1.symm,rfl,hc.2.1,fun f hf=>qn.1 hc.2.2 f hf⟩
   ·cases h
  all_goals first|(cases h;done)|(split at h<;>cases h)
theorem X9 {z:List Value} {n:Nat} {e:TypeId} (h:d6 P t= .arr z n e):
  ∃i,P.info? t=some i/\P.underlying t=some (.array n e)/\i.zero=some (.agg z.toArray)/\i.size=z.length/\z.all Value.oneCell'=true:=by
 unfold d6 at h
 split at h
 ·cases h
 ·rename_i i hi
  split at h
  ·split at h<;>cases h
  ·rename_i n' e' z' hu hz
   split at h
   ·rename_i hc;simp only[TD.arr.injEq]at h;obtain⟨rfl,rfl,rfl⟩:=h;exact⟨i,hi,hu,by simpa using hz,by simpa using hc.1.symm,hc.2⟩
   ·cases h
  all_goals first|(cases h;done)|(split at h<;>cases h)
theorem o6 {e:TypeId} (h:d6 P t= .slice e):
  ∃i,P.info? t=some i/\P.underlying t=some (.slice e)/\i.zero=some (.slice none 0 0)/\i.size=1:=by
 unfold d6 at h
 split at h
 ·cases h
 ·rename_i i hi
  split at h
  ·split at h<;>cases h
  ·split at h<;>cases h
  ·cases h
  ·cases h
  ·rename_i e' hu hz
   split at h
   ·rename_i hc;simp only[TD.slice.injEq]at h;subst h;exact⟨i,hi,hu,hz,hc⟩
   ·cases h
  all_goals first|(cases h;done)|(split at h<;>cases h)
theorem a2j {z:Value} (h:d6 P t= .cell z):
  ∃i d,P.info? t=some i/\P.underlying t=some d/\(∀fs,d≠ .struct fs)/\(∀n e,d≠ .array n e)/\(∀e,d≠ .slice e)/\i.zero=some z/\i.size=1/\z.oneCell'=true:=by
 unfold d6 at h
 split at h
 ·cases h
 ·rename_i i hi
  split at h
  ·split at h<;>cases h
  ·split at h<;>cases h
  ·cases h
  ·cases h
  ·split at h<;>cases h
  ·cases h
  ·rename_i d z' k1 k2 k3 k4 k5 k6 hu hz
   split at h
   ·rename_i hc;simp only[TD.cell.injEq]at h;subst h;refine⟨i,d,hi,hu,?_,?_,?_,hz,hc.1,hc.2⟩
    ·intro fs hd;subst hd;exact k3 fs rfl
    ·intro n e hd;subst hd;exact k4 n e rfl
    ·intro e hd;subst hd;exact k6 e rfl
   ·cases h
  ·cases h
theorem X5 {w:World} (h:d6 P t≠ .bad):∃i,P.info? t=some i/\i.size=(d6 P t).size/\i.zero.isSome=true:=by
 cases hd:d6 P t with
 |cell z=>obtain⟨i,d,h1,_,_,_,_,h4,h5,_⟩:=a2j hd;exact⟨i,h1,h5,by simp[h4]⟩
 |slice e=>obtain⟨i,h1,_,h3,h4⟩:=o6 hd;exact⟨i,h1,h4,by simp[h3]⟩
 |agg z fs=>obtain⟨i,fa,h1,_,h3,h4,_⟩:=G9 hd;exact⟨i,h1,h4,by simp[h3]⟩
 |arr z n e=>obtain⟨i,h1,_,h3,h4,_⟩:=X9 hd;exact⟨i,h1,h4,by simp[h3]⟩
 |bad=>exact absurd hd h
theorem y3 {w:World} (h:d6 P t≠ .bad):(sizeOf t).run P w= .ok (d6 P t).size w:=by
 obtain⟨i,h1,h2,_⟩:=X5 (w:=w) h;simp[sizeOf,typeInfo,h1,h2]
theorem a8U {w:World} (h:d6 P t≠ .bad):(isAgg t).run P w= .ok (d6 P t).isAgg w:=by
 cases hd:d6 P t with
 |cell z=>
  obtain⟨i,d,h1,h2,h3,h4,_⟩:=a2j hd;simp only[isAgg,Sem.run_bind,run_underlying h2,Result.andThen_ok]
  cases d<;>first|rfl|exact absurd rfl (h3 _)|exact absurd rfl (h4 _ _)
 |slice e=>obtain⟨i,h1,h2,_⟩:=o6 hd;simp[isAgg,run_underlying h2,TD.isAgg]
 |agg z fs=>obtain⟨i,fa,h1,h2,_⟩:=G9 hd;simp[isAgg,run_underlying h2,TD.isAgg]
 |arr z n e=>obtain⟨i,h1,h2,_⟩:=X9 hd;simp[isAgg,run_underlying h2,TD.isAgg]
 |bad=>exact absurd hd h
theorem a0F {w:World} (h:d6 P t≠ .bad):∃z,(zeroValue t).run P w= .ok z w/\z.cells.toList=(d6 P t).zero/\(d6 P t).zero.length=(d6 P t).size/\∀x∈(d6 P t).zero,x.oneCell'=true:=by
 cases hd:d6 P t with
 |cell z=>
  obtain⟨i,d,h1,h2,_,_,_,h4,_,h6⟩:=a2j hd;refine⟨z,by simp[zeroValue,typeInfo,h1,h4],?_,rfl,by simp[TD.zero,h6]⟩
  cases z<;>first|rfl|simp[Value.oneCell']at h6
 |slice e=>obtain⟨i,h1,h2,h3,_⟩:=o6 hd;exact⟨_,by simp[zeroValue,typeInfo,h1,h3];rfl,rfl,rfl,by simp[TD.zero,Value.oneCell']⟩
 |agg z fs=>obtain⟨i,fa,h1,h2,h3,h4,h5,h6,_⟩:=G9 hd;exact⟨_,by simp[zeroValue,typeInfo,h1,h3];rfl,by simp[Value.cells,TD.zero],rfl,by simpa [TD.zero]using h6⟩
 |arr z n e=>obtain⟨i,h1,h2,h3,h4,h6⟩:=X9 hd;exact⟨_,by simp[zeroValue,typeInfo,h1,h3];rfl,by simp[Value.cells,TD.zero],rfl,by simpa [TD.zero]using h6⟩
 |bad=>exact absurd hd h
end
def AV.cells:AV->Option (List AV)
 | .agg cs=>some cs
 | .v x=>if x.oneCell'=true then some [.v x]else none
 | .row r i n=>some [.row r i n]
 | .ptr r i o=>some [.ptr r i o]
 | .fptr x r i o=>some [.fptr x r i o]
 | .mp r=>some [.mp r]
 | .mpc ag kts kvs=>some [.mpc ag kts kvs]
 | .lst s e=>some [.lst s e]
 | .full s e=>some [.full s e]
 | .iptr c=>some [.iptr c]
 | .vptr c=>some [.vptr c]
 | .bnd f c=>some [.bnd f c]
 | .clo f c=>some [.clo f c]
 | .ifc t x=>some [.ifc t x]
 |_=>none
theorem a1w {w:World} {S:Nat->Prop} {ρ:Nat->Option Loc} {L:Nat->Prop} {x:AV} {y:Value} {cs:List AV} (h:e8 w S ρ L x y) (hc:x.cells=some cs):
  y.cells.toList.length=cs.length/\∀(i:Nat) c u,cs[i]?=some c->y.cells.toList[i]?=some u->u.oneCell'=true/\e8 w S ρ L c u:=by
 have single:∀{x:AV} {y:Value},y.oneCell'=true->e8 w S ρ L x y->y.cells.toList.length=[x].length/\∀(i:Nat) c u,[x][i]?=some c->y.cells.toList[i]?=some u->u.oneCell'=true/\e8 w S ρ L c u:=by
  intro x y hy hr;have e:y.cells.toList=[y]:=by cases y<;>first|rfl|simp[Value.oneCell']at hy
  rw[e];refine⟨rfl,fun i c u h1 h2=>?_⟩
  cases i with
  |zero=>simp at h1 h2;subst h1 h2;exact⟨hy,hr⟩
  |succ i=>simp at h1
 cases h with
 | pure x y h=>
  have hr:=e8.pure (ρ:=ρ) (L:=L) x y h
  cases h with
  |v x=>simp only[AV.cells]at hc;split at hc<;>simp at hc;subst hc;rename_i hx;exact single hx hr
  |any x=>cases hc
  |agg cs' vs hl hcl h=>
   simp only[AV.cells,qb]at hc;subst hc;refine⟨by simp[Value.cells,hl],fun i c u h1 h2=>?_⟩;simp only[Value.cells]at h2;exact⟨hcl u (qd h2), .pure _ _ (h i c u h1 h2)⟩
  |tup cs' vs hl h=>cases hc
  |lst sz els b off cap vs=>simp only[AV.cells,qb]at hc;subst hc;exact single rfl hr
  |lstNil sz a cap=>simp only[AV.cells,qb]at hc;subst hc;exact single rfl hr
  |full sz els b off vs=>simp only[AV.cells,qb]at hc;subst hc;exact single rfl hr
  |iptr cs b off vs=>simp only[AV.cells,qb]at hc;subst hc;exact single rfl hr
  |clo f caps vs=>simp only[AV.cells,qb]at hc;subst hc;exact single rfl hr
  |bnd f caps vs=>simp only[AV.cells,qb]at hc;subst hc;exact single rfl hr
  |ifc t x y h=>simp only[AV.cells,qb]at hc;subst hc;exact single rfl hr
  |mpc ag kts kvs b=>simp only[AV.cells,qb]at hc;subst hc;exact single rfl hr
  |mayT l x y ht h=>cases hc
  |mayF l x hf=>cases hc
 |row r i n y h1 hy h=>simp only[AV.cells,qb]at hc;subst hc;exact single hy (.row r i n y h1 hy h)
 |ptr r i off y h1 hy h=>simp only[AV.cells,qb]at hc;subst hc;exact single hy (.ptr r i off y h1 hy h)
 |mp r y h1 hy h=>simp only[AV.cells,qb]at hc;subst hc;exact single hy (.mp r y h1 hy h)
 |agg cs' vs hl hcl h=>
  simp only[AV.cells,qb]at hc;subst hc;refine⟨by simp[Value.cells,hl],fun i c u h1 h2=>?_⟩;simp only[Value.cells]at h2;exact⟨hcl u (qd h2),h i c u h1 h2⟩
 |tup cs' vs hl h=>cases hc
 |clo f caps vs hl h=>simp only[AV.cells,qb]at hc;subst hc;exact single rfl (.clo f caps vs hl h)
 |bnd f caps vs hl h=>simp only[AV.cells,qb]at hc;subst hc;exact single rfl (.bnd f caps vs hl h)
 |vptr cs' b off vs hS hb hl hv h=>simp only[AV.cells,qb]at hc;subst hc;exact single rfl (.vptr cs' b off vs hS hb hl hv h)
 |ifc t x y h=>simp only[AV.cells,qb]at hc;subst hc;exact single rfl (.ifc t x y h)
 |mayT l x y ht h=>cases hc
 |mayF l x hf=>cases hc
 |fptr x r i off h=>
  simp only[AV.cells,qb]at hc;subst hc;refine single ?_ (.fptr _ r i off h)
  cases h with
  |pure _ _ h=>cases h
  |ptr _ _ _ _ _ hy _=>exact hy
theorem WF.more {B S0:Nat->Prop} {w:World} {ρ:Nat->Option Loc} {L L':Nat->Prop} (h:WF B S0 w ρ L) (hL:∀r,L r->L' r):WF B S0 w ρ L':=
 ⟨h.inj,h.own,fun r l hl=>hL r (h.given r l hl),h.low,h.new⟩
section
variable {P:Program} {o:Oper} {ev:Operand->AV} {H:Nat->Option n9} {N:Nat}
theorem p6.of_pure {av:AV} {reads:List Nat}
  (h:∀(B S0:Nat->Prop) (a:Act) (w:World) (ρ:Nat->Option Loc) (L:Nat->Prop),WF B S0 w ρ L->
   (∀x∈o.op.operands,e8 w (Sx S0 ρ) ρ L (ev x) (a.eval x))->
   (∀r∈reads,∀row,H r=some row->∃l,ρ r=some l/\i7 w (Sx S0 ρ) ρ L l row)->
   ∃v,((execOp a.eval o).run P w= .ok (.value v) w∨((execOp a.eval o).run P w= .ok .skip w/\v=undef))/\e8 w (Sx S0 ρ) ρ L av v):
  p6 P o ev H N ⟨av,[],reads⟩:=by
 intro B S0 a w ρ L hw hN hops hrd K Q hK;obtain⟨v,hrun,hrep⟩:=h B S0 a w ρ L hw hops hrd;have hp:a3D B S0 w ρ L N ⟨av,[],reads⟩ w ρ v:=
  {wf:=hw.more fun r=>Or.inl
   rep:=hrep.ext (qo _) (fun b _ hn=>⟨rfl,hn⟩) (fun r=>Or.inl) (fun r l _ hl=>hl)
   ups:=by intro r o hm;cases hm
   others:=fun r _=>rfl
   only:=fun r l hl=>Or.inl hl
   ext:=Ext.refl _ _}
 unfold Oper.wp
 rcases hrun with hrun|⟨hrun,rfl⟩<;>rw[hrun]<;>exact hK _ _ _ hp
theorem a8s (M:Nat->Prop) (w:World) (ob:Obj):Ext M w (w.alloc ob):=
 Ext.of_same rfl rfl rfl (by simp) fun b hb=>by show(w.heap.push ob)[b]?=_;rw[Array.getElem?_push,if_neg (by omega)]
theorem x8 (w:World) (ob:Obj):(w.alloc ob).heap[w.heap.size]?=some ob:=by
 show(w.heap.push ob)[w.heap.size]?=_;simp
def Loc.fresh (ρ:Nat->Option Loc) (N:Nat) (l:Loc):Nat->Option Loc:=fun r=>if r=N then some l else ρ r
theorem a1D {B S0:Nat->Prop} {w w':World} {ρ:Nat->Option Loc} {L:Nat->Prop} (hw:WF B S0 w ρ L) (hN:¬L N) (l:Loc) (hsz:w.heap.size<=w'.heap.size)
  (hb:∀b,l.b=some b->w.heap.size<=b/\b<w'.heap.size):WF B S0 w' (Loc.fresh ρ N l) (fun r=>L r∨r=N):=by
 have hold:∀r l' b,ρ r=some l'->l'.b=some b->b<w.heap.size:=fun r l' b h1 h2=>(hw.own r l' b h1 h2).1;refine⟨?_,?_,?_,fun b h=>qq (hw.low b h) hsz,fun b h=>hw.new b (Nat.le_trans hsz h)⟩
 ·intro r r' l1 l2 b h1 h2 k1 k2;simp only[Loc.fresh]at h1 h2
  split at h1<;>split at h2
  ·simp_all
  ·simp only[qb]at h1;subst h1;have:=hold r' l2 b h2 k2;have:=(hb b k1).1;omega
  ·simp only[qb]at h2;subst h2;have:=hold r l1 b h1 k1;have:=(hb b k2).1;omega
  ·exact hw.inj r r' l1 l2 b h1 h2 k1 k2
 ·intro r l1 b h1 k1;simp only[Loc.fresh]at h1
  split at h1
  ·simp only[qb]at h1;subst h1;have:=hb b k1;exact⟨this.2,fun h=>by have:=hw.low b h;omega,hw.new b this.1⟩
  ·have:=hw.own r l1 b h1 k1;exact⟨qq this.1 hsz,this.2⟩
 ·intro r l1 h1;simp only[Loc.fresh]at h1
  split at h1
  ·rename_i h;exact Or.inr h
  ·exact Or.inl (hw.given r l1 h1)
theorem p6.of_new {av:AV} {reads:List Nat} {row:n9}
  (h :∀(B S0:Nat->Prop) (a:Act) (w:World) (ρ:Nat->Option Loc) (L:Nat->Prop),WF B S0 w ρ L->¬L N->
   (∀x∈o.op.operands,e8 w (Sx S0 ρ) ρ L (ev x) (a.eval x))->
   (∀r∈reads,∀row,H r=some row->∃l,ρ r=some l/\i7 w (Sx S0 ρ) ρ L l row)->
   ∃ (v:Value) (ob:Obj) (w1:World) (l:Loc),(execOp a.eval o).run P w= .ok (.value v) (w1.alloc ob)/\w1.heap=w.heap/\w1.os=w.os/\w1.tape=w.tape/\w1.output=w.output/\
    (∀b,l.b=some b->b=w.heap.size)/\
    ∀w' ρ',w'=w1.alloc ob->ρ'=Loc.fresh ρ N l->(∀x y,e8 w (Sx S0 ρ) ρ L x y->e8 w' (Sx S0 ρ') ρ' (fun r=>L r∨r=N) x y)->
     e8 w' (Sx S0 ρ') ρ' (fun r=>L r∨r=N) av v/\i7 w' (Sx S0 ρ') ρ' (fun r=>L r∨r=N) l row):
  p6 P o ev H N ⟨av,[(N,some row)],reads⟩:=by
 intro B S0 a w ρ L hw hN hops hrd K Q hK
 replace hN:¬L N:=hN N (qo _) ⟨some row,by simp⟩
 obtain⟨v,ob,w1,l,hrun,hh,ho,ht,hout,hl,hrest⟩:=h B S0 a w ρ L hw hN hops hrd;have hLL:∀r,(L r∨r=N)->nL L ⟨av,[(N,some row)],reads⟩ r:=by
  rintro r (h1|rfl)
  ·exact Or.inl h1
  ·exact Or.inr ⟨some row,by simp⟩
 have hsz:(w1.alloc ob).heap.size=w.heap.size+1:=by simp[hh]
 have hext:∀M,Ext M w (w1.alloc ob):=fun M=>
  Ext.of_same ho ht hout (by omega) fun b hb=>by show(w1.heap.push ob)[b]?=_;rw[hh,Array.getElem?_push,if_neg (by omega)]
 have hwf:=a1D hw hN l (w':=w1.alloc ob) (by omega) (fun b hb=>by have:=hl b hb;omega);have hkeep:∀x y,e8 w (Sx S0 ρ) ρ L x y->e8 (w1.alloc ob) (Sx S0 (Loc.fresh ρ N l)) (Loc.fresh ρ N l) (fun r=>L r∨r=N) x y:=by
  intro x y k;refine k.ext (by omega) (fun b hb hn=>⟨(hext (fun _=>False)).block b hb (fun k=>k),?_⟩) (fun r=>Or.inl) ?_
  ·rintro(h1|⟨r,l',h1,h2⟩)
   ·exact hn (Or.inl h1)
   ·simp only[Loc.fresh]at h1
    split at h1
    ·simp only[qb]at h1;subst h1;have:=hl b h2;omega
    ·exact hn (Or.inr ⟨r,l',h1,h2⟩)
  ·intro r l' hr hl';simp only[Loc.fresh]at hl'
   split at hl'
   ·rename_i e;subst e;exact absurd hr hN
   ·exact hl'
 obtain⟨hav,n8⟩:=hrest _ _ rfl rfl hkeep;unfold Oper.wp;rw[hrun];refine hK _ _ (Loc.fresh ρ N l) {wf:=hwf.more hLL,rep:=hav.ext (qo _) (fun b _ hn=>⟨rfl,hn⟩) hLL (fun r l _ hl=>hl),ups:= ?_,others:= ?_,only:= ?_,ext:=hext _}
 ·intro r o' hm;simp only[List.mem_singleton,qr]at hm;obtain⟨rfl,rfl⟩:=hm;exact⟨l,by simp[Loc.fresh],n8.ext (qo _) (fun b _ hn=>⟨rfl,hn⟩) hLL (fun r l _ hl=>hl) (fun _ _=>rfl)⟩
 ·intro r hr;simp only[Loc.fresh];rw[if_neg];intro e;subst e;exact hr (some row) (by simp)
 ·intro r l' h1;simp only[Loc.fresh]at h1
  split at h1
  ·rename_i e;simp only[qb]at h1;subst h1;subst e;exact Or.inr ⟨qo _,⟨some row,by simp⟩,fun b hb=>Or.inl (by have:=hl b hb;omega)⟩
  ·exact Or.inl h1
theorem p6.of_lit {av:AV} {reads:List Nat}
  (h:∀(B S0:Nat->Prop) (a:Act) (w:World) (ρ:Nat->Option Loc) (L:Nat->Prop),WF B S0 w ρ L->
   (∀x∈o.op.operands,e8 w (Sx S0 ρ) ρ L (ev x) (a.eval x))->
   ∃(v:Value) (ob:Obj),(execOp a.eval o).run P w= .ok (.value v) (w.alloc ob)/\
    (¬Sx S0 ρ w.heap.size->(∀x y,e8 w (Sx S0 ρ) ρ L x y->e8 (w.alloc ob) (Sx S0 ρ) ρ L x y)->e8 (w.alloc ob) (Sx S0 ρ) ρ L av v)):
  p6 P o ev H N ⟨av,[],reads⟩:=by
 intro B S0 a w ρ L hw hN hops hrd K Q hK;obtain⟨v,ob,hrun,hrep⟩:=h B S0 a w ρ L hw hops;have hns:¬Sx S0 ρ w.heap.size:=by
  rintro(h1|⟨r,l,h1,h2⟩)
  ·have:=hw.low _ h1;omega
  ·have:=(hw.own r l _ h1 h2).1;omega
 have hsz:w.heap.size<=(w.alloc ob).heap.size:=by simp
 have hkeep:∀x y,e8 w (Sx S0 ρ) ρ L x y->e8 (w.alloc ob) (Sx S0 ρ) ρ L x y:=fun x y k=>
  k.ext hsz (fun b hb hn=>⟨(a8s (fun _=>False) w ob).block b hb (fun k=>k),hn⟩) (fun r h=>h) (fun r l _ hl=>hl)
 have hp:a3D B S0 w ρ L N ⟨av,[],reads⟩ (w.alloc ob) ρ v:=
  {wf:=⟨hw.inj,fun r l b h1 h2=>⟨qq (hw.own r l b h1 h2).1 hsz,(hw.own r l b h1 h2).2⟩,fun r l h1=>Or.inl (hw.given r l h1),fun b h=>qq (hw.low b h) hsz,fun b h=>hw.new b (Nat.le_trans hsz h)⟩
   rep:=(hrep hns hkeep).ext (qo _) (fun b _ hn=>⟨rfl,hn⟩) (fun r=>Or.inl) (fun r l _ hl=>hl)
   ups:=by intro r o hm;cases hm
   others:=fun r _=>rfl
   only:=fun r l hl=>Or.inl hl
   ext:=a8s _ w ob}
 unfold Oper.wp;rw[hrun];exact hK _ _ _ hp
theorem p6.of_upd {r:Nat} {row:n9} {reads:List Nat}
  (h:∀(B S0:Nat->Prop) (a:Act) (w:World) (ρ:Nat->Option Loc) (L:Nat->Prop),WF B S0 w ρ L->
   (∀x∈o.op.operands,e8 w (Sx S0 ρ) ρ L (ev x) (a.eval x))->
   (∀r∈reads,∀row,H r=some row->∃l,ρ r=some l/\i7 w (Sx S0 ρ) ρ L l row)->
   ∃(l:Loc) (b:Nat) (cs:Array Value),ρ r=some l/\l.b=some b/\(execOp a.eval o).run P w= .ok .skip (w.setRow b cs)/\(∀c t s,w.heap[b]?=some (Obj.cells c t s)->cs.size=c.size)/\
    ((∀x y,e8 w (Sx S0 ρ) ρ L x y->e8 (w.setRow b cs) (Sx S0 ρ) ρ L x y)->i7 (w.setRow b cs) (Sx S0 ρ) ρ L l row)):
  p6 P o ev H N ⟨.any,[(r,some row)],reads⟩:=by
 intro B S0 a w ρ L hw hN hops hrd K Q hK;obtain⟨l,b,cs,hl,hb,hrun,hcz,n8⟩:=h B S0 a w ρ L hw hops hrd;have hsize:(w.setRow b cs).heap.size=w.heap.size:=by simp[World.setRow]
 have hother:∀k,k≠b->(w.setRow b cs).heap[k]?=w.heap[k]?:=by
  intro k hk;simp only[World.setRow,Array.getElem?_modify];rw[if_neg (by omega)]
 have hkeep:∀x y,e8 w (Sx S0 ρ) ρ L x y->e8 (w.setRow b cs) (Sx S0 ρ) ρ L x y:=fun x y k=>
  k.ext (by omega) (fun b' hb' hn=>⟨hother b' (by rintro rfl;exact hn (Or.inr ⟨r,l,hl,hb⟩)),hn⟩) (fun r h=>h) (fun r l _ hl=>hl)
 have hp:a3D B S0 w ρ L N ⟨.any,[(r,some row)],reads⟩ (w.setRow b cs) ρ undef:=
  {wf:=⟨hw.inj,fun r l b h1 h2=>by rw[hsize];exact hw.own r l b h1 h2,fun r l h1=>Or.inl (hw.given r l h1),fun b h=>by rw[hsize];exact hw.low b h,fun b h=>hw.new b (by rw[hsize]at h;exact h)⟩
   rep:= .pure _ _ (.any _)
   ups:=by
    intro r' o' hm;simp only[List.mem_singleton,qr]at hm;obtain⟨rfl,rfl⟩:=hm;exact⟨l,hl,(n8 hkeep).ext (qo _) (fun b _ hn=>⟨rfl,hn⟩) (fun r=>Or.inl) (fun r l _ hl=>hl) (fun _ _=>rfl)⟩
   others:=fun r _=>rfl
   only:=fun r l hl=>Or.inl hl
   ext:=⟨rfl,rfl,rfl,by omega,fun k hk hm=>hother k (by rintro rfl;exact hm ⟨r,l,some row,by simp,hl,hb⟩),fun k c t s hc=>by
    by_cases e:k=b
    ·subst e;refine⟨cs,t,s,?_,hcz c t s hc⟩;simp[World.setRow,Array.getElem?_modify,hc]
    ·exact⟨c,t,s,(hother k e).trans hc,rfl⟩⟩}
 unfold Oper.wp;rw[hrun];exact hK _ _ _ hp
end
end Go.AM
namespace Go.AM
def mk (td:TD) (cs:List AV):AV:=if td.isAgg then .agg cs else cs.headD .any
section
variable {P:Program} {o:Oper} {ev:Operand->AV} {H:Nat->Option n9} {N:Nat}
theorem b5T {x:Operand} (ho:o.op= .move x∨o.op= .assign x):p6 P o ev H N ⟨ev x,[],[]⟩:=by
 refine p6.of_pure fun B S0 a w ρ L hw hops _=>⟨a.eval x,Or.inl ?_,?_⟩
 ·rcases ho with ho|ho<;>simp[execOp,ho]
 ·exact hops x (by rcases ho with ho|ho<;>simp[ho,Op.operands])
theorem b9h {t:TypeId} (ho:o.op= .alloc t) (ht:d6 P t≠ .bad):
  p6 P o ev H N ⟨.ptr N 0 0,[(N,some (.els (d6 P t).size [(d6 P t).zero.map .v]))],[]⟩:=by
 refine p6.of_new fun B S0 a w ρ L hw hN hops _=>?_;obtain⟨z,hz,hzc,hzl,hz1⟩:=a0F (P:=P) (t:=t) (w:=w) ht;refine⟨.pointer (some ⟨w.heap.size,0,none⟩), .cells z.cells t,w,⟨some w.heap.size,0,(d6 P t).size,z.cells.size⟩,?_,rfl,rfl,rfl,rfl,?_,?_⟩
 ·simp[execOp,ho,Instr.alloc,hz,newVar,newRow]
 ·intro b hb;simpa using hb.symm
 ·intro w' ρ' hw' hρ' _;have hsz:z.cells.size=(d6 P t).size:=by rw[<-Array.length_toList,hzc,hzl]
  refine⟨.ptr _ _ _ _ (Or.inr rfl) rfl ?_,?_⟩
  ·intro l hl;subst hρ';simp only[Loc.fresh,if_true,qb]at hl;subst hl;exact⟨_,rfl,by simp⟩
  ·refine⟨rfl,by simp[hzl],by simp,fun b hb=>?_⟩;simp only[qb]at hb;subst hb;refine⟨z.cells,t,by rw[hw'];exact x8 w _,rfl,by simp[hsz],fun i c hi=>?_⟩;simp only[List.flatten_cons,List.flatten_nil,List.append_nil,qe,qf]at hi;obtain⟨u,hu,rfl⟩:=hi;refine⟨u,?_,hz1 u (qd hu), .pure _ _ (.v u)⟩;rw[<-hzc]at hu;simp only[Nat.zero_add];rw[<-hu,Array.getElem?_toList]
theorem c4x {t:TypeId} {x:Operand} {cs:List AV} (ho:o.op= .box t x) (hx:(ev x).cells=some cs):
  p6 P o ev H N ⟨.ptr N 0 0,[(N,some (.els cs.length [cs]))],[]⟩:=by
 refine p6.of_new fun B S0 a w ρ L hw hN hops _=>?_;have hr:=hops x (by simp[ho,Op.operands]);obtain⟨hlen,hcell⟩:=a1w hr hx;refine⟨.pointer (some ⟨w.heap.size,0,none⟩), .cells (a.eval x).cells t,w,⟨some w.heap.size,0,cs.length,(a.eval x).cells.size⟩,?_,rfl,rfl,rfl,rfl,?_,?_⟩
 ·simp[execOp,ho,Instr.box,newVar,newRow]
 ·intro b hb;simpa using hb.symm
 ·intro w' ρ' hw' hρ' hkeep;refine⟨.ptr _ _ _ _ (Or.inr rfl) rfl ?_,?_⟩
  ·intro l hl;subst hρ';simp only[Loc.fresh,if_true,qb]at hl;subst hl;exact⟨_,rfl,by simp⟩
  ·refine⟨rfl,by simp,by simp,fun b hb=>?_⟩;simp only[qb]at hb;subst hb;refine⟨(a.eval x).cells,t,by rw[hw'];exact x8 w _,rfl,by simp at hlen;simp[hlen],fun i c hi=>?_⟩;simp only[List.flatten_cons,List.flatten_nil,List.append_nil]at hi;have hlt:i<(a.eval x).cells.toList.length:=by rw[hlen];exact(qa.1 hi).1
   obtain⟨h1,h2⟩:=hcell i c _ hi (qc hlt);exact⟨_,by rw[Nat.zero_add,<-Array.getElem?_toList];exact qc hlt,h1,hkeep _ _ h2⟩
theorem I8 {t:TypeId} {w:World} {b off:Nat} {vs:List Value} (ht:d6 P t≠ .bad) (hl:vs.length=(d6 P t).size)
  (hv:∀(i:Nat) x,vs[i]?=some x->w.cell? ⟨b,off+i,none⟩=some x):
  (loadVar t ⟨b,off,none⟩).run P w= .ok (if (d6 P t).isAgg then .agg vs.toArray else vs.headD undef) w:=by
 unfold loadVar;simp only[Sem.run_bind,a8U ht,Result.andThen_ok]
 split
 ·rename_i hagg;simp only[Sem.run_bind,y3 ht,Result.andThen_ok];have:=run_loadCells_list (P:=P) w ⟨b,off,none⟩ vs (by intro j v hj;rw[Addr.add_lit];exact hv j v hj);rw[hl]at this;simp[this]
 ·rename_i hagg;have h1:(d6 P t).size=1:=by
   cases hd:d6 P t with
   |cell z=>rfl
   |slice e=>rfl
   |agg z fs=>simp[hd,TD.isAgg]at hagg
   |arr z n e=>simp[hd,TD.isAgg]at hagg
   |bad=>exact absurd hd ht
  rw[h1]at hl
  match vs,hl with
  |[x],_=>
   have:=hv 0 x (by simp);simp only[Nat.add_zero]at this;simp[run_load,this]
theorem b1d {w:World} {S:Nat->Prop} {ρ:Nat->Option Loc} {L:Nat->Prop} {td:TD} {cs:List AV} {vs:List Value} (ht:td≠ .bad) (hl:vs.length=td.size) (hlc:cs.length=vs.length)
  (h:∀(i:Nat) c x,cs[i]?=some c->vs[i]?=some x->x.oneCell'=true/\e8 w S ρ L c x):
  e8 w S ρ L (mk td cs) (if td.isAgg then .agg vs.toArray else vs.headD undef):=by
 unfold mk
 split
 ·refine .agg cs vs hlc ?_ (fun i c x h1 h2=>(h i c x h1 h2).2);intro x hx;obtain⟨i,hi,rfl⟩:=List.getElem_of_mem hx;have hi':i<cs.length:=by omega
  exact(h i _ _ (qc hi') (qc hi)).1
 ·rename_i hagg;have h1:td.size=1:=by
   cases td<;>first|rfl|exact absurd rfl ht|simp[TD.isAgg]at hagg
  rw[h1]at hl
  match vs,hl,cs,hlc with
  |[x],_,[c],_=>exact(h 0 c x rfl rfl).2
theorem o8 {α:Type} {es:List (List α)} {sz:Nat} (hsz:∀e∈es,e.length=sz) {i:Nat} {e:List α} (he:es[i]?=some e) (j:Nat) (hj:j<sz):
  es.flatten[i*sz+j]?=e[j]?:=by
 induction es generalizing i with
 |nil=>simp at he
 | cons x xs ih=>
  have hx:x.length=sz:=hsz x (by simp)
  cases i with
  |zero=>
   simp only[List.getElem?_cons_zero,qb]at he;subst he;simp only[Nat.zero_mul,Nat.zero_add,List.flatten_cons];rw[qw (by omega)]
  |succ i=>
   simp only[List.getElem?_cons_succ]at he;rw[List.flatten_cons,qv (by rw[hx,Nat.succ_mul];omega),<-ih (fun e h=>hsz e (by simp[h])) he,hx]
   congr 1
   rw[Nat.succ_mul];omega
theorem j4 {α:Type} {es:List (List α)} {sz:Nat} (hsz:∀e∈es,e.length=sz):es.flatten.length=es.length*sz:=by
 induction es with
 |nil=>simp
 |cons x xs ih=>simp[hsz x (by simp),ih (fun e h=>hsz e (by simp[h])),Nat.succ_mul,Nat.add_comm]
theorem a0l {w:World} {S:Nat->Prop} {ρ:Nat->Option Loc} {L:Nat->Prop} {l:Loc} {sz:Nat} {es:List (List AV)} (h:i7 w S ρ L l (.els sz es)) {i:Nat} {e:List AV} (he:es[i]?=some e)
  {b:Nat} (hb:l.b=some b):∃(c:Array Value) (t:TypeId),w.heap[b]?=some (.cells c t (0,0))/\l.o+(i+1)*sz<=c.size/\e.length=sz/\
   ∀(j:Nat) a,e[j]?=some a->∃x,c[l.o+i*sz+j]?=some x/\w.cell? ⟨b,l.o+i*sz+j,none⟩=some x/\x.oneCell'=true/\e8 w S ρ L a x:=by
 obtain⟨h1,h2,h3,h4⟩:=h;obtain⟨c,t,k1,k2,k3,k4⟩:=h4 b hb;have hi:i<es.length:=(qa.1 he).1;have hel:e.length=sz:=h2 e (qd he);have hle:(i+1)*sz<=es.length*sz:=Nat.mul_le_mul_right _ hi;refine⟨c,t,k1,by omega,hel,fun j a hj=>?_⟩;have hjl:j<sz:=by rw[<-hel];exact(qa.1 hj).1
 obtain⟨x,q1,q2,q3⟩:=k4 (i*sz+j) a (by rw[o8 h2 he j hjl];exact hj);refine⟨x,by rw[Nat.add_assoc];exact q1,?_,q2,q3⟩;simp[World.cell?,k1,Nat.add_assoc,q1]
theorem a0O {w:World} {S:Nat->Prop} {ρ:Nat->Option Loc} {L:Nat->Prop} {l:Loc} {sz:Nat} {es:List (List AV)} (h:i7 w S ρ L l (.els sz es)) {i:Nat} {e:List AV} (he:es[i]?=some e):
  ∃b,l.b=some b:=by
 cases hb:l.b with
 |some b=>exact⟨b,rfl⟩
 |none=>have:=h.2.2.1 hb;subst this;simp at he
theorem a0y {w:World} {S:Nat->Prop} {ρ:Nat->Option Loc} {L:Nat->Prop} {t:TypeId} {y:Value} {r i off sz:Nat} {es:List (List AV)} {e:List AV} {l:Loc} (ht:d6 P t≠ .bad) (hr:e8 w S ρ L (.ptr r i off) y)
  (hl:ρ r=some l) (n8:i7 w S ρ L l (.els sz es)) (he:es[i]?=some e) (hin:off+(d6 P t).size<=e.length):
  ∃ad v,y= .pointer (some ad)/\(loadVar t ad).run P w= .ok v w/\e8 w S ρ L (mk (d6 P t) ((e.drop off).take (d6 P t).size)) v:=by
 obtain⟨b,hb⟩:=a0O n8 he;obtain⟨c,t',k1,k2,k3,k4⟩:=a0l n8 he hb;have hy:y= .pointer (some ⟨b,l.o+i*sz+off,none⟩):=by
  cases hr with
  |pure _ _ h=>cases h
  |ptr _ _ _ y h1 h2 h3=>
   obtain⟨b',hb',hy⟩:=h3 l hl;rw[hb]at hb';simp only[qb]at hb';subst hb';rw[hy,n8.1]
 let n:=(d6 P t).size
 let vs:List Value:=((c.toList.drop (l.o+i*sz+off)).take n)
 have hsz:(i+1)*sz=i*sz+sz:=by rw[Nat.succ_mul]
 have hvl:vs.length=n:=by
  simp only[vs,qm,qx,Array.length_toList];rw[Nat.min_eq_left];omega
 have hvs:∀(j:Nat) (x:Value),vs[j]?=some x->c[l.o+i*sz+off+j]?=some x/\j<n:=by
  intro j x hj;have hjn:j<n:=by rw[<-hvl];exact(qa.1 hj).1
  simp only[vs,qk,hjn,if_true,ql]at hj;exact⟨by simpa using hj,hjn⟩
 refine⟨_,_,hy,?_,b1d (vs:=vs) ht hvl ?_ ?_⟩
 ·exact I8 (P:=P) (w:=w) (b:=b) (off:=l.o+i*sz+off) (vs:=vs) ht hvl (fun j x hj=>by
   have:=(hvs j x hj).1;simp[World.cell?,k1,this])
 ·rw[hvl];simp only[qm,qx];rw[Nat.min_eq_left];omega
 ·intro j c' x' h1 h2;obtain⟨q1,q2⟩:=hvs j x' h2;rw[qk,if_pos q2,ql]at h1;obtain⟨x'',p1,p2,p3,p4⟩:=k4 (off+j) c' h1;rw[show l.o+i*sz+(off+j)=l.o+i*sz+off+j by omega]at p1;rw[q1]at p1;simp only[qb]at p1;subst p1;exact⟨p3,p4⟩
theorem a9M {t:TypeId} {x:Operand} {r i off sz:Nat} {es:List (List AV)} {e:List AV} (ho:o.op= .load t x) (ht:d6 P t≠ .bad) (hx:ev x= .ptr r i off)
  (hH:H r=some (.els sz es)) (he:es[i]?=some e) (hin:off+(d6 P t).size<=e.length):
  p6 P o ev H N ⟨mk (d6 P t) ((e.drop off).take (d6 P t).size),[],[r]⟩:=by
 refine p6.of_pure fun B S0 a w ρ L hw hops hrd=>?_;have hr:=hops x (by simp[ho,Op.operands]);obtain⟨l,hl,n8⟩:=hrd r (by simp) _ hH;rw[hx]at hr;obtain⟨ad,v,hy,hrun,hrep⟩:=a0y (P:=P) ht hr hl n8 he hin;refine⟨v,Or.inl ?_,hrep⟩;simp[execOp,ho,Instr.loadAt,hy,Instr.sureAddr,hrun]
theorem U0 {w:World} {S:Nat->Prop} {ρ:Nat->Option Loc} {L:Nat->Prop} {cs:List AV} {y:Value} (h:e8 w S ρ L (.iptr cs) y):
  ∃(b off:Nat) (vs:List Value),y= .pointer (some ⟨b,off,none⟩)/\¬S b/\b<w.heap.size/\cs.length=vs.length/\
   (∀(i:Nat) x,vs[i]?=some x->w.cell? ⟨b,off+i,none⟩=some x/\x.oneCell'=true)/\∀(i:Nat) c x,cs[i]?=some c->vs[i]?=some x->r8 w S c x:=by
 cases h with
 |pure _ _ h=>cases h with
  |iptr _ b off vs hS hb hl hv h=>exact⟨b,off,vs,rfl,hS,hb,hl,hv,h⟩
theorem X4 {w:World} {S:Nat->Prop} {ρ:Nat->Option Loc} {L:Nat->Prop} {t:TypeId} {y:Value} {cs:List AV} (ht:d6 P t≠ .bad) (hr:e8 w S ρ L (.iptr cs) y) (hin:(d6 P t).size<=cs.length):
  ∃ad v,y= .pointer (some ad)/\(loadVar t ad).run P w= .ok v w/\e8 w S ρ L (mk (d6 P t) (cs.take (d6 P t).size)) v:=by
 obtain⟨b,off,vs,hy,hS,hb,hl,hv,h⟩:=U0 hr;have hvl:(vs.take (d6 P t).size).length=(d6 P t).size:=by rw[qm,Nat.min_eq_left];omega
 refine⟨_,_,hy,?_,b1d (vs:=vs.take (d6 P t).size) ht hvl ?_ ?_⟩
 ·exact I8 (P:=P) (w:=w) (b:=b) (off:=off) (vs:=vs.take (d6 P t).size) ht hvl (fun j x hj=>by
   rw[qk]at hj
   split at hj
   ·exact(hv j x hj).1
   ·cases hj)
 ·rw[hvl,qm,Nat.min_eq_left];exact hin
 ·intro j c x h1 h2;rw[qk]at h1 h2
  split at h1
  ·rename_i hj;rw[if_pos hj]at h2;exact⟨(hv j x h2).2, .pure _ _ (h j c x h1 h2)⟩
  ·cases h1
theorem y9 {w:World} {S:Nat->Prop} {ρ:Nat->Option Loc} {L:Nat->Prop} {cs:List AV} {y:Value} (h:e8 w S ρ L (.vptr cs) y):
  ∃(b off:Nat) (vs:List Value),y= .pointer (some ⟨b,off,none⟩)/\¬S b/\b<w.heap.size/\cs.length=vs.length/\
   (∀(i:Nat) x,vs[i]?=some x->w.cell? ⟨b,off+i,none⟩=some x/\x.oneCell'=true)/\∀(i:Nat) c x,cs[i]?=some c->vs[i]?=some x->e8 w S ρ L c x:=by
 cases h with
 |pure _ _ h=>cases h
 |vptr _ b off vs hS hb hl hv h=>exact⟨b,off,vs,rfl,hS,hb,hl,hv,h⟩
theorem W9 {w:World} {S:Nat->Prop} {ρ:Nat->Option Loc} {L:Nat->Prop} {t:TypeId} {y:Value} {cs:List AV} (ht:d6 P t≠ .bad) (hr:e8 w S ρ L (.vptr cs) y) (hin:(d6 P t).size<=cs.length):
  ∃ad v,y= .pointer (some ad)/\(loadVar t ad).run P w= .ok v w/\e8 w S ρ L (mk (d6 P t) (cs.take (d6 P t).size)) v:=by
 obtain⟨b,off,vs,hy,hS,hb,hl,hv,h⟩:=y9 hr;have hvl:(vs.take (d6 P t).size).length=(d6 P t).size:=by rw[qm,Nat.min_eq_left];omega
 refine⟨_,_,hy,?_,b1d (vs:=vs.take (d6 P t).size) ht hvl ?_ ?_⟩
 ·exact I8 (P:=P) (w:=w) (b:=b) (off:=off) (vs:=vs.take (d6 P t).size) ht hvl (fun j x hj=>by
   rw[qk]at hj
   split at hj
   ·exact(hv j x hj).1
   ·cases hj)
 ·rw[hvl,qm,Nat.min_eq_left];exact hin
 ·intro j c x h1 h2;rw[qk]at h1 h2
  split at h1
  ·rename_i hj;rw[if_pos hj]at h2;exact⟨(hv j x h2).2,h j c x h1 h2⟩
  ·cases h1
theorem a8P {t:TypeId} {x:Operand} {cs:List AV} (ho:o.op= .load t x) (ht:d6 P t≠ .bad) (hx:ev x= .vptr cs)
  (hin:(d6 P t).size<=cs.length):p6 P o ev H N ⟨mk (d6 P t) (cs.take (d6 P t).size),[],[]⟩:=by
 refine p6.of_pure fun B S0 a w ρ L hw hops hrd=>?_;have hr:=hops x (by simp[ho,Op.operands]);rw[hx]at hr;obtain⟨ad,v,hy,hrun,hrep⟩:=W9 (P:=P) ht hr hin;refine⟨v,Or.inl ?_,hrep⟩;simp[execOp,ho,Instr.loadAt,hy,Instr.sureAddr,hrun]
theorem a3z {x:Operand} {cs:List AV} (ho:o.op= .nilCheck x) (hx:ev x= .vptr cs):p6 P o ev H N ⟨.vptr cs,[],[]⟩:=by
 refine p6.of_pure fun B S0 a w ρ L hw hops hrd=>?_;have hr:=hops x (by simp[ho,Op.operands]);rw[hx]at hr;refine⟨a.eval x,Or.inl ?_,hr⟩;obtain⟨b,off,vs,hy,_⟩:=y9 hr;simp only[execOp,ho,hy]
 rfl
theorem a8b {t:TypeId} {x:Operand} {cs:List AV} (ho:o.op= .load t x) (ht:d6 P t≠ .bad) (hx:ev x= .iptr cs)
  (hin:(d6 P t).size<=cs.length):p6 P o ev H N ⟨mk (d6 P t) (cs.take (d6 P t).size),[],[]⟩:=by
 refine p6.of_pure fun B S0 a w ρ L hw hops hrd=>?_;have hr:=hops x (by simp[ho,Op.operands]);rw[hx]at hr;obtain⟨ad,v,hy,hrun,hrep⟩:=X4 (P:=P) ht hr hin;refine⟨v,Or.inl ?_,hrep⟩;simp[execOp,ho,Instr.loadAt,hy,Instr.sureAddr,hrun]
theorem a4T {x:Operand} {r i off sz:Nat} {es:List (List AV)} {e:List AV} (ho:o.op= .nilCheck x) (hx:ev x= .ptr r i off) (hH:H r=some (.els sz es)):
  p6 P o ev H N ⟨.ptr r i off,[],[r]⟩:=by
 refine p6.of_pure fun B S0 a w ρ L hw hops hrd=>?_;have hr:=hops x (by simp[ho,Op.operands]);obtain⟨l,hl,n8⟩:=hrd r (by simp) _ hH;rw[hx]at hr;refine⟨a.eval x,Or.inl ?_,hr⟩
 cases hr with
 |pure _ _ h=>cases h
 |ptr _ _ _ y h1 h2 h3=>
  obtain⟨b,hb,hy⟩:=h3 l hl;simp only[execOp,ho,hy]
  rfl
theorem a3H {x:Operand} {c:Value} {r i off sz:Nat} {es:List (List AV)} (ho:o.op= .nilCheck x) (hx:ev x= .fptr c r i off) (hH:H r=some (.els sz es)):
  p6 P o ev H N ⟨.ptr r i off,[],[r]⟩:=by
 refine p6.of_pure fun B S0 a w ρ L hw hops hrd=>?_;have hr:=hops x (by simp[ho,Op.operands]);obtain⟨l,hl,n8⟩:=hrd r (by simp) _ hH;rw[hx]at hr;have hr':e8 w (Sx S0 ρ) ρ L (.ptr r i off) (a.eval x):=by
  cases hr with
  |pure _ _ h=>cases h
  |fptr _ _ _ _ h=>exact h
 refine⟨a.eval x,Or.inl ?_,hr'⟩
 cases hr' with
 |pure _ _ h=>cases h
 |ptr _ _ _ y h1 h2 h3=>
  obtain⟨b,hb,hy⟩:=h3 l hl;simp only[execOp,ho,hy]
  rfl
theorem a3A {x:Operand} {cs:List AV} (ho:o.op= .nilCheck x) (hx:ev x= .iptr cs):p6 P o ev H N ⟨.iptr cs,[],[]⟩:=by
 refine p6.of_pure fun B S0 a w ρ L hw hops hrd=>?_;have hr:=hops x (by simp[ho,Op.operands]);rw[hx]at hr;refine⟨a.eval x,Or.inl ?_,hr⟩;obtain⟨b,off,vs,hy,_⟩:=U0 hr;simp only[execOp,ho,hy]
 rfl
theorem j5 {w:World} {S:Nat->Prop} {ρ:Nat->Option Loc} {L:Nat->Prop} {x y:Value} (h:e8 w S ρ L (.v x) y):y=x:=by
 cases h with
 |pure _ _ h=>cases h;rfl
theorem a0H {y:Value} (h:∀a:Act,(∀x∈o.op.operands,∀z,ev x= .v z->a.eval x=z)->∀w:World,(execOp a.eval o).run P w= .ok (.value y) w):p6 P o ev H N ⟨.v y,[],[]⟩:=by
 refine p6.of_pure fun B S0 a w ρ L hw hops hrd=>⟨y,Or.inl (h a ?_ w), .pure _ _ (.v y)⟩;intro x hx z hz;have:=hops x hx;rw[hz]at this;exact j5 this
theorem b4g {op:BinOp} {t ty:TypeId} {x y:Operand} {k:IntKind} {m n:Int} {z:Value} (ho:o.op= .binOp op t x y ty) (hx:ev x= .v (.int k m)) (hy:ev y= .v (.int k n))
  (hz:∀w:World,(binOp op t (.int k m) (.int k n)).run P w= .ok z w):p6 P o ev H N ⟨.v z,[],[]⟩:=by
 refine a0H fun a ha w=>?_;have h1:=ha x (by simp[ho,Op.operands]) _ hx;have h2:=ha y (by simp[ho,Op.operands]) _ hy;simp only[execOp,ho,h1,h2];simp only[Sem.run_bind,eqGuard]
 cases op<;>simp[hz]
end
end Go.AM
namespace Go.AM
def a0v (e:List AV) (off:Nat) (cs:List AV):List AV:=e.take off++cs++e.drop (off+cs.length)
theorem a1R {e cs:List AV} {off:Nat} (h:off+cs.length<=e.length):(a0v e off cs).length=e.length:=by
 simp[a0v];omega
theorem a6C {e cs:List AV} {off:Nat} (h:off+cs.length<=e.length) (j:Nat):
  (a0v e off cs)[j]?=if j<off then e[j]? else if j<off+cs.length then cs[j-off]? else e[j]?:=by
 unfold a0v;rw[List.append_assoc,List.getElem?_append];simp only[qm,Nat.min_eq_left (show off<=e.length by omega)]
 split
 ·rw[qk,if_pos (by assumption)]
 ·rw[List.getElem?_append]
  split
  ·rw[if_pos (by omega)]
  ·rw[if_neg (by omega),ql]
   congr 1;omega
theorem a5C {P:Program} {t:TypeId} {w:World} {b off:Nat} {y:Value} {c:Array Value} {et:TypeId} (ht:d6 P t≠ .bad) (hsz:y.cells.toList.length=(d6 P t).size)
  (hc:w.heap[b]?=some (.cells c et (0,0))) (hin:off+y.cells.toList.length<=c.size) (h1:∀u∈y.cells.toList,u.oneCell'=true):
  (storeVar t ⟨b,off,none⟩ y).run P w= .ok () (w.setRow b (c.toList.take off++y.cells.toList++c.toList.drop (off+y.cells.toList.length)).toArray):=by
 unfold storeVar;have hs:y.cells.size=(d6 P t).size:=by simpa using hsz
 have:=run_storeCells_at P b off et y.cells.toList 0 c w hc (by simpa using hin) h1;simp only[Nat.add_zero]at this;simp[y3 ht,hs,this]
section
variable {P:Program} {o:Oper} {ev:Operand->AV} {H:Nat->Option n9} {N:Nat}
theorem a4v {es:List (List AV)} {sz:Nat} (hsz:∀e∈es,e.length=sz) {i:Nat} (hi:i<es.length) {e':List AV} (he':e'.length=sz) (j:Nat):
  (es.set i e').flatten[j]?=if i*sz<=j/\j<(i+1)*sz then e'[j-i*sz]? else es.flatten[j]?:=by
 induction es generalizing i j with
 |nil=>simp at hi
 | cons x xs ih=>
  have hx:x.length=sz:=hsz x (by simp)
  cases i with
  |zero=>
   simp only[List.set_cons_zero,List.flatten_cons,List.getElem?_append,he',hx,Nat.zero_mul,Nat.zero_add,Nat.one_mul,qp,true_and,Nat.sub_zero]
   split<;>rfl
  | succ i=>
   simp only[List.set_cons_succ,List.flatten_cons,List.getElem?_append,hx];have hs1:(i+1)*sz=i*sz+sz:=by rw[Nat.succ_mul]
   have hs2:(i+1+1)*sz=i*sz+sz+sz:=by rw[Nat.succ_mul,hs1]
   split
   ·rw[if_neg (by omega)]
   ·rename_i hj;rw[ih (fun e h=>hsz e (by simp[h])) (by simpa using hi)]
    split
    ·rename_i h;rw[if_pos (by omega)];congr 1;omega
    ·rw[if_neg (by omega)]
theorem b2t {t:TypeId} {p x:Operand} {r i off sz:Nat} {es:List (List AV)} {e cs:List AV} (ho:o.op= .store t p x) (ht:d6 P t≠ .bad) (hp:ev p= .ptr r i off)
  (hH:H r=some (.els sz es)) (he:es[i]?=some e) (hx:(ev x).cells=some cs) (hcs:cs.length=(d6 P t).size) (hin:off+cs.length<=e.length):
  p6 P o ev H N ⟨.any,[(r,some (.els sz (es.set i (a0v e off cs))))],[r]⟩:=by
 refine p6.of_upd fun B S0 a w ρ L hw hops hrd=>?_;have hr:=hops p (by simp[ho,Op.operands]);have hrx:=hops x (by simp[ho,Op.operands]);obtain⟨l,hl,n8⟩:=hrd r (by simp) _ hH;obtain⟨b,hb⟩:=a0O n8 he;obtain⟨c,t',k1,k2,k3,k4⟩:=a0l n8 he hb;obtain⟨hlen,hcell⟩:=a1w hrx hx;rw[hp]at hr;have hy:a.eval p= .pointer (some ⟨b,l.o+i*sz+off,none⟩):=by
  cases hr with
  |pure _ _ h=>cases h
  |ptr _ _ _ y h1 h2 h3=>
   obtain⟨b',hb',hy⟩:=h3 l hl;rw[hb]at hb';simp only[qb]at hb';subst hb';rw[hy,n8.1]
 have hi:i<es.length:=(qa.1 he).1;have hsz:(i+1)*sz=i*sz+sz:=by rw[Nat.succ_mul]
 have hone:∀u∈(a.eval x).cells.toList,u.oneCell'=true:=by
  intro u hu;obtain⟨j,hj,rfl⟩:=List.getElem_of_mem hu;exact(hcell j _ _ (qc (by omega)) (qc hj)).1
 have hfit:l.o+i*sz+off+(a.eval x).cells.toList.length<=c.size:=by rw[hlen];omega
 refine⟨l,b,(c.toList.take (l.o+i*sz+off)++(a.eval x).cells.toList++c.toList.drop (l.o+i*sz+off+(a.eval x).cells.toList.length)).toArray,hl,hb,?_,?_,?_⟩
 ·simp only[execOp,ho,Instr.storeAt,hy,Instr.sureAddr];have:=a5C (P:=P) (y:=a.eval x) ht (by rw[hlen,hcs]) k1 hfit hone;simp[this]
 ·intro c0 t0 s0 hc0;rw[k1]at hc0;obtain⟨rfl,_⟩:c=c0/\_:=by simpa using hc0
  have e1:(a.eval x).cells.toList.length=(a.eval x).cells.size:=Array.length_toList;simp only[List.size_toArray,List.length_append,qm,qx,Array.length_toList];omega
 ·intro hkeep;obtain⟨h1,h2,h3,h4⟩:=n8;obtain⟨c',t'',q1,q2,q3,q4⟩:=h4 b hb;rw[k1]at q1;simp only[qb,Obj.cells.injEq]at q1;obtain⟨rfl,rfl,_⟩:=q1;have hsl:(a0v e off cs).length=sz:=by rw[a1R hin,k3]
  refine⟨h1,?_,?_,fun b' hb'=>?_⟩
  ·intro e' he'
   rcases List.mem_or_eq_of_mem_set he' with h|h
   ·exact h2 e' h
   ·rw[h,hsl]
  ·intro h0;rw[hb]at h0;cases h0
  ·rw [hb]at hb';simp only[qb]at hb';subst hb';refine⟨_,t',setRow_heap w b c _ t' (0,0) k1,?_,by simpa using q3,fun j av hj=>?_⟩
   ·rw[<-q2];simp only[List.size_toArray,List.length_append,qm,qx,Array.length_toList];have:=hfit;simp only[Array.length_toList]at this;omega
   ·rw [a4v h2 hi hsl]at hj;simp only[List.getElem?_toArray];have hval:∀k,(c.toList.take (l.o+i*sz+off)++(a.eval x).cells.toList++c.toList.drop (l.o+i*sz+off+(a.eval x).cells.toList.length))[k]?=
      if k<l.o+i*sz+off then c[k]? else if k<l.o+i*sz+off+cs.length then(a.eval x).cells.toList[k-(l.o+i*sz+off)]? else c[k]?:=by
     intro k;rw[List.append_assoc,List.getElem?_append];simp only[qm,Nat.min_eq_left (show l.o+i*sz+off<=c.toList.length by simp;omega)]
     split
     ·rw[qk,if_pos (by assumption)];simp
     ·rw[List.getElem?_append,hlen]
      split
      ·rw[if_pos (by omega)]
      ·rw[if_neg (by omega),ql];simp only[Array.getElem?_toList]
       congr 1;omega
    rw[hval]
    split at hj
    ·rename_i hji;rw[a6C hin]at hj
     split at hj
     ·rw[if_pos (by omega)];obtain⟨u,p1,p2,p3⟩:=q4 j av (by rw[show j=i*sz+(j-i*sz)by omega,o8 h2 he _ (by omega)];exact hj);exact⟨u,p1,p2,hkeep _ _ p3⟩
     ·split at hj
      ·rw[if_neg (by omega),if_pos (by omega)];have hjl:j-i*sz-off<(a.eval x).cells.toList.length:=by rw[hlen];omega
       obtain⟨p1,p2⟩:=hcell (j-i*sz-off) av _ hj (qc hjl);refine⟨_,?_,p1,hkeep _ _ p2⟩;rw[<-qc hjl]
       congr 1;omega
      ·rw[if_neg (by omega),if_neg (by omega)];obtain⟨u,p1,p2,p3⟩:=q4 j av (by rw[show j=i*sz+(j-i*sz)by omega,o8 h2 he _ (by omega)];exact hj);exact⟨u,p1,p2,hkeep _ _ p3⟩
    ·rename_i hji;obtain⟨u,p1,p2,p3⟩:=q4 j av hj;have hno:¬(l.o+i*sz+off<=l.o+j/\l.o+j<l.o+i*sz+off+cs.length):=by omega
     refine⟨u,?_,p2,hkeep _ _ p3⟩
     split
     ·exact p1
     ·rw[if_neg (by omega)];exact p1
theorem b3g {t:TypeId} {x:Operand} {b:Bool} (ho:o.op= .unOp .not t x) (hx:ev x= .v (.bool b)):p6 P o ev H N ⟨.v (.bool !b),[],[]⟩:=
 a0H fun a ha w=>by
  have h1:=ha x (by simp[ho,Op.operands]) _ hx;simp only[execOp,ho,h1];rfl
theorem b5u {t:TypeId} {x:Operand} {k:IntKind} {n:Int} (ho:o.op= .unOp .neg t x) (hx:ev x= .v (.int k n)):p6 P o ev H N ⟨.v (.int k (k.wrap (0-n))),[],[]⟩:=
 a0H fun a ha w=>by
  have h1:=ha x (by simp[ho,Op.operands]) _ hx;simp only[execOp,ho,h1];rfl
theorem b2x {src dst:TypeId} {x:Operand} {u z:Value} (ho:o.op= .convert src dst x) (hx:ev x= .v u)
  (hz:∀w:World,(convert src dst u).run P w= .ok z w):p6 P o ev H N ⟨.v z,[],[]⟩:=
 a0H fun a ha w=>by
  have h1:=ha x (by simp[ho,Op.operands]) _ hx;simp[execOp,ho,h1,hz]
theorem S9 {w:World} {b off:Nat} {f:Field} (hs:(P.info? f.type).isSome=true) (h:P.cellsOf f.type≠0):(fieldPlace ⟨b,off,none⟩ f).run P w= .ok ⟨b,off+f.offset,none⟩ w:=by
 obtain⟨i,hi⟩:=Option.isSome_iff_exists.1 hs;have h':i.size≠0:=by simpa [Program.cellsOf,hi]using h
 simp[fieldPlace,sizeOf,typeInfo,hi,h',Addr.add_lit]
theorem a3B {s:TypeId} {x:Operand} {f:Nat} {z:List Value} {fs:List (Nat×Nat×TypeId)} {foff fsz:Nat} {ft:TypeId} {r i off sz:Nat} {es:List (List AV)}
  (ho:o.op= .fieldAddr s x f) (ht:d6 P s= .agg z fs) (hf:fs[f]?=some (foff,fsz,ft)) (hft:fsz≠0) (hx:ev x= .ptr r i off) (hH:H r=some (.els sz es)):
  p6 P o ev H N ⟨.ptr r i (off+foff),[],[r]⟩:=by
 obtain⟨info,fa,h1,h2,h3,h4,rfl,_,hall⟩:=G9 ht;simp only[qe,qf,qr]at hf;obtain⟨fd,hfd,rfl,rfl,rfl⟩:=hf;have hsome:=hall fd (qd hfd);refine p6.of_pure fun B S0 a w ρ L hw hops hrd=>?_;have hr:=hops x (by simp[ho,Op.operands]);obtain⟨l,hl,n8⟩:=hrd r (by simp) _ hH;rw[hx]at hr
 cases hr with
 |pure _ _ h=>cases h
 | ptr _ _ _ y q1 q2 q3=>
  obtain⟨b,hb,hy⟩:=q3 l hl;refine⟨.pointer (some ⟨b,l.o+i*l.sz+off+fd.offset,none⟩),Or.inl ?_, .ptr _ _ _ _ q1 rfl ?_⟩
  ·have hfd':fa[f]?=some fd:=by simpa using hfd
   simp[execOp,ho,hy,Instr.fieldAt,run_underlying h2,hfd',Instr.sureAddr,S9 hsome hft]
  ·intro l' hl';rw[hl]at hl';simp only[qb]at hl';subst hl';exact⟨b,hb,by simp[Nat.add_assoc]⟩
theorem a2I {s:TypeId} {x:Operand} {f:Nat} {z:List Value} {fs:List (Nat×Nat×TypeId)} {foff fsz:Nat} {ft:TypeId} {cs:List AV}
  (ho:o.op= .fieldAddr s x f) (ht:d6 P s= .agg z fs) (hf:fs[f]?=some (foff,fsz,ft)) (hft:fsz≠0) (hx:ev x= .iptr cs) (hin:foff<=cs.length):
  p6 P o ev H N ⟨.iptr (cs.drop foff),[],[]⟩:=by
 obtain⟨info,fa,h1,h2,h3,h4,rfl,_,hall⟩:=G9 ht;simp only[qe,qf,qr]at hf;obtain⟨fd,hfd,rfl,rfl,rfl⟩:=hf;have hsome:=hall fd (qd hfd);refine p6.of_pure fun B S0 a w ρ L hw hops hrd=>?_;have hr:=hops x (by simp[ho,Op.operands]);rw[hx]at hr;obtain⟨b,off,vs,hy,hS,hb,hl,hv,h⟩:=U0 hr;refine⟨.pointer (some ⟨b,off+fd.offset,none⟩),Or.inl ?_, .pure _ _ (.iptr _ b (off+fd.offset) (vs.drop fd.offset) hS hb (by simp[hl]) ?_ ?_)⟩
 ·have hfd':fa[f]?=some fd:=by simpa using hfd
  simp[execOp,ho,hy,Instr.fieldAt,run_underlying h2,hfd',Instr.sureAddr,S9 hsome hft]
 ·intro j u hj;rw[ql]at hj;have:=hv _ u hj;rw[Nat.add_assoc];exact this
 ·intro j c u h1 h2;rw[ql]at h1 h2;exact h _ c u h1 h2
theorem a2M {s:TypeId} {x:Operand} {f:Nat} {z:List Value} {fs:List (Nat×Nat×TypeId)} {foff fsz:Nat} {ft:TypeId} {cs:List AV}
  (ho:o.op= .fieldAddr s x f) (ht:d6 P s= .agg z fs) (hf:fs[f]?=some (foff,fsz,ft)) (hft:fsz≠0) (hx:ev x= .vptr cs) (hin:foff<=cs.length):
  p6 P o ev H N ⟨.vptr (cs.drop foff),[],[]⟩:=by
 obtain⟨info,fa,h1,h2,h3,h4,rfl,_,hall⟩:=G9 ht;simp only[qe,qf,qr]at hf;obtain⟨fd,hfd,rfl,rfl,rfl⟩:=hf;have hsome:=hall fd (qd hfd);refine p6.of_pure fun B S0 a w ρ L hw hops hrd=>?_;have hr:=hops x (by simp[ho,Op.operands]);rw[hx]at hr;obtain⟨b,off,vs,hy,hS,hb,hl,hv,h⟩:=y9 hr;refine⟨.pointer (some ⟨b,off+fd.offset,none⟩),Or.inl ?_, .vptr _ b (off+fd.offset) (vs.drop fd.offset) hS hb (by simp[hl]) ?_ ?_⟩
 ·have hfd':fa[f]?=some fd:=by simpa using hfd
  simp[execOp,ho,hy,Instr.fieldAt,run_underlying h2,hfd',Instr.sureAddr,S9 hsome hft]
 ·intro j u hj;rw[ql]at hj;have:=hv _ u hj;rw[Nat.add_assoc];exact this
 ·intro j c u h1 h2;rw[ql]at h1 h2;exact h _ c u h1 h2
theorem b2U {f:FuncId} {bs:Array Operand} (ho:o.op= .makeFunc (.func f) bs #[]):p6 P o ev H N ⟨.bnd f (bs.toList.map ev),[],[]⟩:=by
 refine p6.of_pure fun B S0 a w ρ L hw hops hrd=>⟨.func (.func f) (bs.map a.eval) #[],Or.inl ?_,?_⟩
 ·simp[execOp,ho,Instr.makeFunc]
 ·have e:bs.map a.eval=(bs.toList.map a.eval).toArray:=by apply Array.ext';simp
  rw[e];refine .bnd f _ _ (by simp) ?_;intro i c x h1 h2;simp only[qe,qf]at h1 h2;obtain⟨q,h1,rfl⟩:=h1;obtain⟨q',h2,rfl⟩:=h2;rw[h1]at h2;simp only[qb]at h2;subst h2;have hm:=qd h1;exact hops q (by rw[ho];show q∈bs++ #[];rw[Array.append_empty];exact Array.mem_toList_iff.1 hm)
theorem a0N {t:TypeId} {w:World} {vs:List Value} {off:Nat} (ht:d6 P t≠ .bad) (hin:off+(d6 P t).size<=vs.length):
  (part t vs.toArray off).run P w= .ok (if (d6 P t).isAgg then .agg ((vs.drop off).take (d6 P t).size).toArray else((vs.drop off).take (d6 P t).size).headD undef) w:=by
 unfold part;simp only[Sem.run_bind,a8U ht,Result.andThen_ok]
 split
 ·simp only[Sem.run_bind,y3 ht,Result.andThen_ok,Sem.run_pure,List.extract_toArray]
  congr 3
  simp[List.extract_eq_take_drop,Nat.add_sub_cancel_left]
 ·rename_i hagg;have h1:(d6 P t).size=1:=by
   cases hd:d6 P t with
   |cell z=>rfl
   |slice e=>rfl
   |agg z fs=>simp[hd,TD.isAgg]at hagg
   |arr z n e=>simp[hd,TD.isAgg]at hagg
   |bad=>exact absurd hd ht
  rw[h1]at hin ⊢;have hlt:off<vs.length:=by omega
  simp only[List.getElem?_toArray,qc hlt];rw[List.drop_eq_getElem_cons hlt]
  rfl
theorem A2 {w:World} {S:Nat->Prop} {ρ:Nat->Option Loc} {L:Nat->Prop} {cs:List AV} {y:Value} (h:e8 w S ρ L (.agg cs) y):
  ∃vs:List Value,y= .agg vs.toArray/\cs.length=vs.length/\∀(i:Nat) c x,cs[i]?=some c->vs[i]?=some x->x.oneCell'=true/\e8 w S ρ L c x:=by
 cases h with
 |pure _ _ h=>cases h with
  |agg _ vs hl hc h=>exact⟨vs,rfl,hl,fun i c x h1 h2=>⟨hc x (qd h2), .pure _ _ (h i c x h1 h2)⟩⟩
 |agg _ vs hl hc h=>exact⟨vs,rfl,hl,fun i c x h1 h2=>⟨hc x (qd h2),h i c x h1 h2⟩⟩
theorem b1T {w:World} {S:Nat->Prop} {ρ:Nat->Option Loc} {L:Nat->Prop} {cs:List AV} {vs:List Value} {td:TD} {off:Nat} (ht:td≠ .bad) (hl:cs.length=vs.length)
  (h:∀(i:Nat) c x,cs[i]?=some c->vs[i]?=some x->x.oneCell'=true/\e8 w S ρ L c x) (hin:off+td.size<=cs.length):
  e8 w S ρ L (mk td ((cs.drop off).take td.size)) (if td.isAgg then .agg ((vs.drop off).take td.size).toArray else((vs.drop off).take td.size).headD undef):=by
 refine b1d ht (by rw[qm,qx,Nat.min_eq_left];omega) (by simp[hl]) ?_;intro i c x h1 h2;rw[qk]at h1 h2
 split at h1
 ·rename_i hi;rw[if_pos hi,ql]at h2;rw[ql]at h1;exact h _ c x h1 h2
 ·cases h1
theorem b8T {s:TypeId} {x:Operand} {f:Nat} {z:List Value} {fs:List (Nat×Nat×TypeId)} {foff fsz:Nat} {ft:TypeId} {cs:List AV}
  (ho:o.op= .field s x f) (ht:d6 P s= .agg z fs) (hf:fs[f]?=some (foff,fsz,ft)) (hft:d6 P ft≠ .bad) (hx:ev x= .agg cs) (hin:foff+(d6 P ft).size<=cs.length):
  p6 P o ev H N ⟨mk (d6 P ft) ((cs.drop foff).take (d6 P ft).size),[],[]⟩:=by
 obtain⟨info,fa,h1,h2,h3,h4,rfl,_,hall⟩:=G9 ht;simp only[qe,qf,qr]at hf;obtain⟨fd,hfd,rfl,rfl,rfl⟩:=hf;have hsome:=hall fd (qd hfd);refine p6.of_pure fun B S0 a w ρ L hw hops hrd=>?_;have hr:=hops x (by simp[ho,Op.operands]);rw[hx]at hr;obtain⟨vs,hy,hl,h⟩:=A2 hr;refine⟨_,Or.inl ?_,b1T hft hl h hin⟩;have hfd':fa[f]?=some fd:=by simpa using hfd
 simp only[execOp,ho,hy,Instr.field,Sem.run_bind,run_underlying h2,Result.andThen_ok,hfd',asAgg,Sem.run_pure,a0N hft (hl▸hin)]
theorem L5 {w:World} {S:Nat->Prop} {ρ:Nat->Option Loc} {L:Nat->Prop} {cs:List AV} {y:Value} (h:e8 w S ρ L (.tup cs) y):
  ∃vs:List Value,y= .tuple vs.toArray/\cs.length=vs.length/\∀(i:Nat) c x,cs[i]?=some c->vs[i]?=some x->e8 w S ρ L c x:=by
 cases h with
 |pure _ _ h=>cases h with
  |tup _ vs hl h=>exact⟨vs,rfl,hl,fun i c x h1 h2=> .pure _ _ (h i c x h1 h2)⟩
 |tup _ vs hl h=>exact⟨vs,rfl,hl,h⟩
theorem b3u {x:Operand} {i:Nat} {cs:List AV} {c:AV} (ho:o.op= .extract x i) (hx:ev x= .tup cs) (hc:cs[i]?=some c):p6 P o ev H N ⟨c,[],[]⟩:=by
 refine p6.of_pure fun B S0 a w ρ L hw hops hrd=>?_;have hr:=hops x (by simp[ho,Op.operands]);rw[hx]at hr;obtain⟨vs,hy,hl,h⟩:=L5 hr;have hi:i<vs.length:=by rw[<-hl];exact(qa.1 hc).1
 refine⟨vs[i],Or.inl ?_,h i c _ hc (qc hi)⟩;simp[execOp,ho,hy,Instr.extract,hi]
theorem a9H {f:FuncId} {caps:Array Operand} (ho:o.op= .makeFunc (.func f) #[] caps):p6 P o ev H N ⟨.clo f (caps.toList.map ev),[],[]⟩:=by
 refine p6.of_pure fun B S0 a w ρ L hw hops hrd=>⟨.func (.func f) #[] (caps.map a.eval),Or.inl ?_,?_⟩
 ·simp[execOp,ho,Instr.makeFunc]
 ·have e:caps.map a.eval=(caps.toList.map a.eval).toArray:=by apply Array.ext';simp
  rw[e];refine .clo f _ _ (by simp) ?_;intro i c x h1 h2;simp only[qe,qf]at h1 h2;obtain⟨q,h1,rfl⟩:=h1;obtain⟨q',h2,rfl⟩:=h2;rw[h1]at h2;simp only[qb]at h2;subst h2;have hm:=qd h1;exact hops q (by rw[ho];show q∈ #[]++caps;rw[Array.empty_append];exact Array.mem_toList_iff.1 hm)
end
end Go.AM
namespace Go.AM
section
variable {P:Program} {o:Oper} {ev:Operand->AV} {H:Nat->Option n9} {N:Nat}
theorem a0Z {t e:TypeId} {w:World} {b off len cap:Nat} {k:IntKind} {i:Int} (ht:P.underlying t=some (.slice e)) (he:d6 P e≠ .bad) (h0:0<=i) (h1:i.toNat<len):
  (Instr.indexAt t (.slice (some ⟨b,off,none⟩) len cap) (.int k i)).run P w= .ok (.pointer (some ⟨b,off+i.toNat*(d6 P e).size,none⟩)) w:=by
 have hi:0<=i/\i<len:=⟨h0,by omega⟩;simp[Instr.indexAt,asIntOf,run_underlying ht,hi,y3 he,Addr.add_lit]
theorem a0b {w:World} {S:Nat->Prop} {ρ:Nat->Option Loc} {L:Nat->Prop} {sz:Nat} {els:List (List AV)} {x:AV} {y:Value} (hx:x= .lst sz els∨x= .full sz els) (h:e8 w S ρ L x y):
  ∃a cap,y= .slice a els.length cap/\els.length<=cap/\((els=[])∨∃(b off:Nat) (vs:List Value),a=some ⟨b,off,none⟩/\¬S b/\b<w.heap.size/\(∀e∈els,e.length=sz)/\els.flatten.length=vs.length/\
   (∀(i:Nat) x,vs[i]?=some x->w.cell? ⟨b,off+i,none⟩=some x/\x.oneCell'=true)/\∀(i:Nat) c x,els.flatten[i]?=some c->vs[i]?=some x->r8 w S c x):=by
 rcases hx with rfl|rfl
 ·cases h with
  |pure _ _ h=>cases h with
   |lst _ _ b off cap vs hS hb hcap hel hl hv h=>exact⟨_,cap,rfl,hcap,Or.inr ⟨b,off,vs,rfl,hS,hb,hel,hl,hv,h⟩⟩
   |lstNil _ a cap=>exact⟨a,cap,rfl,qp _,Or.inl rfl⟩
 ·cases h with
  |pure _ _ h=>cases h with
   |full _ _ b off vs hS hb hel hl hv h=>exact⟨_,els.length,rfl,qo _,Or.inr ⟨b,off,vs,rfl,hS,hb,hel,hl,hv,h⟩⟩
theorem a3h {t e:TypeId} {x i:Operand} {sz:Nat} {els:List (List AV)} {k:IntKind} {n:Int} {el:List AV} (ho:o.op= .indexAddr t x i) (ht:d6 P t= .slice e) (he:(d6 P e).size=sz) (hsz:sz≠0)
  (hx:ev x= .lst sz els∨ev x= .full sz els) (hi:ev i= .v (.int k n)) (hn:0<=n) (hel:els[n.toNat]?=some el):p6 P o ev H N ⟨.iptr el,[],[]⟩:=by
 obtain⟨info,h1,h2,_⟩:=o6 ht;have hbad:d6 P e≠ .bad:=by intro h;rw[h]at he;exact hsz he.symm
 refine p6.of_pure fun B S0 a w ρ L hw hops hrd=>?_;have hr:=hops x (by simp[ho,Op.operands]);have hri:=hops i (by simp[ho,Op.operands]);rw[hi]at hri;have hiv:=j5 hri;have hlt:n.toNat<els.length:=(qa.1 hel).1;obtain⟨ad,cap,hy,hcap,hrest⟩:=a0b hx hr
 rcases hrest with rfl|⟨b,off,vs,rfl,hS,hb,hall,hl,hv,h⟩
 ·simp at hel
 have helen:el.length=sz:=hall el (qd hel);refine⟨.pointer (some ⟨b,off+n.toNat*sz,none⟩),Or.inl ?_, .pure _ _ (.iptr el b (off+n.toNat*sz) ((vs.drop (n.toNat*sz)).take sz) hS hb ?_ ?_ ?_)⟩
 ·simp only[execOp,ho,hy,hiv];rw[Sem.run_bind,a0Z h2 hbad hn hlt];simp[he]
 ·rw[j4 hall]at hl;have:(n.toNat+1)*sz<=els.length*sz:=Nat.mul_le_mul_right _ hlt;rw[Nat.succ_mul]at this;rw[qm,qx,Nat.min_eq_left,helen];omega
 ·intro j u hj;rw[qk]at hj
  split at hj
  ·rw[ql]at hj;rw[Nat.add_assoc];exact hv _ u hj
  ·cases hj
 ·intro j c u hc hj;rw[qk]at hj
  split at hj
  ·rename_i hjs;rw[ql]at hj;exact h _ c u (by rw[o8 hall hel j hjs];exact hc) hj
  ·cases hj
theorem a8a {t e:TypeId} {x i:Operand} {sz r i0 len:Nat} {es:List (List AV)} {k:IntKind} {n:Int} (ho:o.op= .indexAddr t x i) (ht:d6 P t= .slice e) (he:(d6 P e).size=sz) (hsz:sz≠0)
  (hx:ev x= .row r i0 len) (hH:H r=some (.els sz es)) (hi:ev i= .v (.int k n)) (hn:0<=n) (hlt:n.toNat<len):p6 P o ev H N ⟨.ptr r (i0+n.toNat) 0,[],[r]⟩:=by
 obtain⟨info,h1,h2,_⟩:=o6 ht;have hbad:d6 P e≠ .bad:=by intro h;rw[h]at he;exact hsz he.symm
 refine p6.of_pure fun B S0 a w ρ L hw hops hrd=>?_;have hr:=hops x (by simp[ho,Op.operands]);have hri:=hops i (by simp[ho,Op.operands]);rw[hi]at hri;have hiv:=j5 hri;obtain⟨l,hl,n8⟩:=hrd r (by simp) _ hH;rw[hx]at hr
 cases hr with
 |pure _ _ h=>cases h
 | row _ _ _ y q1 q2 q3=>
  obtain⟨q4,q5⟩:=q3 l hl
  cases hb:l.b with
  |none=>have:=(q4 hb).2.1;omega
  |some b=>
   obtain⟨off,cap,hy,hcap,hoff⟩:=q5 b hb;obtain⟨rfl,_⟩:=hoff.resolve_left (by omega);refine⟨.pointer (some ⟨b,l.o+(i0+n.toNat)*sz,none⟩),Or.inl ?_, .ptr _ _ _ _ q1 rfl ?_⟩
   ·simp only[execOp,ho,hy,hiv];rw[Sem.run_bind,a0Z h2 hbad hn hlt];simp[he,n8.1,Nat.add_mul,Nat.add_assoc]
   ·intro l' hl';rw[hl]at hl';simp only[qb]at hl';subst hl';exact⟨b,hb,by rw[n8.1];simp⟩
theorem a5N {t e ty:TypeId} {x:Operand} {sz:Nat} {els:List (List AV)} (ho:o.op= .call {callee:= .builtin .len,args:= #[x],argTypes:= #[t]}) (ht:d6 P t= .slice e)
  (hx:ev x= .lst sz els∨ev x= .full sz els):p6 P o ev H N ⟨.v (.int .i64 els.length),[],[]⟩:=by
 obtain⟨info,h1,h2,_⟩:=o6 ht;refine p6.of_pure fun B S0 a w ρ L hw hops hrd=>?_;have hr:=hops x (by simp[ho,Op.operands,Call.operands]);obtain⟨ad,cap,hy,_⟩:=a0b hx hr;refine⟨.int .i64 els.length,Or.inl ?_, .pure _ _ (.v _)⟩;simp[execOp,ho,resolve,invoke,builtin,Builtin.len_,hy,run_underlying h2,goInt]
theorem b3S {t e:TypeId} {x:Operand} {sz r i n:Nat} {es:List (List AV)} (ho:o.op= .call {callee:= .builtin .len,args:= #[x],argTypes:= #[t]}) (ht:d6 P t= .slice e)
  (hx:ev x= .row r i n) (hH:H r=some (.els sz es)):p6 P o ev H N ⟨.v (.int .i64 n),[],[r]⟩:=by
 obtain⟨info,h1,h2,_⟩:=o6 ht;refine p6.of_pure fun B S0 a w ρ L hw hops hrd=>?_;have hr:=hops x (by simp[ho,Op.operands,Call.operands]);obtain⟨l,hl,n8⟩:=hrd r (by simp) _ hH;rw[hx]at hr;have:∃ad cap,a.eval x= .slice ad n cap:=by
  cases hr with
  |pure _ _ h=>cases h
  |row _ _ _ y q1 q2 q3=>
   obtain⟨q4,q5⟩:=q3 l hl
   cases hb:l.b with
   |none=>obtain⟨rfl',rfl,rfl⟩:=q4 hb;exact⟨none,0,rfl'⟩
   |some b=>obtain⟨off,cap,hy,_⟩:=q5 b hb;exact⟨_,cap,hy⟩
 obtain⟨ad,cap,hy⟩:=this;refine⟨.int .i64 n,Or.inl ?_, .pure _ _ (.v _)⟩;simp[execOp,ho,resolve,invoke,builtin,Builtin.len_,hy,run_underlying h2,goInt]
theorem b3m {t e:TypeId} {x:Operand} (ho:o.op= .call {callee:= .builtin .len,args:= #[x],argTypes:= #[t]}) (ht:d6 P t= .slice e)
  (hx:ev x= .v (.slice none 0 0)):p6 P o ev H N ⟨.v (.int .i64 0),[],[]⟩:=by
 obtain⟨info,h1,h2,_⟩:=o6 ht;refine a0H fun a ha w=>?_;have hy:=ha x (by simp[ho,Op.operands,Call.operands]) _ hx;simp[execOp,ho,resolve,invoke,builtin,Builtin.len_,hy,run_underlying h2,goInt]
def a3k (ev:Operand->AV) (sz:Nat):List (Nat×Operand)->Nat->Option (List (List AV))
 |[],_=>some []
 | (i,x)::rest,k=>if i=k then match (ev x).cells with
   |some cs=>if cs.length=sz then(a3k ev sz rest (k+1)).map (cs:: ·)else none
   |none=>none
  else none
theorem Y9 {α:Type} (vs:List α) (off:Nat):∀(k:Nat) (acc:Array α),off+k+vs.length<=acc.size->
  ((vs.zipIdx k).foldl (fun cs (p:α×Nat)=>cs.setIfInBounds (off+p.2) p.1) acc).toList=acc.toList.take (off+k)++vs++acc.toList.drop (off+k+vs.length):=by
 induction vs with
 |nil=>intro k acc h;simp
 | cons v vs ih=>
  intro k acc h;simp only[List.length_cons]at h;simp only[List.zipIdx_cons,List.foldl_cons];rw[ih (k+1) _ (by simp;omega)];apply List.ext_getElem?;intro j;simp only[Array.toList_setIfInBounds,List.getElem?_append,List.length_append,qm,List.length_set,Array.length_toList,qk,ql,List.getElem?_set,List.length_cons];rw[Nat.min_eq_left (by omega),Nat.min_eq_left (by omega)]
  by_cases h1:j<off+k
  ·simp[h1,show j<off+(k+1)+vs.length by omega,show j<off+(k+1)by omega,show¬off+k=j by omega,show j<off+k+(vs.length+1)by omega]
  ·by_cases h2:j=off+k
   ·subst h2;simp[show off+k<off+(k+1)+vs.length by omega,show off+k<off+(k+1)by omega,show off+k<acc.size by omega]
   ·by_cases h3:j<off+(k+1)+vs.length
    ·simp[h1,h3,show¬j<off+(k+1)by omega,show j<off+k+(vs.length+1)by omega];rw[show j-(off+k)=j-(off+(k+1))+1 by omega,List.getElem?_cons_succ]
    ·simp[h1,h3,show¬j<off+k+(vs.length+1)by omega,show¬off+k=off+(k+1)+vs.length+(j-(off+(k+1)+vs.length))by omega]
     congr 1;omega
theorem b1Z {w:World} {S:Nat->Prop} {ρ:Nat->Option Loc} {L:Nat->Prop} {ev:Operand->AV} {a:Act} {sz:Nat}:∀(parts:List (Nat×Operand)) (k:Nat) (els:List (List AV)) (acc:Array Value),
  a3k ev sz parts k=some els->(∀p∈parts,e8 w S ρ L (ev p.2) (a.eval p.2))->acc.size=(k+parts.length)*sz->
  ∃vs:List Value,Instr.fill (fun i=>some (i*sz,sz)) acc (parts.map fun(p:Nat×Operand)=>(p.1,a.eval p.2))=some (acc.toList.take (k*sz)++vs).toArray/\vs.length=els.flatten.length/\
   (∀e∈els,e.length=sz)/\els.length=parts.length/\∀(i:Nat) c x,els.flatten[i]?=some c->vs[i]?=some x->x.oneCell'=true/\e8 w S ρ L c x:=by
 intro parts
 induction parts with
 |nil=>
  intro k els acc h1 _ h3;simp only[a3k,qb]at h1;subst h1;refine⟨[],?_,rfl,by simp,rfl,by simp⟩;simp only[List.map_nil,Instr.fill,List.append_nil,qb];simp only[List.length_nil,Nat.add_zero]at h3;rw[<-h3,<-Array.length_toList,List.take_length]
 | cons p parts ih=>
  intro k els acc h1 h2 h3;obtain⟨i,x⟩:=p;simp only[a3k]at h1
  split at h1
  ·rename_i hik;subst hik
   split at h1
   ·rename_i cs hcs
    split at h1
    ·rename_i hlen;simp only[qf]at h1;obtain⟨els',hels,rfl⟩:=h1;obtain⟨c1,c2⟩:=a1w (h2 (i,x) (by simp)) hcs;have hsize:(a.eval x).cells.size=sz:=by rw[<-hlen,<-c1,Array.length_toList]
     have hk:(i+1)*sz=i*sz+sz:=Nat.succ_mul _ _;have hfit:i*sz+(a.eval x).cells.toList.length<=acc.size:=by
      rw[h3,Array.length_toList,hsize];have:(i+1)*sz<=(i+((i,x)::parts).length)*sz:=Nat.mul_le_mul_right _ (by simp);omega
     have hz:=Y9 (a.eval x).cells.toList (i*sz) 0 acc (by simpa using hfit);simp only[Nat.add_zero]at hz;obtain⟨vs,q1,q2,q3,q4,q5⟩:=ih (i+1) els' (((a.eval x).cells.toList.zipIdx 0).foldl (fun cs (p:Value×Nat)=>cs.setIfInBounds (i*sz+p.2) p.1) acc) hels (fun p hp=>h2 p (by simp[hp])) (by
      rw[<-Array.length_toList,hz];simp only[List.length_append,qm,qx,Array.length_toList];simp only[Array.length_toList]at hfit;rw[Nat.min_eq_left (by omega)];simp only[List.length_cons]at h3;rw[show i+1+parts.length=i+(parts.length+1)by omega,<-h3];omega)
     refine⟨(a.eval x).cells.toList++vs,?_,by simp[q2,c1],?_,by simp[q4],?_⟩
     ·simp only[List.map_cons,Instr.fill];rw[if_neg (by rw[hsize];simp only[Array.length_toList,hsize]at hfit;simp;omega)];have hfold:(a.eval x).cells.zipIdx.foldl (fun cs (p:Value×Nat)=>cs.setIfInBounds (i*sz+p.2) p.1) acc=((a.eval x).cells.toList.zipIdx 0).foldl (fun cs (p:Value×Nat)=>cs.setIfInBounds (i*sz+p.2) p.1) acc:=by
       rw[<-Array.foldl_toList,Array.toList_zipIdx]
      have hfold':(a.eval x).cells.zipIdx.foldl (fun cs x=>match x with|(c,j)=>cs.setIfInBounds (i*sz+j) c) acc=((a.eval x).cells.toList.zipIdx 0).foldl (fun cs (p:Value×Nat)=>cs.setIfInBounds (i*sz+p.2) p.1) acc:=hfold;rw[hfold',q1]
      congr 2
      rw[hz,hk];rw[List.take_append_of_le_length (by simp[hsize];simp only[Array.length_toList,hsize]at hfit;omega)];rw[qg (by simp[hsize];simp only[Array.length_toList,hsize]at hfit;omega),List.append_assoc]
     ·intro e he;simp only[List.mem_cons]at he
      rcases he with rfl|he
      ·exact hlen
      ·exact q3 e he
     ·intro j c u hj hu;simp only[List.flatten_cons,List.getElem?_append]at hj hu;rw[c1]at hu
      split at hj
      ·rename_i hjl;rw[if_pos hjl]at hu;exact c2 j c u hj hu
      ·rename_i hjl;rw[if_neg hjl]at hu;exact q5 _ c u hj hu
    ·cases h1
   ·cases h1
  ·cases h1
end
def AV.noRef:Nat->AV->Bool
 |_, .v _=>true
 |_, .any=>true
 |_, .lst _ _=>true
 |_, .full _ _=>true
 |_, .iptr _=>true
 |_, .mpc _ _ _=>true
 |n+1, .agg cs=>cs.all (AV.noRef n)
 |n+1, .tup cs=>cs.all (AV.noRef n)
 |n+1, .clo _ cs=>cs.all (AV.noRef n)
 |n+1, .bnd _ cs=>cs.all (AV.noRef n)
 |n+1, .ifc _ x=>x.noRef n
 |_,_=>false
theorem B7 {w:World} {S:Nat->Prop} {ρ:Nat->Option Loc} {L:Nat->Prop}:∀(n:Nat) (x:AV) (y:Value),x.noRef n=true->e8 w S ρ L x y->r8 w S x y:=by
 intro n
 induction n with
 |zero=>
  intro x y h1 h2
  cases h2<;>first|assumption|simp[AV.noRef]at h1
 | succ n ih=>
  intro x y h1 h2
  cases h2 with
  |pure _ _ h=>exact h
  |row=>simp[AV.noRef]at h1
  |ptr=>simp[AV.noRef]at h1
  |mp=>simp[AV.noRef]at h1
  |agg cs vs hl hc h=>
   simp only[AV.noRef,qn]at h1;exact .agg cs vs hl hc (fun i c x k1 k2=>ih c x (h1 c (qd k1)) (h i c x k1 k2))
  |tup cs vs hl h=>
   simp only[AV.noRef,qn]at h1;exact .tup cs vs hl (fun i c x k1 k2=>ih c x (h1 c (qd k1)) (h i c x k1 k2))
  |clo f cs vs hl h=>
   simp only[AV.noRef,qn]at h1;exact .clo f cs vs hl (fun i c x k1 k2=>ih c x (h1 c (qd k1)) (h i c x k1 k2))
  |bnd f cs vs hl h=>
   simp only[AV.noRef,qn]at h1;exact .bnd f cs vs hl (fun i c x k1 k2=>ih c x (h1 c (qd k1)) (h i c x k1 k2))
  |vptr=>simp[AV.noRef]at h1
  |ifc t x y h=>exact .ifc t x y (ih x y (by simpa only[AV.noRef]using h1) h)
  |mayT=>simp[AV.noRef]at h1
  |mayF=>simp[AV.noRef]at h1
  |fptr=>simp[AV.noRef]at h1
section
variable {P:Program} {o:Oper} {ev:Operand->AV} {H:Nat->Option n9} {N:Nat}
theorem a7J {t e:TypeId} {parts:Array (Nat×Operand)} {sz:Nat} {els:List (List AV)} (ho:o.op= .buildSlice t parts.toList.length parts) (ht:d6 P t= .slice e) (he:(d6 P e).size=sz) (hsz:sz≠0)
  (hsmall:parts.toList.length*sz<=16777216) (hlit:a3k ev sz parts.toList 0=some els) (hpure:∀el∈els,∀c∈el,c.noRef 2=true):p6 P o ev H N ⟨.full sz els,[],[]⟩:=by
 obtain⟨info,h1,h2,_⟩:=o6 ht;have hbad:d6 P e≠ .bad:=by intro h;rw[h]at he;exact hsz he.symm
 refine p6.of_lit fun B S0 a w ρ L hw hops=>?_;obtain⟨z,hz,hzc,hzl,hz1⟩:=a0F (P:=P) (t:=e) (w:=w) hbad
 let zc:Array Value:=if parts.toList.length*sz=0 then #[]else z.cells
 let acc:Array Value:=(Array.range (parts.toList.length*sz)).map (zc[· % zc.size]!)
 obtain⟨vs,q1,q2,q3,q4,q5⟩:=b1Z (w:=w) (S:=Sx S0 ρ) (ρ:=ρ) (L:=L) (a:=a) parts.toList 0 els acc hlit (by
  intro p hp;refine hops p.2 ?_;rw[ho];simp only[Op.operands,List.mem_toArray,List.mem_map];exact⟨p,hp,rfl⟩) (by simp[acc])
 simp only[Nat.zero_mul,List.take_zero,List.nil_append]at q1;refine⟨.slice (some ⟨w.heap.size,0,none⟩) els.length els.length, .cells vs.toArray e,?_,?_⟩
 ·have hmap:(parts.map fun(p:Nat×Operand)=>(p.1,a.eval p.2)).toList=parts.toList.map fun(p:Nat×Operand)=>(p.1,a.eval p.2):=by simp
  have hmap':(parts.map fun x=>match x with|(i,x)=>(i,a.eval x))=parts.map fun(p:Nat×Operand)=>(p.1,a.eval p.2):=rfl;have hb:¬parts.toList.length*sz>2^24:=by omega
  simp only[execOp,ho,Instr.buildSlice,hmap'];simp only[Sem.run_bind,run_underlying h2,Result.andThen_ok,y3 hbad,he,hb,if_false,hmap]
  by_cases h0:parts.toList.length*sz=0
  ·have hzc':zc= #[]:=by simp only[zc,if_pos h0]
   simp only[h0,if_true,pure_bind];have hacc:acc=Array.map (fun x=>(#[]:Array Value)[x % (#[]:Array Value).size]!) (Array.range 0):=by simp only[acc,hzc',h0]
   rw[<-hacc,q1,q4];simp[newRow]
  ·have hzc':zc=z.cells:=by simp only[zc,if_neg h0]
   simp only[h0,if_false,bind_assoc,pure_bind];simp only[Sem.run_bind,hz,Result.andThen_ok];have hacc:acc=Array.map (fun x=>z.cells[x % z.cells.size]!) (Array.range (parts.toList.length*sz)):=by simp only[acc,hzc']
   rw[<-hacc,q1,q4];simp[newRow]
 ·intro hns hkeep;refine .pure _ _ (.full sz els w.heap.size 0 vs hns (by simp) q3 q2.symm ?_ ?_)
  ·intro i x hx;have hi:i<els.flatten.length:=by rw[<-q2];exact(qa.1 hx).1
   refine⟨?_,(q5 i _ x (qc hi) hx).1⟩;have hnew:=x8 w (.cells vs.toArray e);unfold World.cell?;simp only[hnew,Option.isSome_none,Bool.false_eq_true,if_false,Nat.zero_add,List.getElem?_toArray];exact hx
  ·intro i c x hc hx;have:=hkeep _ _ (q5 i c x hc hx).2;refine B7 2 c x ?_ this;have hm:=qd hc;rw[List.mem_flatten]at hm;obtain⟨el,hel,hcel⟩:=hm;exact hpure el hel c hcel
theorem a2x {t e:TypeId} {parts:Array (Nat×Operand)} {sz:Nat} {els:List (List AV)} (ho:o.op= .buildSlice t parts.toList.length parts) (ht:d6 P t= .slice e) (he:(d6 P e).size=sz) (hsz:sz≠0)
  (hsmall:parts.toList.length*sz<=16777216) (hlit:a3k ev sz parts.toList 0=some els):p6 P o ev H N ⟨.row N 0 els.length,[(N,some (.els sz els))],[]⟩:=by
 obtain⟨info,h1,h2,_⟩:=o6 ht;have hbad:d6 P e≠ .bad:=by intro h;rw[h]at he;exact hsz he.symm
 refine p6.of_new fun B S0 a w ρ L hw hN hops _=>?_;obtain⟨z,hz,hzc,hzl,hz1⟩:=a0F (P:=P) (t:=e) (w:=w) hbad
 let zc:Array Value:=if parts.toList.length*sz=0 then #[]else z.cells
 let acc:Array Value:=(Array.range (parts.toList.length*sz)).map (zc[· % zc.size]!)
 obtain⟨vs,q1,q2,q3,q4,q5⟩:=b1Z (w:=w) (S:=Sx S0 ρ) (ρ:=ρ) (L:=L) (a:=a) parts.toList 0 els acc hlit (by
  intro p hp;refine hops p.2 ?_;rw[ho];simp only[Op.operands,List.mem_toArray,List.mem_map];exact⟨p,hp,rfl⟩) (by simp[acc])
 simp only[Nat.zero_mul,List.take_zero,List.nil_append]at q1;have hfl:els.flatten.length=els.length*sz:=by
  clear q1 q2 q4 q5 hlit
  induction els with
  |nil=>simp
  |cons x l ih=>simp only[List.flatten_cons,List.length_append,List.length_cons];rw[ih fun e he=>q3 e (by simp[he]),q3 x (by simp),Nat.add_mul];omega
 refine⟨.slice (some ⟨w.heap.size,0,none⟩) els.length els.length, .cells vs.toArray e,w,⟨some w.heap.size,0,sz,vs.length⟩,?_,rfl,rfl,rfl,rfl,?_,?_⟩
 ·have hmap:(parts.map fun(p:Nat×Operand)=>(p.1,a.eval p.2)).toList=parts.toList.map fun(p:Nat×Operand)=>(p.1,a.eval p.2):=by simp
  have hmap':(parts.map fun x=>match x with|(i,x)=>(i,a.eval x))=parts.map fun(p:Nat×Operand)=>(p.1,a.eval p.2):=rfl;have hb:¬parts.toList.length*sz>2^24:=by omega
  simp only[execOp,ho,Instr.buildSlice,hmap'];simp only[Sem.run_bind,run_underlying h2,Result.andThen_ok,y3 hbad,he,hb,if_false,hmap]
  by_cases h0:parts.toList.length*sz=0
  ·have hzc':zc= #[]:=by simp only[zc,if_pos h0]
   simp only[h0,if_true,pure_bind];have hacc:acc=Array.map (fun x=>(#[]:Array Value)[x % (#[]:Array Value).size]!) (Array.range 0):=by simp only[acc,hzc',h0]
   rw[<-hacc,q1,q4];simp[newRow]
  ·have hzc':zc=z.cells:=by simp only[zc,if_neg h0]
   simp only[h0,if_false,bind_assoc,pure_bind];simp only[Sem.run_bind,hz,Result.andThen_ok];have hacc:acc=Array.map (fun x=>z.cells[x % z.cells.size]!) (Array.range (parts.toList.length*sz)):=by simp only[acc,hzc']
   rw[<-hacc,q1,q4];simp[newRow]
 ·intro b hb;simpa using hb.symm
 ·intro w' ρ' hw' hρ' hkeep;refine⟨.row _ _ _ _ (Or.inr rfl) rfl ?_,?_⟩
  ·intro l hl;subst hρ';simp only[Loc.fresh,if_true,qb]at hl;subst hl;refine⟨by simp,fun b hb=>?_⟩;simp only[qb]at hb;subst hb;exact⟨0,els.length,rfl,qo _,Or.inr ⟨by simp,by simp only[Nat.zero_add];omega⟩⟩
  ·refine⟨rfl,q3,by simp,fun b hb=>?_⟩;simp only[qb]at hb;subst hb;refine⟨vs.toArray,e,by rw[hw'];exact x8 w _,by simp,by simp only[Nat.zero_add];omega,fun i c hi=>?_⟩;have hlt:i<vs.length:=by rw[q2];exact(qa.1 hi).1
   obtain⟨h1,h2⟩:=q5 i c _ hi (qc hlt);exact⟨vs[i],by simp[hlt],h1,hkeep _ _ h2⟩
def a9 (P:Program) (f:FuncId) (args:List AV) (res:AV):Prop:=
 ((∀(w:World) (vs:Array Value),(callFunc f vs).run P w= .ok (.enter f vs) w)/\
  ∀(S0:Nat->Prop) (w:World) (vs:List Value),(∀b,S0 b->b<w.heap.size)->args.length=vs.length->(∀(i:Nat) c x,args[i]?=some c->vs[i]?=some x->r8 w S0 c x)->
   Calls P f vs.toArray w fun e w'=>∃v,e= .returned v/\r8 w' S0 res v/\Ext (fun _=>False) w w')∨
 (∀(S0:Nat->Prop) (w:World) (vs:List Value),args.length=vs.length->(∀(i:Nat) c x,args[i]?=some c->vs[i]?=some x->r8 w S0 c x)->
  ∃v,(callFunc f vs.toArray).run P w= .ok (.value v) w/\r8 w S0 res v)
theorem B6 {w:World} {S:Nat->Prop} {ρ:Nat->Option Loc} {L:Nat->Prop} {t:TypeId} {x:AV} {y:Value} (h:e8 w S ρ L (.ifc t x) y):∃v,y= .iface t v/\e8 w S ρ L x v:=by
 cases h with
 |pure _ _ h=>cases h with
  |ifc _ _ v h=>exact⟨v,rfl, .pure _ _ h⟩
 |ifc _ _ v h=>exact⟨v,rfl,h⟩
theorem E8 {w:World} {S:Nat->Prop} {ρ:Nat->Option Loc} {L:Nat->Prop} {f:FuncId} {cs:List AV} {y:Value} (h:e8 w S ρ L (.clo f cs) y):
  ∃vs:List Value,y= .func (.func f) #[] vs.toArray/\cs.length=vs.length/\∀(i:Nat) c x,cs[i]?=some c->vs[i]?=some x->e8 w S ρ L c x:=by
 cases h with
 |pure _ _ h=>cases h with
  |clo _ _ vs hl h=>exact⟨vs,rfl,hl,fun i c x h1 h2=> .pure _ _ (h i c x h1 h2)⟩
 |clo _ _ vs hl h=>exact⟨vs,rfl,hl,h⟩
theorem P6 {w:World} {S:Nat->Prop} {ρ:Nat->Option Loc} {L:Nat->Prop} {f:FuncId} {cs:List AV} {y:Value} (h:e8 w S ρ L (.bnd f cs) y):
  ∃vs:List Value,y= .func (.func f) vs.toArray #[]/\cs.length=vs.length/\∀(i:Nat) c x,cs[i]?=some c->vs[i]?=some x->e8 w S ρ L c x:=by
 cases h with
 |pure _ _ h=>cases h with
  |bnd _ _ vs hl h=>exact⟨vs,rfl,hl,fun i c x h1 h2=> .pure _ _ (h i c x h1 h2)⟩
 |bnd _ _ vs hl h=>exact⟨vs,rfl,hl,h⟩
end
end Go.AM
namespace Go.AM
section
variable {P:Program} {o:Oper} {ev:Operand->AV} {H:Nat->Option n9} {N:Nat}
def Q0 (a:Act) (x:Option Operand) (n:Option Nat):Prop:=
 match x,n with
 |none,none=>True
 |some x,some n=>∃(k:IntKind) (i:Int),a.eval x= .int k i/\0<=i/\i.toNat=n
 |_,_=>False
theorem a2o {w:World} {a:Act} {lo hi:Option Operand} {l h:Option Nat} (len cap:Nat) (hl:Q0 a lo l) (hh:Q0 a hi h) (h1:l.getD 0<=h.getD len) (h2:h.getD len<=len) (h3:len<=cap):
  (Instr.sliceBounds true len cap (lo.map a.eval) (hi.map a.eval) none).run P w= .ok (l.getD 0,h.getD len,cap) w:=by
 cases hi with
 | none=>
  cases h with
  |some h=>exact hh.elim
  | none=>
   cases lo with
   |none=>cases l with
    |some l=>exact hl.elim
    |none=>simp[Instr.sliceBounds]
   | some x=>cases l with
    |none=>exact hl.elim
    |some l=>
     obtain⟨k,i,e1,e2,e3⟩:=hl;subst e3;simp only[Option.getD_some,Option.getD_none]at h1 h2;have hb:0<=i/\i<=(len:Int):=⟨e2,by omega⟩;simp[Instr.sliceBounds,e1,Instr.sliceBound,asIntOf,hb]
 | some y=>
  cases h with
  |none=>exact hh.elim
  | some h=>
   obtain⟨k',i',d1,d2,d3⟩:=hh;subst d3;simp only[Option.getD_some]at h1 h2;have hb':0<=i'/\i'<=(cap:Int):=⟨d2,by omega⟩
   cases lo with
   |none=>cases l with
    |some l=>exact hl.elim
    |none=>simp[Instr.sliceBounds,d1,Instr.sliceBound,asIntOf,hb']
   | some x=>cases l with
    |none=>exact hl.elim
    |some l=>
     obtain⟨k,i,e1,e2,e3⟩:=hl;subst e3;simp only[Option.getD_some]at h1;have hb:0<=i/\i<=i':=⟨e2,by omega⟩;have hmax:max i' 0=i':=by omega
     simp[Instr.sliceBounds,d1,e1,Instr.sliceBound,asIntOf,hb',hb,hmax]
theorem R8 {w:World} {a:Act} {t e:TypeId} {lo hi:Option Operand} {l h:Option Nat} (ad:Option Addr) (len cap:Nat) (ht:P.underlying t=some (.slice e)) (he:d6 P e≠ .bad) (hl:Q0 a lo l) (hh:Q0 a hi h)
  (h1:l.getD 0<=h.getD len) (h2:h.getD len<=len) (h3:len<=cap):
  (Instr.sliceAt t (.slice ad len cap) (lo.map a.eval) (hi.map a.eval) none).run P w=
   .ok (.slice (if cap=l.getD 0 then ad else ad.map (·.add (l.getD 0*(d6 P e).size))) (h.getD len-l.getD 0) (cap-l.getD 0)) w:=by
 have hb:=a2o (P:=P) (w:=w) len cap hl hh h1 h2 h3;simp only[Instr.sliceAt,Sem.run_bind,run_underlying ht,Result.andThen_ok,Instr.slice,hb,y3 he,Sem.run_pure]
theorem a0I {B S0:Nat->Prop} {a:Act} {w:World} {ρ:Nat->Option Loc} {L:Nat->Prop} {x:Option Operand} {n:Option Nat}
  (hx:match x,n with|none,none=>True|some x,some n=>∃(k:IntKind) (i:Int),ev x= .v (.int k i)/\0<=i/\i.toNat=n|_,_=>False)
  (h:∀y,x=some y->e8 w (Sx S0 ρ) ρ L (ev y) (a.eval y)):Q0 a x n:=by
 cases x<;>cases n<;>simp only at hx<;>try exact hx
 rename_i x n;obtain⟨k,i,e1,e2,e3⟩:=hx;have:=h x rfl;rw[e1]at this;exact⟨k,i,j5 this,e2,e3⟩
def a1f (ev:Operand->AV) (x:Option Operand) (n:Option Nat):Prop:=
 match x,n with
 |none,none=>True
 |some x,some n=>∃(k:IntKind) (i:Int),ev x= .v (.int k i)/\0<=i/\i.toNat=n
 |_,_=>False
theorem a3x {t e:TypeId} {x:Operand} {lo hi:Option Operand} {l h:Option Nat} {sz:Nat} {els:List (List AV)} (ho:o.op= .slice t x lo hi none) (ht:d6 P t= .slice e) (he:(d6 P e).size=sz) (hsz:sz≠0)
  (hx:ev x= .lst sz els∨ev x= .full sz els) (hl:a1f ev lo l) (hh:a1f ev hi h) (h1:l.getD 0<=h.getD els.length) (h2:h.getD els.length<=els.length):
  p6 P o ev H N ⟨.lst sz ((els.take (h.getD els.length)).drop (l.getD 0)),[],[]⟩:=by
 obtain⟨info,q1,q2,_⟩:=o6 ht;have hbad:d6 P e≠ .bad:=by intro h;rw[h]at he;exact hsz he.symm
 refine p6.of_pure fun B S0 a w ρ L hw hops hrd=>?_;have hr:=hops x (by simp[ho,Op.operands]);have bl:Q0 a lo l:=a0I (B:=B) (S0:=S0) (w:=w) (ρ:=ρ) (L:=L) hl (fun y hy=>hops y (by simp[ho,Op.operands,hy]));have bh:Q0 a hi h:=a0I (B:=B) (S0:=S0) (w:=w) (ρ:=ρ) (L:=L) hh (fun y hy=>hops y (by simp[ho,Op.operands,hy]));obtain⟨ad,cap,hy,hcap,hrest⟩:=a0b hx hr;have hrun:=R8 (P:=P) (w:=w) ad els.length cap q2 hbad bl bh h1 h2 hcap;refine⟨_,Or.inl (by simp only[execOp,ho,hy,Option.map_none];rw[Sem.run_bind,hrun];rfl), .pure _ _ ?_⟩;have hlen:((els.take (h.getD els.length)).drop (l.getD 0)).length=h.getD els.length-l.getD 0:=by
  rw[qx,qm,Nat.min_eq_left h2]
 by_cases hzero:h.getD els.length-l.getD 0=0
 ·have hnil:(els.take (h.getD els.length)).drop (l.getD 0)=[]:=by
   apply List.eq_nil_of_length_eq_zero;rw[hlen,hzero]
  rw[hnil,hzero];exact .lstNil _ _ _
 ·rcases hrest with rfl|⟨b,off,vs,rfl,hS,hb,hall,hvl,hv,hrep⟩
  ·simp only[List.length_nil]at h2 hzero;omega
  ·rw[if_neg (by omega)];simp only[Option.map_some,Addr.add_lit,he];rw[<-hlen];have hsub:∀e∈(els.take (h.getD els.length)).drop (l.getD 0),e.length=sz:=fun e he=>hall e (List.mem_of_mem_take (List.mem_of_mem_drop he));have hfl:∀j,j<((els.take (h.getD els.length)).drop (l.getD 0)).length*sz->((els.take (h.getD els.length)).drop (l.getD 0)).flatten[j]?=els.flatten[l.getD 0*sz+j]?:=by
    intro j hj;have hsz':0<sz:=by omega
    have hdm:=Nat.div_add_mod j sz;have hmod:=Nat.mod_lt j hsz';have hdiv:j/sz<((els.take (h.getD els.length)).drop (l.getD 0)).length:=by
     rw[Nat.div_lt_iff_lt_mul hsz'];exact hj
    have g8:((els.take (h.getD els.length)).drop (l.getD 0))[j/sz]?=els[l.getD 0+j/sz]?:=by
     rw[ql,qk,if_pos];rw[hlen]at hdiv;omega
    have he1:=qc hdiv;have he2:=g8.symm.trans he1;have f1:=o8 hsub he1 (j % sz) hmod;have f2:=o8 hall he2 (j % sz) hmod;rw[show j/sz*sz+j % sz=j by rw[Nat.mul_comm];exact hdm]at f1;rw[show(l.getD 0+j/sz)*sz+j % sz=l.getD 0*sz+j by rw[Nat.add_mul,Nat.add_assoc,Nat.mul_comm (j/sz)];rw[hdm]]at f2;rw[f1,f2]
   refine .lst sz _ b (off+l.getD 0*sz) (cap-l.getD 0) ((vs.drop (l.getD 0*sz)).take (((els.take (h.getD els.length)).drop (l.getD 0)).length*sz)) hS hb (by rw[hlen];omega) hsub ?_ ?_ ?_
   ·have hvd:(vs.drop (l.getD 0*sz)).length=els.length*sz-l.getD 0*sz:=by rw[qx,<-hvl,j4 hall]
    rw[j4 hsub,qm,hvd,hlen,Nat.min_eq_left];rw[<-Nat.sub_mul];exact Nat.mul_le_mul_right _ (by omega)
   ·intro j u hj;rw[qk]at hj
    split at hj
    ·rw[ql]at hj;rw[Nat.add_assoc];exact hv _ u hj
    ·cases hj
   ·intro j c u hj hu;rw[qk]at hu
    split at hu
    ·rename_i hjl;rw[ql]at hu;rw[hfl j hjl]at hj;exact hrep _ c u hj hu
    ·cases hu
theorem a8h {t e:TypeId} {x:Operand} {lo hi:Option Operand} {l h:Option Nat} {r i n sz:Nat} {es:List (List AV)} (ho:o.op= .slice t x lo hi none) (ht:d6 P t= .slice e) (he:(d6 P e).size=sz) (hsz:sz≠0)
  (hx:ev x= .row r i n) (hH:H r=some (.els sz es)) (hl:a1f ev lo l) (hh:a1f ev hi h) (h1:l.getD 0<=h.getD n) (h2:h.getD n<=n) (hin:n≠0∨i+n<=es.length):
  p6 P o ev H N ⟨if l.getD 0=0/\n=0 then .row r i n else .row r (i+l.getD 0) (h.getD n-l.getD 0),[],[r]⟩:=by
 obtain⟨info,q1,q2,_⟩:=o6 ht;have hbad:d6 P e≠ .bad:=by intro h;rw[h]at he;exact hsz he.symm
 refine p6.of_pure fun B S0 a w ρ L hw hops hrd=>?_;have hr:=hops x (by simp[ho,Op.operands]);have bl:Q0 a lo l:=a0I (B:=B) (S0:=S0) (w:=w) (ρ:=ρ) (L:=L) hl (fun y hy=>hops y (by simp[ho,Op.operands,hy]));have bh:Q0 a hi h:=a0I (B:=B) (S0:=S0) (w:=w) (ρ:=ρ) (L:=L) hh (fun y hy=>hops y (by simp[ho,Op.operands,hy]));obtain⟨lc,hlc,n8⟩:=hrd r (by simp) _ hH;rw[hx]at hr
 cases hr with
 |pure _ _ h=>cases h
 | row _ _ _ y g1 g2 g3=>
  obtain⟨g4,g5⟩:=g3 lc hlc
  cases hb:lc.b with
  |none=>
   obtain⟨hy,rfl,rfl⟩:=g4 hb;have hl0:l.getD 0=0:=by omega
   have hrun:=R8 (P:=P) (w:=w) none 0 0 q2 hbad bl bh h1 h2 (qo _);refine⟨_,Or.inl (by simp only[execOp,ho,hy,Option.map_none];rw[Sem.run_bind,hrun];rfl),?_⟩;rw[if_pos ⟨hl0,rfl⟩];simp only[hl0,Option.map_none,ite_self,Nat.sub_zero];rw[show h.getD 0=0 by omega];exact .row _ _ _ _ g1 rfl (fun l' hl'=>by rw[hlc]at hl';simp only[qb]at hl';subst hl';exact⟨fun _=>⟨rfl,rfl,rfl⟩,fun b hb'=>by rw[hb]at hb';cases hb'⟩)
  | some b=>
   obtain⟨off,cap,hy,hcap,hoff⟩:=g5 b hb;have hrun:=R8 (P:=P) (w:=w) (some ⟨b,off,none⟩) n cap q2 hbad bl bh h1 h2 hcap;have key:∀i' n',i'=i+l.getD 0->n'=h.getD n-l.getD 0->e8 w (Sx S0 ρ) ρ L (.row r i' n') (.slice (if cap=l.getD 0 then some ⟨b,off,none⟩else(some (⟨b,off,none⟩:Addr)).map (·.add (l.getD 0*(d6 P e).size))) (h.getD n-l.getD 0) (cap-l.getD 0)):=by
    rintro i' n' rfl rfl;refine .row _ _ _ _ g1 rfl (fun l' hl'=>?_);rw[hlc]at hl';simp only[qb]at hl';subst hl';refine⟨fun h0=>(by rw[hb]at h0;cases h0),fun b' hb'=>?_⟩;rw[hb]at hb';simp only[qb]at hb';subst hb'
    split
    ·exact⟨_,_,rfl,by omega,Or.inl (by omega)⟩
    ·simp only[Option.map_some,Addr.add_lit,he];refine⟨_,_,rfl,by omega,?_⟩
     rcases hoff with hc|⟨rfl,ho'⟩
     ·exact Or.inl (by omega)
     ·refine Or.inr ⟨by rw[n8.1,Nat.add_mul,Nat.add_assoc],?_⟩;rw[show i+l.getD 0+(cap-l.getD 0)=i+cap by omega];exact ho'
   refine⟨_,Or.inl (by simp only[execOp,ho,hy,Option.map_none];rw[Sem.run_bind,hrun];rfl),?_⟩
   split
   ·rename_i hz;exact key i n (by omega) (by omega)
   ·exact key _ _ rfl rfl
def a6G (place:Nat->Option (Nat×Nat)) (ev:Operand->AV):List (Nat×Operand)->List AV->Option (List AV)
 |[],cs=>some cs
 |(i,x)::rest,cs=>
  match place i,(ev x).cells with
  |some (off,size),some xs=>if xs.length=size/\off+xs.length<=cs.length then a6G place ev rest (a0v cs off xs)else none
  |_,_=>none
theorem b1l {w:World} {S:Nat->Prop} {ρ:Nat->Option Loc} {L:Nat->Prop} {a:Act} {place:Nat->Option (Nat×Nat)}:∀(parts:List (Nat×Operand)) (cs res:List AV) (acc:Array Value),
  a6G place ev parts cs=some res->(∀p∈parts,e8 w S ρ L (ev p.2) (a.eval p.2))->cs.length=acc.size->(∀(i:Nat) c x,cs[i]?=some c->acc[i]?=some x->x.oneCell'=true/\e8 w S ρ L c x)->
  ∃acc':Array Value,Instr.fill place acc (parts.map fun(p:Nat×Operand)=>(p.1,a.eval p.2))=some acc'/\res.length=acc'.size/\
   ∀(i:Nat) c x,res[i]?=some c->acc'[i]?=some x->x.oneCell'=true/\e8 w S ρ L c x:=by
 intro parts
 induction parts with
 |nil=>
  intro cs res acc h1 _ h3 h4;simp only[a6G,qb]at h1;subst h1;exact⟨acc,rfl,h3,h4⟩
 | cons p parts ih=>
  intro cs res acc h1 h2 h3 h4;obtain⟨i,x⟩:=p;simp only[a6G]at h1
  split at h1
  ·rename_i off size xs hp hx
   split at h1
   ·rename_i hc;obtain⟨hlen,hfit⟩:=hc;obtain⟨c1,c2⟩:=a1w (h2 (i,x) (by simp)) hx;have hsize:(a.eval x).cells.size=size:=by rw[<-hlen,<-c1,Array.length_toList]
    have hz:=Y9 (a.eval x).cells.toList off 0 acc (by rw[c1];omega);simp only[Nat.add_zero]at hz
    let acc1:=((a.eval x).cells.toList.zipIdx 0).foldl (fun cs (p:Value×Nat)=>cs.setIfInBounds (off+p.2) p.1) acc
    have hs1:acc1.size=acc.size:=by
     rw[<-Array.length_toList,hz];simp only[List.length_append,qm,qx,Array.length_toList,hsize];rw[Nat.min_eq_left (by omega)];omega
    obtain⟨acc',q1,q2,q3⟩:=ih (a0v cs off xs) res acc1 h1 (fun p hp=>h2 p (by simp[hp])) (by rw[a1R hfit,h3,hs1]) (by
     intro j c u hj hu;have hu':(acc.toList.take off++(a.eval x).cells.toList++acc.toList.drop (off+(a.eval x).cells.toList.length))[j]?=some u:=by rw[<-hz];simpa using hu
     rw[a6C hfit]at hj;rw[List.append_assoc,List.getElem?_append]at hu';simp only[qm,Nat.min_eq_left (show off<=acc.toList.length by simp;omega)]at hu'
     split at hj
     ·rename_i hjo;rw[if_pos hjo,qk,if_pos hjo]at hu';exact h4 j c u hj (by simpa using hu')
     ·rename_i hjo;rw[if_neg hjo,List.getElem?_append,c1]at hu'
      split at hj
      ·rename_i hjx;rw[if_pos (by omega)]at hu';exact c2 _ c u hj hu'
      ·rename_i hjx;rw[if_neg (by omega),ql]at hu';rw[show off+xs.length+(j-off-xs.length)=j by omega]at hu';exact h4 j c u hj (by simpa using hu'))
    refine⟨acc',?_,q2,q3⟩;simp only[List.map_cons,Instr.fill,hp];rw[if_neg (by rw[hsize];simp;omega)];have hfold':(a.eval x).cells.zipIdx.foldl (fun cs x=>match x with|(c,j)=>cs.setIfInBounds (off+j) c) acc=acc1:=by
     show(a.eval x).cells.zipIdx.foldl (fun cs (p:Value×Nat)=>cs.setIfInBounds (off+p.2) p.1) acc=acc1;rw[<-Array.foldl_toList,Array.toList_zipIdx]
    rw[hfold',q1]
   ·cases h1
  ·cases h1
theorem b2u {w:World}:∀(l:List Field),(∀f∈l,(P.info? f.type).isSome=true)->
  (l.mapM fun(f:Field)=>do pure (f.offset,<-sizeOf f.type):Sem (List (Nat×Nat))).run P w= .ok (l.map fun f=>(f.offset,P.cellsOf f.type)) w:=by
 intro l
 induction l with
 |nil=>intro _;simp
 |cons f l ih=>
  intro h;obtain⟨i,hi⟩:=Option.isSome_iff_exists.1 (h f (by simp));have h1:(sizeOf f.type).run P w= .ok (P.cellsOf f.type) w:=by simp[sizeOf,typeInfo,hi,Program.cellsOf]
  simp only[List.mapM_cons,Sem.run_bind,h1,Result.andThen_ok,Sem.run_pure,ih (fun g hg=>h g (by simp[hg])),List.map_cons]
theorem a4B {t:TypeId} {parts:Array (Nat×Operand)} {z:List Value} {fs:List (Nat×Nat×TypeId)} {res:List AV} (ho:o.op= .build t parts) (ht:d6 P t= .agg z fs)
  (hf:a6G (fun i=>(fs[i]?).map fun(q:Nat×Nat×TypeId)=>(q.1,q.2.1)) ev parts.toList (z.map .v)=some res):p6 P o ev H N ⟨.agg res,[],[]⟩:=by
 obtain⟨info,fa,q1,q2,q3,q4,rfl,q6,q7⟩:=G9 ht;refine p6.of_pure fun B S0 a w ρ L hw hops hrd=>?_;obtain⟨acc',r1,r2,r3⟩:=b1l (w:=w) (S:=Sx S0 ρ) (ρ:=ρ) (L:=L) (a:=a) parts.toList _ res z.toArray hf (by
  intro p hp;refine hops p.2 ?_;rw[ho];simp only[Op.operands,List.mem_toArray,List.mem_map];exact⟨p,hp,rfl⟩) (by simp) (by
  intro i c x h1 h2;simp only[qe,qf]at h1;obtain⟨u,h1,rfl⟩:=h1;simp only[List.getElem?_toArray]at h2;rw[h1]at h2;simp only[qb]at h2;subst h2;exact⟨qn.1 q6 u (qd h1), .pure _ _ (.v u)⟩)
 refine⟨.agg acc',Or.inl ?_,?_⟩
 ·have hmap':(parts.map fun x=>match x with|(i,x)=>(i,a.eval x))=parts.map fun(p:Nat×Operand)=>(p.1,a.eval p.2):=rfl;have hmap:(parts.map fun(p:Nat×Operand)=>(p.1,a.eval p.2)).toList=parts.toList.map fun(p:Nat×Operand)=>(p.1,a.eval p.2):=by simp
  have hz:(zeroValue t).run P w= .ok (.agg z.toArray) w:=by simp[zeroValue,typeInfo,q1,q3]
  have hpl:(fa.mapM fun(f:Field)=>do pure (f.offset,<-sizeOf f.type):Sem (Array (Nat×Nat))).run P w= .ok (fa.toList.map fun f=>(f.offset,P.cellsOf f.type)).toArray w:=by
   rw[Array.mapM_eq_mapM_toList,Sem.run_map,b2u fa.toList q7];rfl
  have hplace:(fun(i:Nat)=>(fa.toList.map fun f=>(f.offset,P.cellsOf f.type)).toArray[i]?)=(fun(i:Nat)=>((fa.toList.map fun f=>(f.offset,P.cellsOf f.type,f.type))[i]?).map fun(q:Nat×Nat×TypeId)=>(q.1,q.2.1)):=by
   funext i
   simp only[List.getElem?_toArray,qe,Option.map_map]
   rfl
  simp only[execOp,ho,Instr.build,hmap',Sem.run_bind,hz,Result.andThen_ok,Sem.run_pure,run_underlying q2,Value.cells,hmap];rw[hpl];simp only[Result.andThen_ok];rw[hplace,r1]
  rfl
 ·have e:acc'=acc'.toList.toArray:=by simp
  rw[e];refine .agg _ _ (by simpa using r2) ?_ ?_
  ·intro x hx;obtain⟨i,hi,rfl⟩:=List.getElem_of_mem hx;have hi':i<res.length:=by rw[r2];simpa using hi
   exact(r3 i _ _ (qc hi') (by rw[<-Array.getElem?_toList];exact qc hi)).1
  ·intro i c x h1 h2;exact(r3 i c x h1 (by rw[<-Array.getElem?_toList];exact h2)).2
theorem a8r {t e:TypeId} {parts:Array (Nat×Operand)} {z:List Value} {n:Nat} {res:List AV} (ho:o.op= .build t parts) (ht:d6 P t= .arr z n e) (he:d6 P e≠ .bad)
  (hf:a6G (fun i=>some (i*(d6 P e).size,(d6 P e).size)) ev parts.toList (z.map .v)=some res):p6 P o ev H N ⟨.agg res,[],[]⟩:=by
 obtain⟨info,q1,q2,q3,q4,q6⟩:=X9 ht;refine p6.of_pure fun B S0 a w ρ L hw hops hrd=>?_;obtain⟨acc',r1,r2,r3⟩:=b1l (w:=w) (S:=Sx S0 ρ) (ρ:=ρ) (L:=L) (a:=a) parts.toList _ res z.toArray hf (by
  intro p hp;refine hops p.2 ?_;rw[ho];simp only[Op.operands,List.mem_toArray,List.mem_map];exact⟨p,hp,rfl⟩) (by simp) (by
  intro i c x h1 h2;simp only[qe,qf]at h1;obtain⟨u,h1,rfl⟩:=h1;simp only[List.getElem?_toArray]at h2;rw[h1]at h2;simp only[qb]at h2;subst h2;exact⟨qn.1 q6 u (qd h1), .pure _ _ (.v u)⟩)
 refine⟨.agg acc',Or.inl ?_,?_⟩
 ·have hmap':(parts.map fun x=>match x with|(i,x)=>(i,a.eval x))=parts.map fun(p:Nat×Operand)=>(p.1,a.eval p.2):=rfl;have hmap:(parts.map fun(p:Nat×Operand)=>(p.1,a.eval p.2)).toList=parts.toList.map fun(p:Nat×Operand)=>(p.1,a.eval p.2):=by simp
  have hz:(zeroValue t).run P w= .ok (.agg z.toArray) w:=by simp[zeroValue,typeInfo,q1,q3]
  simp only[execOp,ho,Instr.build,hmap',Sem.run_bind,hz,Result.andThen_ok,Sem.run_pure,run_underlying q2,Value.cells,hmap,y3 he];rw[r1]
  rfl
 ·have e:acc'=acc'.toList.toArray:=by simp
  rw[e];refine .agg _ _ (by simpa using r2) ?_ ?_
  ·intro x hx;obtain⟨i,hi,rfl⟩:=List.getElem_of_mem hx;have hi':i<res.length:=by rw[r2];simpa using hi
   exact(r3 i _ _ (qc hi') (by rw[<-Array.getElem?_toList];exact qc hi)).1
  ·intro i c x h1 h2;exact(r3 i c x h1 (by rw[<-Array.getElem?_toList];exact h2)).2
end
end Go.AM
namespace Go.AM
def a5K (H:Nat->Option n9) (sz:Nat):AV->Option (List (List AV)×List Nat)
 | .lst s els=>if s=sz then some (els,[])else none
 | .full s els=>if s=sz then some (els,[])else none
 | .v (.slice _ 0 _)=>some ([],[])
 | .row r i n=>match H r with
  |some (.els s es)=>if s=sz/\i+n<=es.length then some ((es.drop i).take n,[r])else none
  |_=>none
 |_=>none
def a7d (H:Nat->Option n9) (sz:Nat) (src:List (List AV)):AV->Option (List (List AV)×Option Nat)
 | .v (.slice none 0 0)=>some ([],none)
 | .full s els=>if s=sz/\src≠[]then some (els,none)else none
 | .row r i n=>match H r with
  |some (.els s es)=>if s=sz/\i+n<=es.length then some ((es.drop i).take n,some r)else none
  |_=>none
 |_=>none
def a8Y:Option Nat->List (Nat×Option n9)
 |some r=>[(r,none)]
 |none=>[]
def a9r:Option Nat->List Nat
 |some r=>[r]
 |none=>[]
def W0 (ρ:Nat->Option Loc) (N:Nat) (l:Loc) (kill:Option Nat):Nat->Option Loc:=fun x=>if x=N then some l else if kill=some x then none else ρ x
theorem a3b {α:Type} {es:List (List α)} {sz:Nat} (hsz:∀e∈es,e.length=sz) (hpos:sz≠0) {i n:Nat} (hin:i+n<=es.length) {j:Nat} (hj:j<n*sz):
  ((es.drop i).take n).flatten[j]?=es.flatten[i*sz+j]?:=by
 have hsz':0<sz:=by omega
 have hdm:=Nat.div_add_mod j sz;have hmod:=Nat.mod_lt j hsz';have hdiv:j/sz<n:=by rw[Nat.div_lt_iff_lt_mul hsz'];exact hj
 have hsub:∀e∈(es.drop i).take n,e.length=sz:=fun e he=>hsz e (List.mem_of_mem_drop (List.mem_of_mem_take he));have g8:((es.drop i).take n)[j/sz]?=es[i+j/sz]?:=by rw[qk,if_pos hdiv,ql]
 have he:=qc (l:=es) (i:=i+j/sz) (by omega);have f1:=o8 hsub (g8.trans he) (j % sz) hmod;have f2:=o8 hsz he (j % sz) hmod;rw[show j/sz*sz+j % sz=j by rw[Nat.mul_comm];exact hdm]at f1;rw[show(i+j/sz)*sz+j % sz=i*sz+j by rw[Nat.add_mul,Nat.add_assoc,Nat.mul_comm (j/sz),hdm]]at f2;rw[f1,f2]
section
variable {P:Program} {o:Oper} {ev:Operand->AV} {H:Nat->Option n9} {N:Nat}
def c0P (w:World) (S:Nat->Prop) (ρ:Nat->Option Loc) (L:Nat->Prop) (sz:Nat) (els:List (List AV)) (ad:Option Addr):Prop:=
 (∀e∈els,e.length=sz)/\(els=[]∨∃(b off:Nat) (vs:List Value),ad=some ⟨b,off,none⟩/\vs.length=els.length*sz/\
  (∀(j:Nat) u,vs[j]?=some u->w.cell? ⟨b,off+j,none⟩=some u/\u.oneCell'=true)/\∀(j:Nat) c u,els.flatten[j]?=some c->vs[j]?=some u->e8 w S ρ L c u)
theorem a3N {w:World} {S:Nat->Prop} {ρ:Nat->Option Loc} {L:Nat->Prop} {l:Loc} {sz:Nat} {es:List (List AV)} (h:i7 w S ρ L l (.els sz es)) (hsz:sz≠0) {i n:Nat} (hin:i+n<=es.length)
  {b:Nat} (hb:l.b=some b):c0P w S ρ L sz ((es.drop i).take n) (some ⟨b,l.o+i*sz,none⟩):=by
 obtain⟨h1,h2,h3,h4⟩:=h;obtain⟨c,t,k1,k2,k3,k4⟩:=h4 b hb;have hle:(i+n)*sz<=es.length*sz:=Nat.mul_le_mul_right _ hin;rw[Nat.add_mul]at hle;have hlen:((es.drop i).take n).length=n:=by rw[qm,qx,Nat.min_eq_left];omega
 refine⟨fun e he=>h2 e (List.mem_of_mem_drop (List.mem_of_mem_take he)),Or.inr ⟨b,l.o+i*sz,(c.toList.drop (l.o+i*sz)).take (n*sz),rfl,?_,?_,?_⟩⟩
 ·rw[hlen,qm,qx,Array.length_toList,Nat.min_eq_left];omega
 ·intro j u hj;rw[qk]at hj
  split at hj
  ·rename_i hjn;rw[ql]at hj;have hfl:i*sz+j<es.flatten.length:=by rw[j4 h2];omega
   obtain⟨x,q1,q2,q3⟩:=k4 (i*sz+j) _ (qc hfl);rw[<-Nat.add_assoc]at q1;have hju:c[l.o+i*sz+j]?=some u:=by simpa using hj
   rw[hju]at q1;simp only[qb]at q1;subst q1;exact⟨by simp[World.cell?,k1,hju],q2⟩
  ·cases hj
 ·intro j av u hj hu;rw[qk]at hu
  split at hu
  ·rename_i hjn;rw[ql]at hu;rw[a3b h2 hsz hin hjn]at hj;obtain⟨x,q1,q2,q3⟩:=k4 _ av hj;rw[<-Nat.add_assoc]at q1;have hju:c[l.o+i*sz+j]?=some u:=by simpa using hu
   rw[hju]at q1;simp only[qb]at q1;subst q1;exact q3
  ·cases hu
theorem b1y {w:World} {S:Nat->Prop} {ρ:Nat->Option Loc} {L:Nat->Prop} {sz:Nat} {els:List (List AV)} {x:AV} {y:Value} (hx:x= .lst sz els∨x= .full sz els) (h:e8 w S ρ L x y):
  ∃ad cap,y= .slice ad els.length cap/\c0P w S ρ L sz els ad:=by
 obtain⟨ad,cap,hy,hcap,hrest⟩:=a0b hx h;refine⟨ad,cap,hy,?_⟩
 rcases hrest with rfl|⟨b,off,vs,rfl,hS,hb,hall,hl,hv,hrep⟩
 ·exact⟨by simp,Or.inl rfl⟩
 ·exact⟨hall,Or.inr ⟨b,off,vs,rfl,by rw[<-hl,j4 hall],hv,fun j c u h1 h2=> .pure _ _ (hrep j c u h1 h2)⟩⟩
theorem c0d {w:World} {S:Nat->Prop} {ρ:Nat->Option Loc} {L:Nat->Prop} {sz:Nat} (hsz:sz≠0) {x:AV} {y:Value} {els:List (List AV)} {rd:List Nat} (hs:a5K H sz x=some (els,rd)) (h:e8 w S ρ L x y)
  (hrd:∀r∈rd,∀row,H r=some row->∃l,ρ r=some l/\i7 w S ρ L l row):∃ad cap,y= .slice ad els.length cap/\c0P w S ρ L sz els ad:=by
 unfold a5K at hs
 split at hs
 ·split at hs
  ·rename_i e;subst e;simp only[qb,qr]at hs;obtain⟨rfl,rfl⟩:=hs;exact b1y (Or.inl rfl) h
  ·cases hs
 ·split at hs
  ·rename_i e;subst e;simp only[qb,qr]at hs;obtain⟨rfl,rfl⟩:=hs;exact b1y (Or.inr rfl) h
  ·cases hs
 ·rename_i a c;simp only[qb,qr]at hs;obtain⟨rfl,rfl⟩:=hs;exact⟨a,c,j5 h,by simp,Or.inl rfl⟩
 ·rename_i r i n
  split at hs
  ·rename_i s es hH
   split at hs
   ·rename_i hc;obtain⟨rfl,hin⟩:=hc;simp only[qb,qr]at hs;obtain⟨rfl,rfl⟩:=hs;obtain⟨l,hl,n8⟩:=hrd r (by simp) _ hH;have hlen:((es.drop i).take n).length=n:=by rw[qm,qx,Nat.min_eq_left];omega
    cases h with
    |pure _ _ h=>cases h
    | row _ _ _ y q1 q2 q3=>
     obtain⟨q4,q5⟩:=q3 l hl
     cases hb:l.b with
     |none=>
      obtain⟨rfl,rfl,rfl⟩:=q4 hb;exact⟨none,0,by simp,by simp,Or.inl (by simp)⟩
     |some b=>
      obtain⟨off,cap,hy,hcap,hoff⟩:=q5 b hb
      by_cases hn:n=0
      ·subst hn;exact⟨_,cap,by rw[hy,hlen],by simp,Or.inl (by simp)⟩
      ·obtain⟨rfl,_⟩:=hoff.resolve_left (by omega);exact⟨_,cap,by rw[hy,hlen],by rw[n8.1];exact a3N n8 hsz hin hb⟩
   ·cases hs
  ·cases hs
 ·cases hs
def Q1 (N sz:Nat) (b s:List (List AV)) (kill:Option Nat) (rd:List Nat):Eff:=
 ⟨.row N 0 (b.length+s.length),a8Y kill++[(N,some (.els sz (b++s)))],a9r kill++rd⟩
theorem a1F {B S0:Nat->Prop} {w w':World} {ρ:Nat->Option Loc} {L:Nat->Prop} (hw:WF B S0 w ρ L) (hN:¬L N) {sz:Nat} {b s:List (List AV)} {kill:Option Nat} {rd:List Nat} {l':Loc} {v:Value}
  (hkill:∀r,kill=some r->∃l,ρ r=some l)
  (hb:∀k,l'.b=some k->(w.heap.size<=k/\k<w'.heap.size)∨∃r l,kill=some r/\ρ r=some l/\l.b=some k)
  (hext:Ext (fun k=>∃r l,kill=some r/\ρ r=some l/\l.b=some k) w w')
  (hrep:∀ρ' L',ρ'=W0 ρ N l' kill->L'=(fun r=>L r∨r=N)->(∀x y,e8 w (Sx S0 ρ) ρ L x y->e8 w' (Sx S0 ρ') ρ' L' x y)->
   e8 w' (Sx S0 ρ') ρ' L' (.row N 0 (b.length+s.length)) v/\i7 w' (Sx S0 ρ') ρ' L' l' (.els sz (b++s))):
  a3D B S0 w ρ L N (Q1 N sz b s kill rd) w' (W0 ρ N l' kill) v:=by
 have hkN:∀r,kill=some r->r≠N:=by
  rintro r hr rfl;obtain⟨l,hl⟩:=hkill _ hr;exact hN (hw.given _ l hl)
 have hLL:∀r,(L r∨r=N)->nL L (Q1 N sz b s kill rd) r:=by
  rintro r (h1|rfl)
  ·exact Or.inl h1
  ·exact Or.inr ⟨some (.els sz (b++s)),by simp[Q1]⟩
 have hlive:∀r l,W0 ρ N l' kill r=some l->(r=N/\l=l')∨(ρ r=some l/\r≠N/\kill≠some r):=by
  intro r l h;simp only[W0]at h
  split at h
  ·rename_i e;simp only[qb]at h;exact Or.inl ⟨e,h.symm⟩
  ·split at h
   ·cases h
   ·exact Or.inr ⟨h,by assumption,by assumption⟩
 have hwf:WF B S0 w' (W0 ρ N l' kill) (fun r=>L r∨r=N):=by
  refine⟨?_,?_,?_,fun k hk=>qq (hw.low k hk) hext.size,fun k hk=>hw.new k (Nat.le_trans hext.size hk)⟩
  ·intro r r' l1 l2 k h1 h2 k1 k2;have cross:∀r' l2,ρ r'=some l2->kill≠some r'->l'.b=some k->l2.b=some k->False:=by
    intro r' l2 h2 hne k1 k2
    rcases hb k k1 with h3|⟨r0,l0,q1,q2,q3⟩
    ·have:=(hw.own r' l2 k h2 k2).1;omega
    ·have:=hw.inj r' r0 l2 l0 k h2 q2 k2 q3;subst this;exact hne q1
   rcases hlive r l1 h1 with⟨e1,e2⟩|⟨g1,n1,m1⟩<;>rcases hlive r' l2 h2 with⟨e3,e4⟩|⟨g2,n2,m2⟩
   ·rw[e1,e3]
   ·subst e2;exact(cross r' l2 g2 m2 k1 k2).elim
   ·subst e4;exact(cross r l1 g1 m1 k2 k1).elim
   ·exact hw.inj r r' l1 l2 k g1 g2 k1 k2
  ·intro r l1 k h1 k1
   rcases hlive r l1 h1 with⟨rfl,rfl⟩|⟨h1,n1,m1⟩
   ·rcases hb k k1 with h3|⟨r0,l0,q1,q2,q3⟩
    ·exact⟨h3.2,fun h=>by have:=hw.low k h;omega,hw.new k h3.1⟩
    ·have:=hw.own r0 l0 k q2 q3;exact⟨qq this.1 hext.size,this.2⟩
   ·have:=hw.own r l1 k h1 k1;exact⟨qq this.1 hext.size,this.2⟩
  ·intro r l1 h1
   rcases hlive r l1 h1 with⟨rfl,rfl⟩|⟨h1,n1,m1⟩
   ·exact Or.inr rfl
   ·exact Or.inl (hw.given r l1 h1)
 have hkeep:∀x y,e8 w (Sx S0 ρ) ρ L x y->e8 w' (Sx S0 (W0 ρ N l' kill)) (W0 ρ N l' kill) (fun r=>L r∨r=N) x y:=by
  intro x y k;refine k.ext hext.size (fun c hc hn=>⟨hext.block c hc ?_,?_⟩) (fun r=>Or.inl) ?_
  ·rintro⟨r,l,_,h1,h2⟩;exact hn (Or.inr ⟨r,l,h1,h2⟩)
  ·rintro(h1|⟨r,l,h1,h2⟩)
   ·exact hn (Or.inl h1)
   ·rcases hlive r l h1 with⟨rfl,rfl⟩|⟨h1,_,_⟩
    ·rcases hb c h2 with h3|⟨r0,l0,q1,q2,q3⟩
     ·omega
     ·exact hn (Or.inr ⟨r0,l0,q2,q3⟩)
    ·exact hn (Or.inr ⟨r,l,h1,h2⟩)
  ·intro r l hr hl
   rcases hlive r l hl with⟨rfl,rfl⟩|⟨h1,_,_⟩
   ·exact absurd hr hN
   ·exact h1
 obtain⟨hav,n8⟩:=hrep _ _ rfl rfl hkeep;refine {wf:=hwf.more hLL,rep:=hav.ext (qo _) (fun b _ hn=>⟨rfl,hn⟩) hLL (fun r l _ hl=>hl),ups:= ?_,others:= ?_,only:= ?_,ext:=hext.mono ?_}
 ·intro r q hm;simp only[Q1,List.mem_append,List.mem_singleton,qr]at hm
  rcases hm with hm|⟨rfl,rfl⟩
  ·cases hk:kill with
   |none=>rw[hk]at hm;cases hm
   |some r0=>
    rw[hk]at hm;simp only[a8Y,List.mem_singleton,qr]at hm;obtain⟨rfl,rfl⟩:=hm;show(if r=N then some l' else if some r=some r then none else ρ r)=none;rw[if_neg (hkN r hk),if_pos rfl]
  ·exact⟨l',by simp[W0],n8.ext (qo _) (fun b _ hn=>⟨rfl,hn⟩) hLL (fun r l _ hl=>hl) (fun _ _=>rfl)⟩
 ·intro r hr;have h1:r≠N:=by rintro rfl;exact hr (some (.els sz (b++s))) (by simp[Q1])
  have h2:kill≠some r:=by rintro hk;exact hr none (by simp[Q1,hk,a8Y])
  simp[W0,h1,h2]
 ·intro r l h1
  rcases hlive r l h1 with⟨rfl,rfl⟩|⟨h1,_,_⟩
  ·refine Or.inr ⟨qo _,⟨_,by simp[Q1];exact Or.inr rfl⟩,fun c hc=>?_⟩
   rcases hb c hc with h3|⟨r0,l0,q1,q2,q3⟩
   ·exact Or.inl h3.1
   ·exact Or.inr ⟨r0,l0,q2,q3⟩
  ·exact Or.inl h1
 ·rintro k hk ⟨r,l,h1,h2,h3⟩;exact⟨r,l,none,by simp[Q1,h1,a8Y],h2,h3⟩
theorem a3G {w:World} {t ty e:TypeId} {sz g off sLen sCap:Nat} {cur:Array Value} {ct:TypeId} {a:Option Addr} {m c:Nat} {news:List Value} (ht:P.underlying t=some (.slice e)) (he:d6 P e≠ .bad) (hes:(d6 P e).size=sz)
  (hg:w.heap[g]?=some (.cells cur ct (0,0))) (hl:news.length=m*sz) (hnews:m=0∨∃b o,a=some ⟨b,o,none⟩/\∀(j:Nat) u,news[j]?=some u->w.cell? ⟨b,o+j,none⟩=some u) (h1:∀u∈news,u.oneCell'=true)
  (hroom:sLen+m<=sCap) (hfit:off+sLen*sz+news.length<=cur.size):
  (Builtin.append_ #[t,t] ty #[.slice (some ⟨g,off,none⟩) sLen sCap, .slice a m c]).run P w=
   .ok (.slice (some ⟨g,off,none⟩) (sLen+m) sCap) (w.setRow g (cur.toList.take (off+sLen*sz)++news++cur.toList.drop (off+sLen*sz+news.length)).toArray):=by
 obtain⟨i,hi,hi2,_⟩:=X5 (P:=P) (t:=e) (w:=w) he;rw[hes]at hi2;have hf:(Builtin.firstCells i.size m (.slice a m c)).run P w= .ok news.toArray w:=by
  rcases hnews with rfl|⟨b,o,rfl,hn⟩
  ·have:news=[]:=by apply List.eq_nil_of_length_eq_zero;rw[hl];simp
   subst this
   cases a with
   |none=>exact run_firstCells_none (P:=P) w _ _ _ _
   |some a=>exact run_firstCells_some (P:=P) w _ 0 a 0 c [] (by simp) (by simp)
  ·exact run_firstCells_some (P:=P) w i.size m ⟨b,o,none⟩ m c news (by rw[hl,hi2]) (by intro j u hj;rw[Addr.add_lit];exact hn j u hj)
 rw[hi2]at hf;have hst:=run_storeCells_at P g (off+sLen*sz) ct news 0 cur w hg (by simpa using hfit) h1;simp only[Nat.add_zero]at hst;simp only[List.append_assoc]at hst ⊢;simp[Builtin.append_,run_underlying ht,sizeOf,typeInfo,hi,Builtin.lenOf,hroom,hf,Addr.add_lit,hi2,hst]
end
end Go.AM
namespace Go.AM
section
variable {P:Program} {o:Oper} {ev:Operand->AV} {H:Nat->Option n9} {N:Nat}
def b2z (w:World) (S:Nat->Prop) (ρ:Nat->Option Loc) (L:Nat->Prop) (cs:List AV) (vs:List Value):Prop:=
 vs.length=cs.length/\∀(j:Nat) c u,cs[j]?=some c->vs[j]?=some u->u.oneCell'=true/\e8 w S ρ L c u
theorem c0P.vs {w:World} {S:Nat->Prop} {ρ:Nat->Option Loc} {L:Nat->Prop} {sz:Nat} {els:List (List AV)} {ad:Option Addr} (h:c0P w S ρ L sz els ad):
  ∃vs:List Value,b2z w S ρ L els.flatten vs/\vs.length=els.length*sz/\(els.length=0∨∃b o,ad=some ⟨b,o,none⟩/\∀(j:Nat) u,vs[j]?=some u->w.cell? ⟨b,o+j,none⟩=some u)/\∀u∈vs,u.oneCell'=true:=by
 obtain⟨h1,h2⟩:=h
 rcases h2 with rfl|⟨b,off,vs,rfl,hl,hv,hr⟩
 ·exact⟨[],⟨rfl,by simp⟩,by simp,Or.inl rfl,by simp⟩
 ·refine⟨vs,⟨by rw[j4 h1,hl],fun j c u hc hu=>⟨(hv j u hu).2,hr j c u hc hu⟩⟩,hl,Or.inr ⟨b,off,rfl,fun j u hu=>(hv j u hu).1⟩,fun u hu=>?_⟩;obtain⟨j,hj,rfl⟩:=List.getElem_of_mem hu;exact(hv j _ (qc hj)).2
theorem a2F {w':World} {S':Nat->Prop} {ρ':Nat->Option Loc} {L':Nat->Prop} {sz g off:Nat} {b s:List (List AV)} {olds news:List Value} {c:Array Value} {t:TypeId}
  (hb:∀e∈b,e.length=sz) (hs:∀e∈s,e.length=sz) (hold:b2z w' S' ρ' L' b.flatten olds) (hnew:b2z w' S' ρ' L' s.flatten news)
  (hheap:w'.heap[g]?=some (.cells c t (0,0))) (hcells:∀(j:Nat) u,(olds++news)[j]?=some u->c[off+j]?=some u) (hfit:off+(b.length+s.length)*sz<=c.size):
  i7 w' S' ρ' L' ⟨some g,off,sz,c.size⟩ (.els sz (b++s)):=by
 refine⟨rfl,?_,by simp,fun k hk=>?_⟩
 ·intro e he
  rcases List.mem_append.1 he with h|h
  ·exact hb e h
  ·exact hs e h
 ·simp only[qb]at hk;subst hk;refine⟨c,t,hheap,rfl,by simpa using hfit,fun j av hj=>?_⟩;rw[List.flatten_append,List.getElem?_append]at hj
  split at hj
  ·rename_i hlt;have hlt':j<olds.length:=by rw[hold.1];exact hlt
   obtain⟨q1,q2⟩:=hold.2 j av _ hj (qc hlt');exact⟨_,hcells j _ (by rw[qw hlt'];exact qc hlt'),q1,q2⟩
  ·rename_i hge;have hlt:j-b.flatten.length<s.flatten.length:=(qa.1 hj).1;have hlt':j-b.flatten.length<news.length:=by rw[hnew.1];exact hlt
   obtain⟨q1,q2⟩:=hnew.2 _ av _ hj (qc hlt');refine⟨_,hcells j _ ?_,q1,q2⟩;rw[qv (by rw[hold.1];omega),hold.1];exact qc hlt'
theorem b2z.keep {w w':World} {S S':Nat->Prop} {ρ ρ':Nat->Option Loc} {L L':Nat->Prop} {cs:List AV} {vs:List Value} (h:b2z w S ρ L cs vs)
  (hk:∀x y,e8 w S ρ L x y->e8 w' S' ρ' L' x y):b2z w' S' ρ' L' cs vs:=⟨h.1,fun j c u h1 h2=>⟨(h.2 j c u h1 h2).1,hk _ _ (h.2 j c u h1 h2).2⟩⟩
theorem a8l {w:World} {S:Nat->Prop} {ρ:Nat->Option Loc} {L:Nat->Prop} {sz:Nat} {els:List (List AV)} {y:Value} (h:e8 w S ρ L (.full sz els) y):
  ∃b off,y= .slice (some ⟨b,off,none⟩) els.length els.length/\c0P w S ρ L sz els (some ⟨b,off,none⟩):=by
 cases h with
 | pure _ _ h=>cases h with
  |full _ _ b0 o0 vs hS hlt hel hl hv hrep=>
   exact⟨b0,o0,rfl,hel,Or.inr ⟨b0,o0,vs,rfl,by rw[<-hl,j4 hel],hv,fun j c u h1 h2=> .pure _ _ (hrep j c u h1 h2)⟩⟩
theorem b4r {t ty e:TypeId} {x y:Operand} {sz:Nat} {b s:List (List AV)} {kill:Option Nat} {rd:List Nat} (ho:o.op= .call {callee:= .builtin .append,args:= #[x,y],argTypes:= #[t,t]})
  (ht:d6 P t= .slice e) (he:(d6 P e).size=sz) (hsz:sz≠0) (hs:a5K H sz (ev y)=some (s,rd)) (hb:a7d H sz s (ev x)=some (b,kill))
  (hbig:(b.length+s.length)*(P.bytesOf e+1)<=140737488355328):p6 P o ev H N (Q1 N sz b s kill rd):=by
 obtain⟨info,q1,q2,_⟩:=o6 ht;have hbad:d6 P e≠ .bad:=by intro h;rw[h]at he;exact hsz he.symm
 intro B S0 a w ρ L hw hN hops hrd K Q hK
 replace hN:¬L N:=hN N (qo _) ⟨some (.els sz (b++s)),by simp[Q1]⟩
 obtain⟨ie,hie,hie2,hie3⟩:=X5 (P:=P) (t:=e) (w:=w) hbad;obtain⟨z,hz⟩:=Option.isSome_iff_exists.1 hie3;have hzsz:z.cells.size=sz:=by
  obtain⟨z',r1,r2,r3,_⟩:=a0F (P:=P) (t:=e) (w:=w) hbad;have:(zeroValue e).run P w= .ok z w:=by simp[zeroValue,typeInfo,hie,hz]
  rw[this]at r1;simp only[Result.ok.injEq]at r1;obtain⟨rfl,_⟩:=r1;rw[<-Array.length_toList,r2,r3,he]
 have hbytes:P.bytesOf e=ie.bytes:=by simp[Program.bytesOf,hie]
 rw[Nat.mul_add,Nat.mul_one,hbytes]at hbig;have hx:=hops x (by simp[ho,Op.operands,Call.operands]);have hy:=hops y (by simp[ho,Op.operands,Call.operands]);obtain⟨ad,cap2,hyv,hlies⟩:=c0d hsz hs hy (fun r hr=>hrd r (by simp[Q1,hr]));obtain⟨news,n1,n2,n3,n4⟩:=hlies.vs;have hexec:∀v w',(Builtin.append_ #[t,t] o.type #[a.eval x,a.eval y]).run P w= .ok v w'->(execOp a.eval o).run P w= .ok (.value v) w':=by
  intro v w' h;simp[execOp,ho,resolve,invoke,builtin,h]
 have hend:∀v w' ρ',(Builtin.append_ #[t,t] o.type #[a.eval x,a.eval y]).run P w= .ok v w'->a3D B S0 w ρ L N (Q1 N sz b s kill rd) w' ρ' v->o.wp P a w K Q:=by
  intro v w' ρ' h1 h2;unfold Oper.wp;rw[hexec v w' h1];exact hK v w' ρ' h2
 have hnil:a.eval x= .slice none 0 0->b=[]->(∀r,kill=some r->∃l,ρ r=some l)->o.wp P a w K Q:=by
  intro hxv hb0 hkill;subst hb0
  by_cases hs0:s.length=0
  ·have hsn:s=[]:=List.eq_nil_of_length_eq_zero hs0;subst hsn;refine hend (.slice none 0 0) w (W0 ρ N ⟨none,0,sz,0⟩ kill) ?_ (a1F hw hN hkill (by intro k hk;cases hk) (Ext.refl _ _) ?_)
   ·have:(Builtin.firstCells ie.size 0 (.slice ad 0 cap2)).run P w= .ok #[] w:=by
     cases ad with
     |none=>exact run_firstCells_none (P:=P) w _ _ _ _
     |some ad=>exact run_firstCells_some (P:=P) w _ 0 ad 0 cap2 [] (by simp) (by simp)
    rw[hxv,hyv];simp[Builtin.append_,run_underlying q2,sizeOf,typeInfo,hie,Builtin.lenOf,this]
   ·rintro ρ' L' rfl rfl hk;refine⟨.row _ _ _ _ (Or.inr rfl) rfl (fun l hl=>?_),rfl,by simp,by simp,by intro k hk;cases hk⟩;simp only[W0,if_true,qb]at hl;subst hl;exact⟨fun _=>⟨rfl,rfl,rfl⟩,fun k hk=>by cases hk⟩
  ·obtain⟨b2,o2,rfl,n3'⟩:=n3.resolve_left hs0;have hrun:=run_append_nil (P:=P) w t o.type e ie z q2 hie hz ⟨b2,o2,none⟩ s.length cap2 news (by rw[n2,hie2,he]) (by intro j u hj;rw[Addr.add_lit];exact n3' j u hj) (by omega) (by simp at hbig;omega) (by simp at hbig;omega);have hC:=grownCap_ge w s.length 0 e;refine hend _ _ (W0 ρ N ⟨some w.heap.size,0,sz,(news.toArray++Builtin.zeroCells z.cells (grownCap w s.length 0 e-s.length)).size⟩ kill) (by rw[hxv,hyv];exact hrun) (a1F hw hN hkill ?_ ?_ ?_)
   ·intro k hk;simp only[qb]at hk;subst hk;left;exact⟨qo _,by show _<(w.heap.push _).size;simp⟩
   ·exact Ext.of_same rfl rfl rfl (by show _<=(w.heap.push _).size;simp) fun k hk=>by show(w.heap.push _)[k]?=_;rw[Array.getElem?_push,if_neg (by omega)]
   ·rintro ρ' L' rfl rfl hk;have hcsz:(news.toArray++Builtin.zeroCells z.cells (grownCap w s.length 0 e-s.length)).size=grownCap w s.length 0 e*sz:=by
     rw[Array.size_append,size_zeroCells,hzsz,List.size_toArray,n2,<-Nat.add_mul];congr 1;omega
    refine⟨.row _ _ _ _ (Or.inr rfl) rfl (fun l hl=>?_),a2F (olds:=[]) (news:=news) (t:=e) (by simp) hlies.1 ⟨rfl,by simp⟩ (n1.keep hk) (by show(w.heap.push _)[w.heap.size]?=_;simp) ?_ ?_⟩
    ·simp only[W0,if_true,qb]at hl;subst hl;refine⟨fun h=>(by cases h),fun k hk=>?_⟩;simp only[qb]at hk;subst hk;refine⟨0,grownCap w s.length 0 e,by simp,by simpa using hC,Or.inr ⟨by simp,?_⟩⟩;simp only[Nat.zero_add];rw[hcsz];exact qo _
    ·intro j u hj;simp only[List.nil_append,Nat.zero_add]at hj ⊢;have hjl:j<news.length:=(qa.1 hj).1;rw[Array.getElem?_append_left (by simpa using hjl)];simpa using hj
    ·rw[hcsz];simp only[List.length_nil,Nat.zero_add];exact Nat.mul_le_mul_right _ hC
 have hgrow:∀(ab:Option Addr) (cap:Nat),a.eval x= .slice ab b.length cap->b.length<=cap->c0P w (Sx S0 ρ) ρ L sz b ab->cap<b.length+s.length->(∃b0 o0,ab=some ⟨b0,o0,none⟩)->(∀r,kill=some r->∃l,ρ r=some l)->o.wp P a w K Q:=by
  rintro ab cap hxv hle hlb hcap ⟨b0,o0,rfl⟩ hkill;obtain⟨olds,m1,m2,m3,m4⟩:=hlb.vs
  by_cases hs0:s.length=0
  ·
   omega
  ·obtain⟨b2,o2,rfl,n3'⟩:=n3.resolve_left hs0;have hfit:Builtin.nextslicecap (b.length+s.length) cap*ie.bytes<=281474976710656:=growslice_fits hcap (by omega);have hrun:=run_append_grow (P:=P) w t o.type e ie z q2 hie hz ⟨b0,o0,none⟩ b.length cap olds (by rw[m2,hie2,he]) (by
    intro j u hj;rw[Addr.add_lit]
    rcases m3 with h0|⟨b',o',h',m3'⟩
    ·have:olds=[]:=List.eq_nil_of_length_eq_zero (by rw[m2,h0];simp);subst this;simp at hj
    ·simp only[qb,Addr.mk.injEq]at h';obtain⟨rfl,rfl,_⟩:=h';exact m3' j u hj) ⟨b2,o2,none⟩ s.length cap2 news (by rw[n2,hie2,he]) (by intro j u hj;rw[Addr.add_lit];exact n3' j u hj) hcap (by omega) hfit
   have hC:=grownCap_ge w (b.length+s.length) cap e;refine hend _ _ (W0 ρ N ⟨some w.heap.size,0,sz,(olds.toArray++news.toArray++Builtin.zeroCells z.cells (grownCap w (b.length+s.length) cap e-(b.length+s.length))).size⟩ kill) (by rw[hxv,hyv];exact hrun) (a1F hw hN hkill ?_ ?_ ?_)
   ·intro k hk;simp only[qb]at hk;subst hk;left;exact⟨qo _,by show _<(w.heap.push _).size;simp⟩
   ·exact Ext.of_same rfl rfl rfl (by show _<=(w.heap.push _).size;simp) fun k hk=>by show(w.heap.push _)[k]?=_;rw[Array.getElem?_push,if_neg (by omega)]
   ·rintro ρ' L' rfl rfl hk;have hcsz:(olds.toArray++news.toArray++Builtin.zeroCells z.cells (grownCap w (b.length+s.length) cap e-(b.length+s.length))).size=grownCap w (b.length+s.length) cap e*sz:=by
     rw[Array.size_append,Array.size_append,size_zeroCells,hzsz,List.size_toArray,List.size_toArray,m2,n2,<-Nat.add_mul,<-Nat.add_mul];congr 1;omega
    refine⟨.row _ _ _ _ (Or.inr rfl) rfl (fun l hl=>?_),a2F (olds:=olds) (news:=news) (t:=e) hlb.1 hlies.1 (m1.keep hk) (n1.keep hk) (by show(w.heap.push _)[w.heap.size]?=_;simp) ?_ ?_⟩
    ·simp only[W0,if_true,qb]at hl;subst hl;refine⟨fun h=>(by cases h),fun k hk=>?_⟩;simp only[qb]at hk;subst hk;refine⟨0,grownCap w (b.length+s.length) cap e,by simp,by simpa using hC,Or.inr ⟨by simp,?_⟩⟩;simp only[Nat.zero_add];rw[hcsz];exact qo _
    ·intro j u hj;simp only[Nat.zero_add];have hjl:j<(olds++news).length:=(qa.1 hj).1;rw[Array.getElem?_append_left (by simpa using hjl)];simpa using hj
    ·rw[hcsz];simp only[Nat.zero_add];exact Nat.mul_le_mul_right _ hC
 unfold a7d at hb
 split at hb
 ·rename_i heq;simp only[qb,qr]at hb;obtain⟨rfl,rfl⟩:=hb;rw[heq]at hx;exact hnil (j5 hx) rfl (by intro r hr;cases hr)
 ·rename_i s' els heq
  split at hb
  ·rename_i hc;obtain⟨hse,hne⟩:=hc
   replace hse:=hse.symm
   subst hse;simp only[qb,qr]at hb;obtain⟨rfl,rfl⟩:=hb;rw[heq]at hx;have hslen:0<s.length:=by cases s with|nil=>exact absurd rfl hne|cons _ _=>simp
   obtain⟨b0,o0,hxv,hl⟩:=a8l hx;exact hgrow _ _ hxv (qo _) hl (by omega) ⟨b0,o0,rfl⟩ (by intro r hr;cases hr)
  ·cases hb
 ·rename_i r i n heq
  split at hb
  ·rename_i s' es hH
   split at hb
   ·rename_i hc;obtain⟨hse,hin⟩:=hc
    replace hse:=hse.symm
    subst hse;simp only[qb,qr]at hb;obtain⟨rfl,rfl⟩:=hb;obtain⟨l,hl,n8⟩:=hrd r (by simp[Q1,a9r]) _ hH;have hkill:∀r',some r=some r'->∃l,ρ r'=some l:=by rintro r' h;simp only[qb]at h;subst h;exact⟨l,hl⟩
    have hlen:((es.drop i).take n).length=n:=by rw[qm,qx,Nat.min_eq_left];omega
    rw[heq]at hx
    cases hx with
    |pure _ _ h=>cases h
    | row _ _ _ yv g1 g2 g3=>
     obtain⟨g4,g5⟩:=g3 l hl
     cases hlb:l.b with
     |none=>
      obtain⟨hxv,rfl,rfl⟩:=g4 hlb;exact hnil hxv (by simp) hkill
     | some g=>
      obtain⟨off,cap,hxv,hcap,hoff⟩:=g5 g hlb;have hlies':=a3N n8 hsz hin hlb
      by_cases hroom:n+s.length<=cap
      ·
       obtain⟨h1,h2,h3,h4⟩:=n8;obtain⟨cur,ct,k1,k2,k3,k4⟩:=h4 g hlb
       by_cases hc0:cap=0
       ·have hn0:n=0:=by omega
        have hs0:s.length=0:=by omega
        have hsn:s=[]:=List.eq_nil_of_length_eq_zero hs0;subst hsn;subst hn0;subst hc0;refine hend (.slice (some ⟨g,off,none⟩) 0 0) w (W0 ρ N ⟨some g,l.o,sz,l.m⟩ (some r)) ?_ (a1F hw hN hkill ?_ (Ext.refl _ _) ?_)
        ·have:(Builtin.firstCells ie.size 0 (.slice ad 0 cap2)).run P w= .ok #[] w:=by
          cases ad with
          |none=>exact run_firstCells_none (P:=P) w _ _ _ _
          |some ad=>exact run_firstCells_some (P:=P) w _ 0 ad 0 cap2 [] (by simp) (by simp)
         rw[hxv,hyv];simp[Builtin.append_,run_underlying q2,sizeOf,typeInfo,hie,Builtin.lenOf,this,storeCells]
        ·intro k hk;simp only[qb]at hk;subst hk;exact Or.inr ⟨r,l,rfl,hl,hlb⟩
        ·rintro ρ' L' rfl rfl hk;refine⟨.row _ _ _ _ (Or.inr rfl) rfl (fun l' hl'=>?_),rfl,by simp,by simp,?_⟩
         ·simp only[W0,if_true,qb]at hl';subst hl';refine⟨fun h=>(by cases h),fun k hk=>?_⟩;simp only[qb]at hk;subst hk;exact⟨off,0,by simp,by simp,Or.inl rfl⟩
         ·intro k hk;simp only[qb]at hk;subst hk;exact⟨cur,ct,k1,k2,by simp;omega,by simp⟩
       ·obtain⟨rfl,hoff2⟩:=hoff.resolve_left hc0;obtain⟨olds,m1,m2,m3,m4⟩:=hlies'.vs;rw[hlen]at m2;have hmul:(i+cap)*sz=i*sz+cap*sz:=Nat.add_mul _ _ _;have hmul2:(n+s.length)*sz<=cap*sz:=Nat.mul_le_mul_right _ hroom;have hmul3:(n+s.length)*sz=n*sz+s.length*sz:=Nat.add_mul _ _ _;rw[h1]at hoff2;have hfit:l.o+i*sz+n*sz+news.length<=cur.size:=by rw[n2];omega
        have hrun:=a3G (P:=P) (w:=w) (t:=t) (ty:=o.type) (a:=ad) (c:=cap2) q2 hbad he k1 (by rw[n2]) (by
         rcases n3 with h0|h0
         ·exact Or.inl h0
         ·exact Or.inr h0) n4 hroom hfit
        have hsize:(cur.toList.take (l.o+i*sz+n*sz)++news++cur.toList.drop (l.o+i*sz+n*sz+news.length)).toArray.size=cur.size:=by
         simp only[List.size_toArray,List.length_append,qm,qx,Array.length_toList];omega
        refine hend _ _ (W0 ρ N ⟨some g,l.o+i*sz,sz,(cur.toList.take (l.o+i*sz+n*sz)++news++cur.toList.drop (l.o+i*sz+n*sz+news.length)).toArray.size⟩ (some r)) (by rw[hxv,hyv,h1];exact hrun) (a1F hw hN hkill ?_ ?_ ?_)
        ·intro k hk;simp only[qb]at hk;subst hk;exact Or.inr ⟨r,l,rfl,hl,hlb⟩
        ·refine⟨rfl,rfl,rfl,by simp[World.setRow],fun k hk hm=>?_,fun k c t s hc=>?_⟩
         ·simp only[World.setRow,Array.getElem?_modify];rw[if_neg];rintro rfl;exact hm ⟨r,l,rfl,hl,hlb⟩
         ·by_cases e:k=g
          ·subst e;rw[k1]at hc;obtain⟨rfl,rfl,rfl⟩:cur=c/\ct=t/\(0,0)=s:=by simpa using hc
           exact⟨_,_,_,setRow_heap w k cur _ ct (0,0) k1,hsize⟩
          ·exact⟨c,t,s,by simp only[World.setRow,Array.getElem?_modify];rw[if_neg (fun h=>e h.symm)];exact hc,rfl⟩
        ·rintro ρ' L' rfl rfl hk;refine⟨.row _ _ _ _ (Or.inr rfl) rfl (fun l' hl'=>?_),a2F (olds:=olds) (news:=news) (t:=ct) hlies'.1 hlies.1 (m1.keep hk) (n1.keep hk) (setRow_heap w g cur _ ct (0,0) k1) ?_ ?_⟩
         ·simp only[W0,if_true,qb]at hl';subst hl';refine⟨fun h=>(by cases h),fun k hk=>?_⟩;simp only[qb]at hk;subst hk;refine⟨_,cap,by rw[hlen],by rw[hlen];exact hroom,Or.inr ⟨by simp,?_⟩⟩;rw[hsize];simp only[Nat.zero_add];omega
         ·intro j u hj;rw[List.getElem?_append]at hj;have hbig':l.o+i*sz+n*sz<=cur.toList.length:=by simp;omega
          simp only[List.getElem?_toArray];rw[List.append_assoc,List.getElem?_append,qm,Nat.min_eq_left hbig']
          split at hj
          ·rename_i hjl;rw[m2]at hjl;rw[if_pos (by omega),qk,if_pos (by omega)]
           rcases m3 with h0|⟨b',o',h',m3'⟩
           ·rw[hlen]at h0;subst h0;simp at hjl
           ·simp only[qb,Addr.mk.injEq]at h';obtain⟨rfl,rfl,_⟩:=h';have:=m3' j u hj;simp only[World.cell?,k1,Option.isSome_none,Bool.false_eq_true,if_false]at this;rw[Array.getElem?_toList];exact this
          ·rename_i hjl;rw[m2]at hjl hj;rw[if_neg (by omega),qw (by have:=(qa.1 hj).1;omega)];rw[show l.o+i*sz+j-(l.o+i*sz+n*sz)=j-n*sz by omega];exact hj
         ·rw[hsize,hlen];omega
      ·
       by_cases hn0:n=0
       ·
        subst hn0;refine hgrow (some ⟨g,off,none⟩) cap (by rw[hlen];exact hxv) (by rw[hlen];exact hcap) ⟨by simp,Or.inl (by simp)⟩ (by rw[hlen];omega) ⟨g,off,rfl⟩ hkill
       ·obtain⟨rfl,_⟩:=hoff.resolve_left (by omega);refine hgrow (some ⟨g,l.o+i*l.sz,none⟩) cap (by rw[hlen];exact hxv) (by rw[hlen];exact hcap) (by rw[n8.1];exact hlies') (by rw[hlen];omega) ⟨g,_,rfl⟩ hkill
   ·cases hb
  ·cases hb
 ·cases hb
theorem a5y {t ty e:TypeId} {x y:Operand} {sz:Nat} {els:List (List AV)} {rd:List Nat} (ho:o.op= .call {callee:= .builtin .append,args:= #[x,y],argTypes:= #[t,t]})
  (ht:d6 P t= .slice e) (he:(d6 P e).size=sz) (hsz:sz≠0) (hs:a5K H sz (ev y)=some ([],rd)) (hx:ev x= .full sz els):p6 P o ev H N ⟨.full sz els,[],rd⟩:=by
 obtain⟨info,q1,q2,_⟩:=o6 ht;have hbad:d6 P e≠ .bad:=by intro h;rw[h]at he;exact hsz he.symm
 refine p6.of_pure fun B S0 a w ρ L hw hops hrd=>?_;obtain⟨ie,hie,hie2,hie3⟩:=X5 (P:=P) (t:=e) (w:=w) hbad;have hxr:=hops x (by simp[ho,Op.operands,Call.operands]);have hyr:=hops y (by simp[ho,Op.operands,Call.operands]);rw[hx]at hxr;obtain⟨ad,cap2,hyv,hlies⟩:=c0d hsz hs hyr hrd;obtain⟨b,off,hxv,_⟩:=a8l hxr;refine⟨a.eval x,Or.inl ?_,hxr⟩;have hf:(Builtin.firstCells ie.size 0 (.slice ad 0 cap2)).run P w= .ok #[] w:=by
  cases ad with
  |none=>exact run_firstCells_none (P:=P) w _ _ _ _
  |some ad=>exact run_firstCells_some (P:=P) w _ 0 ad 0 cap2 [] (by simp) (by simp)
 have hrun:(Builtin.append_ #[t,t] o.type #[a.eval x,a.eval y]).run P w= .ok (a.eval x) w:=by
  rw[hxv,hyv];simp[Builtin.append_,run_underlying q2,sizeOf,typeInfo,hie,Builtin.lenOf,hf,storeCells]
 simp[execOp,ho,resolve,invoke,builtin,hrun]
end
end Go.AM
end
