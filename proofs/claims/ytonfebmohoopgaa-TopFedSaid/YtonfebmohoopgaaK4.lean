import Derived.Test.YtonfebmohoopgaaK3
import Derived.Test.YtonfebmohoopgaaProg
set_option maxRecDepth 100000
set_option maxHeartbeats 8000000
set_option linter.unusedVariables false
set_option linter.unusedSimpArgs false
section
namespace Go.Cur
open Go.AM Go.Proofs Go.Tram
section
variable {P:Program}
theorem shaped_slice {n:Nat} {t e:TypeId} {avs:List AV} (hk:ktOf P t=none) (ht:tdOf P t= .slice e) (h:Shaped P (n+1) t avs):∃els,avs=[.lst (tdOf P e).size els]∧els.length≤maxLen∧∀el∈els,Shaped P n e el:=by
 simp only[Shaped,hk,ht]at h;exact h
theorem shaped_agg {n:Nat} {t:TypeId} {z:List Value} {fs:List (Nat×Nat×TypeId)} {avs:List AV} (hk:ktOf P t=none) (ht:tdOf P t= .agg z fs) (h:Shaped P (n+1) t avs):avs.length=z.length∧∀f∈fs,Shaped P n f.2.2 ((avs.drop f.1).take f.2.1):=by
 simp only[Shaped,hk,ht]at h;exact h
theorem shaped_int {n:Nat} {t:TypeId} {k:IntKind} {avs:List AV} (hk:ktOf P t=some (.i k)) (h:Shaped P (n+1) t avs):∃m,avs=[.v (.int k m)]∧(Lit.int k m).wf=true:=by
 simp only[Shaped,hk]at h;exact h
theorem shaped_bool {n:Nat} {t:TypeId} {avs:List AV} (hk:ktOf P t=some .b) (h:Shaped P (n+1) t avs):∃b,avs=[.v (.bool b)]:=by
 simp only[Shaped,hk]at h;exact h
end
theorem list_of {α:Type} {c:α→List AV} {R:α→Prop}:∀{els:List (List AV)},(∀el∈els,∃a,el=c a∧R a)→∃l:List α,els=l.map c∧∀a∈l,R a
 |[],_=>⟨[],rfl,by simp⟩
 |e::els,h=>by
  obtain⟨a,rfl,ha⟩:=h e (List.mem_cons_self ..);obtain⟨l,rfl,hl⟩:=list_of (els:=els) (c:=c) (R:=R) (fun el hel=>h el (List.mem_cons_of_mem _ hel));refine⟨a::l,rfl,fun b hb=>?_⟩
  rcases List.mem_cons.1 hb with rfl|hb
  ·exact ha
  ·exact hl b hb
theorem und_intN:(Try.prog).underlying 3=some (.int .i64):=by kernel_rfl
theorem und_bool2:(Try.prog).underlying 4=some .bool:=by kernel_rfl
theorem k_int:ktOf Try.prog 3=some (.i .i64):=by kernel_rfl
theorem k_bool:ktOf Try.prog 4=some .b:=by kernel_rfl
def I64 (n:Int):Prop:=-9223372036854775808≤n∧n≤9223372036854775807
theorem wf_i64 {m:Int} (h:(Lit.int .i64 m).wf=true):I64 m:=by
 simpa [Lit.wf,IntKind.min,IntKind.max,IntKind.signed,IntKind.bits,I64]using h
theorem sh_int {n:Nat} {avs:List AV} (h:Shaped Try.prog (n+1) 3 avs):∃m,avs=[I m]∧I64 m:=by
 obtain⟨m,h1,h2⟩:=shaped_int k_int h;exact⟨m,h1,wf_i64 h2⟩
theorem list2 {α:Type} {l:List α} (h:l.length=2):∃a b,l=[a,b]:=by match l,h with|[a,b],_=>exact⟨a,b,rfl⟩
theorem list4 {α:Type} {l:List α} (h:l.length=4):∃a b c d,l=[a,b,c,d]:=by match l,h with|[a,b,c,d],_=>exact⟨a,b,c,d,rfl⟩
theorem sh_bl {n:Nat} {avs:List AV} (h:Shaped Try.prog (n+1) 4 avs):∃b,avs=bCell b:=shaped_bool k_bool h
theorem sh_bools {n:Nat} {avs:List AV} (h:Shaped Try.prog (n+2) 26 avs):∃l:List Bool,avs=[bL l]∧l.length≤maxLen:=by
 obtain⟨els,hl,hb,he⟩:=shaped_slice (by kernel_rfl) td26 h;obtain⟨l,rfl,hR⟩:=list_of (c:=bCell) (R:=fun _=>True) (fun el hel=>by obtain⟨b,h⟩:=sh_bl (he el hel);exact⟨b,h,trivial⟩);simp at hl hb;exact⟨l,hl,hb⟩
theorem sh_wire {n:Nat} {avs:List AV} (h:Shaped Try.prog (n+2) 64 avs):∃s:Wr,avs=s.cells:=by
 obtain⟨h1,h2⟩:=shaped_agg (by kernel_rfl) td64 h;obtain⟨a,b,c,d,rfl⟩:=list4 h1;obtain⟨x,hx,_⟩:=sh_int (h2 (0,1,3) (by simp));obtain⟨y,hy,_⟩:=sh_int (h2 (1,1,3) (by simp));obtain⟨z,hz,_⟩:=sh_int (h2 (2,1,3) (by simp));obtain⟨u,hu⟩:=sh_bl (h2 (3,1,4) (by simp));simp at hx hy hz hu;subst hx hy hz hu;exact⟨⟨x,y,z,u⟩,rfl⟩
theorem sh_feed {n:Nat} {avs:List AV} (h:Shaped Try.prog (n+2) 60 avs):∃s:Fd,avs=s.cells:=by
 obtain⟨h1,h2⟩:=shaped_agg (by kernel_rfl) td60 h;obtain⟨a,b,c,d,rfl⟩:=list4 h1;obtain⟨x,hx,_⟩:=sh_int (h2 (0,1,3) (by simp));obtain⟨y,hy,_⟩:=sh_int (h2 (1,1,3) (by simp));obtain⟨z,hz,_⟩:=sh_int (h2 (2,1,3) (by simp));obtain⟨u,hu,_⟩:=sh_int (h2 (3,1,3) (by simp));simp at hx hy hz hu;subst hx hy hz hu;exact⟨⟨x,y,z,u⟩,rfl⟩
theorem sh_grid {n:Nat} {avs:List AV} (h:Shaped Try.prog (n+4) 25 avs):∃g:Gr,avs=g.cells∧g.Wires.length≤maxLen∧g.Feeds.length≤maxLen:=by
 obtain⟨h1,h2⟩:=shaped_agg (by kernel_rfl) td25 h;obtain⟨a,b,c,d,rfl⟩:=list4 h1;obtain⟨x,hx,_⟩:=sh_int (h2 (0,1,3) (by simp));obtain⟨e1,hl1,b1,he1⟩:=shaped_slice (by kernel_rfl) td22 (h2 (1,1,22) (by simp));obtain⟨l1,rfl,_⟩:=list_of (c:=Wr.cells) (R:=fun _=>True) (fun el hel=>by obtain⟨b,h⟩:=sh_wire (he1 el hel);exact⟨b,h,trivial⟩);obtain⟨e2,hl2,b2,he2⟩:=shaped_slice (by kernel_rfl) td23 (h2 (2,1,23) (by simp));obtain⟨l2,rfl,_⟩:=list_of (c:=Fd.cells) (R:=fun _=>True) (fun el hel=>by obtain⟨b,h⟩:=sh_feed (he2 el hel);exact⟨b,h,trivial⟩);obtain⟨y,hy,_⟩:=sh_int (h2 (3,1,3) (by simp));simp at hx hl1 hl2 hy;subst hx hl1 hl2 hy;rw[List.length_map]at b1 b2;exact⟨⟨x,l1,l2,y⟩,by simp,b1,b2⟩
theorem sh_state {n:Nat} {avs:List AV} (h:Shaped Try.prog (n+4) 28 avs):∃s:Sta,avs=s.cells∧s.Feeds.length≤maxLen∧s.Wires.length≤maxLen:=by
 obtain⟨h1,h2⟩:=shaped_agg (by kernel_rfl) td28 h;obtain⟨a,b,rfl⟩:=list2 h1;obtain⟨l1,hl1,b1⟩:=sh_bools (h2 (0,1,26) (by simp));obtain⟨l2,hl2,b2⟩:=sh_bools (h2 (1,1,26) (by simp));simp at hl1 hl2;subst hl1 hl2;exact⟨⟨l1,l2⟩,by simp,b1,b2⟩
open Go.WideShapes in
theorem arg_agg {H:Type} {enc:TypeId×Value→H} {W:World} {base n:Nat} {t:TypeId} {v:Value} {d:DataW H} {p:List MemPlace} {z:List Value} {fs:List (Nat×Nat×TypeId)} (hg:goodB Try.prog n t=true) (ht:tdOf Try.prog t= .agg z fs)
  (hv:Value.okWide Try.prog W .any base t v) (h:DataW.Trod enc Try.prog W 0 (fun _=>true) true t v d p):∃avs,RepP W (fun _=>False) (.agg avs) v∧Shaped Try.prog n t avs:=by
 obtain⟨fuel,h⟩:=h;obtain⟨avs,hr,hs⟩:=trod_rc n fuel t _ _ hg h;obtain⟨info,fa,h1,h2,_⟩:=tdOf_agg ht;obtain⟨cs,rfl,_⟩:=okWide_struct h2 hv;refine⟨avs,?_,hs⟩;have:=RepP.agg (w:=W) (S:=fun _=>False) avs cs.toList hr.1 (fun x hx=>by
  obtain⟨i,hi⟩:=List.getElem?_of_mem hx;have hil:=(List.getElem?_eq_some_iff.1 hi).1;obtain⟨c,hc⟩:∃c,avs[i]?=some c:=⟨_,List.getElem?_eq_getElem (by rw[hr.1];exact hil)⟩;exact(hr.2 i c x hc hi).2) (fun i c x h1 h2=>(hr.2 i c x h1 h2).1)
 simpa using this
open Go.WideShapes in
theorem arg_slice {H:Type} {enc:TypeId×Value→H} {W:World} {base n:Nat} {t e:TypeId} {v:Value} {d:DataW H} {p:List MemPlace} (hg:goodB Try.prog n t=true) (ht:tdOf Try.prog t= .slice e)
  (hv:Value.okWide Try.prog W .any base t v) (h:DataW.Trod enc Try.prog W 0 (fun _=>true) true t v d p):∃av,RepP W (fun _=>False) av v∧Shaped Try.prog n t [av]:=by
 obtain⟨fuel,h⟩:=h;obtain⟨avs,hr,hs⟩:=trod_rc n fuel t _ _ hg h;obtain⟨info,h1,h2,_⟩:=tdOf_slice ht;obtain⟨a,len,cap,rfl⟩:=okWide_slice h2 hv;have hl:avs.length=1:=by rw[hr.1];rfl
 match avs,hl,hr,hs with
 |[av],_,hr,hs=>exact⟨av,(hr.2 0 av _ rfl rfl).1,hs⟩
theorem arg_int {H:Type} {enc:TypeId×Value→H} {W:World} {base:Nat} {v:Value} {d:DataW H} {p:List MemPlace}
  (hv:Value.okWide Try.prog W .any base 3 v) (h:DataW.Trod enc Try.prog W 0 (fun _=>true) true 3 v d p):∃n,RepP W (fun _=>False) (I n) v∧I64 n:=by
 obtain⟨n,rfl,rfl,rfl,w0⟩:=Go.ChangeShapes.open_int und_intN hv h;exact⟨n, .v _,wf_i64 w0⟩
theorem laid:laidOutB Try.prog=true:=by kernel_rfl
theorem mapped:mapsRowed Try.prog=true:=by kernel_rfl
theorem kids:Kids Try.prog (· <Try.prog.types.size):=kids_rows laid mapped
theorem full:∀t e,t<Try.prog.types.size→Try.prog.underlying t=some (.slice e)→0<Try.prog.cellsOf e:=slices_full_of Try.prog (by kernel_rfl)
theorem ext_cell {w w':World} (h:Ext (fun _=>False) w w') {a:Addr} (ha:a.block<w.heap.size):w'.cell? a=w.cell? a:=cell_of_block (h.block _ ha (fun k=>k))
theorem post_ext {H:Type} {enc:TypeId×Value→H} {f:Func} {s:ChangeSpec} {fresh handsOn again:Bool} {W W':World} {args:Array Value} {v:Value} {ds:List (DataW H)} {before:List MemPlace}
  (hvars:s.vars=[]) (hres:(s.fn H ds).results=[.lit (.bool true)]) (hargs:(s.fn H ds).args=ds) (hvs:(s.fn H ds).vars=[]) (hf:f.resultTypes= #[4]) (hts:∀t∈f.params.toList,t<Try.prog.types.size)
  (hW:DataW.Whole enc Try.prog f.params.toList s.vars false W args.toList ds [] before) (hext:Ext (fun _=>False) W W') (hv:v= .bool true):
  s.post enc Try.prog f false fresh handsOn again W args v W':=by
 subst hv;have hlt:=hW.lt;have hW':=hW;obtain⟨p,q,hA,hV,hpq,hz,hn⟩:=hW;rw[hvars]at hV;obtain⟨_,rfl⟩:=Go.ChangeShapes.trodVars_none hV;rw[List.append_nil]at hpq;subst hpq;have carry:∀(ts:List TypeId) (vs:List Value) (ds:List (DataW H)) (ps:List MemPlace),DataW.TrodAll enc Try.prog W 0 (fun _=>true) true ts vs ds ps→(∀x∈ps,x.block<W.heap.size)→DataW.TrodAll enc Try.prog W' 0 (fun _=>true) true ts vs ds ps:=by
  intro ts
  induction ts with
  |nil=>intro vs ds ps h _;match vs,ds,h with|[],[],h=>exact h
  | cons t ts ih=>
   intro vs ds ps h hl
   match vs,ds,h with
   |v::vs,d::ds,⟨p1,q1,⟨n,h1⟩,h2,he⟩=>
    subst he;refine⟨p1,q1,⟨n,DataW.trod_carry n _ _ _ h1 (fun x hx=>?_)⟩,ih vs ds q1 h2 (fun x hx=>hl x (List.mem_append_right _ hx)),rfl⟩;have hb:=hl x (List.mem_append_left _ hx)
    cases x with
    |cell b off=>exact ext_cell hext hb
    |map b=>exact hext.block b hb (fun k=>k)
 have hA':=carry _ _ _ _ hA hlt;have hag:∀sp:Nat→Bool,(∀x∈before,sp x.block=true)→DataW.TrodAll enc Try.prog W' 0 sp true f.params.toList args.toList (s.fn H (ds++[])).args before:=by
  intro sp hs;rw[List.append_nil,hargs];exact hA'.respare kids full hts hs
 have hr:∀(b:Nat) (sp:Nat→Bool) (hd:Bool),DataW.TrodAll enc Try.prog W' b sp hd f.resultTypes.toList ((Value.bool true).resultList f.resultTypes.size) (s.fn H (ds++[])).results []:=by
  intro b sp hd;rw[List.append_nil,hres,hf];exact Go.ChangeShapes.trodAll_mk1 (Go.RowKit.shut_bool und_bool2 _)
 have hkept:W.keptBut W' (· ∈before):=by
  refine⟨hext.os,hext.output,fun i hi=>?_⟩;rw[hext.block i hi (fun k=>k)]
  cases hb:W.heap[i]? with
  |none=>trivial
  |some o=>cases o<;>simp
 have hv0:∀sp:Nat→Bool,DataW.TrodVars enc Try.prog W' sp s.vars (s.fn H (ds++[])).vars []:=by
  intro sp;rw[hvars,List.append_nil,hvs]
  rfl
 have hold:∀x∈before,(fun b=>decide (b<W.heap.size)) x.block=true:=fun x hx=>by simpa using hlt x hx
 refine⟨ds,[],before,[],before,[],hW',hr _ _ _,hag _ hold,hv0 _,World.keptBut_mono (fun x hx=>⟨hx,Or.inr (Or.inl hx)⟩) hkept,fun _=>?_⟩;refine⟨Go.RowKit.ok_one hf rfl (Go.RowKit.okWide_bool_mk und_bool2 _),_,_,([]++before)++[],⟨[]++before,[],Go.ChangeShapes.trodAll_append (hag _ (fun _ _=>rfl)) (hr _ _ _),hv0 _,rfl,?_,?_⟩,?_⟩
 ·intro b off hp;have hp':MemPlace.cell b off∈before:=by simpa using hp
  have hb:=hlt _ hp';have:W'.frozen? ⟨b,off,none⟩=W.frozen? ⟨b,off,none⟩:=by unfold World.frozen?;rw[hext.block b hb (fun k=>k)]
  rw[this];exact hz b off hp'
 ·intro ha;cases ha
 ·intro x hx _;simpa using hx
theorem law_calls {P : Program} {f : FuncId} {fn : Func} {c : Code} {avs : List AV} {vs : List Value} {W : World} (hf : P.funcs[f]? = some fn) (hb : fn.body = some c) (hname : (fn.name == "runtime.NumGoroutine") = false)
  (h:PureCall P f avs (Bo true)) (hl:avs.length=vs.length) (hr:∀(i:Nat) c x,avs[i]?=some c→vs[i]?=some x→RepP W (fun _=>False) c x):
  Calls P f vs.toArray W fun e W'=>e= .returned (.bool true)∧Ext (fun _=>False) W W':=by
 have hn' : ¬ fn.name = "runtime.NumGoroutine" := by simpa using hname
 rcases h with⟨_,h2⟩|h2
 ·refine(h2 (fun _=>False) W vs (fun b k=>k.elim) hl hr).mono fun e W' ⟨v,q1,q2,q3⟩=>?_
  cases q2
  exact⟨q1,q3⟩
 ·exfalso;obtain⟨v,q1,_⟩:=h2 (fun _=>False) W vs hl hr;have:(callFunc f vs.toArray).run P W= .ok (.enter f vs.toArray) W:=by simp[callFunc,hf,hn',hb]
  rw[this]at q1
  cases q1
theorem rep_nil {W:World}:∀(i:Nat) c x,([]:List AV)[i]?=some c→([]:List Value)[i]?=some x→RepP W (fun _=>False) c x:=fun i c x h=>by simp at h
theorem rep_cons {W:World} {a:AV} {v:Value} {xs:List AV} {vs:List Value} (h:RepP W (fun _=>False) a v) (k:∀(i:Nat) c x,xs[i]?=some c→vs[i]?=some x→RepP W (fun _=>False) c x):
  ∀(i:Nat) c x,(a::xs)[i]?=some c→(v::vs)[i]?=some x→RepP W (fun _=>False) c x:=fun i c x h1 h2=>by
 cases i with
 |zero=>simp at h1 h2;subst h1 h2;exact h
 |succ i=>exact k i c x (by simpa using h1) (by simpa using h2)
end Go.Cur
end
section
namespace Go.Mo
open Go.AM Go.Proofs Go.Cur
open Go.Tram hiding RC
theorem list10 {α:Type} {l:List α} (h:l.length=10):∃a b c d e f g i j k,l=[a,b,c,d,e,f,g,i,j,k]:=by match l,h with|[a,b,c,d,e,f,g,i,j,k],_=>exact⟨a,b,c,d,e,f,g,i,j,k,rfl⟩
theorem sh_nums {n:Nat} {avs:List AV} (h:Go.Tram.Shaped Try.prog (n+2) 31 avs):∃l:List Int,avs=[iL l]∧l.length≤maxLen:=by
 obtain⟨els,hl,hb,he⟩:=shaped_slice (by kernel_rfl) td31 h;obtain⟨l,rfl,hR⟩:=list_of (c:=nCell) (R:=fun x=>I64 x) (fun el hel=>sh_int (he el hel));simp at hl hb;exact⟨l,hl,hb⟩
theorem sh_ints {n:Nat} {avs:List AV} (h:Go.Tram.Shaped Try.prog (n+2) 31 avs):∃l:List Int,avs=[iL l]∧l.length≤maxLen∧True:=by
 obtain⟨l,h1,h2⟩:=sh_nums h;exact⟨l,h1,h2,trivial⟩
theorem sh_train {n:Nat} {avs:List AV} (h:Go.Tram.Shaped Try.prog (n+3) 37 avs):∃t:Tn,avs=t.cells∧t.Grip.length≤maxLen:=by
 obtain⟨hz,h2⟩:=shaped_agg (by kernel_rfl) td37 h;obtain⟨a,b,c,d,e,f,g,i,j,k,rfl⟩:=list10 hz;obtain⟨x0,h0,_⟩:=sh_int (h2 (0,1,3) (by simp));obtain⟨x1,h1,_⟩:=sh_int (h2 (1,1,3) (by simp));obtain⟨x2,h3,_⟩:=sh_int (h2 (2,1,3) (by simp));obtain⟨x3,h4,_⟩:=sh_int (h2 (3,1,3) (by simp));obtain⟨x4,h5,_⟩:=sh_int (h2 (4,1,3) (by simp));obtain⟨x5,h6,_⟩:=sh_int (h2 (5,1,3) (by simp));obtain⟨x6,h7,_⟩:=sh_int (h2 (6,1,3) (by simp));obtain⟨x7,h8,_⟩:=sh_int (h2 (7,1,3) (by simp));obtain⟨x8,h9,_⟩:=sh_int (h2 (8,1,3) (by simp));obtain⟨l,h10,hl⟩:=sh_nums (h2 (9,1,31) (by simp));simp at h0 h1 h3 h4 h5 h6 h7 h8 h9 h10;subst h0 h1 h3 h4 h5 h6 h7 h8 h9 h10;exact⟨⟨x0,x1,x2,x3,x4,x5,x6,x7,x8,l⟩,rfl,hl⟩
theorem sh_trains {n:Nat} {avs:List AV} (h:Go.Tram.Shaped Try.prog (n+4) 29 avs):∃l:List Tn,avs=[.lst 10 (l.map Tn.cells)]∧l.length≤maxLen∧True:=by
 obtain⟨els,hl,hb,he⟩:=shaped_slice (by kernel_rfl) td29 h;obtain⟨l,rfl,hR⟩:=list_of (c:=Tn.cells) (R:=fun _=>True) (fun el hel=>by obtain⟨t,h1,h2⟩:=sh_train (he el hel);exact⟨t,h1,trivial⟩);rw[List.length_map]at hb;exact⟨l,hl,hb,trivial⟩
theorem sh_motion {n:Nat} {avs:List AV} (h:Go.Tram.Shaped Try.prog (n+2) 42 avs):∃x:Ms,avs=x.cells:=by
 obtain⟨hz,h2⟩:=shaped_agg (by kernel_rfl) td42 h;obtain⟨a,b,rfl⟩:=list2 hz;obtain⟨x0,h0,_⟩:=sh_int (h2 (0,1,3) (by simp));obtain⟨x1,h1,_⟩:=sh_int (h2 (1,1,3) (by simp));simp at h0 h1;subst h0 h1;exact⟨⟨x0,x1⟩,rfl⟩
theorem sh_motions {n:Nat} {avs:List AV} (h:Go.Tram.Shaped Try.prog (n+3) 30 avs):∃l:List Ms,avs=[.lst 2 (l.map Ms.cells)]∧l.length≤maxLen∧True:=by
 obtain⟨els,hl,hb,he⟩:=shaped_slice (by kernel_rfl) td30 h;obtain⟨l,rfl,hR⟩:=list_of (c:=Ms.cells) (R:=fun _=>True) (fun el hel=>by obtain⟨t,h1⟩:=sh_motion (he el hel);exact⟨t,h1,trivial⟩);rw[List.length_map]at hb;exact⟨l,hl,hb,trivial⟩
end Go.Mo
end
section
namespace Go.Cur
open Go.AM Go.Proofs
theorem c_within (x lo hi:Int):PureCall Try.prog 40 [I x,I lo,I hi] (Bo (inr x lo hi)):=by
 refine PureCall.of_body Try.func40 rfl (by decide) (by simp[Try.ntmps40]) ?_;simp only[Try.ntmps40,Try.results40];refine aS fun K hK=>?_;simp -dsimp;apply hK;clear hK K;refine aS fun K hK=>?_;simp -dsimp;apply hK;clear hK K;exact awp_ret (by simp[inr])
def deg:List Wr→Int→Int
 |[],_=>0
 |w::l,x=>(if w.A=x then 1 else 0)+(if w.B=x then 1 else 0)+deg l x
theorem deg_append (x:Int):∀(a b:List Wr),deg (a++b) x=deg a x+deg b x
 |[],b=>by simp[deg]
 |w::a,b=>by simp only[List.cons_append,deg,deg_append x a b];omega
theorem deg_nn (x:Int):∀l,0≤deg l x∧deg l x≤2*l.length
 |[]=>by simp[deg]
 |w::l=>by
  have:=deg_nn x l;simp only[deg,List.length_cons]
  split<;>split<;>omega
def degS (s:List (List KC×Value)) (w:Wr):List (List KC×Value):=kvSet (kvSet s (ik w.A) (.int .i64 (igt s w.A+1))) (ik w.B) (.int .i64 (igt (kvSet s (ik w.A) (.int .i64 (igt s w.A+1))) w.B+1))
def degK (l:List Wr):List (List KC×Value):=l.foldl degS []
theorem degS_get (s:List (List KC×Value)) (w:Wr) (x:Int):igt (degS s w) x=igt s x+(if w.A=x then 1 else 0)+(if w.B=x then 1 else 0):=by
 unfold degS;rw[igt_set,igt_set,igt_set]
 by_cases h1:x=w.A
 ·by_cases h2:x=w.B
  ·subst h1;simp[h2]
  ·have h3:¬w.B=x:=fun e=>h2 e.symm;subst h1;simp[h2,h3]
 ·have h4:¬w.A=x:=fun e=>h1 e.symm
  by_cases h2:x=w.B
  ·subst h2;simp[h1,h4]
  ·have h3:¬w.B=x:=fun e=>h2 e.symm;simp[h1,h2,h3,h4]
theorem degK_get (x:Int) (l:List Wr):igt (degK l) x=deg l x:=by
 have gen:∀(l:List Wr) (s:List (List KC×Value)),igt (l.foldl degS s) x=igt s x+deg l x:=by
  intro l
  induction l with
  |nil=>intro s;simp[deg]
  |cons w l ih=>intro s;rw[List.foldl_cons,ih,degS_get,deg];omega
 have:=gen l [];simpa [degK]using this
theorem degS_int {s:List (List KC×Value)} (h:IntM s) (w:Wr):IntM (degS s w):=(h.set _ _).set _ _
theorem degK_int (l:List Wr):IntM (degK l):=by
 have gen:∀(l:List Wr) (s:List (List KC×Value)),IntM s→IntM (l.foldl degS s):=by
  intro l
  induction l with
  |nil=>intro s h;exact h
  |cons w l ih=>intro s h;exact ih _ (degS_int h w)
 exact gen l [] IntM.nil
theorem degK_snoc {l:List Wr} {k:Nat} {w:Wr} (h:l[k]?=some w):degK (l.take (k+1))=degS (degK (l.take k)) w:=by
 unfold degK;rw[List.take_add_one,h];simp
def fkv (l:List Fd):List (List KC×Value):=l.map fun f=>(ik f.At, .bool true)
theorem fkv_get:∀(l:List Fd) (x:Int),kvGet (fkv l) (ik x)=if (l.any fun f=>decide (f.At=x))=true then some (.bool true)else none
 |[],x=>rfl
 |f::l,x=>by
  have ih:=fkv_get l x;simp only[fkv]at ih;simp only[fkv,List.map_cons,kvGet,List.any_cons,Bool.or_eq_true,decide_eq_true_eq]
  by_cases h:f.At=x
  ·rw[if_pos (by rw[h]),if_pos (Or.inl h)]
  ·rw[if_neg (fun e=>h (ik_inj.1 e).symm),ih];simp only[h,false_or]
theorem fkv_look (l:List Fd) (x:Int):((kvGet (fkv l) (ik x)).getD (.bool false))= .bool (l.any fun f=>decide (f.At=x)):=by
 rw[fkv_get]
 cases (l.any fun f=>decide (f.At=x))<;>rfl
theorem fkv_snoc:∀(l:List Fd) (f:Fd),(l.any fun x=>decide (x.At=f.At))=false→kvSet (fkv l) (ik f.At) (.bool true)=fkv (l++[f])
 |[],f,_=>rfl
 |x::l,f,h=>by
  simp only[List.any_cons,Bool.or_eq_false_iff,decide_eq_false_iff_not]at h;have ih:=fkv_snoc l f h.2;simp only[fkv]at ih;simp only[fkv,List.map_cons,List.cons_append,kvSet];rw[if_neg (fun e=>h.1 (ik_inj.1 e).symm),ih]
def wrB (g:Gr) (w:Wr):Bool:=inr w.A 0 (g.Nodes-1)&&inr w.B 0 (g.Nodes-1)&& !decide (w.A=w.B)&&inr w.Siem 1 4
def wrD (l:List Wr) (w:Wr):Bool:=decide (deg l w.A≤3)&&decide (deg l w.B≤3)
def fdB (g:Gr) (l:List Fd) (f:Fd):Bool:=inr f.At 0 (g.Nodes-1)&&inr f.Volts 1 1000&&inr f.Siem 1 4&&inr f.Limit 0 2000&& !(l.any fun x=>decide (x.At=f.At))
def wrTo (g:Gr):Nat→Bool
 |0=>true
 |k+1=>wrTo g k&&(match g.Wires[k]? with|some w=>wrB g w&&wrD (g.Wires.take (k+1)) w|none=>true)
def fdTo (g:Gr):Nat→Bool
 |0=>true
 |k+1=>fdTo g k&&(match g.Feeds[k]? with|some f=>fdB g (g.Feeds.take k) f|none=>true)
def grH (g:Gr):Bool:=inr g.Nodes 1 40&&decide (g.Wires.length≤80)&&decide (g.Feeds.length≤12)&&inr g.Least 0 1000
def grB (g:Gr):Bool:=grH g&&wrTo g g.Wires.length&&fdTo g g.Feeds.length
theorem wrTo_ff {g:Gr} {k:Nat} (h:wrTo g k=false):∀d,wrTo g (k+d)=false
 |0=>h
 |d+1=>by rw[←Nat.add_assoc];simp only[wrTo,wrTo_ff h d,Bool.false_and]
theorem fdTo_ff {g:Gr} {k:Nat} (h:fdTo g k=false):∀d,fdTo g (k+d)=false
 |0=>h
 |d+1=>by rw[←Nat.add_assoc];simp only[fdTo,fdTo_ff h d,Bool.false_and]
theorem grB_w {g:Gr} {k:Nat} {w:Wr} (hw:g.Wires[k]?=some w) (h:(wrB g w&&wrD (g.Wires.take (k+1)) w)=false):grB g=false:=by
 have hk:=(List.getElem?_eq_some_iff.1 hw).1;have h1:wrTo g (k+1)=false:=by simp only[wrTo,hw,h,Bool.and_false]
 have h2:=wrTo_ff h1 (g.Wires.length-(k+1));rw[show k+1+(g.Wires.length-(k+1))=g.Wires.length by omega]at h2;simp[grB,h2]
theorem grB_f {g:Gr} {k:Nat} {f:Fd} (hf:g.Feeds[k]?=some f) (h:fdB g (g.Feeds.take k) f=false):grB g=false:=by
 have hk:=(List.getElem?_eq_some_iff.1 hf).1;have h1:fdTo g (k+1)=false:=by simp only[fdTo,hf,h,Bool.and_false]
 have h2:=fdTo_ff h1 (g.Feeds.length-(k+1));rw[show k+1+(g.Feeds.length-(k+1))=g.Feeds.length by omega]at h2;simp[grB,h2]
def okE (b:Bool):Int:=if b then 0 else 2
theorem c_Check (g:Gr):PureCall Try.prog 39 [g.av] (I (okE (grB g))):=by
 refine PureCall.of_body Try.func39 rfl (by decide) (by simp[Try.ntmps39]) ?_;simp only[Try.ntmps39,Try.results39];refine aS fun K hK=>?_;simp -dsimp;apply hK;clear hK K;refine awp_seq_k fun K1 hK1=>?_;refine aS fun K hK=>?_;simp -dsimp;refine callK_intro _ (c_within g.Nodes 1 40) (by simp) ?_;simp -dsimp;refine callK_may _ (fun hm=>c_within g.Least 0 1000) (by simp) ?_;simp -dsimp;apply hK;clear hK K;refine awp_cond rfl (fun hc0=>?_) (fun hc0=>?_)
 ·refine aS fun K hK=>?_;simp -dsimp;apply hK;clear hK K;have hf:grH g=false:=by
   cases hh:grH g with
   |false=>rfl
   |true=>
    simp only[grH,Bool.and_eq_true,decide_eq_true_eq]at hh;have h1:(g.Wires.length:Int)≤80:=by omega
    have h2:(g.Feeds.length:Int)≤12:=by omega
    simp[hh.1.1.1,hh.2]at hc0;omega
  exact awp_ret (by simp[grB,hf,okE])
 ·have hH:grH g=true:=by
   simp at hc0;simp only[grH,hc0.1.1.1,hc0.2,Bool.and_eq_true,decide_eq_true_eq,and_true,true_and];omega
  have hN:=hH;simp only[grH,Bool.and_eq_true,decide_eq_true_eq,inr_iff]at hN;have wn:IntKind.i64.wrap (g.Nodes-1)=g.Nodes-1:=wrap_in (by omega) (by omega);refine awp_skip ?_;simp only[zT,reduceIte,Nat.reduceEqDiff];refine hK1 _ _ ?_;refine awp_prune [1] ?_;simp only[zP,Nat.reduceEqDiff,reduceIte];refine aS fun K hK=>?_;simp -dsimp;apply hK;clear hK K;refine awp_seq_k fun K2 hK2=>?_;refine aS fun K hK=>?_;simp -dsimp;apply hK;clear hK K;refine awp_block ?_;refine awp_prune [1,3,4,34,35,36] ?_;simp only[zP,Nat.reduceEqDiff,reduceIte];refine awp_loop_l [1,3,4,34,35] (α:=Nat) (fun k=>[(36,I k)]) (fun k=>[some (.els 4 [g.cells]),some (.map false [.i .i64] (degK (g.Wires.take k))),some (.map false [.i .i64] [])]) (fun k=>k≤g.Wires.length∧wrTo g k=true) (fun k=>g.Wires.length-k) 0 ?_ ?_ ?_
  ·exact⟨Nat.zero_le _,rfl⟩
  ·exact sub_same (by simp)
  rintro k ⟨k1,k2⟩;simp only[zP,Nat.reduceEqDiff,reduceIte];refine aS fun K hK=>?_;simp -dsimp;apply hK;clear hK K;refine awp_seq_k fun K3 hK3=>?_;refine awp_cond rfl (fun hc1=>?_) (fun hc1=>?_)
  ·skip
   try simp at hc1
   obtain⟨w,hw⟩:∃w,g.Wires[k]?=some w:=⟨_,List.getElem?_eq_getElem hc1⟩;have wk:=zW k (by omega);refine awp_skip ?_;simp only[zT,reduceIte,Nat.reduceEqDiff];refine hK3 _ _ ?_;refine awp_prune [1,3,4,34,35,36] ?_;simp only[zP,Nat.reduceEqDiff,reduceIte];refine awp_seq_k fun K4 hK4=>?_;refine awp_block ?_;refine aS fun K hK=>?_;simp -dsimp [hw];apply hK;clear hK K;refine awp_seq_k fun K5 hK5=>?_;refine aS fun K hK=>?_;simp -dsimp [wn];refine callK_intro _ (c_within _ _ _) (by simp) ?_;simp -dsimp [wn];refine callK_may _ (fun hm=>c_within w.B 0 (g.Nodes-1)) (by simp) ?_;simp -dsimp [wn];refine callK_may _ (fun hm=>c_within w.Siem 1 4) (by simp) ?_;simp -dsimp [wn];apply hK;clear hK K;refine awp_cond rfl (fun hc2=>?_) (fun hc2=>?_)
   ·have hwr:wrB g w= !(!inr w.A 0 (g.Nodes-1)|| !inr w.B 0 (g.Nodes-1)||w.A==w.B|| !inr w.Siem 1 4):=by
     simp only[wrB,beq_d]
     cases inr w.A 0 (g.Nodes-1)<;>cases inr w.B 0 (g.Nodes-1)<;>cases decide (w.A=w.B)<;>cases inr w.Siem 1 4<;>rfl
    refine aS fun K hK=>?_;simp -dsimp;apply hK;clear hK K;exact awp_ret (by simp[grB_w hw (by rw[hwr,hc2];rfl),okE])
   ·have hwr:wrB g w= !(!inr w.A 0 (g.Nodes-1)|| !inr w.B 0 (g.Nodes-1)||w.A==w.B|| !inr w.Siem 1 4):=by
     simp only[wrB,beq_d]
     cases inr w.A 0 (g.Nodes-1)<;>cases inr w.B 0 (g.Nodes-1)<;>cases decide (w.A=w.B)<;>cases inr w.Siem 1 4<;>rfl
    have hwo:wrB g w=true:=by rw[hwr,hc2];rfl
    have hI:=degK_int (g.Wires.take k);have hd:=fun x=>deg_nn x (g.Wires.take k);have hlt:(g.Wires.take k).length≤k:=by rw[List.length_take];omega
    have hg:=fun x=>degK_get x (g.Wires.take k);have hsn:=degK_snoc hw;generalize degK (g.Wires.take k)=s at hI hg hsn ⊢;have wa:IntKind.i64.wrap (igt s w.A+1)=igt s w.A+1:=by have:=hd w.A;have:=hg w.A;exact wrap_in (by omega) (by omega)
    have hI1:=hI.set w.A (igt s w.A+1);have wb:IntKind.i64.wrap (igt (kvSet s (ik w.A) (.int .i64 (igt s w.A+1))) w.B+1)=igt (kvSet s (ik w.A) (.int .i64 (igt s w.A+1))) w.B+1:=by
     rw[igt_set];have:=hd w.B;have:=hg w.B;have:=hd w.A;have:=hg w.A
     split<;>exact wrap_in (by omega) (by omega)
    have hI2:=hI1.set w.B (igt (kvSet s (ik w.A) (.int .i64 (igt s w.A+1))) w.B+1);have hdS:kvSet (kvSet s (ik w.A) (.int .i64 (igt s w.A+1))) (ik w.B) (.int .i64 (igt (kvSet s (ik w.A) (.int .i64 (igt s w.A+1))) w.B+1))=degK (g.Wires.take (k+1)):=by rw[hsn];rfl
    refine awp_skip ?_;simp only[zT,reduceIte,Nat.reduceEqDiff];refine hK5 _ _ ?_;refine awp_prune [1,3,4,6,34,35,36] ?_;simp only[zP,Nat.reduceEqDiff,reduceIte];refine aS fun K hK=>?_;simp -dsimp [igt_look hI,wa];refine valK_intro (_) (fun hm=>rfl) ?_;simp -dsimp [igt_look hI,wa];apply hK;clear hK K;refine aS fun K hK=>?_;simp -dsimp [igt_look hI1,wb,hdS];refine valK_intro (_) (fun hm=>rfl) ?_;simp -dsimp [igt_look hI1,wb,hdS];apply hK;clear hK K;refine aS fun K hK=>?_;simp -dsimp [igt_look (degK_int _),degK_get];refine valK_intro (_) (fun hm=>rfl) ?_;simp -dsimp [igt_look (degK_int _),degK_get];refine valK_intro (_) (fun hm=>rfl) ?_;simp -dsimp [igt_look (degK_int _),degK_get];apply hK;clear hK K;refine awp_cond rfl (fun hc3=>?_) (fun hc3=>?_)
    ·skip
     try simp at hc3
     refine aS fun K hK=>?_;simp -dsimp;apply hK;clear hK K;exact awp_ret (by simp[grB_w hw (by simp[wrD];omega),okE])
    ·skip
     try simp at hc3
     refine awp_skip ?_;simp only[zT,reduceIte,Nat.reduceEqDiff];refine hK4 _ _ ?_;refine awp_prune [1,3,4,34,35,36] ?_;simp only[zP,Nat.reduceEqDiff,reduceIte];refine aR fun K hK=>?_;simp -dsimp [wk];apply hK;clear hK K;simp only[zT,reduceIte,Nat.reduceEqDiff];refine⟨k+1,⟨by omega,?_⟩,by omega,sub_rb [some 0,some 1,some 2] rfl (by simp) (by simp)⟩;simp only[wrTo,k2,hw,hwo,wrD,Bool.true_and,Bool.and_eq_true,decide_eq_true_eq];omega
  ·skip
   try simp at hc1
   have hke:k=g.Wires.length:=by omega
   subst hke;refine awp_exit ?_;simp only[zT,reduceIte,Nat.reduceEqDiff];refine hK2 _ _ ?_;refine awp_prune [1,4] ?_;simp only[zP,Nat.reduceEqDiff,reduceIte];refine awp_seq_k fun K6 hK6=>?_;refine aS fun K hK=>?_;simp -dsimp;apply hK;clear hK K;refine awp_block ?_;refine awp_prune [1,4,93,94,95] ?_;simp only[zP,Nat.reduceEqDiff,reduceIte];refine awp_loop_l [1,4,93,94] (α:=Nat) (fun k=>[(95,I k)]) (fun k=>[some (.els 4 [g.cells]),none,some (.map false [.i .i64] (fkv (g.Feeds.take k)))]) (fun k=>k≤g.Feeds.length∧fdTo g k=true) (fun k=>g.Feeds.length-k) 0 ?_ ?_ ?_
   ·exact⟨Nat.zero_le _,rfl⟩
   ·exact sub_rb [some 0,none,some 2] rfl (by simp) (by simp[fkv])
   rintro i ⟨i1,i2⟩;simp only[zP,Nat.reduceEqDiff,reduceIte];refine aS fun K hK=>?_;simp -dsimp;apply hK;clear hK K;refine awp_seq_k fun K7 hK7=>?_;refine awp_cond rfl (fun hc4=>?_) (fun hc4=>?_)
   ·skip
    try simp at hc4
    obtain⟨f,hf⟩:∃f,g.Feeds[i]?=some f:=⟨_,List.getElem?_eq_getElem hc4⟩;have wi:=zW i (by omega);refine awp_skip ?_;simp only[zT,reduceIte,Nat.reduceEqDiff];refine hK7 _ _ ?_;refine awp_prune [1,4,93,94,95] ?_;simp only[zP,Nat.reduceEqDiff,reduceIte];refine awp_seq_k fun K8 hK8=>?_;refine awp_block ?_;refine aS fun K hK=>?_;simp -dsimp [hf];apply hK;clear hK K;refine awp_seq_k fun K9 hK9=>?_;refine aS fun K hK=>?_;simp -dsimp [wn,fkv_look];refine callK_intro _ (c_within _ _ _) (by simp) ?_;simp -dsimp [wn,fkv_look];refine callK_may _ (fun hm=>c_within f.Volts 1 1000) (by simp) ?_;simp -dsimp [wn,fkv_look];refine callK_may _ (fun hm=>c_within f.Siem 1 4) (by simp) ?_;simp -dsimp [wn,fkv_look];refine callK_may _ (fun hm=>c_within f.Limit 0 2000) (by simp) ?_;simp -dsimp [wn,fkv_look];refine valK_intro (_) (fun hm=>rfl) ?_;simp -dsimp [wn,fkv_look];apply hK;clear hK K;refine awp_cond rfl (fun hc5=>?_) (fun hc5=>?_)
    ·have hfd:fdB g (g.Feeds.take i) f= !(!inr f.At 0 (g.Nodes-1)|| !inr f.Volts 1 1000|| !inr f.Siem 1 4|| !inr f.Limit 0 2000||((g.Feeds.take i).any fun x=>decide (x.At=f.At))):=by
      simp only[fdB]
      cases inr f.At 0 (g.Nodes-1)<;>cases inr f.Volts 1 1000<;>cases inr f.Siem 1 4<;>cases inr f.Limit 0 2000<;>cases ((g.Feeds.take i).any fun x=>decide (x.At=f.At))<;>rfl
     refine aS fun K hK=>?_;simp -dsimp;apply hK;clear hK K;exact awp_ret (by simp[grB_f hf (by rw[hfd,hc5];rfl),okE])
    ·have hfd:fdB g (g.Feeds.take i) f= !(!inr f.At 0 (g.Nodes-1)|| !inr f.Volts 1 1000|| !inr f.Siem 1 4|| !inr f.Limit 0 2000||((g.Feeds.take i).any fun x=>decide (x.At=f.At))):=by
      simp only[fdB]
      cases inr f.At 0 (g.Nodes-1)<;>cases inr f.Volts 1 1000<;>cases inr f.Siem 1 4<;>cases inr f.Limit 0 2000<;>cases ((g.Feeds.take i).any fun x=>decide (x.At=f.At))<;>rfl
     have hany:((g.Feeds.take i).any fun x=>decide (x.At=f.At))=false:=by
      cases h:((g.Feeds.take i).any fun x=>decide (x.At=f.At))with
      |false=>rfl
      |true=>rw[h]at hc5;simp at hc5
     refine awp_skip ?_;simp only[zT,reduceIte,Nat.reduceEqDiff];refine hK9 _ _ ?_;refine awp_prune [1,4,8,93,94,95] ?_;simp only[zP,Nat.reduceEqDiff,reduceIte];refine aR fun K hK=>?_;simp -dsimp [fkv_snoc _ _ hany];apply hK;clear hK K;simp only[zT,reduceIte,Nat.reduceEqDiff];refine hK8 _ _ ?_;refine awp_prune [1,4,93,94,95] ?_;simp only[zP,Nat.reduceEqDiff,reduceIte];refine aR fun K hK=>?_;simp -dsimp [wi];apply hK;clear hK K;simp only[zT,reduceIte,Nat.reduceEqDiff];refine⟨i+1,⟨by omega,?_⟩,by omega,sub_rb [some 0,none,some 2] rfl (by simp) (by simp[List.take_add_one,hf])⟩;simp only[fdTo,i2,hf,hfd,hc5];rfl
   ·skip
    try simp at hc4
    have hie:i=g.Feeds.length:=by omega
    subst hie;refine awp_exit ?_;simp only[zT,reduceIte,Nat.reduceEqDiff];refine hK6 _ _ ?_;refine awp_prune [] ?_;simp only[zP,Nat.reduceEqDiff,reduceIte];refine aS fun K hK=>?_;simp -dsimp;apply hK;clear hK K;exact awp_ret (by simp[grB,hH,k2,i2,okE])
end Go.Cur
end
section
namespace Go.Cur
open Go.AM Go.Proofs
theorem PureCall.split {P : Program} {f : FuncId} {fn : Func} {c : Code} {x : AV} {rest : List AV} {res : AV} (hf : P.funcs[f]? = some fn) (hb : fn.body = some c) (hname : (fn.name == "runtime.NumGoroutine") = false)
  (h:∀(w:World) (S:Nat→Prop) (y:Value),RepP w S x y→∃x',RepP w S x' y∧PureCall P f (x'::rest) res):PureCall P f (x::rest) res:=by
 have hn' : ¬ fn.name = "runtime.NumGoroutine" := by simpa using hname
 have hcf:∀(w:World) (vs:Array Value),(callFunc f vs).run P w= .ok (.enter f vs) w:=fun w vs=>by simp[callFunc,hf,hn',hb]
 refine Or.inl ⟨hcf,?_⟩;intro S0 w vs hlow hl hrep
 match vs,hl with
 | y::vs,hl=>
  obtain⟨x',hx',hp⟩:=h w S0 y (hrep 0 x y rfl rfl);have hrep':∀(i:Nat) c z,(x'::rest)[i]?=some c→(y::vs)[i]?=some z→RepP w S0 c z:=by
   intro i c z h1 h2
   cases i with
   |zero=>simp only[List.getElem?_cons_zero,Option.some.injEq]at h1 h2;subst h1 h2;exact hx'
   |succ i=>exact hrep (i+1) c z (by simpa using h1) h2
  rcases hp with⟨_,h2⟩|h2
  ·exact h2 S0 w (y::vs) hlow (by simpa using hl) hrep'
  ·obtain⟨v,h3,_⟩:=h2 S0 w (y::vs) (by simpa using hl) hrep';rw[hcf]at h3;cases h3
theorem eqg_slice (op:BinOp) (t:TypeId) (x y:Operand) (a b:Option Addr) (n c m d:Nat) (w:World):(eqGuard op t x y (.slice a n c) (.slice b m d)).run Try.prog w= .ok () w:=by
 cases op<;>simp[eqGuard]
theorem eq_slice_nil (t e:TypeId) (hu:(Try.prog).underlying t=some (.slice e)) (a:Option Addr) (n c:Nat) (w:World):(binOp .eql t (.slice a n c) (.slice none 0 0)).run Try.prog w= .ok (.bool a.isNone) w:=by
 have hq:(Op.equal t (.slice a n c) (.slice none 0 0)).run Try.prog w= .ok a.isNone w:=by
  show(Op.equalIn (Op.maxDepth-1+1) t _ _).run _ w=_
  cases a<;>simp[Op.equalIn,run_underlying hu]
 simp[binOp,hq]
@[simp] theorem sl_int:sliceB Try.prog 31=true:=by kernel_rfl
@[simp] theorem sl_bool:sliceB Try.prog 26=true:=by kernel_rfl
theorem us_bool:(Try.prog).underlying 26=some (.slice 4):=by kernel_rfl
theorem lst_nil {w:World} {S:Nat→Prop} {sz:Nat} {y:Value} (h:RepP w S (.lst sz []) y):∃a cap,y= .slice a 0 cap:=by
 cases h with
 |lst _ _ b off cap=>exact⟨_,cap,rfl⟩
 |lstNil _ a cap=>exact⟨a,cap,rfl⟩
theorem nil_lst {w:World} {S:Nat→Prop} {sz:Nat} {y:Value} (h:RepP w S (.v (.slice none 0 0)) y):RepP w S (.lst sz []) y:=by
 cases h;exact .lstNil _ _ _
theorem full_lst {w:World} {S:Nat→Prop} {sz:Nat} {y:Value} (h:RepP w S (.full sz []) y):RepP w S (.lst sz []) y:=by
 cases h;exact .lstNil _ _ _
theorem c_Clone_Bool (l:List Bool) (hn:l.length≤1000):PureCall Try.prog 41 [.lst 1 (l.map bCell)] (.lst 1 (l.map bCell)):=by
 by_cases hne:l=[]
 ·subst hne;refine PureCall.split Try.func41 rfl (by decide) fun w S y hy=>?_;obtain⟨a,cap,rfl⟩:=lst_nil hy;refine⟨.v (.slice a 0 cap), .v _,?_⟩
  cases a with
  |none=>
   refine PureCall.res (res:= .v (.slice none 0 0)) ?_ fun w S y=>nil_lst;refine PureCall.of_body Try.func41 rfl (by decide) (by simp[Try.ntmps41]) ?_;simp only[Try.ntmps41,Try.results41];refine aS fun K hK=>?_;simp -dsimp;apply hK;clear hK K;refine awp_seq_k fun K1 hK1=>?_;refine aS fun K hK=>?_;simp -dsimp;apply hK;clear hK K;refine awp_cond rfl (fun hc0=>?_) (fun hc0=>?_)
   ·refine aS fun K hK=>?_;simp -dsimp;apply hK;clear hK K;exact awp_ret (by simp)
   ·simp at hc0
  |some a=>
   refine PureCall.res (res:= .full 1 []) ?_ fun w S y=>full_lst;refine PureCall.of_body Try.func41 rfl (by decide) (by simp[Try.ntmps41]) ?_;simp only[Try.ntmps41,Try.results41];refine aS fun K hK=>?_;simp -dsimp;apply hK;clear hK K;refine awp_seq_k fun K1 hK1=>?_;refine aS fun K hK=>?_;simp -dsimp;refine⟨fun w=>eqg_slice _ _ _ _ _ _ _ _ _ _ w,_,fun w=>eq_slice_nil _ _ us_bool _ _ _ w,?_⟩;simp -dsimp;apply hK;clear hK K;refine awp_cond rfl (fun hc0=>?_) (fun hc0=>?_)
   ·simp at hc0
   ·refine awp_skip ?_;simp only[zT,reduceIte,Nat.reduceEqDiff];refine hK1 _ _ ?_;refine awp_prune [0] ?_;simp only[zP,Nat.reduceEqDiff,reduceIte];refine aS fun K hK=>?_;simp -dsimp;apply hK;clear hK K;exact awp_ret (by simp)
 ·have f1:Fits l.length 2:=fits_of (by omega) (by omega);refine PureCall.of_body Try.func41 rfl (by decide) (by simp[Try.ntmps41]) ?_;simp only[Try.ntmps41,Try.results41];refine aS fun K hK=>?_;simp -dsimp;apply hK;clear hK K;refine awp_seq_k fun K1 hK1=>?_;refine aS fun K hK=>?_;simp -dsimp [hne];apply hK;clear hK K;refine awp_cond rfl (fun hc0=>?_) (fun hc0=>?_)
  ·simp at hc0
  ·refine awp_skip ?_;simp only[zT,reduceIte,Nat.reduceEqDiff];refine hK1 _ _ ?_;refine awp_prune [0] ?_;simp only[zP,Nat.reduceEqDiff,reduceIte];refine aS fun K hK=>?_;simp -dsimp [hne,f1];apply hK;clear hK K;exact awp_ret (by simp)
theorem c_IndexN (l:List Int) (x:Int) (hn:l.length≤100000):PureCall Try.prog 74 [iL l,I x] (I (firstI l fun y=>decide (x=y))):=by
 refine PureCall.of_body Try.func74 rfl (by decide) (by simp[Try.ntmps74]) ?_;simp only[Try.ntmps74,Try.results74];refine aS fun K hK=>?_;simp -dsimp;apply hK;clear hK K;refine awp_seq_k fun K1 hK1=>?_;refine aS fun K hK=>?_;simp -dsimp;apply hK;clear hK K;refine awp_block ?_;refine awp_prune [0,1,7,8] ?_;simp only[zP,Nat.reduceEqDiff,reduceIte];refine awp_loop_l [0,1,7] (α:=Nat) (fun k=>[(8,I k)]) (fun _=>[]) (fun k=>k≤l.length∧(l.take k).any (fun y=>decide (x=y))=false) (fun k=>l.length-k) 0 ?_ ?_ ?_
 ·simp
 ·exact sub_same (by simp)
 rintro k ⟨k1,k2⟩;simp only[zP,Nat.reduceEqDiff,reduceIte];refine aS fun K hK=>?_;simp -dsimp;apply hK;clear hK K;refine awp_seq_k fun K2 hK2=>?_;refine awp_cond rfl (fun hc0=>?_) (fun hc0=>?_)
 ·skip
  try simp at hc0
  obtain⟨y,hx⟩:∃y,l[k]?=some y:=⟨_,List.getElem?_eq_getElem hc0⟩;have wk:=zW k (by omega);refine awp_skip ?_;simp only[zT,reduceIte,Nat.reduceEqDiff];refine hK2 _ _ ?_;refine awp_prune [0,1,7,8] ?_;simp only[zP,Nat.reduceEqDiff,reduceIte];refine awp_seq_k fun K3 hK3=>?_;refine awp_block ?_;refine aS fun K hK=>?_;simp -dsimp;apply hK;clear hK K;refine aS fun K hK=>?_;simp -dsimp [hx];apply hK;clear hK K;refine awp_cond rfl (fun hc1=>?_) (fun hc1=>?_)
  ·simp only[beq_d]at hc1;refine aS fun K hK=>?_;simp -dsimp;apply hK;clear hK K;exact awp_ret (by simp[firstI_hit hx hc1 k2])
  ·simp only[beq_d]at hc1;refine awp_skip ?_;simp only[zT,reduceIte,Nat.reduceEqDiff];refine hK3 _ _ ?_;refine awp_prune [0,1,7,8] ?_;simp only[zP,Nat.reduceEqDiff,reduceIte];refine aR fun K hK=>?_;simp -dsimp [wk];apply hK;clear hK K;simp only[zT,reduceIte,Nat.reduceEqDiff];exact⟨k+1,⟨by omega,by rw[any_take hx,k2,hc1];rfl⟩,by omega,sub_same (by simp)⟩
 ·skip
  try simp at hc0
  have hall:=any_of_take (by omega) k2;refine awp_exit ?_;simp only[zT,reduceIte,Nat.reduceEqDiff];refine hK1 _ _ ?_;refine awp_prune [] ?_;simp only[zP,Nat.reduceEqDiff,reduceIte];refine aS fun K hK=>?_;simp -dsimp;apply hK;clear hK K;exact awp_ret (by simp[firstI_none hall])
theorem any_eq (l:List Int) (x:Int):l.any (fun y=>decide (x=y))=decide (x∈l):=by
 rw[Bool.eq_iff_iff];simp
theorem c_Contains (l:List Int) (x:Int) (hn:l.length≤100000):PureCall Try.prog 81 [iL l,I x] (Bo (decide (x∈l))):=by
 refine PureCall.of_body Try.func81 rfl (by decide) (by simp[Try.ntmps81]) ?_;simp only[Try.ntmps81,Try.results81];refine aS fun K hK=>?_;simp -dsimp;apply hK;clear hK K;refine aS fun K hK=>?_;simp -dsimp;refine callK_intro _ (c_IndexN l x hn) (by simp) ?_;simp -dsimp;apply hK;clear hK K;exact awp_ret (by simp[firstI_nn,any_eq])
theorem c_isNaN (a:Int):PureCall Try.prog 101 [I a] (Bo false):=by
 refine PureCall.of_body Try.func101 rfl (by decide) (by simp[Try.ntmps101]) ?_;simp only[Try.ntmps101,Try.results101];refine aS fun K hK=>?_;simp -dsimp;apply hK;clear hK K;refine aS fun K hK=>?_;simp -dsimp;apply hK;clear hK K;exact awp_ret (by simp)
theorem c_Less (a b:Int):PureCall Try.prog 89 [I a,I b] (Bo (decide (a<b))):=by
 refine PureCall.of_body Try.func89 rfl (by decide) (by simp[Try.ntmps89]) ?_;simp only[Try.ntmps89,Try.results89];refine aS fun K hK=>?_;simp -dsimp;apply hK;clear hK K;refine aS fun K hK=>?_;simp -dsimp;refine callK_intro _ (c_isNaN a) (by simp) ?_;simp -dsimp;refine callK_may _ (fun hm=>c_isNaN b) (by simp) ?_;simp -dsimp;apply hK;clear hK K;exact awp_ret (by simp)
def ins (x:Int):List Int→List Int
 |[]=>[x]
 |y::l=>if x<y then x::y::l else y::ins x l
def srt (l:List Int):List Int:=l.foldl (fun s x=>ins x s) []
theorem ins_len (x:Int):∀l,(ins x l).length=l.length+1
 |[]=>rfl
 |y::l=>by
  simp only[ins]
  split
  ·rfl
  ·simp[ins_len x l]
theorem ins_mem (x z:Int):∀l,z∈ins x l↔z=x∨z∈l
 |[]=>by simp[ins]
 | y::l=>by
  simp only[ins]
  split
  ·simp
  ·simp only[List.mem_cons,ins_mem x z l];constructor
   ·rintro(h|h|h)<;>simp[h]
   ·rintro(h|h|h)<;>simp[h]
theorem ins_sorted (x:Int):∀l:List Int,l.Pairwise (· ≤ ·)→(ins x l).Pairwise (· ≤ ·)
 |[],_=>by simp[ins]
 | y::l,h=>by
  rw[List.pairwise_cons]at h;simp only[ins]
  split
  ·rename_i hx;rw[List.pairwise_cons,List.pairwise_cons];refine⟨fun z hz=>?_,h⟩
   rcases List.mem_cons.1 hz with rfl|hz
   ·omega
   ·have:=h.1 z hz;omega
  ·rename_i hx;rw[List.pairwise_cons];refine⟨fun z hz=>?_,ins_sorted x l h.2⟩
   rcases(ins_mem x z l).1 hz with rfl|hz
   ·omega
   ·exact h.1 z hz
theorem ins_split (x:Int) (B:List Int) (hB:∀y∈B,x<y):∀A:List Int,(∀y∈A,y≤x)→ins x (A++B)=A++x::B
 |[],_=>by
  cases B with
  |nil=>rfl
  |cons y B=>simp only[List.nil_append,ins];rw[if_pos (hB y (by simp))]
 |a::A,h=>by
  simp only[List.cons_append,ins];rw[if_neg (by have:=h a (by simp);omega),ins_split x B hB A fun y hy=>h y (by simp[hy])]
theorem srt_take {l:List Int} {i:Nat} {x:Int} (h:l[i]?=some x):srt (l.take (i+1))=ins x (srt (l.take i)):=by
 rw[List.take_add_one,h];simp[srt]
theorem srt_len (l:List Int):(srt l).length=l.length:=by
 have gen:∀(l s:List Int),(l.foldl (fun s x=>ins x s) s).length=s.length+l.length:=by
  intro l
  induction l with
  |nil=>simp
  |cons x l ih=>intro s;rw[List.foldl_cons,ih,ins_len];simp;omega
 have:=gen l [];simpa [srt]using this
theorem srt_sorted (l:List Int):(srt l).Pairwise (· ≤ ·):=by
 have gen:∀(l s:List Int),s.Pairwise (· ≤ ·)→(l.foldl (fun s x=>ins x s) s).Pairwise (· ≤ ·):=by
  intro l
  induction l with
  |nil=>intro s h;exact h
  |cons x l ih=>intro s h;exact ih _ (ins_sorted x s h)
 exact gen l [] List.Pairwise.nil
theorem srt_le {L:List Int} (h:L.Pairwise (· ≤ ·)) {j:Nat} {y:Int} (hy:L[j]?=some y):∀a∈L.take (j+1),a≤y:=by
 intro a ha;obtain⟨hj,he⟩:=List.getElem?_eq_some_iff.1 hy;rw[List.take_add_one,hy]at ha
 rcases List.mem_append.1 ha with ha|ha
 ·have hs:L=L.take j++y::L.drop (j+1):=by rw[←he,List.getElem_cons_drop,List.take_append_drop]
  rw[hs,List.pairwise_append]at h;exact h.2.2 a ha y (by simp)
 ·simp at ha;omega
def wayL (L:List Int) (x:Int) (R:List Int) (j:Nat):List Int:=L.take j++x::(L.drop j++R)
theorem wayL_at {L:List Int} {x:Int} {R:List Int} {j:Nat} (h:j≤L.length):(wayL L x R j)[j]?=some x:=by
 unfold wayL;rw[List.getElem?_append_right (by simp;omega)];simp[Nat.min_eq_left h]
theorem wayL_before {L:List Int} {x y:Int} {R:List Int} {j:Nat} (h:L[j]?=some y):(wayL L x R (j+1))[j]?=some y:=by
 have hj:=(List.getElem?_eq_some_iff.1 h).1;unfold wayL;rw[List.getElem?_append_left (by simp;omega),List.getElem?_take];simp[h]
theorem wayL_swap {L:List Int} {x y:Int} {R:List Int} {j:Nat} (h:L[j]?=some y):((wayL L x R (j+1)).set (j+1) y).set j x=wayL L x R j:=by
 obtain⟨hj,hy⟩:=List.getElem?_eq_some_iff.1 h;have h1:L.take (j+1)=L.take j++[y]:=by rw[List.take_add_one,h];rfl
 have h2:L.drop j=y::L.drop (j+1):=by rw[List.drop_eq_getElem_cons hj,hy]
 have hl:(L.take j).length=j:=by rw[List.length_take];omega
 unfold wayL;rw[h1,h2,List.append_assoc,List.set_append,if_neg (by omega),List.set_append,if_neg (by omega),hl];simp
theorem m_isort (xs:List Int) (h1:1≤xs.length) (hn:xs.length≤1000):MutCall Try.prog 83 [.row 0 0 xs.length,I 0,I xs.length] [some (.els 1 (xs.map nCell))] [] (.tup []) [some (.els 1 ((srt xs).map nCell))] []:=by
 have w01:IntKind.i64.wrap 1=1:=wrap_in (by omega) (by omega);have wm1:IntKind.i64.wrap (-1)=-1:=wrap_in (by omega) (by omega);refine MutCall.of_bodyG [0] Try.func83 rfl (by decide) (by simp[Try.ntmps83]) rfl rfl ?_;intro J hJ;simp only[Try.ntmps83,Try.results83];refine gS fun K hK=>?_;simp -dsimp [w01];apply hK;clear hK K;refine gwp_block ?_;refine gwp_prune [0,1,2,6] (Or.inr (by simp)) ?_;simp only[zP,Nat.reduceEqDiff,reduceIte];refine gwp_loop_l [0,1,2] (α:=Nat) (fun i=>[(6,I i)]) (fun i=>[some (.els 1 ((srt (xs.take i)++xs.drop i).map nCell))]) (fun i=>1≤i∧i≤xs.length) (fun i=>xs.length-i) 1 ?_ ?_ ?_
 ·exact⟨Nat.le_refl _,h1⟩
 ·refine gsub (sub_rb [some 0] rfl (by simp) ?_) (by simp);obtain⟨x,l,rfl⟩:∃x l,xs=x::l:=by cases xs with|nil=>simp at h1|cons x l=>exact⟨x,l,rfl⟩
  simp[srt,ins]
 rintro i ⟨i1,i2⟩;simp only[zP,Nat.reduceEqDiff,reduceIte];refine gwp_seq_k fun K1 hK1=>?_;refine gS fun K hK=>?_;simp -dsimp;apply hK;clear hK K;refine gwp_cond rfl (fun hc0=>?_) (fun hc0=>?_)
 ·skip
  try simp at hc0
  have wi:=zW i (by omega);obtain⟨x,hx⟩:∃x,xs[i]?=some x:=⟨_,List.getElem?_eq_getElem hc0⟩;obtain⟨hxi,hxe⟩:=List.getElem?_eq_some_iff.1 hx;have hdr:xs.drop i=x::xs.drop (i+1):=by rw[List.drop_eq_getElem_cons hxi,hxe]
  have hdm:(xs.map nCell).drop i=[I x]::(xs.drop (i+1)).map nCell:=by rw[←List.map_drop,hdr];rfl
  have hst:=srt_take hx;have hsl:(srt (xs.take i)).length=i:=by rw[srt_len,List.length_take];omega
  have hso:=srt_sorted (xs.take i);generalize srt (xs.take i)=L at hst hsl hso ⊢;generalize hR:xs.drop (i+1)=R at hdr hdm ⊢;have hRl:R.length=xs.length-(i+1):=by rw[←hR,List.length_drop]
  refine gwp_skip ?_;simp only[zT,reduceIte,Nat.reduceEqDiff];refine hK1 _ _ ?_;refine gwp_prune [0,1,2,6] (Or.inr (by simp)) ?_;simp only[zP,Nat.reduceEqDiff,reduceIte];refine gwp_seq_k fun K2 hK2=>?_;refine gwp_block ?_;refine gS fun K hK=>?_;simp -dsimp;apply hK;clear hK K;refine gwp_block ?_;refine gwp_prune [0,1,2,6,7] (Or.inr (by simp)) ?_;simp only[zP,Nat.reduceEqDiff,reduceIte];refine gwp_loop_l [0,1,2,6] (α:=Nat) (fun j=>[(7,I j)]) (fun j=>[some (.els 1 ((wayL L x R j).map nCell))]) (fun j=>j≤i∧∀y∈L.drop j,x<y) (fun j=>j) i ?_ ?_ ?_
  ·exact⟨Nat.le_refl _,by rw[List.drop_of_length_le (by omega)];simp⟩
  ·refine gsub (sub_rb [some 0] rfl (by simp) ?_) (by simp);simp[wayL,hdm,List.take_of_length_le (show L.length≤i by omega),List.drop_of_length_le (show L.length≤i by omega)]
  rintro j ⟨j1,j2⟩
  rcases j with _|j
  rotate_left
  obtain⟨y,hy⟩:∃y,L[j]?=some y:=⟨_,List.getElem?_eq_getElem (by omega)⟩;have gj:=wayL_at (L:=L) (x:=x) (R:=R) (j:=j+1) (by omega);have gb:=wayL_before (x:=x) (R:=R) hy;have wj:IntKind.i64.wrap (j:Int)=j:=wrap_in (by omega) (by omega);have hj1:j+1<xs.length:=by omega
  have hj0:j<xs.length:=by omega
  have hdj:L.drop j=y::L.drop (j+1):=by obtain⟨hh,he⟩:=List.getElem?_eq_some_iff.1 hy;rw[List.drop_eq_getElem_cons hh,he]
  rotate_left
  ·simp only[zP,Nat.reduceEqDiff,reduceIte];refine gwp_seq_k fun K3 hK3=>?_;refine gwp_sd mixed rfl (by decide) rfl rfl fun K hK=>?_;simp -dsimp [wayL_at (L:=L) (x:=x) (R:=R) (Nat.zero_le _),wm1];refine callK_may _ (fun hm=>c_Less x x) (by simp) ?_;simp -dsimp [wayL_at (L:=L) (x:=x) (R:=R) (Nat.zero_le _),wm1];refine hK _ _ _ (by decide+kernel) ?_;clear hK K;refine gwp_cond rfl (fun hc1=>?_) (fun hc1=>?_)
   ·simp at hc1
   ·have hfin:ins x L=x::L:=by have:=ins_split x L (by simpa using j2) [] (by simp);simpa using this
    have he:srt (xs.take (i+1))++xs.drop (i+1)=wayL L x R 0:=by rw[hst,hR,hfin];simp[wayL]
    refine gwp_exit ?_;simp only[zT,reduceIte,Nat.reduceEqDiff];refine hK2 _ _ ?_;refine gwp_prune [0,1,2,6] (Or.inr (by simp)) ?_;simp only[zP,Nat.reduceEqDiff,reduceIte];refine gR fun K hK=>?_;simp -dsimp [wi];apply hK;clear hK K;simp only[zT,reduceIte,Nat.reduceEqDiff];exact⟨i+1,⟨by omega,by omega⟩,by omega,gsub (sub_rb [some 0] rfl (by simp) (by simp only[he];simp)) (by simp)⟩
  ·simp only[zP,Nat.reduceEqDiff,reduceIte];refine gwp_seq_k fun K4 hK4=>?_;refine gwp_sd mixed rfl (by decide) rfl rfl fun K hK=>?_;simp -dsimp [gj,gb,wj,hj1,hj0];refine⟨by omega,?_⟩
   try simp -dsimp [gj,gb,wj,hj1,hj0]
   refine callK_may _ (fun hm=>c_Less x y) (by simp) ?_;simp -dsimp [gj,gb,wj,hj1,hj0];refine hK _ _ _ (by decide+kernel) ?_;clear hK K;refine gwp_cond rfl (fun hc1=>?_) (fun hc1=>?_)
   ·skip
    try simp at hc1
    refine gwp_skip ?_;simp only[zT,reduceIte,Nat.reduceEqDiff];refine hK4 _ _ ?_;refine gwp_prune [0,1,2,6,7] (Or.inr (by simp)) ?_;simp only[zP,Nat.reduceEqDiff,reduceIte];refine gwp_seq_k fun K5 hK5=>?_;refine gwp_block ?_;refine gwp_draw mixed rfl (by decide) rfl rfl fun K hK=>?_;simp -dsimp [gj,gb,wj,hj1,hj0]
    repeat (refine⟨by omega,?_⟩;try simp -dsimp [gj,gb,wj,hj1,hj0])
    refine hK _ _ _ (by decide+kernel) ?_;clear hK K;simp only[zT,reduceIte,Nat.reduceEqDiff];refine hK5 _ _ ?_;refine gwp_prune [0,1,2,6,7] (Or.inr (by simp)) ?_;simp only[zP,Nat.reduceEqDiff,reduceIte];refine gR fun K hK=>?_;simp -dsimp [wj];apply hK;clear hK K;simp only[zT,reduceIte,Nat.reduceEqDiff];have hsw:(((wayL L x R (j+1)).map nCell).set (j+1) [I y]).set j [I x]=(wayL L x R j).map nCell:=by rw[←wayL_swap hy,List.map_set,List.map_set];rfl
    exact⟨j,⟨by omega,by intro z hz;rw[hdj]at hz;rcases List.mem_cons.1 hz with rfl|hz;exact hc1;exact j2 z hz⟩,by omega,gsub (sub_rb [some 0] rfl (by simp) (by simp[hsw])) (by simp)⟩
   ·skip
    try simp at hc1
    have hfin:ins x L=L.take (j+1)++x::L.drop (j+1):=by have:=ins_split x (L.drop (j+1)) j2 (L.take (j+1)) (fun a ha=>Int.le_trans (srt_le hso hy a ha) hc1);rwa [List.take_append_drop]at this
    have he:srt (xs.take (i+1))++xs.drop (i+1)=wayL L x R (j+1):=by rw[hst,hR,hfin];simp[wayL]
    refine gwp_exit ?_;simp only[zT,reduceIte,Nat.reduceEqDiff];refine hK2 _ _ ?_;refine gwp_prune [0,1,2,6] (Or.inr (by simp)) ?_;simp only[zP,Nat.reduceEqDiff,reduceIte];refine gR fun K hK=>?_;simp -dsimp [wi];apply hK;clear hK K;simp only[zT,reduceIte,Nat.reduceEqDiff];exact⟨i+1,⟨by omega,by omega⟩,by omega,gsub (sub_rb [some 0] rfl (by simp) (by simp only[he];simp)) (by simp)⟩
 ·skip
  try simp at hc0
  have hie:i=xs.length:=by omega
  subst hie;refine gwp_exit ?_
  try simp only[zT,reduceIte,Nat.reduceEqDiff]
  exact⟨[some 0],rfl,by simp,by simp,by simp[h1],by simp[resP,tupOf]⟩
theorem und_int:(Try.prog).underlying 3=some (.int .i64):=by kernel_rfl
theorem und_u64:(Try.prog).underlying 154=some (.int .u64):=by kernel_rfl
theorem und_str:(Try.prog).underlying 9=some .string:=by kernel_rfl
theorem und_u8:(Try.prog).underlying 5=some (.int .u8):=by kernel_rfl
theorem und_uint:(Try.prog).underlying 144=some (.int .u64):=by kernel_rfl
theorem str_index (s:ByteArray) (n:Int) (h0:0≤n) (h1:n.toNat<s.size) (w:World):(Instr.index 9 (.string s) (.int .u8 n)).run Try.prog w= .ok (.int .u8 (s[n.toNat]).toNat) w:=by
 have hs:s[n.toNat]?=some s[n.toNat]:=getElem?_pos s n.toNat h1;simp[Instr.index,asIntOf,run_underlying und_str,h0,hs]
theorem conv_in (n:Int) (w:World):(convert 3 144 (.int .i64 n)).run Try.prog w= .ok (.int .u64 (IntKind.u64.wrap n)) w:=by
 simp[convert,run_underlying und_int,run_underlying und_uint,Conv.intToInt]
theorem conv_u8 (n:Int) (w:World):(convert 154 5 (.int .u64 n)).run Try.prog w= .ok (.int .u8 (IntKind.u8.wrap n)) w:=by
 simp[convert,run_underlying und_u64,run_underlying und_u8,Conv.intToInt]
theorem conv_8i (n:Int) (w:World):(convert 5 3 (.int .u8 n)).run Try.prog w= .ok (.int .i64 (IntKind.i64.wrap n)) w:=by
 simp[convert,run_underlying und_int,run_underlying und_u8,Conv.intToInt]
abbrev U (n:Int):AV:= .v (.int .u64 n)
theorem u64_in {n:Int} (h0:0≤n) (h1:n<18446744073709551616):IntKind.u64.wrap n=n:=by rw[IntKind.wrap_u64];omega
theorem c_Len64 (n:Int) (h0:0≤n) (h1:n≤200):∃k,PureCall Try.prog 93 [U n] (I k):=by
 have w8:IntKind.u8.wrap n=n:=by rw[IntKind.wrap_u8];omega
 have h2:¬4294967296≤n:=by omega
 have h3:¬65536≤n:=by omega
 have h4:¬256≤n:=by omega
 apply Exists.intro;refine PureCall.of_body Try.func93 rfl (by decide) (by simp[Try.ntmps93]) ?_;simp only[Try.ntmps93,Try.results93];refine aS fun K hK=>?_;simp -dsimp;apply hK;clear hK K;refine awp_seq_k fun K1 hK1=>?_;refine aS fun K hK=>?_;simp -dsimp;apply hK;clear hK K;refine awp_cond rfl (fun hc0=>?_) (fun hc0=>?_)
 ·skip
  try simp at hc0
  omega
 ·skip
  try simp at hc0
  refine awp_skip ?_;simp only[zT,reduceIte,Nat.reduceEqDiff];refine hK1 _ _ ?_;refine awp_prune [0,2] ?_;simp only[zP,Nat.reduceEqDiff,reduceIte];refine awp_seq_k fun K2 hK2=>?_;refine aS fun K hK=>?_;simp -dsimp;apply hK;clear hK K;refine awp_cond rfl (fun hc1=>?_) (fun hc1=>?_)
  ·skip
   try simp at hc1
   omega
  ·skip
   try simp at hc1
   refine awp_skip ?_;simp only[zT,reduceIte,Nat.reduceEqDiff];refine hK2 _ _ ?_;refine awp_prune [0,2] ?_;simp only[zP,Nat.reduceEqDiff,reduceIte];refine awp_seq_k fun K3 hK3=>?_;refine aS fun K hK=>?_;simp -dsimp;apply hK;clear hK K;refine awp_cond rfl (fun hc2=>?_) (fun hc2=>?_)
   ·skip
    try simp at hc2
    omega
   ·skip
    try simp at hc2
    refine awp_skip ?_;simp only[zT,reduceIte,Nat.reduceEqDiff];refine hK3 _ _ ?_;refine awp_prune [0,2] ?_;simp only[zP,Nat.reduceEqDiff,reduceIte];refine aS fun K hK=>?_;simp -dsimp;refine⟨_,conv_u8 n,?_⟩
    try simp -dsimp [w8]
    refine⟨_,str_index _ n h0 (Nat.lt_of_lt_of_le (show n.toNat<256 by omega) (by decide+kernel)),?_⟩
    try simp -dsimp
    refine⟨_,conv_8i _,?_⟩
    try simp -dsimp
    apply hK;clear hK K;exact awp_ret rfl
theorem c_Len (n:Int) (h0:0≤n) (h1:n≤200):∃k,PureCall Try.prog 71 [U n] (I k):=by
 obtain⟨k,hk⟩:=c_Len64 n h0 h1;refine⟨k,?_⟩;refine PureCall.of_body Try.func71 rfl (by decide) (by simp[Try.ntmps71]) ?_;simp only[Try.ntmps71,Try.results71];refine aS fun K hK=>?_;simp -dsimp;apply hK;clear hK K;refine awp_seq_k fun K1 hK1=>?_;refine awp_cond rfl (fun hc0=>?_) (fun hc0=>?_)
 ·simp at hc0
 ·refine awp_skip ?_;simp only[zT,reduceIte,Nat.reduceEqDiff];refine hK1 _ _ ?_;refine awp_prune [0] ?_;simp only[zP,Nat.reduceEqDiff,reduceIte];refine aS fun K hK=>?_;simp -dsimp;refine callK_intro _ (hk) (by simp) ?_;simp -dsimp;apply hK;clear hK K;exact awp_ret (by simp)
theorem m_pdq (xs:List Int) (k:Int) (h1:1≤xs.length) (hn:xs.length≤12):MutCall Try.prog 70 [.row 0 0 xs.length,I 0,I xs.length,I k] [some (.els 1 (xs.map nCell))] [] (.tup []) [some (.els 1 ((srt xs).map nCell))] []:=by
 have hs:=m_isort xs h1 (by omega);have wl:IntKind.i64.wrap (xs.length:Int)=xs.length:=wrap_in (by omega) (by omega);refine MutCall.of_bodyG [0] Try.func70 rfl (by decide) (by simp[Try.ntmps70]) rfl rfl ?_;intro J hJ;simp only[Try.ntmps70,Try.results70];refine gS fun K hK=>?_;simp -dsimp;apply hK;clear hK K;refine gS fun K hK=>?_;simp -dsimp;apply hK;clear hK K;refine gwp_block ?_;refine gwp_prune [0,1,2,3,8,9] (Or.inr (by simp)) ?_;simp only[zP,Nat.reduceEqDiff,reduceIte];refine gwp_loop_l [0] (α:=Unit) (fun _=>[(1,I 0),(2,I xs.length),(3,I k),(8,Bo true),(9,Bo true)]) (fun _=>[some (.els 1 (xs.map nCell))]) (fun _=>True) (fun _=>0) () ?_ ?_ ?_
 ·simp
 ·exact gsub (sub_same (by simp)) (by simp)
 rintro u-;simp only[zP,Nat.reduceEqDiff,reduceIte];refine gwp_block ?_;refine gS fun K hK=>?_;simp -dsimp [wl];apply hK;clear hK K;refine gwp_seq_k fun K1 hK1=>?_;refine gS fun K hK=>?_;simp -dsimp;apply hK;clear hK K;refine gwp_cond rfl (fun hc0=>?_) (fun hc0=>?_)
 ·skip
  try simp at hc0
  refine gS fun K hK=>?_;simp -dsimp;refine callK_mut [0] [] [some 0] (hs) (by decide) rfl (by simp) (by simp) rfl (by simp) ?_;simp -dsimp;apply hK;clear hK K;exact gwp_ret ⟨[some 0],rfl,by simp,by simp,by simp[h1],by simp[resP,tupOf]⟩
 ·skip
  try simp at hc0
  omega
theorem m_Sort (xs:List Int) (h1:1≤xs.length) (hn:xs.length≤12):MutCall Try.prog 48 [.row 0 0 xs.length] [some (.els 1 (xs.map nCell))] [] (.tup []) [some (.els 1 ((srt xs).map nCell))] []:=by
 obtain⟨k,hk⟩:=c_Len xs.length (by omega) (by omega);have hs:=m_pdq xs k h1 hn;have wu:IntKind.u64.wrap (xs.length:Int)=xs.length:=u64_in (by omega) (by omega);refine MutCall.of_bodyG [0] Try.func48 rfl (by decide) (by simp[Try.ntmps48]) rfl rfl ?_;intro J hJ;simp only[Try.ntmps48,Try.results48];refine gS fun K hK=>?_;simp -dsimp;apply hK;clear hK K;refine gR fun K hK=>?_;simp -dsimp;refine⟨_,conv_in _,?_⟩;simp -dsimp [wu];refine callK_intro _ (hk) (by simp) ?_;simp -dsimp;refine callK_mut [0] [] [some 0] (hs) (by decide) rfl (by simp) (by simp) rfl (by simp) ?_;simp -dsimp;apply hK;clear hK K
 try simp only[zT,reduceIte,Nat.reduceEqDiff]
 exact⟨[some 0],rfl,by simp,by simp,by simp[h1],by simp[resP,tupOf]⟩
end Go.Cur
end
section
namespace Go.Cur
open Go.AM Go.Proofs
def bAt (l:List Bool) (k:Nat):Bool:=(l[k]?).getD false
theorem bAt_get {l:List Bool} {k:Nat} (h:k<l.length):l[k]?=some (bAt l k):=by
 unfold bAt;rw[List.getElem?_eq_getElem h];rfl
theorem bAt_of {l:List Bool} {k:Nat} {b:Bool} (h:l[k]?=some b):bAt l k=b:=by simp[bAt,h]
def swTo (g:Gr) (s:Sta):Nat→Bool
 |0=>true
 |k+1=>swTo g s k&&(match g.Wires[k]? with|some w=>w.Sw||bAt s.Wires k|none=>true)
def stB (g:Gr) (s:Sta):Bool:=decide (s.Feeds.length=g.Feeds.length)&&decide (s.Wires.length=g.Wires.length)&&swTo g s g.Wires.length
def lkv (l:List Ld):List (List KC×Value):=l.map fun f=>(ik f.At, .bool true)
theorem lkv_get:∀(l:List Ld) (x:Int),kvGet (lkv l) (ik x)=if (l.any fun f=>decide (f.At=x))=true then some (.bool true)else none
 |[],x=>rfl
 |f::l,x=>by
  have ih:=lkv_get l x;simp only[lkv]at ih;simp only[lkv,List.map_cons,kvGet,List.any_cons,Bool.or_eq_true,decide_eq_true_eq]
  by_cases h:f.At=x
  ·rw[if_pos (by rw[h]),if_pos (Or.inl h)]
  ·rw[if_neg (fun e=>h (ik_inj.1 e).symm),ih];simp only[h,false_or]
theorem lkv_look (l:List Ld) (x:Int):((kvGet (lkv l) (ik x)).getD (.bool false))= .bool (l.any fun f=>decide (f.At=x)):=by
 rw[lkv_get]
 cases (l.any fun f=>decide (f.At=x))<;>rfl
theorem lkv_snoc:∀(l:List Ld) (f:Ld),(l.any fun x=>decide (x.At=f.At))=false→kvSet (lkv l) (ik f.At) (.bool true)=lkv (l++[f])
 |[],f,_=>rfl
 |x::l,f,h=>by
  simp only[List.any_cons,Bool.or_eq_false_iff,decide_eq_false_iff_not]at h;have ih:=lkv_snoc l f h.2;simp only[lkv]at ih;simp only[lkv,List.map_cons,List.cons_append,kvSet];rw[if_neg (fun e=>h.1 (ik_inj.1 e).symm),ih]
def ldB (g:Gr) (l:List Ld) (f:Ld):Bool:=inr f.At 0 (g.Nodes-1)&&inr f.Units (-40) 40&&inr f.Rank 0 100&& !(l.any fun x=>decide (x.At=f.At))
def ldTo (g:Gr) (l:List Ld):Nat→Bool
 |0=>true
 |k+1=>ldTo g l k&&(match l[k]? with|some f=>ldB g (l.take k) f|none=>true)
def fineB (g:Gr) (s:Sta) (l:List Ld):Bool:=grB g&&stB g s&&ldTo g l l.length
theorem swTo_ff {g:Gr} {s:Sta} {k:Nat} (h:swTo g s k=false):∀d,swTo g s (k+d)=false
 |0=>h
 |d+1=>by rw[←Nat.add_assoc];simp only[swTo,swTo_ff h d,Bool.false_and]
theorem ldTo_ff {g:Gr} {l:List Ld} {k:Nat} (h:ldTo g l k=false):∀d,ldTo g l (k+d)=false
 |0=>h
 |d+1=>by rw[←Nat.add_assoc];simp only[ldTo,ldTo_ff h d,Bool.false_and]
theorem fine_w {g:Gr} {s:Sta} {l:List Ld} {k:Nat} {w:Wr} (hw:g.Wires[k]?=some w) (h:(w.Sw||bAt s.Wires k)=false):fineB g s l=false:=by
 have hk:=(List.getElem?_eq_some_iff.1 hw).1;have h1:swTo g s (k+1)=false:=by simp only[swTo,hw,h,Bool.and_false]
 have h2:=swTo_ff h1 (g.Wires.length-(k+1));rw[show k+1+(g.Wires.length-(k+1))=g.Wires.length by omega]at h2;simp[fineB,stB,h2]
theorem fine_l {g:Gr} {s:Sta} {l:List Ld} {k:Nat} {f:Ld} (hf:l[k]?=some f) (h:ldB g (l.take k) f=false):fineB g s l=false:=by
 have hk:=(List.getElem?_eq_some_iff.1 hf).1;have h1:ldTo g l (k+1)=false:=by simp only[ldTo,hf,h,Bool.and_false]
 have h2:=ldTo_ff h1 (l.length-(k+1));rw[show k+1+(l.length-(k+1))=l.length by omega]at h2;simp[fineB,h2]
@[simp] def ntC (g:Gr) (fe wi:AV):List AV:=g.cells++[fe,wi]
abbrev net (g:Gr) (s:Sta):AV:= .iptr (ntC g (bL s.Feeds) (bL s.Wires))
theorem o_Cl (t:List Bool) (hne:t≠[]) (hn:t.length≤1000):OwnCall Try.prog 41 [bL t] 0 t.length 1 (t.map bCell):=by
 have f1:Fits t.length 2:=fits_of (by omega) (by omega);refine OwnCall.of_body Try.func41 rfl (by decide) (by simp[Try.ntmps41]) (by simp) (by simpa using hne) ?_;simp only[Try.ntmps41,Try.results41];refine aS fun K hK=>?_;simp -dsimp;apply hK;clear hK K;refine awp_seq_k fun K1 hK1=>?_;refine aS fun K hK=>?_;simp -dsimp [hne];apply hK;clear hK K;refine awp_cond rfl (fun hc0=>?_) (fun hc0=>?_)
 ·simp at hc0
 ·refine awp_skip ?_;simp only[zT,reduceIte,Nat.reduceEqDiff];refine hK1 _ _ ?_;refine awp_prune [0] ?_;simp only[zP,Nat.reduceEqDiff,reduceIte];refine aS fun K hK=>?_;simp -dsimp [hne,f1];apply hK;clear hK K;exact awp_ret ⟨2,0,rfl,by simp,by simp⟩
theorem grB_bd {g:Gr} (h:grB g=true):1≤g.Nodes∧g.Nodes≤40∧g.Wires.length≤80∧g.Feeds.length≤12∧0≤g.Least∧g.Least≤1000:=by
 simp only[grB,grH,Bool.and_eq_true,decide_eq_true_eq,inr_iff]at h;omega
theorem c_begin_f (g:Gr) (s:Sta) (l:List Ld) (hl:l.length≤1000) (hfine:fineB g s l=false):PureCall Try.prog 22 [g.av,s.av,lL l] (.tup [.v (.pointer none),Bo false]):=by
 refine PureCall.of_body Try.func22 rfl (by decide) (by simp[Try.ntmps22]) ?_;simp only[Try.ntmps22,Try.results22];refine aS fun K hK=>?_;simp -dsimp;apply hK;clear hK K;refine awp_seq_k fun K1 hK1=>?_;refine aS fun K hK=>?_;simp -dsimp [okE];refine callK_intro _ (c_Check g) (by simp) ?_;simp -dsimp [okE];apply hK;clear hK K;refine awp_cond rfl (fun hc0=>?_) (fun hc0=>?_)
 ·refine aS fun K hK=>?_;simp -dsimp;apply hK;clear hK K;exact awp_ret (by simp)
 ·have hgo:grB g=true∧s.Feeds.length=g.Feeds.length∧s.Wires.length=g.Wires.length:=by
   cases hg:grB g with
   |false=>simp[hg]at hc0
   |true=>simp[hg]at hc0;exact⟨rfl,by omega,by omega⟩
  have hb:=grB_bd hgo.1;refine awp_skip ?_;simp only[zT,reduceIte,Nat.reduceEqDiff];refine hK1 _ _ ?_;refine awp_prune [2,3,4] ?_;simp only[zP,Nat.reduceEqDiff,reduceIte];refine awp_seq_k fun K2 hK2=>?_;refine aS fun K hK=>?_;simp -dsimp;apply hK;clear hK K;refine awp_block ?_;refine awp_prune [2,3,4,35,36,37] ?_;simp only[zP,Nat.reduceEqDiff,reduceIte];refine awp_loop_l [2,3,4,35,36] (α:=Nat) (fun k=>[(37,I k)]) (fun k=>[some (.els 4 [g.cells]),some (.els 2 [s.cells])]) (fun k=>k≤g.Wires.length∧swTo g s k=true) (fun k=>g.Wires.length-k) 0 ?_ ?_ ?_
  ·exact⟨Nat.zero_le _,rfl⟩
  ·exact sub_same (by simp)
  rintro k ⟨k1,k2⟩;simp only[zP,Nat.reduceEqDiff,reduceIte];refine aS fun K hK=>?_;simp -dsimp;apply hK;clear hK K;refine awp_seq_k fun K3 hK3=>?_;refine awp_cond rfl (fun hc1=>?_) (fun hc1=>?_)
  ·skip
   try simp at hc1
   obtain⟨w,hw⟩:∃w,g.Wires[k]?=some w:=⟨_,List.getElem?_eq_getElem hc1⟩;have wk:=zW k (by omega);have gb:=bAt_get (l:=s.Wires) (k:=k) (by omega);refine awp_skip ?_;simp only[zT,reduceIte,Nat.reduceEqDiff];refine hK3 _ _ ?_;refine awp_prune [2,3,4,35,36,37] ?_;simp only[zP,Nat.reduceEqDiff,reduceIte];refine awp_seq_k fun K4 hK4=>?_;refine awp_block ?_;refine aS fun K hK=>?_;simp -dsimp [hw];apply hK;clear hK K;refine aS fun K hK=>?_;simp -dsimp [gb,hgo.2.2];refine idxK_intro (bCell (bAt s.Wires k)) (fun _=>by simp[gb]) ?_;simp -dsimp [gb,hgo.2.2];apply hK;clear hK K;refine awp_cond rfl (fun hc2=>?_) (fun hc2=>?_)
   ·skip
    try simp at hc2
    refine aS fun K hK=>?_;simp -dsimp;apply hK;clear hK K;exact awp_ret (by simp)
   ·skip
    try simp at hc2
    refine awp_skip ?_;simp only[zT,reduceIte,Nat.reduceEqDiff];refine hK4 _ _ ?_;refine awp_prune [2,3,4,35,36,37] ?_;simp only[zP,Nat.reduceEqDiff,reduceIte];refine aR fun K hK=>?_;simp -dsimp [wk];apply hK;clear hK K;simp only[zT,reduceIte,Nat.reduceEqDiff];refine⟨k+1,⟨by omega,?_⟩,by omega,sub_rb [some 0,some 1] rfl (by simp) (by simp)⟩;simp only[swTo,k2,hw,Bool.true_and]
    cases hw1:w.Sw<;>cases hb1:bAt s.Wires k<;>simp[hw1,hb1]at hc2 ⊢
  ·skip
   try simp at hc1
   have hke:k=g.Wires.length:=by omega
   subst hke;refine awp_exit ?_;simp only[zT,reduceIte,Nat.reduceEqDiff];refine hK2 _ _ ?_;refine awp_prune [2,3,4] ?_;simp only[zP,Nat.reduceEqDiff,reduceIte];refine aS fun K hK=>?_;simp -dsimp;apply hK;clear hK K;refine awp_seq_k fun K5 hK5=>?_;refine aS fun K hK=>?_;simp -dsimp;apply hK;clear hK K;refine awp_block ?_;refine awp_prune [3,4,10,55,56,57] ?_;simp only[zP,Nat.reduceEqDiff,reduceIte];refine awp_loop_l [3,4,10,55,56] (α:=Nat) (fun k=>[(57,I k)]) (fun k=>[some (.els 4 [g.cells]),some (.els 2 [s.cells]),some (.map false [.i .i64] (lkv (l.take k)))]) (fun k=>k≤l.length∧ldTo g l k=true) (fun k=>l.length-k) 0 ?_ ?_ ?_
   ·exact⟨Nat.zero_le _,rfl⟩
   ·exact sub_rb [some 0,some 1,some 2] rfl (by simp) (by simp[lkv])
   rintro i ⟨i1,i2⟩;simp only[zP,Nat.reduceEqDiff,reduceIte];refine aS fun K hK=>?_;simp -dsimp;apply hK;clear hK K;refine awp_seq_k fun K6 hK6=>?_;refine awp_cond rfl (fun hc3=>?_) (fun hc3=>?_)
   ·skip
    try simp at hc3
    obtain⟨f,hf⟩:∃f,l[i]?=some f:=⟨_,List.getElem?_eq_getElem hc3⟩;have wi:=zW i (by omega);have wn:IntKind.i64.wrap (g.Nodes-1)=g.Nodes-1:=wrap_in (by omega) (by omega);refine awp_skip ?_;simp only[zT,reduceIte,Nat.reduceEqDiff];refine hK6 _ _ ?_;refine awp_prune [3,4,10,55,56,57] ?_;simp only[zP,Nat.reduceEqDiff,reduceIte];refine awp_seq_k fun K7 hK7=>?_;refine awp_block ?_;refine aS fun K hK=>?_;simp -dsimp [hf];apply hK;clear hK K;refine awp_seq_k fun K8 hK8=>?_;refine aS fun K hK=>?_;simp -dsimp [wn,lkv_look];refine callK_intro _ (c_within _ _ _) (by simp) ?_;simp -dsimp [wn,lkv_look];refine callK_may _ (fun hm=>c_within f.Units (-40) 40) (by simp) ?_;simp -dsimp [wn,lkv_look];refine callK_may _ (fun hm=>c_within f.Rank 0 100) (by simp) ?_;simp -dsimp [wn,lkv_look];refine valK_intro (_) (fun hm=>rfl) ?_;simp -dsimp [wn,lkv_look];apply hK;clear hK K;refine awp_cond rfl (fun hc4=>?_) (fun hc4=>?_)
    ·have hfd:ldB g (l.take i) f= !(!inr f.At 0 (g.Nodes-1)|| !inr f.Units (-40) 40|| !inr f.Rank 0 100||((l.take i).any fun x=>decide (x.At=f.At))):=by
      simp only[ldB]
      cases inr f.At 0 (g.Nodes-1)<;>cases inr f.Units (-40) 40<;>cases inr f.Rank 0 100<;>cases ((l.take i).any fun x=>decide (x.At=f.At))<;>rfl
     refine aS fun K hK=>?_;simp -dsimp;apply hK;clear hK K;exact awp_ret (by simp)
    ·have hfd:ldB g (l.take i) f= !(!inr f.At 0 (g.Nodes-1)|| !inr f.Units (-40) 40|| !inr f.Rank 0 100||((l.take i).any fun x=>decide (x.At=f.At))):=by
      simp only[ldB]
      cases inr f.At 0 (g.Nodes-1)<;>cases inr f.Units (-40) 40<;>cases inr f.Rank 0 100<;>cases ((l.take i).any fun x=>decide (x.At=f.At))<;>rfl
     have hany:((l.take i).any fun x=>decide (x.At=f.At))=false:=by
      cases h:((l.take i).any fun x=>decide (x.At=f.At))with
      |false=>rfl
      |true=>rw[h]at hc4;simp at hc4
     refine awp_skip ?_;simp only[zT,reduceIte,Nat.reduceEqDiff];refine hK8 _ _ ?_;refine awp_prune [3,4,10,12,55,56,57] ?_;simp only[zP,Nat.reduceEqDiff,reduceIte];refine aR fun K hK=>?_;simp -dsimp [lkv_snoc _ _ hany];apply hK;clear hK K;simp only[zT,reduceIte,Nat.reduceEqDiff];refine hK7 _ _ ?_;refine awp_prune [3,4,10,55,56,57] ?_;simp only[zP,Nat.reduceEqDiff,reduceIte];refine aR fun K hK=>?_;simp -dsimp [wi];apply hK;clear hK K;simp only[zT,reduceIte,Nat.reduceEqDiff];refine⟨i+1,⟨by omega,?_⟩,by omega,sub_rb [some 0,some 1,some 2] rfl (by simp) (by simp[List.take_add_one,hf])⟩;simp only[ldTo,i2,hf,hfd,hc4];rfl
   ·skip
    try simp at hc3
    have hie:i=l.length:=by omega
    subst hie;exfalso;simp[fineB,stB,hgo.1,hgo.2.1,hgo.2.2,k2,i2]at hfine
theorem c_begin_t (g:Gr) (s:Sta) (l:List Ld) (hl:l.length≤1000) (hfine:fineB g s l=true):PureCall Try.prog 22 [g.av,s.av,lL l] (.tup [net g s,Bo true]):=by
 have hfine0:=hfine;simp only[fineB,stB,Bool.and_eq_true,decide_eq_true_eq]at hfine0;have hgo:grB g=true∧s.Feeds.length=g.Feeds.length∧s.Wires.length=g.Wires.length:=⟨hfine0.1.1,hfine0.1.2.1.1,hfine0.1.2.1.2⟩;refine PureCall.of_body Try.func22 rfl (by decide) (by simp[Try.ntmps22]) ?_;simp only[Try.ntmps22,Try.results22];refine aS fun K hK=>?_;simp -dsimp;apply hK;clear hK K;refine awp_seq_k fun K1 hK1=>?_;refine aS fun K hK=>?_;simp -dsimp [okE];refine callK_intro _ (c_Check g) (by simp) ?_;simp -dsimp [okE];apply hK;clear hK K;refine awp_cond rfl (fun hc0=>?_) (fun hc0=>?_)
 ·exfalso;simp[hgo.1,hgo.2.1,hgo.2.2]at hc0
 ·have hb:=grB_bd hgo.1;refine awp_skip ?_;simp only[zT,reduceIte,Nat.reduceEqDiff];refine hK1 _ _ ?_;refine awp_prune [2,3,4] ?_;simp only[zP,Nat.reduceEqDiff,reduceIte];refine awp_seq_k fun K2 hK2=>?_;refine aS fun K hK=>?_;simp -dsimp;apply hK;clear hK K;refine awp_block ?_;refine awp_prune [2,3,4,35,36,37] ?_;simp only[zP,Nat.reduceEqDiff,reduceIte];refine awp_loop_l [2,3,4,35,36] (α:=Nat) (fun k=>[(37,I k)]) (fun k=>[some (.els 4 [g.cells]),some (.els 2 [s.cells])]) (fun k=>k≤g.Wires.length∧swTo g s k=true) (fun k=>g.Wires.length-k) 0 ?_ ?_ ?_
  ·exact⟨Nat.zero_le _,rfl⟩
  ·exact sub_same (by simp)
  rintro k ⟨k1,k2⟩;simp only[zP,Nat.reduceEqDiff,reduceIte];refine aS fun K hK=>?_;simp -dsimp;apply hK;clear hK K;refine awp_seq_k fun K3 hK3=>?_;refine awp_cond rfl (fun hc1=>?_) (fun hc1=>?_)
  ·skip
   try simp at hc1
   obtain⟨w,hw⟩:∃w,g.Wires[k]?=some w:=⟨_,List.getElem?_eq_getElem hc1⟩;have wk:=zW k (by omega);have gb:=bAt_get (l:=s.Wires) (k:=k) (by omega);refine awp_skip ?_;simp only[zT,reduceIte,Nat.reduceEqDiff];refine hK3 _ _ ?_;refine awp_prune [2,3,4,35,36,37] ?_;simp only[zP,Nat.reduceEqDiff,reduceIte];refine awp_seq_k fun K4 hK4=>?_;refine awp_block ?_;refine aS fun K hK=>?_;simp -dsimp [hw];apply hK;clear hK K;refine aS fun K hK=>?_;simp -dsimp [gb,hgo.2.2];refine idxK_intro (bCell (bAt s.Wires k)) (fun _=>by simp[gb]) ?_;simp -dsimp [gb,hgo.2.2];apply hK;clear hK K;refine awp_cond rfl (fun hc2=>?_) (fun hc2=>?_)
   ·exfalso;have hfl:(w.Sw||bAt s.Wires k)=false:=by cases hw1:w.Sw<;>cases hb1:bAt s.Wires k<;>simp[hw1,hb1]at hc2 ⊢
    rw[fine_w hw hfl]at hfine;cases hfine
   ·refine awp_skip ?_;simp only[zT,reduceIte,Nat.reduceEqDiff];refine hK4 _ _ ?_;refine awp_prune [2,3,4,35,36,37] ?_;simp only[zP,Nat.reduceEqDiff,reduceIte];refine aR fun K hK=>?_;simp -dsimp [wk];apply hK;clear hK K;simp only[zT,reduceIte,Nat.reduceEqDiff];refine⟨k+1,⟨by omega,?_⟩,by omega,sub_rb [some 0,some 1] rfl (by simp) (by simp)⟩;simp only[swTo,k2,hw,Bool.true_and]
    cases hw1:w.Sw<;>cases hb1:bAt s.Wires k<;>simp[hw1,hb1]at hc2 ⊢
  ·skip
   try simp at hc1
   have hke:k=g.Wires.length:=by omega
   subst hke;refine awp_exit ?_;simp only[zT,reduceIte,Nat.reduceEqDiff];refine hK2 _ _ ?_;refine awp_prune [2,3,4] ?_;simp only[zP,Nat.reduceEqDiff,reduceIte];refine aS fun K hK=>?_;simp -dsimp;apply hK;clear hK K;refine awp_seq_k fun K5 hK5=>?_;refine aS fun K hK=>?_;simp -dsimp;apply hK;clear hK K;refine awp_block ?_;refine awp_prune [3,4,10,55,56,57] ?_;simp only[zP,Nat.reduceEqDiff,reduceIte];refine awp_loop_l [3,4,10,55,56] (α:=Nat) (fun k=>[(57,I k)]) (fun k=>[some (.els 4 [g.cells]),some (.els 2 [s.cells]),some (.map false [.i .i64] (lkv (l.take k)))]) (fun k=>k≤l.length∧ldTo g l k=true) (fun k=>l.length-k) 0 ?_ ?_ ?_
   ·exact⟨Nat.zero_le _,rfl⟩
   ·exact sub_rb [some 0,some 1,some 2] rfl (by simp) (by simp[lkv])
   rintro i ⟨i1,i2⟩;simp only[zP,Nat.reduceEqDiff,reduceIte];refine aS fun K hK=>?_;simp -dsimp;apply hK;clear hK K;refine awp_seq_k fun K6 hK6=>?_;refine awp_cond rfl (fun hc3=>?_) (fun hc3=>?_)
   ·skip
    try simp at hc3
    obtain⟨f,hf⟩:∃f,l[i]?=some f:=⟨_,List.getElem?_eq_getElem hc3⟩;have wi:=zW i (by omega);have wn:IntKind.i64.wrap (g.Nodes-1)=g.Nodes-1:=wrap_in (by omega) (by omega);refine awp_skip ?_;simp only[zT,reduceIte,Nat.reduceEqDiff];refine hK6 _ _ ?_;refine awp_prune [3,4,10,55,56,57] ?_;simp only[zP,Nat.reduceEqDiff,reduceIte];refine awp_seq_k fun K7 hK7=>?_;refine awp_block ?_;refine aS fun K hK=>?_;simp -dsimp [hf];apply hK;clear hK K;refine awp_seq_k fun K8 hK8=>?_;refine aS fun K hK=>?_;simp -dsimp [wn,lkv_look];refine callK_intro _ (c_within _ _ _) (by simp) ?_;simp -dsimp [wn,lkv_look];refine callK_may _ (fun hm=>c_within f.Units (-40) 40) (by simp) ?_;simp -dsimp [wn,lkv_look];refine callK_may _ (fun hm=>c_within f.Rank 0 100) (by simp) ?_;simp -dsimp [wn,lkv_look];refine valK_intro (_) (fun hm=>rfl) ?_;simp -dsimp [wn,lkv_look];apply hK;clear hK K;refine awp_cond rfl (fun hc4=>?_) (fun hc4=>?_)
    ·have hfd:ldB g (l.take i) f= !(!inr f.At 0 (g.Nodes-1)|| !inr f.Units (-40) 40|| !inr f.Rank 0 100||((l.take i).any fun x=>decide (x.At=f.At))):=by
      simp only[ldB]
      cases inr f.At 0 (g.Nodes-1)<;>cases inr f.Units (-40) 40<;>cases inr f.Rank 0 100<;>cases ((l.take i).any fun x=>decide (x.At=f.At))<;>rfl
     exfalso;rw[fine_l hf (by rw[hfd,hc4];rfl)]at hfine;cases hfine
    ·have hfd:ldB g (l.take i) f= !(!inr f.At 0 (g.Nodes-1)|| !inr f.Units (-40) 40|| !inr f.Rank 0 100||((l.take i).any fun x=>decide (x.At=f.At))):=by
      simp only[ldB]
      cases inr f.At 0 (g.Nodes-1)<;>cases inr f.Units (-40) 40<;>cases inr f.Rank 0 100<;>cases ((l.take i).any fun x=>decide (x.At=f.At))<;>rfl
     have hany:((l.take i).any fun x=>decide (x.At=f.At))=false:=by
      cases h:((l.take i).any fun x=>decide (x.At=f.At))with
      |false=>rfl
      |true=>rw[h]at hc4;simp at hc4
     refine awp_skip ?_;simp only[zT,reduceIte,Nat.reduceEqDiff];refine hK8 _ _ ?_;refine awp_prune [3,4,10,12,55,56,57] ?_;simp only[zP,Nat.reduceEqDiff,reduceIte];refine aR fun K hK=>?_;simp -dsimp [lkv_snoc _ _ hany];apply hK;clear hK K;simp only[zT,reduceIte,Nat.reduceEqDiff];refine hK7 _ _ ?_;refine awp_prune [3,4,10,55,56,57] ?_;simp only[zP,Nat.reduceEqDiff,reduceIte];refine aR fun K hK=>?_;simp -dsimp [wi];apply hK;clear hK K;simp only[zT,reduceIte,Nat.reduceEqDiff];refine⟨i+1,⟨by omega,?_⟩,by omega,sub_rb [some 0,some 1,some 2] rfl (by simp) (by simp[List.take_add_one,hf])⟩;simp only[ldTo,i2,hf,hfd,hc4];rfl
   ·skip
    try simp at hc3
    refine awp_exit ?_;simp only[zT,reduceIte,Nat.reduceEqDiff];refine hK5 _ _ ?_;refine awp_prune [3,4] ?_;simp only[zP,Nat.reduceEqDiff,reduceIte];refine awp_sd mixed rfl fun K hK=>?_;simp -dsimp;refine callK_intro _ (c_Clone_Bool s.Feeds (by omega)) (by simp) ?_;simp -dsimp;refine callK_intro _ (c_Clone_Bool s.Wires (by omega)) (by simp) ?_;simp -dsimp;refine hK _ _ _ (by decide+kernel) ?_;clear hK K;exact awp_ret (by simp)
end Go.Cur
end
section
namespace Go.Cur
open Go.AM Go.Proofs
theorem sub_rfM {nt:Nat} {T:Tm} {H:Hp} (g:List (Option Nat)) (hn:nodupB g=true):Go.AM.Sub nt T H (T.map fun p=>(p.1,renF (hget H) g 3 (Go.AM.look T p.1))) (renHF H g):=by
 refine sub_rf g hn ?_ rfl;have gen:∀(T':Tm),subTF H g T (T'.map fun p=>(p.1,renF (hget H) g 3 (Go.AM.look T p.1))):=by
  intro T'
  induction T' with
  |nil=>trivial
  |cons p T' ih=>exact⟨Or.inr rfl,ih⟩
 exact gen T
def tkS (s:List (List KC×Value)) (p:Ld×Bool):List (List KC×Value):=if p.2 then kvSet s (ik p.1.At) (.int .i64 p.1.Units)else s
def tkK (l:List Ld) (sv:List Bool):List (List KC×Value):=(l.zip sv).foldl tkS []
def curS (x:Int) (c:Int) (p:Ld×Bool):Int:=if p.2=true∧p.1.At=x then p.1.Units else c
def cur (l:List Ld) (sv:List Bool) (x:Int):Int:=(l.zip sv).foldl (curS x) 0
theorem tkK_int (l:List Ld) (sv:List Bool):IntM (tkK l sv):=by
 have gen:∀(l:List (Ld×Bool)) (s:List (List KC×Value)),IntM s→IntM (l.foldl tkS s):=by
  intro l
  induction l with
  |nil=>intro s h;exact h
  |cons w l ih=>
   intro s h;refine ih _ ?_;unfold tkS
   split
   ·exact h.set _ _
   ·exact h
 exact gen _ [] IntM.nil
theorem tkK_get (l:List Ld) (sv:List Bool) (x:Int):igt (tkK l sv) x=cur l sv x:=by
 have gen:∀(l:List (Ld×Bool)) (s:List (List KC×Value)),igt (l.foldl tkS s) x=l.foldl (curS x) (igt s x):=by
  intro l
  induction l with
  |nil=>intro s;rfl
  | cons w l ih=>
   intro s;rw[List.foldl_cons,List.foldl_cons,ih]
   congr 1
   unfold tkS curS
   by_cases h:w.2=true
   ·rw[if_pos h,igt_set]
    by_cases hx:w.1.At=x
    ·rw[if_pos hx.symm,if_pos ⟨h,hx⟩]
    ·rw[if_neg (fun e=>hx e.symm),if_neg (fun e=>hx e.2)]
   ·rw[if_neg h,if_neg (fun e=>h e.1)]
 exact gen _ []
theorem tkK_snoc {l:List Ld} {sv:List Bool} {k:Nat} {f:Ld} {b:Bool} (hl:l[k]?=some f) (hs:sv[k]?=some b):tkK (l.take (k+1)) (sv.take (k+1))=tkS (tkK (l.take k) (sv.take k)) (f,b):=by
 have hk:=(List.getElem?_eq_some_iff.1 hl).1;have hk2:=(List.getElem?_eq_some_iff.1 hs).1;unfold tkK;rw[List.take_add_one,List.take_add_one,hl,hs,List.zip_append (by simp;omega)];simp
theorem rep_take {n k:Nat} (h:k<n):(List.replicate n true)[k]?=some true:=by simp[h]
theorem c_taken_n' (l:List Ld) (sv:List Bool) (hl:l.length≤1000) (hs:∀k,k<l.length→sv[k]?=some true) (hsl:sv.take l.length=sv):PureCall Try.prog 33 [lL l, .v (.slice none 0 0)] (.mpc false [.i .i64] (tkK l sv)):=by
 refine PureCall.of_body Try.func33 rfl (by decide) (by simp[Try.ntmps33]) ?_;simp only[Try.ntmps33,Try.results33];refine aS fun K hK=>?_;simp -dsimp;apply hK;clear hK K;refine aS fun K hK=>?_;simp -dsimp;apply hK;clear hK K;refine awp_seq_k fun K1 hK1=>?_;refine aS fun K hK=>?_;simp -dsimp;apply hK;clear hK K;refine awp_block ?_;refine awp_prune [1,5,9,10,11] ?_;simp only[zP,Nat.reduceEqDiff,reduceIte];refine awp_loop_l [1,5,9,10] (α:=Nat) (fun k=>[(11,I k)]) (fun k=>[some (.map false [.i .i64] (tkK (l.take k) (sv.take k)))]) (fun k=>k≤l.length) (fun k=>l.length-k) 0 ?_ ?_ ?_
 ·exact Nat.zero_le _
 ·exact sub_same (by simp[tkK])
 rintro k k1;simp only[zP,Nat.reduceEqDiff,reduceIte];refine aS fun K hK=>?_;simp -dsimp;apply hK;clear hK K;refine awp_seq_k fun K2 hK2=>?_;refine awp_cond rfl (fun hc0=>?_) (fun hc0=>?_)
 ·skip
  try simp at hc0
  obtain⟨f,hf⟩:∃f,l[k]?=some f:=⟨_,List.getElem?_eq_getElem hc0⟩;have wk:=zW k (by omega);have hsn:=tkK_snoc hf (hs k hc0);refine awp_skip ?_;simp only[zT,reduceIte,Nat.reduceEqDiff];refine hK2 _ _ ?_;refine awp_prune [1,5,9,10,11] ?_;simp only[zP,Nat.reduceEqDiff,reduceIte];refine awp_seq_k fun K3 hK3=>?_;refine awp_block ?_;refine aS fun K hK=>?_;simp -dsimp [hf];apply hK;clear hK K;refine aS fun K hK=>?_;simp -dsimp;apply hK;clear hK K;refine awp_cond rfl (fun hc1=>?_) (fun hc1=>?_)
  ·refine aR fun K hK=>?_;simp -dsimp;apply hK;clear hK K;simp only[zT,reduceIte,Nat.reduceEqDiff];refine hK3 _ _ ?_;refine awp_prune [1,5,9,10,11] ?_;simp only[zP,Nat.reduceEqDiff,reduceIte];refine aR fun K hK=>?_;simp -dsimp [wk];apply hK;clear hK K;simp only[zT,reduceIte,Nat.reduceEqDiff];exact⟨k+1,by omega,by omega,sub_rb [some 0] rfl (by simp) (by simp[hsn,tkS])⟩
  ·simp at hc1
 ·skip
  try simp at hc0
  have hke:k=l.length:=by omega
  subst hke;refine awp_exit ?_;simp only[zT,reduceIte,Nat.reduceEqDiff];refine hK1 _ _ ?_;refine awp_prune [5] ?_;simp only[zP,Nat.reduceEqDiff,reduceIte];refine aS fun K hK=>?_;simp -dsimp;apply hK;clear hK K;exact awp_ret (by simp[hsl])
theorem c_taken_n (l:List Ld) (hl:l.length≤1000):PureCall Try.prog 33 [lL l, .v (.slice none 0 0)] (.mpc false [.i .i64] (tkK l (List.replicate l.length true))):=c_taken_n' l _ hl (fun k hk=>rep_take hk) (by simp)
theorem c_kept (l:List Int) (f:FuncId) (cl:List (List AV)) (q:Int→Bool) (h:∀x∈l,PureCall Try.prog f (I x::ipts cl) (Bo (q x))) (hl:l.length≤1000):PureCall Try.prog 79 [iL l, .clo f (ipts cl)] (iL (l.filter q)):=by
 refine PureCall.of_body Try.func79 rfl (by decide) (by simp[Try.ntmps79]) ?_;simp only[Try.ntmps79,Try.results79];refine aS fun K hK=>?_;simp -dsimp;apply hK;clear hK K;refine aS fun K hK=>?_;simp -dsimp;apply hK;clear hK K;refine awp_seq_k fun K1 hK1=>?_;refine aS fun K hK=>?_;simp -dsimp;apply hK;clear hK K;refine awp_block ?_;refine awp_prune [1,5,8,9,10] ?_;simp only[zP,Nat.reduceEqDiff,reduceIte];refine awp_loop_l [1,8,9] (α:=Nat) (fun k=>[(5, .row 0 0 ((l.take k).filter q).length),(10,I k)]) (fun k=>[some (.els 1 (((l.take k).filter q).map nCell))]) (fun k=>k≤l.length) (fun k=>l.length-k) 0 ?_ ?_ ?_
 ·exact Nat.zero_le _
 ·exact(sub_nil 5 1 (by simp)).trans (sub_same (by simp))
 rintro k k1;simp only[zP,Nat.reduceEqDiff,reduceIte];refine aS fun K hK=>?_;simp -dsimp;apply hK;clear hK K;refine awp_seq_k fun K2 hK2=>?_;refine awp_cond rfl (fun hc0=>?_) (fun hc0=>?_)
 ·skip
  try simp at hc0
  obtain⟨x,hx⟩:∃x,l[k]?=some x:=⟨_,List.getElem?_eq_getElem hc0⟩;have wk:=zW k (by omega);have hfl:((l.take k).filter q).length≤k:=by have:=List.length_filter_le q (l.take k);rw[List.length_take]at this;omega
  have hfs:(l.take (k+1)).filter q=(l.take k).filter q++if q x then [x]else []:=by rw[List.take_add_one,hx,List.filter_append];cases hq:q x<;>simp[hq]
  have f1:Fits (((l.take k).filter q).length+1) 9:=fits_of (by omega) (by omega);generalize (l.take k).filter q=L at hfs hfl f1 ⊢;refine awp_skip ?_;simp only[zT,reduceIte,Nat.reduceEqDiff];refine hK2 _ _ ?_;refine awp_prune [1,5,8,9,10] ?_;simp only[zP,Nat.reduceEqDiff,reduceIte];refine awp_seq_k fun K3 hK3=>?_;refine awp_block ?_;refine aS fun K hK=>?_;simp -dsimp [hx];apply hK;clear hK K;refine aS fun K hK=>?_;simp -dsimp;refine callK_intro _ (h x (List.mem_of_getElem? hx)) (by simp) ?_;simp -dsimp;apply hK;clear hK K;refine awp_cond rfl (fun hc1=>?_) (fun hc1=>?_)
  ·refine aR fun K hK=>?_;simp -dsimp [f1];apply hK;clear hK K;simp only[zT,reduceIte,Nat.reduceEqDiff];refine hK3 _ _ ?_;refine awp_prune [1,5,8,9,10] ?_;simp only[zP,Nat.reduceEqDiff,reduceIte];refine aR fun K hK=>?_;simp -dsimp [wk];apply hK;clear hK K;simp only[zT,reduceIte,Nat.reduceEqDiff];exact⟨k+1,by omega,by omega,sub_rb [some 1] rfl (by simp[hfs,hc1]) (by simp[hfs,hc1])⟩
  ·refine awp_skip ?_;simp only[zT,reduceIte,Nat.reduceEqDiff];refine hK3 _ _ ?_;refine awp_prune [1,5,8,9,10] ?_;simp only[zP,Nat.reduceEqDiff,reduceIte];refine aR fun K hK=>?_;simp -dsimp [wk];apply hK;clear hK K;simp only[zT,reduceIte,Nat.reduceEqDiff];exact⟨k+1,by omega,by omega,sub_rb [some 0] rfl (by simp[hfs,hc1]) (by simp[hfs,hc1])⟩
 ·skip
  try simp at hc0
  have hke:k=l.length:=by omega
  subst hke;refine awp_exit ?_;simp only[zT,reduceIte,Nat.reduceEqDiff];refine hK1 _ _ ?_;refine awp_prune [5] ?_;simp only[zP,Nat.reduceEqDiff,reduceIte];refine aS fun K hK=>?_;simp -dsimp;apply hK;clear hK K;exact awp_ret (by simp)
def fdI (g:Gr) (i:Int):Fd:=(g.Feeds[i.toNat]?).getD default
theorem fdI_get {g:Gr} {i:Int} (h0:0≤i) (h1:i<g.Feeds.length):g.Feeds[i.toNat]?=some (fdI g i):=by
 unfold fdI;rw[List.getElem?_eq_getElem (by omega)];rfl
def upI (n:Nat):List Int:=(List.range n).map fun(k:Nat)=>(k:Int)
theorem upI_mem {n:Nat} {i:Int}:i∈upI n↔0≤i∧i<n:=by
 simp only[upI,List.mem_map,List.mem_range];constructor
 ·rintro⟨k,hk,rfl⟩;omega
 ·rintro⟨h0,h1⟩;exact⟨i.toNat,by omega,by omega⟩
theorem upI_len (n:Nat):(upI n).length=n:=by simp[upI]
@[simp] theorem upI_take (n:Nat):List.take n ((upI n).map nCell)=(upI n).map nCell:=List.take_of_length_le (by simp[upI_len])
theorem upI_snoc (n:Nat):upI (n+1)=upI n++[(n:Int)]:=by simp[upI,List.range_succ]
def fdOn (g:Gr) (s:Sta) (part:List Int) (i:Int):Bool:=bAt s.Feeds i.toNat&&decide ((fdI g i).At∈part)
def feedL (g:Gr) (s:Sta) (part:List Int):List Int:=(upI g.Feeds.length).filter (fdOn g s part)
theorem c_feeds1 (g:Gr) (s:Sta) (part:List Int) (i:Int) (hs:s.Feeds.length=g.Feeds.length) (hp:part.length≤1000) (h0:0≤i) (h1:i<g.Feeds.length):
  PureCall Try.prog 80 (I i::ipts [[net g s],[iL part]]) (Bo (fdOn g s part i)):=by
 show PureCall Try.prog 80 [I i, .iptr [net g s], .iptr [iL part]] (Bo (fdOn g s part i));have gb:=bAt_get (l:=s.Feeds) (k:=i.toNat) (by omega);have gf:=fdI_get h0 h1;refine PureCall.of_body Try.func80 rfl (by decide) (by simp[Try.ntmps80]) ?_;simp only[Try.ntmps80,Try.results80];refine aS fun K hK=>?_;simp -dsimp;apply hK;clear hK K;refine awp_sd mixed rfl fun K hK=>?_;simp -dsimp [gb,gf,h0];refine idxK_intro (fdI g i).cells (fun _=>by simp[gf]) ?_;simp -dsimp [gb,gf,h0];refine callK_may _ (fun hm=>c_Contains part (fdI g i).At (by omega)) (by simp) ?_;simp -dsimp [gb,gf,h0];refine hK _ _ _ (by decide+kernel) ?_;clear hK K;exact awp_ret (by simp[fdOn])
theorem c_feeds (g:Gr) (s:Sta) (part:List Int) (hs:s.Feeds.length=g.Feeds.length) (hp:part.length≤1000) (hn:g.Feeds.length≤1000):
  PureCall Try.prog 63 [net g s,iL part] (iL (feedL g s part)):=by
 have hk:=c_kept (upI g.Feeds.length) 80 [[net g s],[iL part]] (fdOn g s part) (fun x hx=>c_feeds1 g s part x hs hp (upI_mem.1 hx).1 (upI_mem.1 hx).2) (by rw[upI_len];omega);refine PureCall.of_body Try.func63 rfl (by decide) (by simp[Try.ntmps63]) ?_;simp only[Try.ntmps63,Try.results63];refine aS fun K hK=>?_;simp -dsimp;apply hK;clear hK K;refine aS fun K hK=>?_;simp -dsimp;apply hK;clear hK K;refine awp_seq_k fun K1 hK1=>?_;refine aS fun K hK=>?_;simp -dsimp;apply hK;clear hK K;refine awp_block ?_;refine awp_prune [2,3,5,12,13] ?_;simp only[zP,Nat.reduceEqDiff,reduceIte];refine awp_loop_l [2,3,12] (α:=Nat) (fun k=>[(5, .row 2 0 k),(13,I k)]) (fun k=>[some (.els 1 [[net g s]]),some (.els 1 [[iL part]]),some (.els 1 ((upI k).map nCell))]) (fun k=>k≤g.Feeds.length) (fun k=>g.Feeds.length-k) 0 ?_ ?_ ?_
 ·exact Nat.zero_le _
 ·exact(sub_nil 5 1 (by simp)).trans (sub_same (by simp[upI]))
 rintro k k1;simp only[zP,Nat.reduceEqDiff,reduceIte];refine aS fun K hK=>?_;simp -dsimp;apply hK;clear hK K;refine awp_seq_k fun K2 hK2=>?_;refine awp_cond rfl (fun hc0=>?_) (fun hc0=>?_)
 ·skip
  try simp at hc0
  have wk:=zW k (by omega);have f1:Fits (k+1) 9:=fits_of (by omega) (by omega);refine awp_skip ?_;simp only[zT,reduceIte,Nat.reduceEqDiff];refine hK2 _ _ ?_;refine awp_prune [2,3,5,12,13] ?_;simp only[zP,Nat.reduceEqDiff,reduceIte];refine awp_seq_k fun K3 hK3=>?_;refine awp_block ?_;refine aS fun K hK=>?_;simp -dsimp;apply hK;clear hK K;refine aR fun K hK=>?_;simp -dsimp [f1,upI_len,upI_snoc];apply hK;clear hK K;simp only[zT,reduceIte,Nat.reduceEqDiff];refine hK3 _ _ ?_;refine awp_prune [2,3,5,12,13] ?_;simp only[zP,Nat.reduceEqDiff,reduceIte];refine aR fun K hK=>?_;simp -dsimp [wk];apply hK;clear hK K;simp only[zT,reduceIte,Nat.reduceEqDiff];exact⟨k+1,by omega,by omega,sub_rb [some 0,some 1,some 3] rfl (by simp) (by simp[upI_snoc,upI_len])⟩
 ·skip
  try simp at hc0
  have hke:k=g.Feeds.length:=by omega
  subst hke;refine awp_weak (sub_rfM [] rfl) ?_;simp;refine awp_exit ?_;simp only[zT,reduceIte,Nat.reduceEqDiff];refine hK1 _ _ ?_;refine awp_prune [2,3,5] ?_;simp only[zP,Nat.reduceEqDiff,reduceIte];refine aS fun K hK=>?_;simp -dsimp [upI_len];refine callK_intro _ (hk) (by simp) ?_;simp -dsimp [upI_len];apply hK;clear hK K;exact awp_ret (by simp[feedL])
def red (n d:Int):Fr:=⟨n/Int.gcd n d,d/Int.gcd n d⟩
theorem gcd_dvd {n d:Int} (hd:0<d):∃a b g:Int,0<g∧(Int.gcd n d:Int)=g∧n=g*a∧d=g*b:=by
 obtain⟨a,ha⟩:=Int.gcd_dvd_left n d;obtain⟨b,hb⟩:=Int.gcd_dvd_right n d;refine⟨a,b,Int.gcd n d,?_,rfl,ha,hb⟩;have:0<Int.gcd n d:=Int.gcd_pos_of_ne_zero_right _ (by omega);omega
theorem red_div {n d:Int} (hd:0<d) (h1:-9223372036854775807≤n) (h2:n≤9223372036854775807) (h3:d≤9223372036854775807):
  0<(Int.gcd n d:Int)∧IntKind.i64.wrap (n.tdiv (Int.gcd n d))=(red n d).Num∧IntKind.i64.wrap (d.tdiv (Int.gcd n d))=(red n d).Den:=by
 obtain⟨a,b,g,hg,e,ha,hb⟩:=gcd_dvd (n:=n) hd;have ea:n.tdiv g=a:=by rw[ha];exact Int.mul_tdiv_cancel_left _ (by omega)
 have eb:d.tdiv g=b:=by rw[hb];exact Int.mul_tdiv_cancel_left _ (by omega)
 have ea':n/g=a:=by rw[ha];exact Int.mul_ediv_cancel_left _ (by omega)
 have eb':d/g=b:=by rw[hb];exact Int.mul_ediv_cancel_left _ (by omega)
 have hb0:0<b:=by
  refine Int.not_le.1 fun h=>?_;have:=Int.mul_nonpos_of_nonneg_of_nonpos (Int.le_of_lt hg) h;omega
 have hbd:b≤d:=by
  have:=Int.mul_le_mul_of_nonneg_right (show(1:Int)≤g by omega) (Int.le_of_lt hb0);omega
 have hna:a.natAbs≤n.natAbs:=by
  rw[ha,Int.natAbs_mul];exact Nat.le_mul_of_pos_left _ (by omega)
 unfold red;rw[e,ea,eb,ea',eb'];exact⟨hg,wrap_in (by omega) (by omega),wrap_in (by omega) (by omega)⟩
theorem gcd_step {a b:Nat} (hb:¬b=0):Nat.gcd b (a % b)=Nat.gcd a b:=by
 rw[Nat.gcd_comm a b,Nat.gcd_rec b a,Nat.gcd_comm]
theorem c_fraction (n d:Int) (hd:0<d) (h1:-9223372036854775807≤n) (h2:n≤9223372036854775807) (h3:d≤9223372036854775807):PureCall Try.prog 57 [I n,I d] (red n d).av:=by
 have wn:IntKind.i64.wrap (-n)=-n:=wrap_in (by omega) (by omega);have hmx:(if n< -n then-n else n)=(n.natAbs:Int):=by split<;>omega
 obtain⟨hg,q1,q2⟩:=red_div hd h1 h2 h3;refine PureCall.of_body Try.func57 rfl (by decide) (by simp[Try.ntmps57]) ?_;simp only[Try.ntmps57,Try.results57];refine aS fun K hK=>?_;simp -dsimp;apply hK;clear hK K;refine aS fun K hK=>?_;simp -dsimp [wn,hmx];apply hK;clear hK K;refine awp_seq_k fun K1 hK1=>?_;refine awp_block ?_;refine awp_prune [0,1,4,5,6] ?_;simp only[zP,Nat.reduceEqDiff,reduceIte];refine awp_loop_l [0,1,4] (α:=Nat×Nat) (fun x=>[(5,I x.1),(6,I x.2)]) (fun _=>[some (.els 2 [[I 0,I 0]])]) (fun x=>Nat.gcd x.1 x.2=Int.gcd n d) (fun x=>x.2) (n.natAbs,d.toNat) ?_ ?_ ?_
 ·simp only[Int.gcd];congr 1;omega
 ·have hdn:((d.toNat:Nat):Int)=d:=Int.toNat_of_nonneg (by omega);exact sub_same (by simp[hdn])
 rintro⟨a,b⟩ i1;simp only at i1 ⊢;simp only[zP,Nat.reduceEqDiff,reduceIte];refine awp_seq_k fun K2 hK2=>?_;refine aS fun K hK=>?_;simp -dsimp;apply hK;clear hK K;refine awp_cond rfl (fun hc0=>?_) (fun hc0=>?_)
 ·skip
  try simp at hc0
  have hb0:¬b=0:=by omega
  have hm:(a:Int).tmod b=((a % b:Nat):Int):=by rw[Int.tmod_eq_emod_of_nonneg (by omega)];rfl
  refine awp_skip ?_;simp only[zT,reduceIte,Nat.reduceEqDiff];refine hK2 _ _ ?_;refine awp_prune [0,1,4,5,6] ?_;simp only[zP,Nat.reduceEqDiff,reduceIte];refine awp_block ?_;refine awp_draw mixed rfl fun K hK=>?_;simp -dsimp [hm,hb0];refine hK _ _ _ (by decide+kernel) ?_;clear hK K;simp only[zT,reduceIte,Nat.reduceEqDiff];exact⟨(b,a % b),by simp only;rw[gcd_step hb0];exact i1,Nat.mod_lt _ (by omega),sub_same (by simp)⟩
 ·skip
  try simp at hc0
  have hb0:b=0:=by omega
  subst hb0;rw[Nat.gcd_zero_right]at i1;subst i1;have hg0:¬Int.gcd n d=0:=by omega
  refine awp_exit ?_;simp only[zT,reduceIte,Nat.reduceEqDiff];refine hK1 _ _ ?_;refine awp_prune [0,1,4,5] ?_;simp only[zP,Nat.reduceEqDiff,reduceIte];refine awp_sd mixed rfl fun K hK=>?_;simp -dsimp [q1,q2,hg0];refine hK _ _ _ (by decide+kernel) ?_;clear hK K;exact awp_ret (by simp)
end Go.Cur
end
section
namespace Go.Cur
def E {α:Type}:(α→List α→Int)→List α→Int
 |_,[]=>0
 |f,c::cs=>f c cs-E (fun d l=>f d (c::l)) cs
theorem E_congr {α:Type}:∀{cs:List α} {f g:α→List α→Int},(∀c l,c∈cs→l.length+1=cs.length→(∀x∈l,x∈cs)→f c l=g c l)→E f cs=E g cs
 |[],_,_,_=>rfl
 | c::cs,f,g,h=>by
  rw[E,E,h c cs (by simp) (by simp) (fun x hx=>by simp[hx])]
  congr 1
  exact E_congr fun d l hd hl hm=>h d (c::l) (by simp[hd]) (by simp only[List.length_cons];omega) (fun x hx=>by
   rcases List.mem_cons.1 hx with rfl|hx
   ·simp
   ·exact List.mem_cons_of_mem _ (hm x hx))
theorem E_add {α:Type}:∀{cs:List α} {f g:α→List α→Int},E (fun c l=>f c l+g c l) cs=E f cs+E g cs
 |[],_,_=>rfl
 |c::cs,f,g=>by rw[E,E,E,E_add];omega
theorem E_smul {α:Type} (a:Int):∀{cs:List α} {f:α→List α→Int},E (fun c l=>a*f c l) cs=a*E f cs
 |[],_=>by simp[E]
 |c::cs,f=>by rw[E,E,E_smul,Int.mul_sub]
theorem E_neg {α:Type} {cs:List α} {f:α→List α→Int}:E (fun c l=>-f c l) cs=-E f cs:=by
 have:=E_smul (cs:=cs) (f:=f) (-1);simpa using this
theorem E_sub {α:Type} {cs:List α} {f g:α→List α→Int}:E (fun c l=>f c l-g c l) cs=E f cs-E g cs:=by
 have:=E_add (cs:=cs) (f:=f) (g:=fun c l=>-g c l);rw[E_neg]at this;simpa [Int.sub_eq_add_neg]using this
theorem E_zero {α:Type} {cs:List α} {f:α→List α→Int} (h:∀c l,c∈cs→l.length+1=cs.length→(∀x∈l,x∈cs)→f c l=0):E f cs=0:=by
 have:E f cs=E (fun c l=>0*f c l) cs:=E_congr fun c l h1 h2 h3=>by rw[h c l h1 h2 h3];simp
 rw[this,E_smul,Int.zero_mul]
theorem E_swap {α:Type} {a b:α}:∀{pre post:List α} {f:α→List α→Int},(∀c u v,f c (u++a::b::v)=-f c (u++b::a::v))→E f (pre++a::b::post)=-E f (pre++b::a::post)
 | [],post,f,h=>by
  simp only[List.nil_append,E];have:E (fun d l=>f d (a::b::l)) post=-E (fun d l=>f d (b::a::l)) post:=by
   rw[←E_neg];exact E_congr fun d l _ _ _=>h d [] l
  omega
 |x::pre,post,f,h=>by
  simp only[List.cons_append,E];rw[h,E_swap (f:=fun d l=>f d (x::l)) (pre:=pre) (post:=post) fun c u v=>h c (x::u) v];omega
theorem E_lin {α:Type} {a b z:α} {x y:Int}:∀{pre post:List α} {f:α→List α→Int},(∀c u v,f c (u++z::v)=x*f c (u++a::v)+y*f c (u++b::v))→(∀l,f z l=x*f a l+y*f b l)→
  E f (pre++z::post)=x*E f (pre++a::post)+y*E f (pre++b::post)
 | [],post,f,h,hz=>by
  simp only[List.nil_append,E];have:E (fun d l=>f d (z::l)) post=x*E (fun d l=>f d (a::l)) post+y*E (fun d l=>f d (b::l)) post:=by
   rw[←E_smul,←E_smul,←E_add];exact E_congr fun d l _ _ _=>h d [] l
  rw[hz,this,Int.mul_sub,Int.mul_sub];omega
 |w::pre,post,f,h,hz=>by
  simp only[List.cons_append,E];rw[h,E_lin (f:=fun d l=>f d (w::l)) (pre:=pre) (post:=post) (fun c u v=>h c (w::u) v) (fun l=>hz (w::l)),Int.mul_sub,Int.mul_sub];omega
theorem E_two {α:Type}:∀{cs:List α} {h:α→α→List α→Int},E (fun c l=>E (fun d m=>h c d m) l) cs=-E (fun c l=>E (fun d m=>h d c m) l) cs
 |[],_=>rfl
 |x::cs,h=>by
  simp only[E,E_sub];have h1:E (fun c=>E fun d l=>h c d (x::l)) cs=-E (fun c=>E fun d l=>h d c (x::l)) cs:=E_two (cs:=cs) (h:=fun c d m=>h c d (x::m));have h2:E (fun d m=>h d x m) cs=E (fun c=>h c x) cs:=rfl;have h3:E (fun d m=>h x d m) cs=E (h x) cs:=rfl;omega
def det:List Nat→List (Nat→Int)→Int
 |[],[]=>1
 |[],_::_=>0
 |i::is,cs=>E (fun c l=>c i*det is l) cs
def sg:Nat→Int
 |0=>1
 |n+1=>-sg n
theorem sg_sq:∀n,sg n*sg n=1
 |0=>rfl
 |n+1=>by rw[sg,Int.neg_mul_neg,sg_sq n]
theorem det_swap {a b:Nat→Int}:∀{is:List Nat} {pre post:List (Nat→Int)},det is (pre++a::b::post)=-det is (pre++b::a::post)
 |[],pre,post=>by cases pre<;>simp[det]
 |i::is,pre,post=>by
  rw[det,det];exact E_swap fun c u v=>by rw[det_swap (is:=is),Int.mul_neg]
theorem det_lin {a b:Nat→Int} {x y:Int}:∀{is:List Nat} {pre post:List (Nat→Int)},is≠[]→det is (pre++(fun i=>x*a i+y*b i)::post)=x*det is (pre++a::post)+y*det is (pre++b::post)
 |[],pre,post,h=>absurd rfl h
 |[i],pre,post,_=>by
  rw[det,det,det];refine E_lin (fun c u v=>?_) (fun l=>?_)
  ·cases u<;>simp[det]
  ·simp only[Int.add_mul,Int.mul_assoc]
 |i::j::is,pre,post,_=>by
  rw[det,det,det];refine E_lin (fun c u v=>?_) (fun l=>?_)
  ·rw[det_lin (is:=j::is) (by simp),Int.mul_add,Int.mul_left_comm,Int.mul_left_comm (c i) y]
  ·simp only[Int.add_mul,Int.mul_assoc]
theorem det_front {a:Nat→Int} {is:List Nat}:∀{pre mid post:List (Nat→Int)},det is (pre++mid++a::post)=sg mid.length*det is (pre++a::mid++post)
 |pre,[],post=>by simp[sg]
 |pre,m::mid,post=>by
  have h:=det_front (a:=a) (is:=is) (pre:=pre++[m]) (mid:=mid) (post:=post);have h2:=det_swap (a:=m) (b:=a) (is:=is) (pre:=pre) (post:=mid++post);simp only[List.append_assoc,List.cons_append,List.nil_append,List.length_cons,sg]at h h2 ⊢;rw[h,h2,Int.mul_neg,Int.neg_mul]
theorem det_rows {i j:Nat} {is:List Nat} {cs:List (Nat→Int)}:det (i::j::is) cs=-det (j::i::is) cs:=by
 simp only[det];simp only[←E_smul];rw[E_two]
 congr 1
 exact E_congr fun c l _ _ _=>E_congr fun d m _ _ _=>by rw[Int.mul_left_comm]
theorem det_twice {i:Nat}:∀{u v:List Nat} {cs:List (Nat→Int)},det (i::(u++i::v)) cs=0
 |[],v,cs=>by have:=det_rows (i:=i) (j:=i) (is:=v) (cs:=cs);rw[List.nil_append];omega
 |j::u,v,cs=>by
  rw[List.cons_append,det_rows,det];rw[E_zero fun c l _ _ _=>by rw[det_twice,Int.mul_zero]]
  rfl
theorem det_mem {i:Nat} {is:List Nat} {cs:List (Nat→Int)} (h:i∈is):det (i::is) cs=0:=by
 obtain⟨u,v,rfl⟩:=List.append_of_mem h;exact det_twice
theorem det_row_front {r:Nat}:∀{is v:List Nat} {cs:List (Nat→Int)},det (is++r::v) cs=sg is.length*det (r::(is++v)) cs
 |[],v,cs=>by simp[sg]
 | i::is,v,cs=>by
  have:det (i::(is++r::v)) cs=sg is.length*det (i::r::(is++v)) cs:=by
   rw[det,det,←E_smul];exact E_congr fun c l _ _ _=>by rw[det_row_front,Int.mul_left_comm]
  rw[List.cons_append,this,det_rows,List.length_cons,sg,Int.mul_neg,Int.neg_mul];rfl
def rep (i:Nat) (is:List Nat) (b:Nat→Int) (pre:List (Nat→Int)):List (Nat→Int)→Int
 |[]=>0
 |c::post=>c i*det is (pre++b::post)+rep i is b (pre++[c]) post
theorem rep_E {i:Nat} {is:List Nat} {b:Nat→Int}:∀{post pre:List (Nat→Int)},E (fun d l=>d i*det is (b::pre++l)) post=sg pre.length*rep i is b pre post
 |[],pre=>by simp[E,rep]
 |c::post,pre=>by
  have h:=rep_E (i:=i) (is:=is) (b:=b) (post:=post) (pre:=pre++[c]);have h2:=det_front (a:=b) (is:=is) (pre:=[]) (mid:=pre) (post:=post);simp only[List.append_assoc,List.cons_append,List.nil_append,List.length_append,List.length_cons,List.length_nil,sg]at h h2 ⊢;rw[E,rep,h,h2];have hs:=sg_sq pre.length;rw[Int.mul_add,Int.mul_left_comm (sg pre.length) (c i),←Int.mul_assoc (sg pre.length) (sg pre.length),hs,Int.one_mul,Int.neg_mul];omega
theorem cramer {i:Nat} {is:List Nat} {b:Nat→Int} {cs:List (Nat→Int)} (h:i∈is):rep i is b [] cs=det is cs*b i:=by
 have h1:=det_mem (cs:=b::cs) h;have h2:=rep_E (i:=i) (is:=is) (b:=b) (post:=cs) (pre:=[]);rw[det,E]at h1;simp only[List.cons_append,List.nil_append,List.length_nil,sg,Int.one_mul]at h2;rw[h2]at h1;rw[Int.mul_comm];omega
end Go.Cur
end
section
namespace Go.Cur
def sm (f:Nat→Int):List Nat→Int
 |[]=>0
 |i::is=>f i+sm f is
theorem sm_append {f:Nat→Int}:∀{u v:List Nat},sm f (u++v)=sm f u+sm f v
 |[],v=>by simp[sm]
 |i::u,v=>by rw[List.cons_append,sm,sm,sm_append];omega
theorem sm_congr {f g:Nat→Int}:∀{u:List Nat},(∀i∈u,f i=g i)→sm f u=sm g u
 |[],_=>rfl
 |i::u,h=>by rw[sm,sm,h i (by simp),sm_congr fun k hk=>h k (by simp[hk])]
theorem sm_zero {f:Nat→Int}:∀{u:List Nat},(∀i∈u,f i=0)→sm f u=0
 |[],_=>rfl
 |i::u,h=>by rw[sm,h i (by simp),sm_zero fun k hk=>h k (by simp[hk])];rfl
theorem sm_nn {f:Nat→Int}:∀{u:List Nat},(∀i∈u,0≤f i)→0≤sm f u
 |[],_=>by simp[sm]
 |i::u,h=>by
  have h1:=h i (by simp);have h2:=sm_nn (f:=f) (u:=u) fun k hk=>h k (by simp[hk]);rw[sm];omega
theorem sm_le {f g:Nat→Int}:∀{u:List Nat},(∀i∈u,f i≤g i)→sm f u≤sm g u
 |[],_=>by simp[sm]
 |i::u,h=>by
  have h1:=h i (by simp);have h2:=sm_le (f:=f) (g:=g) (u:=u) fun k hk=>h k (by simp[hk]);rw[sm,sm];omega
theorem sm_add {f g:Nat→Int}:∀{u:List Nat},sm (fun i=>f i+g i) u=sm f u+sm g u
 |[]=>rfl
 |i::u=>by rw[sm,sm,sm,sm_add];omega
theorem sm_smul {f:Nat→Int} (a:Int):∀{u:List Nat},sm (fun i=>a*f i) u=a*sm f u
 |[]=>by simp[sm]
 |i::u=>by rw[sm,sm,sm_smul,Int.mul_add]
theorem sm_comm {f:Nat→Nat→Int}:∀{u v:List Nat},sm (fun i=>sm (fun k=>f i k) v) u=sm (fun k=>sm (fun i=>f i k) u) v
 |[],v=>by rw[sm,sm_zero];intro k _;rfl
 |i::u,v=>by
  rw[sm,sm_comm (u:=u),←sm_add];exact sm_congr fun k _=>rfl
theorem sm_split {f:Nat→Int} {u v:List Nat} {k:Nat}:sm f (u++k::v)=f k+sm f (u++v):=by
 rw[sm_append,sm_append,sm];omega
theorem E_map {α β:Type} {g:β→α}:∀{cs:List β} {f:α→List α→Int},E f (cs.map g)=E (fun c l=>f (g c) (l.map g)) cs
 |[],_=>rfl
 |c::cs,f=>by
  rw[List.map_cons,E,E,E_map];rfl
theorem det_map {i:Nat} {is ks:List Nat} {A:Nat→Nat→Int}:det (i::is) (ks.map fun k i=>A i k)=E (fun k l=>A i k*det is (l.map fun k i=>A i k)) ks:=by
 rw[det,E_map]
theorem det_congr:∀{is ks:List Nat} {A B:Nat→Nat→Int},(∀i∈is,∀k∈ks,A i k=B i k)→det is (ks.map fun k i=>A i k)=det is (ks.map fun k i=>B i k)
 |[],ks,A,B,_=>by cases ks<;>rfl
 |i::is,ks,A,B,h=>by
  rw[det_map,det_map];exact E_congr fun k l hk _ hl=>by rw[h i (by simp) k hk,det_congr fun i hi k hk=>h i (by simp[hi]) k (hl k hk)]
theorem det_zero {e:Nat→Int}:∀{is:List Nat} {cs:List (Nat→Int)},(∀i∈is,e i=0)→det is (e::cs)=0
 |[],_,_=>rfl
 |i::is,cs,h=>by
  rw[det,E,h i (by simp),E_zero fun c l _ _ _=>by rw[det_zero fun k hk=>h k (by simp[hk]),Int.mul_zero]];simp
theorem det_sums {i:Nat} {is:List Nat} {cs:List (Nat→Int)} (h:∀c∈cs,sm c (i::is)=0):det (i::is) cs=0:=by
 have hw:∀w:List Nat,(∀k∈w,k∈is)→E (fun c l=>sm c w*det is l) cs=0:=by
  intro w
  induction w with
  |nil=>intro _;exact E_zero fun c l _ _ _=>by rw[sm,Int.zero_mul]
  |cons k w ih=>
   intro hk;have:E (fun c l=>sm c (k::w)*det is l) cs=E (fun c l=>c k*det is l+sm c w*det is l) cs:=E_congr fun c l _ _ _=>by rw[sm,Int.add_mul]
   rw[this,E_add,ih fun k hk'=>hk k (by simp[hk'])];have:=det_mem (cs:=cs) (hk k (by simp));rw[det]at this;omega
 have h1:E (fun c l=>sm c (i::is)*det is l) cs=0:=E_zero fun c l hc _ _=>by rw[h c hc,Int.zero_mul]
 have h2:E (fun c l=>sm c (i::is)*det is l) cs=E (fun c l=>c i*det is l+sm c is*det is l) cs:=E_congr fun c l _ _ _=>by rw[sm,Int.add_mul]
 rw[h2,E_add,hw is fun _ h=>h]at h1;rw[det];omega
def D (A:Nat→Nat→Int) (ns:List Nat):Int:=det ns (ns.map fun k i=>A i k)
def less1 (A:Nat→Nat→Int) (k0:Nat) (s:Int):Nat→Nat→Int:=fun i k=>if i=k0∧k=k0 then A i k-s else A i k
theorem unit_det {k0:Nat} {u v:List Nat} {cu cv:List (Nat→Int)} (hl:cu.length=u.length) (hu:k0∉u) (hv:k0∉v):
  det (u++k0::v) (cu++(fun i=>if i=k0 then 1 else 0)::cv)=det (u++v) (cu++cv):=by
 have h1:=det_front (a:=fun i=>if i=k0 then(1:Int)else 0) (is:=u++k0::v) (pre:=[]) (mid:=cu) (post:=cv);simp only[List.nil_append,List.cons_append]at h1;rw[h1,det_row_front,det,E,E_zero fun c l _ _ _=>?_,hl]
 ·simp only[if_pos,Int.one_mul,Int.sub_zero];rw[←Int.mul_assoc,sg_sq,Int.one_mul]
 ·rw[det_zero fun i hi=>?_,Int.mul_zero];rw[if_neg];rintro rfl
  rcases List.mem_append.1 hi with h|h
  ·exact hu h
  ·exact hv h
theorem D_step {A:Nat→Nat→Int} {u v:List Nat} {k0:Nat} (s:Int) (hu:k0∉u) (hv:k0∉v):D A (u++k0::v)=D (less1 A k0 s) (u++k0::v)+s*D A (u++v):=by
 have hc:∀w:List Nat,k0∉w→(w.map fun k i=>A i k)=w.map fun k i=>less1 A k0 s i k:=fun w hw=>List.map_congr_left fun k hk=>by
  funext i
  unfold less1;rw[if_neg];rintro⟨_,rfl⟩;exact hw hk
 unfold D;simp only[List.map_append,List.map_cons];have he:(fun i=>A i k0)=fun i=>1*less1 A k0 s i k0+s*(if i=k0 then 1 else 0):=by
  funext i
  unfold less1
  by_cases h:i=k0
  ·simp[h]
  ·simp[h]
 rw[he,det_lin (by simp),Int.one_mul,unit_det (by simp) hu hv,←hc u hu,←hc v hv]
def Cond (A:Nat→Nat→Int) (ns:List Nat):Prop:=(∀i∈ns,∀k∈ns,i≠k→A i k≤0)∧∀k∈ns,0≤sm (fun i=>A i k) ns
theorem less1_ne {A:Nat→Nat→Int} {k0 i k:Nat} {s:Int} (h:i≠k∨k≠k0):less1 A k0 s i k=A i k:=by
 unfold less1;rw[if_neg];rintro⟨rfl,rfl⟩
 rcases h with h|h<;>exact h rfl
theorem less1_sum {A:Nat→Nat→Int} {k0:Nat} {s:Int} {u v:List Nat} (hu:k0∉u) (hv:k0∉v):sm (fun i=>less1 A k0 s i k0) (u++k0::v)=sm (fun i=>A i k0) (u++k0::v)-s:=by
 rw[sm_split,sm_split,sm_congr (g:=fun i=>A i k0)]
 ·simp only[less1,and_self,if_true];omega
 ·intro i hi;refine less1_ne (.inl ?_);rintro rfl
  rcases List.mem_append.1 hi with h|h
  ·exact hu h
  ·exact hv h
theorem Cond.minor {A:Nat→Nat→Int} {k0:Nat} {u v:List Nat} (h:Cond A (u++k0::v)) (hu:k0∉u) (hv:k0∉v):Cond A (u++v):=by
 have hm:∀i∈u++v,i∈u++k0::v:=fun i hi=>by
  simp only[List.mem_append,List.mem_cons]at hi ⊢;rcases hi with h|h<;>simp[h]
 refine⟨fun i hi k hk hne=>h.1 i (hm i hi) k (hm k hk) hne,fun k hk=>?_⟩;have h1:=h.2 k (hm k hk);rw[sm_split]at h1;have h2:=h.1 k0 (by simp) k (hm k hk) (by
  rintro rfl
  rcases List.mem_append.1 hk with h|h
  ·exact hu h
  ·exact hv h)
 omega
theorem Cond.less {A:Nat→Nat→Int} {k0:Nat} {u v:List Nat} (h:Cond A (u++k0::v)) (hu:k0∉u) (hv:k0∉v) {s:Int} (hs:s=sm (fun i=>A i k0) (u++k0::v)):
  Cond (less1 A k0 s) (u++k0::v)∧sm (fun i=>less1 A k0 s i k0) (u++k0::v)=0∧∀k,k≠k0→sm (fun i=>less1 A k0 s i k) (u++k0::v)=sm (fun i=>A i k) (u++k0::v):=by
 have h0:=less1_sum (A:=A) (s:=s) hu hv;have h1:∀k,k≠k0→sm (fun i=>less1 A k0 s i k) (u++k0::v)=sm (fun i=>A i k) (u++k0::v):=fun k hk=>sm_congr fun i _=>less1_ne (.inr hk);refine⟨⟨fun i hi k hk hne=>?_,fun k hk=>?_⟩,by omega,h1⟩
 ·rw[less1_ne (.inl hne)];exact h.1 i hi k hk hne
 ·by_cases e:k=k0
  ·subst e;omega
  ·rw[h1 k e];exact h.2 k hk
theorem nodup_split {u v:List Nat} {k:Nat} (h:(u++k::v).Nodup):k∉u∧k∉v∧(u++v).Nodup:=by
 simp only[List.nodup_append,List.nodup_cons,List.mem_cons]at h ⊢;obtain⟨h1,⟨h2,h3⟩,h4⟩:=h;refine⟨fun hk=>h4 k hk k (.inl rfl) rfl,h2,h1,h3,fun a ha b hb=>h4 a ha b (.inr hb)⟩
theorem D_nn:∀(n:Nat) {ns:List Nat} {A:Nat→Nat→Int},ns.length=n→ns.Nodup→Cond A ns→0≤D A ns
 |0,ns,A,hn,_,_=>by
  rw[List.length_eq_zero_iff]at hn;subst hn;simp[D,det]
 | n +1,ns,A,hn,hd,hc=>by
  have key:∀(w:List Nat) (A:Nat→Nat→Int),Cond A ns→(∀k∈ns,k∉w→sm (fun i=>A i k) ns=0)→0≤D A ns:=by
   intro w
   induction w with
   | nil=>
    intro A _ h0
    cases ns with
    |nil=>simp at hn
    | cons i is=>
     have:D A (i::is)=0:=det_sums fun c hc=>by
      obtain⟨k,hk,rfl⟩:=List.mem_map.1 hc;exact h0 k hk (by simp)
     omega
   | cons k0 w ih=>
    intro A hc h0
    by_cases hk0:k0∈ns
    ·obtain⟨u,v,rfl⟩:=List.append_of_mem hk0;obtain⟨hu,hv,hd'⟩:=nodup_split hd;obtain⟨c1,c2,c3⟩:=hc.less hu hv rfl;rw[D_step (sm (fun i=>A i k0) (u++k0::v)) hu hv];have i1:=ih _ c1 fun k hk hkw=>by
      by_cases e:k=k0
      ·subst e;exact c2
      ·rw[c3 k e];exact h0 k hk (by simp[e,hkw])
     have i2:=D_nn n (by simp only[List.length_append,List.length_cons]at hn ⊢;omega) hd' (hc.minor hu hv);have:=Int.mul_nonneg (hc.2 k0 hk0) i2;omega
    ·exact ih A hc fun k hk hkw=>h0 k hk (by
      simp only[List.mem_cons,not_or];exact⟨fun e=>hk0 (e▸hk),hkw⟩)
  exact key ns A hc fun k hk hkn=>absurd hk hkn
def Leads (A:Nat→Nat→Int) (ns:List Nat):Prop:=∀U:List Nat,U.Nodup→U≠[]→(∀k∈U,k∈ns)→∃k∈U,0<sm (fun i=>A i k) U
theorem D_pos:∀(n:Nat) {ns:List Nat} {A:Nat→Nat→Int},ns.length=n→ns.Nodup→Cond A ns→Leads A ns→0<D A ns
 |0,ns,A,hn,_,_,_=>by
  rw[List.length_eq_zero_iff]at hn;subst hn;simp[D,det]
 | n+1,ns,A,hn,hd,hc,hl=>by
  obtain⟨k0,hk0,hs⟩:=hl ns hd (by intro e;rw[e]at hn;simp at hn) fun _ h=>h;obtain⟨u,v,rfl⟩:=List.append_of_mem hk0;obtain⟨hu,hv,hd'⟩:=nodup_split hd;rw[D_step (sm (fun i=>A i k0) (u++k0::v)) hu hv];have i1:=D_nn (n+1) hn hd (hc.less hu hv rfl).1;have i2:=D_pos n (ns:=u++v) (A:=A) (by simp only[List.length_append,List.length_cons]at hn ⊢;omega) hd' (hc.minor hu hv) fun U h1 h2 h3=>hl U h1 h2 fun k hk=>by
   have:=h3 k hk;simp only[List.mem_append,List.mem_cons]at this ⊢
   rcases this with h|h<;>simp[h]
  have:=Int.mul_pos hs i2;omega
end Go.Cur
end
section
namespace Go.Cur
theorem exists_min {x:Nat→Int}:∀{ns:List Nat},ns≠[]→∃k∈ns,∀i∈ns,x k≤x i
 |[],h=>absurd rfl h
 |[a],_=>⟨a,by simp,by simp⟩
 | a::b::l,_=>by
  obtain⟨k,hk,hm⟩:=exists_min (x:=x) (ns:=b::l) (by simp)
  by_cases h:x a≤x k
  ·exact⟨a,by simp,fun i hi=>by
    rcases List.mem_cons.1 hi with rfl|hi
    ·exact Int.le_refl _
    ·have:=hm i hi;omega⟩
  ·exact⟨k,List.mem_cons_of_mem _ hk,fun i hi=>by
    rcases List.mem_cons.1 hi with rfl|hi
    ·omega
    ·exact hm i hi⟩
theorem sm_pos {f:Nat→Int}:∀{u:List Nat},(∀i∈u,0≤f i)→(∃i∈u,0<f i)→0<sm f u
 |[],_,⟨_,h,_⟩=>by simp at h
 |a::u,h,⟨i,hi,hp⟩=>by
  have h1:=h a (by simp);have h2:=sm_nn (f:=f) (u:=u) fun k hk=>h k (by simp[hk]);rw[sm]
  rcases List.mem_cons.1 hi with rfl|hi
  ·omega
  ·have:=sm_pos (f:=f) (u:=u) (fun k hk=>h k (by simp[hk])) ⟨i,hi,hp⟩;omega
theorem sm_filter {f:Nat→Int} {p:Nat→Bool}:∀{u:List Nat},sm f u=sm f (u.filter p)+sm f (u.filter fun k=> !p k)
 |[]=>rfl
 |a::u=>by
  have:=sm_filter (f:=f) (p:=p) (u:=u)
  by_cases h:p a
  ·simp only[List.filter_cons,h,if_true,Bool.not_true,sm];simp only[Bool.false_eq_true,if_false];omega
  ·simp only[List.filter_cons,h,sm];simp only[Bool.false_eq_true,if_false,Bool.not_false,if_true,sm];omega
theorem sm_part {f:Nat→Int} {ns U:List Nat} (hn:ns.Nodup) (hU:U.Nodup) (hs:∀k∈U,k∈ns) (h:∀k∈ns,k∉U→f k≤0):sm f ns≤sm f U:=by
 induction U generalizing ns with
 |nil=>
  rw[sm];have:=sm_nn (f:=fun k=>-f k) (u:=ns) fun k hk=>by have:=h k hk (by simp);omega
  have h2:=sm_smul (f:=f) (-1) (u:=ns);simp only[Int.neg_mul,Int.one_mul]at h2;omega
 | cons a U ih=>
  obtain⟨u,v,rfl⟩:=List.append_of_mem (hs a (by simp));obtain⟨hu,hv,hd⟩:=nodup_split hn;rw[List.nodup_cons]at hU;rw[sm_split,sm];have:=ih hd hU.2 (fun k hk=>by
   have:=hs k (by simp[hk]);simp only[List.mem_append,List.mem_cons]at this ⊢
   rcases this with h|rfl|h
   ·simp[h]
   ·exact absurd hk hU.1
   ·simp[h]) fun k hk hkU=>h k (by
    simp only[List.mem_append,List.mem_cons]at hk ⊢;rcases hk with h|h<;>simp[h]) (by
    simp only[List.mem_cons,not_or];refine⟨?_,hkU⟩;rintro rfl
    rcases List.mem_append.1 hk with h|h
    ·exact hu h
    ·exact hv h)
  omega
theorem min_principle {A:Nat→Nat→Int} {ns:List Nat} {x:Nat→Int} (hd:ns.Nodup) (hoff:∀i∈ns,∀k∈ns,i≠k→A i k≤0) (hrow:∀i∈ns,0≤sm (fun k=>A i k) ns) (hcol:∀k∈ns,0≤sm (fun i=>A i k) ns) (hl:Leads A ns)
  (hx:∀i∈ns,0≤sm (fun k=>A i k*x k) ns):∀k∈ns,0≤x k:=by
 intro k0 hk0;obtain⟨km,hkm,hmin⟩:=exists_min (x:=x) (ns:=ns) (by rintro rfl;simp at hk0)
 suffices h:0≤x km by have:=hmin k0 hk0;omega
 refine Int.not_lt.1 fun hneg=>?_
 let p:Nat→Bool:=fun k=>decide (x k=x km)
 let U:=ns.filter p
 let V:=ns.filter fun k=> !p k
 let sig:Nat→Int:=fun k=>sm (fun i=>A i k) U
 have hU:∀k∈U,k∈ns∧x k=x km:=fun k hk=>by simpa [U,p]using hk
 have hV:∀k∈V,k∈ns∧x km+1≤x k∧∀i∈U,i≠k:=fun k hk=>by
  have:k∈ns∧¬x k=x km:=by simpa [V,p]using hk
  have h2:=hmin k this.1;exact⟨this.1,by omega,fun i hi e=>this.2 (e▸(hU i hi).2)⟩
 have hUd:U.Nodup:=hd.filter _;have hUn:U≠[]:=List.ne_nil_of_mem (a:=km) (by simp[U,p,hkm]);have h1:0≤sm (fun i=>sm (fun k=>A i k*x k) ns) U:=sm_nn fun i hi=>hx i (hU i hi).1;rw[sm_comm]at h1;have h2:sm (fun k=>sm (fun i=>A i k*x k) U) ns=sm (fun k=>x k*sig k) ns:=sm_congr fun k _=>by
  rw[←sm_smul];exact sm_congr fun i _=>Int.mul_comm _ _
 rw[h2,sm_filter (p:=p)]at h1;have h3:sm (fun k=>x k*sig k) U=x km*sm sig U:=by
  rw[←sm_smul];exact sm_congr fun k hk=>by rw[(hU k hk).2]
 have hsV:∀k∈V,sig k≤0:=fun k hk=>by
  have:=sm_nn (f:=fun i=>-A i k) (u:=U) fun i hi=>by
   have:=hoff i (hU i hi).1 k (hV k hk).1 ((hV k hk).2.2 i hi);omega
  have h2:=sm_smul (f:=fun i=>A i k) (-1) (u:=U);simp only[Int.neg_mul,Int.one_mul]at h2;show sm (fun i=>A i k) U≤0;omega
 have h4:sm (fun k=>x k*sig k) V≤sm (fun k=>(x km+1)*sig k) V:=sm_le fun k hk=>by
  have a:=hsV k hk;have b:=(hV k hk).2.1;exact Int.mul_le_mul_of_nonpos_right b a
 rw[sm_smul]at h4;have h5:sm sig U+sm sig V=sm (fun i=>sm (fun k=>A i k) ns) U:=by
  have:=sm_filter (f:=sig) (p:=p) (u:=ns);have h6:=sm_comm (f:=A) (u:=U) (v:=ns);show sm sig (ns.filter p)+sm sig (ns.filter fun k=> !p k)=_;rw[←this,h6]
 have h6:0≤sm (fun i=>sm (fun k=>A i k) ns) U:=sm_nn fun i hi=>hrow i (hU i hi).1;have h7:0<sm sig U:=by
  refine sm_pos (fun k hk=>?_) (hl U hUd hUn fun k hk=>(hU k hk).1);have:=hcol k (hU k hk).1;have h8:=sm_part (f:=fun i=>A i k) hd hUd (fun k hk=>(hU k hk).1) fun i hi hiU=>hoff i hi k (hU k hk).1 (by rintro rfl;exact hiU hk);show 0≤sm (fun i=>A i k) U;omega
 have h8:sm sig V≤0:=by
  have:=sm_le (f:=sig) (g:=fun _=>0) (u:=V) hsV;rw[sm_zero fun _ _=>rfl]at this;exact this
 change 0≤sm (fun k=>x k*sig k) U+sm (fun k=>x k*sig k) V at h1;rw[h3]at h1;have h9:x km*(sm sig U+sm sig V)≤0:=by
  rw[h5];exact Int.mul_nonpos_of_nonpos_of_nonneg (by omega) h6
 rw[Int.mul_add]at h9;rw[Int.add_mul,Int.one_mul]at h4;have h10:sm sig V=0:=by omega
 have h11:x km*(sm sig U+sm sig V)<0:=Int.mul_neg_of_neg_of_pos hneg (by omega);rw[Int.mul_add]at h11;omega
end Go.Cur
end
section
namespace Go.Cur
def num (A:Nat→Nat→Int) (b:Nat→Int) (ns:List Nat) (k:Nat):Int:=det ns (ns.map fun j i=>if j=k then b i else A i j)
theorem rep_map {A:Nat→Nat→Int} {b:Nat→Int} {i:Nat} {is:List Nat}:∀{post pre:List Nat},(pre++post).Nodup→
  rep i is b (pre.map fun k i=>A i k) (post.map fun k i=>A i k)=sm (fun k=>A i k*det is ((pre++post).map fun j i=>if j=k then b i else A i j)) post
 |[],_,_=>rfl
 | k::post,pre,h=>by
  have ih:=rep_map (A:=A) (b:=b) (i:=i) (is:=is) (post:=post) (pre:=pre++[k]) (by simpa using h);obtain⟨h1,h2,_⟩:=nodup_split h;have hc:∀w:List Nat,k∉w→(w.map fun j i=>if j=k then b i else A i j)=w.map fun k i=>A i k:=fun w hw=>List.map_congr_left fun j hj=>by
   funext i
   rw[if_neg];rintro rfl;exact hw hj
  simp only[List.map_append,List.map_cons,List.map_nil,List.append_assoc,List.cons_append,List.nil_append]at ih;rw[List.map_cons,rep,sm,ih];rw[List.map_append,List.map_cons];rw[hc pre h1,hc post h2];simp
theorem cramer_num {A:Nat→Nat→Int} {b:Nat→Int} {ns:List Nat} (hd:ns.Nodup) {i:Nat} (hi:i∈ns):sm (fun k=>A i k*num A b ns k) ns=D A ns*b i:=by
 have h1:=cramer (i:=i) (is:=ns) (b:=b) (cs:=ns.map fun k i=>A i k) hi;have h2:=rep_map (A:=A) (b:=b) (i:=i) (is:=ns) (post:=ns) (pre:=[]) hd;simp only[List.map_nil,List.nil_append]at h2;rw[h2]at h1;exact h1
structure Part where
 ns:List Nat
 L:Nat→Nat→Int
 u:Nat→Int
 fs:List Nat
 p:Nat→Nat
 s:Nat→Int
 V:Nat→Int
def Part.at_ (P:Part) (S:Nat→Bool) (c:Nat→Int) (i:Nat):Int:=sm (fun b=>if S b=true∧P.p b=i then c b else 0) P.fs
def Part.A (P:Part) (S:Nat→Bool):Nat→Nat→Int:=fun i k=>P.L i k+if i=k then P.at_ S P.s i else 0
def Part.b (P:Part) (S:Nat→Bool):Nat→Int:=fun i=>-P.u i+P.at_ S (fun b=>P.s b*P.V b) i
def Part.num (P:Part) (S:Nat→Bool) (k:Nat):Int:=Cur.num (P.A S) (P.b S) P.ns k
def Part.den (P:Part) (S:Nat→Bool):Int:=D (P.A S) P.ns
structure Part.Ok (P:Part):Prop where
 nd:P.ns.Nodup
 off:∀i∈P.ns,∀k∈P.ns,i≠k→P.L i k≤0
 col:∀k∈P.ns,sm (fun i=>P.L i k) P.ns=0
 row:∀i∈P.ns,sm (fun k=>P.L i k) P.ns=0
 lead:∀U:List Nat,U.Nodup→U≠[]→(∀k∈U,k∈P.ns)→(∃k∈P.ns,k∉U)→∃k∈U,0<sm (fun i=>P.L i k) U
 pin:∀b∈P.fs,P.p b∈P.ns
 spos:∀b∈P.fs,0<P.s b
theorem sm_at {P:Part} {S:Nat→Bool} {c:Nat→Int}:∀{U:List Nat},U.Nodup→sm (P.at_ S c) U=sm (fun b=>if S b=true∧P.p b∈U then c b else 0) P.fs:=by
 intro U hU;unfold Part.at_;rw[sm_comm];refine sm_congr fun b _=>?_
 induction U with
 |nil=>simp[sm]
 | cons a U ih=>
  rw[List.nodup_cons]at hU;rw[sm,ih hU.2]
  by_cases hS:S b=true
  ·by_cases ha:P.p b=a
   ·subst ha;simp[hS,hU.1]
   ·simp[hS,ha]
  ·simp[hS]
theorem sm_diag {f:Nat→Int} {g:Nat→Nat→Int} {k:Nat}:∀{U:List Nat},U.Nodup→k∈U→sm (fun i=>g i k+if i=k then f i else 0) U=sm (fun i=>g i k) U+f k
 |[],_,h=>by simp at h
 | a::U,hU,h=>by
  rw[List.nodup_cons]at hU;rw[sm,sm]
  rcases List.mem_cons.1 h with rfl|hm
  ·rw[sm_congr (u:=U) (g:=fun i=>g i k) fun i hi=>by
    rw[if_neg]; · omega
    ·rintro rfl;exact hU.1 hi]
   rw[if_pos rfl];omega
  ·rw[sm_diag hU.2 hm,if_neg]
   ·omega
   ·rintro rfl;exact hU.1 hm
theorem sm_diag' {f:Nat→Int} {g:Nat→Int} {k:Nat}:∀{U:List Nat},U.Nodup→k∈U→sm (fun i=>g i+if k=i then f k else 0) U=sm g U+f k
 |[],_,h=>by simp at h
 | a::U,hU,h=>by
  rw[List.nodup_cons]at hU;rw[sm,sm]
  rcases List.mem_cons.1 h with rfl|hm
  ·rw[sm_congr (u:=U) (g:=g) fun i hi=>by
    rw[if_neg]; · omega
    ·rintro rfl;exact hU.1 hi]
   rw[if_pos rfl];omega
  ·rw[sm_diag' hU.2 hm,if_neg]
   ·omega
   ·rintro rfl;exact hU.1 hm
theorem at_nn {P:Part} (ho:P.Ok) {S:Nat→Bool} {i:Nat}:0≤P.at_ S P.s i:=sm_nn fun b hb=>by
 have:=ho.spos b hb
 split<;>omega
theorem A_off {P:Part} (ho:P.Ok) {S:Nat→Bool}:∀i∈P.ns,∀k∈P.ns,i≠k→P.A S i k≤0:=fun i hi k hk h=>by
 have:=ho.off i hi k hk h;unfold Part.A;rw[if_neg h];omega
theorem A_col {P:Part} (ho:P.Ok) {S:Nat→Bool} {k:Nat} {U:List Nat} (hU:U.Nodup) (hk:k∈U):sm (fun i=>P.A S i k) U=sm (fun i=>P.L i k) U+P.at_ S P.s k:=sm_diag hU hk
theorem A_row {P:Part} (ho:P.Ok) {S:Nat→Bool} {i:Nat} (hi:i∈P.ns):sm (fun k=>P.A S i k) P.ns=P.at_ S P.s i:=by
 have:=sm_diag' (f:=fun i=>P.at_ S P.s i) (g:=fun k=>P.L i k) ho.nd hi;rw[ho.row i hi]at this;unfold Part.A;omega
theorem A_cond {P:Part} (ho:P.Ok) {S:Nat→Bool}:Cond (P.A S) P.ns:=⟨A_off ho,fun k hk=>by
 rw[A_col ho ho.nd hk,ho.col k hk];have:=at_nn ho (S:=S) (i:=k);omega⟩
theorem A_leads {P:Part} (ho:P.Ok) {S:Nat→Bool} (hS:∃b∈P.fs,S b=true):Leads (P.A S) P.ns:=fun U hU hn hs=>by
 by_cases hall:∃k∈P.ns,k∉U
 ·obtain⟨k,hk,h⟩:=ho.lead U hU hn hs hall;refine⟨k,hk,?_⟩;rw[A_col ho hU hk];have:=at_nn ho (S:=S) (i:=k);omega
 ·obtain⟨b,hb,hSb⟩:=hS;have hpU:P.p b∈U:=by
   by_cases h:P.p b∈U
   ·exact h
   ·exact absurd ⟨_,ho.pin b hb,h⟩ hall
  refine⟨P.p b,hpU,?_⟩;rw[A_col ho hU hpU];have h1:sm (fun i=>P.L i (P.p b)) P.ns≤sm (fun i=>P.L i (P.p b)) U:=sm_part ho.nd hU hs fun i hi hiU=>absurd ⟨i,hi,hiU⟩ hall;rw[ho.col _ (ho.pin b hb)]at h1;have h2:0<P.at_ S P.s (P.p b):=sm_pos (fun c hc=>by
   have:=ho.spos c hc
   split<;>omega) ⟨b,hb,by rw[if_pos ⟨hSb,rfl⟩];exact ho.spos b hb⟩
  omega
theorem den_pos {P:Part} (ho:P.Ok) {S:Nat→Bool} (hS:∃b∈P.fs,S b=true):0<P.den S:=D_pos _ rfl ho.nd (A_cond ho) (A_leads ho hS)
theorem solves {P:Part} (ho:P.Ok) {S:Nat→Bool} {i:Nat} (hi:i∈P.ns):sm (fun k=>P.A S i k*P.num S k) P.ns=P.den S*P.b S i:=cramer_num ho.nd hi
end Go.Cur
end
section
namespace Go.Cur
theorem sm_sub {f g:Nat→Int} {u:List Nat}:sm (fun i=>f i-g i) u=sm f u-sm g u:=by
 have h1:=sm_add (f:=f) (g:=fun i=>-1*g i) (u:=u);rw[sm_smul]at h1;rw[show(fun i=>f i-g i)=fun i=>f i+ -1*g i from funext fun i=>by omega,h1];omega
theorem sm_only {f:Nat→Int} {k:Nat}:∀{U:List Nat},U.Nodup→k∈U→sm (fun i=>if k=i then f i else 0) U=f k
 |U,hU,hk=>by
  have:=sm_diag' (f:=f) (g:=fun _=>0) hU hk;rw[sm_zero (f:=fun _=>0) fun _ _=>rfl]at this;rw[sm_congr (g:=fun i=>0+if k=i then f k else 0) fun i _=>by by_cases h:k=i<;>simp[h],this];omega
theorem at_diff {P:Part} {S S':Nat→Bool} (hs:∀b,S' b=true→S b=true) (c:Nat→Int) (i:Nat):P.at_ S c i=P.at_ S' c i+P.at_ (fun b=>S b&& !S' b) c i:=by
 unfold Part.at_;rw[←sm_add];refine sm_congr fun b _=>?_
 by_cases h:S' b=true
 ·simp[h,hs b h]
 ·simp[h]
theorem rise {P:Part} (ho:P.Ok) {S S':Nat→Bool} (hs:∀b,S' b=true→S b=true) (hn:∃b∈P.fs,S' b=true) (hr:∀b∈P.fs,S b=true→S' b=false→P.V b*P.den S≤P.num S (P.p b)):
  ∀k∈P.ns,P.num S k*P.den S'≤P.num S' k*P.den S:=by
 have hn':∃b∈P.fs,S b=true:=by obtain⟨b,hb,h⟩:=hn;exact⟨b,hb,hs b h⟩
 have d1:=den_pos ho hn;have d2:=den_pos ho hn';have key:=min_principle (A:=P.A S') (x:=fun k=>P.num S' k*P.den S-P.num S k*P.den S') ho.nd (A_off ho) (fun i hi=>by rw[A_row ho hi];exact at_nn ho) (A_cond ho).2 (A_leads ho hn) fun i hi=>by
  have e1:sm (fun k=>P.A S' i k*(P.num S' k*P.den S-P.num S k*P.den S')) P.ns=P.den S*sm (fun k=>P.A S' i k*P.num S' k) P.ns-P.den S'*sm (fun k=>P.A S' i k*P.num S k) P.ns:=by
   rw[←sm_smul,←sm_smul,←sm_sub];refine sm_congr fun k _=>?_;rw[Int.mul_sub,Int.mul_comm (P.den S),Int.mul_comm (P.den S'),Int.mul_assoc,Int.mul_assoc]
  have e2:sm (fun k=>P.A S i k*P.num S k) P.ns=sm (fun k=>P.A S' i k*P.num S k) P.ns+P.at_ (fun b=>S b&& !S' b) P.s i*P.num S i:=by
   have e3:=sm_only (f:=fun k=>P.at_ (fun b=>S b&& !S' b) P.s k*P.num S k) ho.nd hi;rw[←e3,←sm_add];refine sm_congr fun k _=>?_;unfold Part.A
   by_cases h:i=k
   ·subst h;simp only[if_true];rw[at_diff hs P.s i,←Int.add_assoc,Int.add_mul]
   ·simp[h]
  rw[solves ho hi]at e2;have e4:P.b S i=P.b S' i+P.at_ (fun b=>S b&& !S' b) (fun b=>P.s b*P.V b) i:=by
   unfold Part.b;rw[at_diff hs (fun b=>P.s b*P.V b) i];omega
  have e5:0≤P.at_ (fun b=>S b&& !S' b) P.s i*P.num S i-P.den S*P.at_ (fun b=>S b&& !S' b) (fun b=>P.s b*P.V b) i:=by
   unfold Part.at_;rw[Int.mul_comm (sm _ _) (P.num S i),←sm_smul,←sm_smul,←sm_sub];refine sm_nn fun b hb=>?_
   by_cases h:(S b&& !S' b)=true∧P.p b=i
   ·rw[if_pos h,if_pos h];simp only[Bool.and_eq_true,Bool.not_eq_true']at h;obtain⟨⟨h1,h2⟩,h3⟩:=h;have:=hr b hb h1 h2;rw[h3]at this;have h4:=Int.mul_le_mul_of_nonneg_left this (Int.le_of_lt (ho.spos b hb));rw[Int.mul_comm (P.num S i),Int.mul_left_comm (P.den S),Int.mul_comm (P.den S)];omega
   ·rw[if_neg h,if_neg h];simp
  rw[e1,solves ho hi];have e6:P.den S*(P.den S'*P.b S' i)-P.den S'*sm (fun k=>P.A S' i k*P.num S k) P.ns=P.den S'*(P.at_ (fun b=>S b&& !S' b) P.s i*P.num S i-P.den S*P.at_ (fun b=>S b&& !S' b) (fun b=>P.s b*P.V b) i):=by
   rw[e4,Int.mul_add]at e2;have:sm (fun k=>P.A S' i k*P.num S k) P.ns=P.den S*P.b S' i+P.den S*P.at_ (fun b=>S b&& !S' b) (fun b=>P.s b*P.V b) i-P.at_ (fun b=>S b&& !S' b) P.s i*P.num S i:=by omega
   rw[this,Int.mul_left_comm (P.den S),←Int.mul_sub]
   congr 1
   omega
  rw[e6];exact Int.mul_nonneg (Int.le_of_lt d1) e5
 intro k hk;have:=key k hk;omega
theorem flow_sum {P:Part} (ho:P.Ok) (S:Nat→Bool):sm (fun b=>if S b=true then P.s b*(P.V b*P.den S-P.num S (P.p b))else 0) P.fs=P.den S*sm P.u P.ns:=by
 have h1:sm (fun i=>sm (fun k=>P.A S i k*P.num S k) P.ns) P.ns=sm (fun i=>P.den S*P.b S i) P.ns:=sm_congr fun i hi=>solves ho hi;rw[sm_comm,sm_smul]at h1;have h2:sm (fun k=>sm (fun i=>P.A S i k*P.num S k) P.ns) P.ns=sm (fun k=>P.at_ S P.s k*P.num S k) P.ns:=sm_congr fun k hk=>by
  have:sm (fun i=>P.A S i k*P.num S k) P.ns=sm (fun i=>P.num S k*P.A S i k) P.ns:=sm_congr fun i _=>Int.mul_comm _ _;rw[this,sm_smul,A_col ho ho.nd hk,ho.col k hk,Int.zero_add,Int.mul_comm]
 have h3:sm (fun k=>P.at_ S P.s k*P.num S k) P.ns=sm (fun b=>if S b=true then P.s b*P.num S (P.p b)else 0) P.fs:=by
  have:sm (fun k=>P.at_ S P.s k*P.num S k) P.ns=sm (fun k=>sm (fun b=>if S b=true∧P.p b=k then P.s b*P.num S k else 0) P.fs) P.ns:=sm_congr fun k _=>by
   unfold Part.at_;rw[Int.mul_comm,←sm_smul];refine sm_congr fun b _=>?_
   by_cases h:S b=true∧P.p b=k
   ·rw[if_pos h,if_pos h,Int.mul_comm]
   ·rw[if_neg h,if_neg h,Int.mul_zero]
  rw[this,sm_comm];refine sm_congr fun b hb=>?_
  by_cases h:S b=true
  ·have:=sm_only (f:=fun k=>P.s b*P.num S k) ho.nd (ho.pin b hb);rw[if_pos h,←this];exact sm_congr fun k _=>by simp[h]
  ·rw[if_neg h];exact sm_zero fun k _=>by simp[h]
 have h4:sm (P.b S) P.ns=-sm P.u P.ns+sm (fun b=>if S b=true then P.s b*P.V b else 0) P.fs:=by
  unfold Part.b;rw[sm_add,sm_at ho.nd]
  congr 1
  ·have:=sm_smul (f:=P.u) (-1) (u:=P.ns);simpa using this
  ·refine sm_congr fun b hb=>?_
   by_cases h:S b=true<;>simp[h,ho.pin b hb]
 rw[h2,h3,h4]at h1;have h5:sm (fun b=>if S b=true then P.s b*(P.V b*P.den S-P.num S (P.p b))else 0) P.fs=P.den S*sm (fun b=>if S b=true then P.s b*P.V b else 0) P.fs-sm (fun b=>if S b=true then P.s b*P.num S (P.p b)else 0) P.fs:=by
  rw[←sm_smul,←sm_sub];refine sm_congr fun b _=>?_
  by_cases h:S b=true
  ·simp only[h,if_true];rw[Int.mul_sub,Int.mul_comm (P.V b),Int.mul_left_comm]
  ·simp[h]
 rw[h5,h1,Int.mul_add,Int.mul_neg];omega
def Fits_ (P:Part) (S:Nat→Bool):Prop:=(∃b∈P.fs,S b=true)∧∀b∈P.fs,(S b=true→P.num S (P.p b)≤P.V b*P.den S)∧(S b=false→P.V b*P.den S≤P.num S (P.p b))
theorem exists_fit {P:Part} (ho:P.Ok) (hsum:0<sm P.u P.ns) (hf:P.fs≠[]):∃S,Fits_ P S:=by
 have go:∀(n:Nat) (S:Nat→Bool),(P.fs.filter S).length≤n→(∃b∈P.fs,S b=true)→(∀b∈P.fs,S b=false→P.V b*P.den S≤P.num S (P.p b))→∃S,Fits_ P S:=by
  intro n
  induction n with
  |zero=>
   intro S h ⟨b,hb,hS⟩ _;have:b∈P.fs.filter S:=List.mem_filter.2 ⟨hb,hS⟩;rw[List.length_eq_zero_iff.1 (Nat.le_zero.1 h)]at this;simp at this
  | succ n ih=>
   intro S h hn hout
   let S':Nat→Bool:=fun b=>S b&&decide (P.num S (P.p b)≤P.V b*P.den S)
   have hs:∀b,S' b=true→S b=true:=fun b hb=>by simp only[S',Bool.and_eq_true]at hb;exact hb.1
   have hd:=den_pos ho hn
   by_cases hall:∀b∈P.fs,S b=true→P.num S (P.p b)≤P.V b*P.den S
   ·exact⟨S,hn,fun b hb=>⟨hall b hb,hout b hb⟩⟩
   ·have hn':∃b∈P.fs,S' b=true:=by
     refine Classical.byContradiction fun hno=>?_;have hneg:∀b∈P.fs,S b=true→P.V b*P.den S-P.num S (P.p b)≤0:=fun b hb hS=>by
      have:¬P.num S (P.p b)≤P.V b*P.den S:=fun hle=>hno ⟨b,hb,by simp[S',hS,hle]⟩;omega
     have h1:=flow_sum ho S;have h2:sm (fun b=>if S b=true then P.s b*(P.V b*P.den S-P.num S (P.p b))else 0) P.fs≤sm (fun _=>0) P.fs:=sm_le fun b hb=>by
      split
      ·exact Int.mul_nonpos_of_nonneg_of_nonpos (Int.le_of_lt (ho.spos b hb)) (hneg b hb (by assumption))
      ·exact Int.le_refl _
     rw[sm_zero (f:=fun _=>0) fun _ _=>rfl,h1]at h2;have:=Int.mul_pos hd hsum;omega
    have hrise:=rise ho hs hn' fun b hb h1 h2=>by
     simp only[S',h1,Bool.true_and,decide_eq_false_iff_not]at h2;omega
    have hd':=den_pos ho hn';refine ih S' ?_ hn' fun b hb hb'=>?_
    ·simp only[Classical.not_forall]at hall;obtain⟨b,hb,hSb,hgt⟩:=hall;have h1:P.fs.filter S'=(P.fs.filter S).filter S':=by
      rw[List.filter_filter];refine List.filter_congr fun a _=>?_;simp only[S']
      cases S a<;>simp
     have h2:((P.fs.filter S).filter S').length<(P.fs.filter S).length:=by
      refine List.length_filter_lt_length_iff_exists.2 ⟨b,List.mem_filter.2 ⟨hb,hSb⟩,?_⟩;simp only[S',hSb,Bool.true_and,decide_eq_true_eq];exact hgt
     rw[h1];omega
    ·have h1:P.V b*P.den S≤P.num S (P.p b):=by
      by_cases hS:S b=true
      ·simp only[S',hS,Bool.true_and,decide_eq_false_iff_not]at hb';omega
      ·exact hout b hb (by simpa using hS)
     have h2:=hrise _ (ho.pin b hb);have h3:=Int.mul_le_mul_of_nonneg_right h1 (Int.le_of_lt hd');have h4:(P.V b*P.den S')*P.den S≤P.num S' (P.p b)*P.den S:=by
      rw[Int.mul_assoc,Int.mul_comm (P.den S'),←Int.mul_assoc];omega
     exact Int.le_of_mul_le_mul_right h4 hd
 refine go _ (fun _=>true) (Nat.le_refl _) ?_ fun b _ h=>by simp at h
 obtain⟨b,l,hl⟩:=List.exists_cons_of_ne_nil hf;exact⟨b,by simp[hl],rfl⟩
end Go.Cur
end
section
namespace Go.Cur
def nmE (f:Nat→Nat) (e:Nat×Nat):Nat→Nat:=fun k=>if k=e.1∨k=e.2 then min (f e.1) (f e.2)else f k
def nmR (E:List (Nat×Nat)) (f:Nat→Nat):Nat→Nat:=E.foldl nmE f
def nmT (E:List (Nat×Nat)):Nat→Nat→Nat
 |0=>id
 |t+1=>nmR E (nmT E t)
def Closed (E:List (Nat×Nat)) (U:Nat→Prop):Prop:=∀e∈E,(U e.1↔U e.2)
theorem nmE_le {f:Nat→Nat} {e:Nat×Nat} {k:Nat}:nmE f e k≤f k:=by
 unfold nmE
 split
 ·rename_i h;rcases h with rfl|rfl
  ·exact Nat.min_le_left _ _
  ·exact Nat.min_le_right _ _
 ·exact Nat.le_refl _
theorem nmR_le:∀{E:List (Nat×Nat)} {f:Nat→Nat} {k:Nat},nmR E f k≤f k
 |[],f,k=>Nat.le_refl _
 |e::E,f,k=>Nat.le_trans (nmR_le (E:=E) (f:=nmE f e)) nmE_le
theorem nmT_le {E:List (Nat×Nat)}:∀{t k:Nat},nmT E t k≤k
 |0,k=>Nat.le_refl _
 |t+1,k=>Nat.le_trans nmR_le (nmT_le (t:=t))
theorem nmR_in {E:List (Nat×Nat)} {U:Nat→Prop}:∀{E':List (Nat×Nat)} {f:Nat→Nat},(∀e∈E',(U e.1↔U e.2))→(∀k,U (f k)↔U k)→∀k,U (nmR E' f k)↔U k
 |[],f,_,h,k=>h k
 | e::E',f,hE,h,k=>nmR_in (E:=E) (E':=E') (f:=nmE f e) (fun e he=>hE e (by simp[he])) (fun k=>by
   have he:=hE e (by simp);unfold nmE
   split
   ·rename_i hk;have hm:min (f e.1) (f e.2)=f e.1∨min (f e.1) (f e.2)=f e.2:=by omega
    have h1:=h e.1;have h2:=h e.2
    rcases hm with hm|hm<;>rw[hm]<;>rcases hk with rfl|rfl
    ·exact h1
    ·exact h1.trans he
    ·exact h2.trans he.symm
    ·exact h2
   ·exact h k) k
theorem nmT_in {E:List (Nat×Nat)} {U:Nat→Prop} (hU:Closed E U):∀{t:Nat} (k:Nat),U (nmT E t k)↔U k
 |0,k=>Iff.rfl
 |t+1,k=>nmR_in (E:=E) hU (nmT_in hU (t:=t)) k
theorem low_keep {m:Nat}:∀{E:List (Nat×Nat)} {f:Nat→Nat},(∀e∈E,(f e.1≤m↔f e.2≤m))→∀k,nmR E f k≤m↔f k≤m
 |[],f,_,k=>Iff.rfl
 | e::E,f,h,k=>by
  have h0:=h e (by simp);have h1:∀k,nmE f e k≤m↔f k≤m:=fun k=>by
   unfold nmE
   split
   ·rename_i hk
    rcases hk with rfl|rfl<;>omega
   ·exact Iff.rfl
  have:=low_keep (m:=m) (E:=E) (f:=nmE f e) (fun e' he=>by rw[h1,h1];exact h e' (by simp[he])) k;exact this.trans (h1 k)
theorem low_more {m:Nat} {E:List (Nat×Nat)} {f:Nat→Nat} {e:Nat×Nat} (he:e∈E) (h:f e.1≤m∨f e.2≤m):nmR E f e.1≤m∧nmR E f e.2≤m:=by
 obtain⟨u,v,rfl⟩:=List.append_of_mem he;have hc:nmR (u++e::v) f=nmR v (nmE (nmR u f) e):=by simp[nmR,List.foldl_append]
 rw[hc];have h1:nmR u f e.1≤f e.1:=nmR_le;have h2:nmR u f e.2≤f e.2:=nmR_le;have h3:nmE (nmR u f) e e.1=min (nmR u f e.1) (nmR u f e.2):=by simp[nmE]
 have h4:nmE (nmR u f) e e.2=min (nmR u f e.1) (nmR u f e.2):=by simp[nmE]
 have h5:=nmR_le (E:=v) (f:=nmE (nmR u f) e) (k:=e.1);have h6:=nmR_le (E:=v) (f:=nmE (nmR u f) e) (k:=e.2);rw[h3]at h5;rw[h4]at h6;omega
def cntL (n m:Nat) (f:Nat→Nat):Nat:=((List.range n).filter fun k=>decide (f k≤m)).length
theorem cntL_mono {n m:Nat} {f g:Nat→Nat} (h:∀k,g k≤f k) {j:Nat} (hj:j<n) (h1:¬f j≤m) (h2:g j≤m):cntL n m f<cntL n m g:=by
 unfold cntL;have:(List.range n).filter (fun k=>decide (f k≤m))=((List.range n).filter fun k=>decide (g k≤m)).filter fun k=>decide (f k≤m):=by
  rw[List.filter_filter];refine List.filter_congr fun k _=>?_;have:=h k
  by_cases hf:f k≤m
  ·have:g k≤m:=by omega
   simp[hf,this]
  ·simp[hf]
 rw[this];exact List.length_filter_lt_length_iff_exists.2 ⟨j,List.mem_filter.2 ⟨List.mem_range.2 hj,by simpa using h2⟩,by simpa using h1⟩
theorem cntL_le {n m:Nat} {f:Nat→Nat}:cntL n m f≤n:=by
 have:=List.length_filter_le (fun k=>decide (f k≤m)) (List.range n);simpa [cntL]using this
theorem low_closed {E:List (Nat×Nat)} {n:Nat} (hE:∀e∈E,e.1<n∧e.2<n) (m:Nat):∀e∈E,(nmT E n e.1≤m↔nmT E n e.2≤m):=by
 have key:∀t,(∀e∈E,(nmT E t e.1≤m↔nmT E t e.2≤m))∨t+1≤cntL n m (nmT E t):=by
  intro t
  induction t with
  | zero=>
   by_cases hn:n=0
   ·left;intro e he;have:=hE e he;omega
   ·right
    have:0∈(List.range n).filter fun k=>decide (nmT E 0 k≤m):=List.mem_filter.2 ⟨List.mem_range.2 (by omega),by simp[nmT]⟩;exact List.length_pos_of_mem this
  | succ t ih=>
   by_cases hc:∀e∈E,(nmT E t e.1≤m↔nmT E t e.2≤m)
   ·left
    intro e he;have:=low_keep (m:=m) (E:=E) (f:=nmT E t) hc;rw[nmT,this,this];exact hc e he
   ·right
    have ih:=ih.resolve_left hc;simp only[Classical.not_forall]at hc;obtain⟨e,he,hne⟩:=hc;have hor:nmT E t e.1≤m∨nmT E t e.2≤m:=by omega
    have hm:=low_more (f:=nmT E t) he hor;have hb:=hE e he;have:cntL n m (nmT E t)<cntL n m (nmT E (t+1)):=by
     rcases(by omega:¬nmT E t e.1≤m∨¬nmT E t e.2≤m)with h|h
     ·exact cntL_mono (fun k=>nmR_le) hb.1 h hm.1
     ·exact cntL_mono (fun k=>nmR_le) hb.2 h hm.2
    omega
 rcases key n with h|h
 ·exact h
 ·have:=cntL_le (n:=n) (m:=m) (f:=nmT E n);omega
def nm (E:List (Nat×Nat)) (n:Nat):Nat→Nat:=nmT E n
section
variable {E:List (Nat×Nat)} {n:Nat}
theorem nm_le {k:Nat}:nm E n k≤k:=nmT_le
theorem nm_eq (hE:∀e∈E,e.1<n∧e.2<n) {e:Nat×Nat} (he:e∈E):nm E n e.1=nm E n e.2:=by
 have h1:=(low_closed hE (nm E n e.1) e he).1 (Nat.le_refl _);have h2:=(low_closed hE (nm E n e.2) e he).2 (Nat.le_refl _);unfold nm at*
 omega
theorem nm_closed (hE:∀e∈E,e.1<n∧e.2<n) (i:Nat):Closed E fun k=>nm E n k=i:=fun e he=>by
 show nm E n e.1=i↔nm E n e.2=i;rw[nm_eq hE he]
theorem nm_nm (hE:∀e∈E,e.1<n∧e.2<n) (k:Nat):nm E n (nm E n k)=nm E n k:=(nmT_in (t:=n) (nm_closed hE (nm E n k)) k).2 rfl
theorem nm_in {U:Nat→Prop} (hU:Closed E U) (k:Nat):U (nm E n k)↔U k:=nmT_in hU k
def cp (E:List (Nat×Nat)) (n i:Nat):List Nat:=(List.range n).filter fun k=>decide (nm E n k=i)
theorem cp_mem {i k:Nat}:k∈cp E n i↔k<n∧nm E n k=i:=by simp[cp]
theorem cp_nodup {i:Nat}:(cp E n i).Nodup:=List.nodup_range.filter _
theorem cp_sorted {i:Nat}:(cp E n i).Pairwise (· < ·):=List.Pairwise.filter _ List.pairwise_lt_range
theorem cp_joined {U:Nat→Prop} (hU:Closed E U) {i k j:Nat} (hk:k∈cp E n i) (h:U k) (hj:j∈cp E n i):U j:=by
 rw[cp_mem]at hk hj;have h1:=(nm_in (n:=n) hU k).2 h;rw[hk.2]at h1;exact(nm_in (n:=n) hU j).1 (by rw[hj.2];exact h1)
theorem cp_out (hE:∀e∈E,e.1<n∧e.2<n) {U:List Nat} {i k j:Nat} (hs:∀x∈U,x∈cp E n i) (hk:k∈U) (hj:j∈cp E n i) (hn:j∉U):∃e∈E,(e.1∈U∧e.2∉U∧e.2∈cp E n i)∨(e.2∈U∧e.1∉U∧e.1∈cp E n i):=by
 by_cases hc:Closed E (fun x=>x∈U)
 ·exact absurd (cp_joined hc (hs k hk) hk hj) hn
 ·simp only[Closed,Classical.not_forall]at hc;obtain⟨e,he,h⟩:=hc;refine⟨e,he,?_⟩;have h1:=nm_eq hE he;have hb:=hE e he
  by_cases h3:e.1∈U
  ·left
   refine⟨h3,fun h4=>h ⟨fun _=>h4,fun _=>h3⟩,?_⟩;have:=cp_mem.1 (hs _ h3);exact cp_mem.2 ⟨hb.2,by rw[←h1];exact this.2⟩
  ·have h4:e.2∈U:=by
    refine Classical.byContradiction fun h4=>h ⟨fun h5=>absurd h5 h3,fun h5=>absurd h5 h4⟩
   right
   refine⟨h4,h3,?_⟩;have:=cp_mem.1 (hs _ h4);exact cp_mem.2 ⟨hb.1,by rw[h1];exact this.2⟩
def heads (E:List (Nat×Nat)) (n:Nat):List Nat:=(List.range n).filter fun i=>decide (nm E n i=i)
def partsN (E:List (Nat×Nat)) (n:Nat):List (List Nat):=(heads E n).map (cp E n)
theorem heads_mem {i:Nat}:i∈heads E n↔i<n∧nm E n i=i:=by simp[heads]
theorem cp_self {i:Nat} (h:i∈heads E n):i∈cp E n i:=by
 rw[heads_mem]at h;exact cp_mem.2 h
theorem nm_head (hE:∀e∈E,e.1<n∧e.2<n) {k:Nat} (hk:k<n):nm E n k∈heads E n:=heads_mem.2 ⟨Nat.lt_of_le_of_lt nm_le hk,nm_nm hE k⟩
theorem cp_whole {i:Nat} {p:List Nat} (hi:i∈heads E n) (h1:i∈p) (hc:Closed E fun x=>x∈p) {j:Nat} (hj:j∈cp E n i):j∈p:=cp_joined hc (cp_self hi) h1 hj
end
end Go.Cur
end
section
namespace Go.Cur
structure Wn where
 a:Nat
 b:Nat
 s:Int
def Wn.e (w:Wn):Nat×Nat:=(w.a,w.b)
def ew (w:Wn) (i:Nat):Int:=(if i=w.a then 1 else 0)-(if i=w.b then 1 else 0)
def lw:List Wn→Nat→Nat→Int
 |[],_,_=>0
 |w::W,i,k=>w.s*(ew w i*ew w k)+lw W i k
def OkW (W:List Wn) (n:Nat):Prop:=∀w∈W,w.a<n∧w.b<n∧w.a≠w.b∧0<w.s
def edges (W:List Wn):List (Nat×Nat):=W.map Wn.e
theorem lw_append {i k:Nat}:∀{u v:List Wn},lw (u++v) i k=lw u i k+lw v i k
 |[],v=>by simp[lw]
 |w::u,v=>by rw[List.cons_append,lw,lw,lw_append];omega
theorem lw_comm {i k:Nat}:∀{W:List Wn},lw W i k=lw W k i
 |[]=>rfl
 |w::W=>by rw[lw,lw,lw_comm,Int.mul_comm (ew w i)]
theorem ew_sum {w:Wn}:∀{U:List Nat},U.Nodup→sm (ew w) U=(if w.a∈U then 1 else 0)-(if w.b∈U then 1 else 0)
 |[],_=>by simp[sm]
 | x::U,h=>by
  rw[List.nodup_cons]at h;rw[sm,ew_sum h.2];unfold ew
  by_cases ha:x=w.a
  ·by_cases hb:x=w.b
   ·have h1:w.a∉U:=ha▸h.1;have h2:w.b∉U:=hb▸h.1;have h3:w.b=w.a:=by omega
    subst ha;simp[h3]
   ·have h1:w.a∉U:=ha▸h.1;have h2:¬w.b=x:=fun e=>hb e.symm;subst ha;simp[h1,hb,h2];omega
  ·have h2:¬w.a=x:=fun e=>ha e.symm
   by_cases hb:x=w.b
   ·have h1:w.b∉U:=hb▸h.1;subst hb;simp[h1,ha,h2];omega
   ·have h3:¬w.b=x:=fun e=>hb e.symm;simp[ha,hb,h2,h3]
def lwU:List Wn→List Nat→Nat→Int
 |[],_,_=>0
 |w::W,U,k=>w.s*(ew w k*((if w.a∈U then 1 else 0)-(if w.b∈U then 1 else 0)))+lwU W U k
theorem lw_sum {k:Nat} {U:List Nat} (hU:U.Nodup):∀{W:List Wn},sm (fun i=>lw W i k) U=lwU W U k
 |[]=>by simp only[lw,lwU];exact sm_zero fun _ _=>rfl
 |w::W=>by
  simp only[lw,lwU];rw[sm_add,lw_sum hU,←ew_sum hU]
  congr 1
  rw[sm_smul]
  congr 1
  rw[←sm_smul];exact sm_congr fun i _=>Int.mul_comm _ _
theorem ew_off {w:Wn} {i k:Nat} (h:i≠k):ew w i*ew w k≤0:=by
 unfold ew
 by_cases h1:i=w.a
 ·have h3:¬k=w.a:=by omega
  by_cases h2:i=w.b
  ·have h4:¬k=w.b:=by omega
   simp[h1,h3,h4]
  ·rw[if_pos h1,if_neg h2,if_neg h3]
   split<;>omega
 ·by_cases h2:i=w.b
  ·have h4:¬k=w.b:=by omega
   rw[if_neg h1,if_pos h2,if_neg h4]
   split<;>omega
  ·rw[if_neg h1,if_neg h2];omega
theorem lw_off {n i k:Nat} (h:i≠k):∀{W:List Wn},OkW W n→lw W i k≤0
 |[],_=>Int.le_refl _
 |w::W,hW=>by
  have h1:=lw_off h (W:=W) fun w hw=>hW w (by simp[hw]);have h2:=ew_off (w:=w) h;have h3:=(hW w (by simp)).2.2.2;have:=Int.mul_nonpos_of_nonneg_of_nonpos (Int.le_of_lt h3) h2;rw[lw];omega
theorem lwU_nn {n k:Nat} {U:List Nat} (hk:k∈U):∀{W:List Wn},OkW W n→0≤lwU W U k
 |[],_=>Int.le_refl _
 | w ::W,hW=>by
  have h1:=lwU_nn hk (W:=W) fun w hw=>hW w (by simp[hw]);have h3:=(hW w (by simp)).2.2.2;have h2:0≤ew w k*((if w.a∈U then 1 else 0)-(if w.b∈U then 1 else 0)):=by
   unfold ew
   by_cases e1:k=w.a
   ·have h5:=(hW w (by simp)).2.2.1;rw[if_pos e1,if_neg (by omega),←e1,if_pos hk]
    split<;>omega
   ·by_cases e2:k=w.b
    ·rw[if_neg e1,if_pos e2,←e2,if_pos hk]
     split<;>omega
    ·rw[if_neg e1,if_neg e2];omega
  have:=Int.mul_nonneg (Int.le_of_lt h3) h2;rw[lwU];omega
theorem lwU_pos {n k:Nat} {U:List Nat} (hk:k∈U):∀{W:List Wn},OkW W n→(∃w∈W,(k=w.a∧w.b∉U)∨(k=w.b∧w.a∉U))→0<lwU W U k
 |[],_,⟨_,h,_⟩=>by simp at h
 | w::W,hW,⟨x,hx,h⟩=>by
  have hW':OkW W n:=fun w hw=>hW w (by simp[hw])
  rcases List.mem_cons.1 hx with rfl|hx
  ·have h1:=lwU_nn hk hW';have h3:=(hW x (by simp)).2.2.2;have h2:ew x k*((if x.a∈U then 1 else 0)-(if x.b∈U then 1 else 0))=1:=by
    have h5:=(hW x (by simp)).2.2.1;unfold ew
    rcases h with⟨e,h⟩|⟨e,h⟩
    ·rw[if_pos e,if_neg (by omega),←e,if_pos hk,if_neg h];rfl
    ·rw[if_neg (by omega),if_pos e,←e,if_pos hk,if_neg h];rfl
   rw[lwU,h2];omega
  ·have h1:=lwU_pos hk hW' ⟨x,hx,h⟩;have h2:=lwU_nn hk (W:=[w]) fun y hy=>hW y (by simp only[List.mem_singleton]at hy;subst hy;simp);simp only[lwU]at h2 ⊢;omega
theorem lwU_cp {n i k:Nat} {E:List (Nat×Nat)} (hE:∀e∈E,e.1<n∧e.2<n):∀{W:List Wn},(∀w∈W,w.e∈E)→lwU W (cp E n i) k=0
 |[],_=>rfl
 | w::W,hW=>by
  have h1:=nm_eq hE (hW w (by simp));have hb:=hE _ (hW w (by simp));have h2:w.a∈cp E n i↔w.b∈cp E n i:=by
   rw[cp_mem,cp_mem];simp only[Wn.e]at h1 hb;rw[h1];exact⟨fun h=>⟨hb.2,h.2⟩,fun h=>⟨hb.1,h.2⟩⟩
  rw[lwU,lwU_cp hE fun w hw=>hW w (by simp[hw])]
  by_cases h:w.a∈cp E n i
  ·rw[if_pos h,if_pos (h2.1 h)];simp
  ·rw[if_neg h,if_neg fun e=>h (h2.2 e)];simp
theorem edges_ok {W:List Wn} {n:Nat} (hW:OkW W n):∀e∈edges W,e.1<n∧e.2<n:=fun e he=>by
 obtain⟨w,hw,rfl⟩:=List.mem_map.1 he;have:=hW w hw;exact⟨this.1,this.2.1⟩
def prt (W:List Wn) (n i:Nat) (u:Nat→Int) (fs:List Nat) (p:Nat→Nat) (s V:Nat→Int):Part:=⟨cp (edges W) n i,lw W,u,fs,p,s,V⟩
theorem prt_ok {W:List Wn} {n i:Nat} {u:Nat→Int} {fs:List Nat} {p:Nat→Nat} {s V:Nat→Int} (hW:OkW W n) (hp:∀b∈fs,p b∈cp (edges W) n i) (hs:∀b∈fs,0<s b):(prt W n i u fs p s V).Ok where
 nd:=cp_nodup
 off:=fun i _ k _ h=>lw_off h hW
 col:=fun k _=>by
  show sm (fun i=>lw W i k) (cp (edges W) n i)=0;rw[lw_sum cp_nodup,lwU_cp (edges_ok hW) fun w hw=>List.mem_map.2 ⟨w,hw,rfl⟩]
 row:=fun k _=>by
  show sm (fun i=>lw W k i) (cp (edges W) n i)=0;rw[sm_congr (g:=fun i=>lw W i k) fun i _=>lw_comm,lw_sum cp_nodup,lwU_cp (edges_ok hW) fun w hw=>List.mem_map.2 ⟨w,hw,rfl⟩]
 lead:=fun U hU hn hs ⟨j,hj,hjU⟩=>by
  obtain⟨k0,hk0⟩:=List.exists_mem_of_ne_nil U hn;obtain⟨e,he,h⟩:=cp_out (edges_ok hW) hs hk0 hj hjU;obtain⟨w,hw,rfl⟩:=List.mem_map.1 he
  rcases h with⟨h1,h2,_⟩|⟨h1,h2,_⟩
  ·refine⟨w.a,h1,?_⟩;show 0<sm (fun i=>lw W i w.a) U;rw[lw_sum hU];exact lwU_pos h1 hW ⟨w,hw, .inl ⟨rfl,h2⟩⟩
  ·refine⟨w.b,h1,?_⟩;show 0<sm (fun i=>lw W i w.b) U;rw[lw_sum hU];exact lwU_pos h1 hW ⟨w,hw, .inr ⟨rfl,h2⟩⟩
 pin:=hp
 spos:=hs
end Go.Cur
end
section
namespace Go.Cur
theorem A_mul {P:Part} (ho:P.Ok) {S:Nat→Bool} {x:Nat→Int} {i:Nat} (hi:i∈P.ns):sm (fun k=>P.A S i k*x k) P.ns=sm (fun k=>P.L i k*x k) P.ns+P.at_ S P.s i*x i:=by
 have e3:=sm_only (f:=fun k=>P.at_ S P.s k*x k) ho.nd hi;rw[←e3,←sm_add];refine sm_congr fun k _=>?_;unfold Part.A
 by_cases h:i=k
 ·subst h;simp only[if_true];rw[Int.add_mul]
 ·simp[h]
def Part.give (P:Part) (x:Nat→Int) (d:Int) (i:Nat):Int:=sm (fun b=>if P.p b=i then P.s b*max 0 (P.V b*d-x i)else 0) P.fs
structure Volt (P:Part) (x:Nat→Int) (d:Int):Prop where
 pos:0<d
 eq:∀i∈P.ns,sm (fun k=>P.L i k*x k) P.ns=P.give x d i-d*P.u i
structure Sol (P:Part) (S:Nat→Bool) (x:Nat→Int) (d:Int):Prop where
 pos:0<d
 eq:∀i∈P.ns,sm (fun k=>P.A S i k*x k) P.ns=d*P.b S i
theorem sol_num {P:Part} (ho:P.Ok) {S:Nat→Bool} (hn:∃b∈P.fs,S b=true):Sol P S (P.num S) (P.den S):=⟨den_pos ho hn,fun i hi=>solves ho hi⟩
theorem fits_volt {P:Part} (ho:P.Ok) {S:Nat→Bool} {x:Nat→Int} {d:Int} (hx:Sol P S x d) (hf:∀b∈P.fs,(S b=true→x (P.p b)≤P.V b*d)∧(S b=false→P.V b*d≤x (P.p b))):Volt P x d:=by
 refine⟨hx.pos,fun i hi=>?_⟩;have h1:=hx.eq i hi;rw[A_mul ho hi]at h1;have h2:P.b S i=-P.u i+P.at_ S (fun b=>P.s b*P.V b) i:=rfl;have h3:d*P.at_ S (fun b=>P.s b*P.V b) i-P.at_ S P.s i*x i=P.give x d i:=by
  unfold Part.at_ Part.give;rw[Int.mul_comm (sm _ _) (x i),←sm_smul,←sm_smul,←sm_sub];refine sm_congr fun b hb=>?_;have hfb:=hf b hb
  by_cases hp:P.p b=i
  ·rw[if_pos hp];rw[hp]at hfb
   by_cases hS:S b=true
   ·rw[if_pos ⟨hS,hp⟩,if_pos ⟨hS,hp⟩,Int.max_eq_right (by have:=hfb.1 hS;omega),Int.mul_sub,Int.mul_comm (x i),←Int.mul_assoc (P.s b),Int.mul_comm d]
   ·rw[if_neg (fun h=>hS h.1),if_neg (fun h=>hS h.1),Int.max_eq_left (by have:=hfb.2 (by simpa using hS);omega)];simp
  ·rw[if_neg (fun h=>hp h.2),if_neg (fun h=>hp h.2),if_neg hp];simp
 rw[h2,Int.mul_add,Int.mul_neg]at h1;omega
theorem fits_volt' {P:Part} (ho:P.Ok) {S:Nat→Bool} (hf:Fits_ P S):Volt P (P.num S) (P.den S):=fits_volt ho (sol_num ho hf.1) hf.2
theorem num_congr {P:Part} {S S':Nat→Bool} (h:∀b∈P.fs,S b=S' b):P.num S=P.num S'∧P.den S=P.den S':=by
 have ha:∀c,P.at_ S c=P.at_ S' c:=fun c=>funext fun i=>sm_congr fun b hb=>by rw[h b hb]
 have hA:P.A S=P.A S':=by funext i k;unfold Part.A;rw[ha]
 have hb:P.b S=P.b S':=by funext i;unfold Part.b;rw[ha]
 refine⟨?_,?_⟩
 ·funext k;unfold Part.num;rw[hA,hb]
 ·unfold Part.den;rw[hA]
end Go.Cur
end
section
namespace Go.Cur
def ps (t:Nat→Int):Nat→Int
 |0=>0
 |j+1=>ps t j+t j
theorem ps_congr {t u:Nat→Int}:∀{n:Nat},(∀j,j<n→t j=u j)→ps t n=ps u n
 |0,_=>rfl
 |n+1,h=>by rw[ps,ps,ps_congr fun j hj=>h j (by omega),h n (by omega)]
theorem ps_front {t:Nat→Int}:∀{n:Nat},ps t (n+1)=t 0+ps (fun j=>t (j+1)) n
 |0=>by simp[ps]
 |n+1=>by rw[ps,ps_front,ps];omega
theorem ps_smul {t:Nat→Int} (a:Int):∀{n:Nat},ps (fun j=>a*t j) n=a*ps t n
 |0=>by simp[ps]
 |n+1=>by rw[ps,ps,ps_smul,Int.mul_add]
theorem ps_neg {t:Nat→Int} {n:Nat}:ps (fun j=>-t j) n=-ps t n:=by
 have:=ps_smul (t:=t) (-1) (n:=n);simpa using this
theorem E_ps {α:Type} [Inhabited α]:∀{cs:List α} {f:α→List α→Int},E f cs=ps (fun j=>sg j*f (cs[j]?.getD default) (cs.eraseIdx j)) cs.length
 |[],_=>rfl
 | c::cs,f=>by
  rw[E,E_ps,List.length_cons,ps_front];have:ps (fun j=>sg (j+1)*f ((c::cs)[j+1]?.getD default) ((c::cs).eraseIdx (j+1))) cs.length=-ps (fun j=>sg j*f (cs[j]?.getD default) (c::cs.eraseIdx j)) cs.length:=by
   rw[←ps_neg];refine ps_congr fun j hj=>?_;simp only[sg,List.getElem?_cons_succ,List.eraseIdx_cons_succ,Int.neg_mul]
  rw[this];simp[sg];omega
def minor (a:Nat→Nat→Int) (rows cols:List Nat):Int:=det rows (cols.map fun k i=>a i k)
theorem minor_cons {a:Nat→Nat→Int} {r:Nat} {rows cols:List Nat}:minor a (r::rows) cols=ps (fun j=>sg j*(a r (cols[j]?.getD 0)*minor a rows (cols.eraseIdx j))) cols.length:=by
 unfold minor;rw[det_map,E_ps]
 rfl
theorem det_names {f:Nat→Nat}:∀{is:List Nat} {cs:List (Nat→Int)},det (is.map f) cs=det is (cs.map fun c i=>c (f i))
 |[],[]=>rfl
 |[],_::_=>rfl
 |i::is,cs=>by
  rw[List.map_cons,det,det,E_map];exact E_congr fun c l _ _ _=>by rw[det_names]
theorem minor_names {a:Nat→Nat→Int} {f g:Nat→Nat} {rows cols:List Nat}:minor a (rows.map f) (cols.map g)=minor (fun i k=>a (f i) (g k)) rows cols:=by
 unfold minor;rw[det_names,List.map_map,List.map_map]
 rfl
theorem minor_congr {a b:Nat→Nat→Int} {rows cols:List Nat} (h:∀i∈rows,∀k∈cols,a i k=b i k):minor a rows cols=minor b rows cols:=det_congr h
theorem list_range {p:List Nat}:p=(List.range p.length).map fun j=>p.getD j 0:=by
 refine List.ext_getElem (by simp) fun j h1 h2=>?_;simp[h1]
theorem D_minor {A:Nat→Nat→Int} {p:List Nat}:D A p=minor (fun i k=>A (p.getD i 0) (p.getD k 0)) (List.range p.length) (List.range p.length):=by
 have h:D A p=minor A p p:=rfl;rw[h]
 conv=>lhs;rw[list_range (p:=p)]
 exact minor_names
theorem getD_inj {p:List Nat} (hp:p.Nodup) {i j:Nat} (hi:i<p.length) (hj:j<p.length) (h:p.getD i 0=p.getD j 0):i=j:=by
 simp only[List.getD_eq_getElem?_getD,List.getElem?_eq_getElem hi,List.getElem?_eq_getElem hj,Option.getD_some]at h;exact(List.getElem_inj hp).1 h
theorem num_minor {A:Nat→Nat→Int} {b:Nat→Int} {p:List Nat} (hp:p.Nodup) {k:Nat} (hk:k<p.length):num A b p (p.getD k 0)=minor (fun i j=>if j=k then b (p.getD i 0)else A (p.getD i 0) (p.getD j 0)) (List.range p.length) (List.range p.length):=by
 have h:num A b p (p.getD k 0)=minor (fun i j=>if j=p.getD k 0 then b i else A i j) p p:=rfl;rw[h]
 conv=>lhs;rw[list_range (p:=p)]
 rw[minor_names];refine minor_congr fun i hi j hj=>?_;rw[List.mem_range]at hi hj;have e:((List.range p.length).map fun j=>p.getD j 0)=p:=list_range.symm;rw[e]
 by_cases h:j=k
 ·subst h;simp
 ·rw[if_neg h,if_neg fun e=>h (getD_inj hp hj hk e)]
def sa (f:Nat→Nat):List Nat→Nat
 |[]=>0
 |i::is=>f i+sa f is
theorem sa_append {f:Nat→Nat}:∀{u v:List Nat},sa f (u++v)=sa f u+sa f v
 |[],v=>by simp[sa]
 |i::u,v=>by rw[List.cons_append,sa,sa,sa_append];omega
theorem sa_le {f g:Nat→Nat}:∀{u:List Nat},(∀i∈u,f i≤g i)→sa f u≤sa g u
 |[],_=>Nat.le_refl _
 |i::u,h=>by
  have h1:=h i (by simp);have h2:=sa_le (f:=f) (g:=g) (u:=u) fun k hk=>h k (by simp[hk]);rw[sa,sa];omega
theorem sa_mul {f:Nat→Nat} (a:Nat):∀{u:List Nat},sa (fun i=>f i*a) u=sa f u*a
 |[]=>by simp[sa]
 |i::u=>by rw[sa,sa,sa_mul,Nat.add_mul]
theorem E_abs:∀{cs:List Nat} {f:Nat→List Nat→Int} {g:Nat→Nat},(∀u c v,cs=u++c::v→(f c (u++v)).natAbs≤g c)→(E f cs).natAbs≤sa g cs
 |[],f,g,_=>by simp[E,sa]
 |c::cs,f,g,h=>by
  have h1:=h [] c cs rfl;have h2:=E_abs (cs:=cs) (f:=fun d l=>f d (c::l)) (g:=g) fun u d v e=>h (c::u) d v (by rw[e];rfl);rw[E,sa];simp only[List.nil_append]at h1;omega
theorem minor_abs {a:Nat→Nat→Int} {R:Nat}:∀{rows cols:List Nat},(∀i∈rows,sa (fun k=>(a i k).natAbs) cols≤R)→(minor a rows cols).natAbs≤R^rows.length
 |[],cols,_=>by
  unfold minor
  cases cols<;>simp[det]
 |i::rows,cols,h=>by
  have hm:minor a (i::rows) cols=E (fun k l=>a i k*minor a rows l) cols:=det_map;rw[hm];refine Nat.le_trans (E_abs (g:=fun k=>(a i k).natAbs*R^rows.length) fun u c v e=>?_) ?_
  ·rw[Int.natAbs_mul];refine Nat.mul_le_mul_left _ (minor_abs fun j hj=>?_);have:=h j (by simp[hj]);rw[e,sa_append,sa]at this;rw[sa_append];omega
  ·rw[sa_mul,List.length_cons,Nat.pow_succ,Nat.mul_comm];exact Nat.mul_le_mul_left _ (h i (by simp))
def bnd (R B:Nat):Nat→Nat
 |0=>0
 |n+1=>B*R^n+R*bnd R B n
theorem sa_split {f:Nat→Nat} {u v:List Nat} {k:Nat}:sa f (u++k::v)=f k+sa f (u++v):=by
 rw[sa_append,sa_append,sa];omega
theorem minor_mark {a:Nat→Nat→Int} {R B k0:Nat}:∀{rows cols:List Nat},cols.Nodup→k0∈cols→(∀i∈rows,(a i k0).natAbs≤B)→(∀i∈rows,sa (fun k=>if k=k0 then 0 else(a i k).natAbs) cols≤R)→(minor a rows cols).natAbs≤bnd R B rows.length
 |[],cols,_,hk,_,_=>by
  unfold minor
  cases cols with
  |nil=>simp at hk
  |cons c cs=>simp[det]
 | i ::rows,cols,hn,hk,hB,hR=>by
  have hm:minor a (i::rows) cols=E (fun k l=>a i k*minor a rows l) cols:=det_map;rw[hm,List.length_cons,bnd];refine Nat.le_trans (E_abs (g:=fun k=>if k=k0 then B*R^rows.length else(a i k).natAbs*bnd R B rows.length) fun u c v e=>?_) ?_
  ·rw[Int.natAbs_mul];subst e;obtain⟨hu,hv,hd⟩:=nodup_split hn
   by_cases hc:c=k0
   ·rw[if_pos hc];subst hc;refine Nat.mul_le_mul (hB i (by simp)) (minor_abs fun j hj=>?_);have:=hR j (by simp[hj]);rw[sa_split,if_pos rfl,Nat.zero_add]at this;refine Nat.le_trans (Nat.le_of_eq ?_) this;have hne:∀x∈u++v,x≠c:=fun x hx=>by
     rintro rfl
     rcases List.mem_append.1 hx with h|h
     ·exact hu h
     ·exact hv h
    refine Nat.le_antisymm (sa_le fun x hx=>by rw[if_neg (hne x hx)];exact Nat.le_refl _) (sa_le fun x hx=>by rw[if_neg (hne x hx)];exact Nat.le_refl _)
   ·rw[if_neg hc];refine Nat.mul_le_mul_left _ (minor_mark hd ?_ (fun j hj=>hB j (by simp[hj])) fun j hj=>?_)
    ·simp only[List.mem_append,List.mem_cons]at hk ⊢
     rcases hk with h|rfl|h
     ·exact .inl h
     ·exact absurd rfl hc
     ·exact .inr h
    ·have:=hR j (by simp[hj]);rw[sa_split]at this;omega
  ·obtain⟨u,v,rfl⟩:=List.append_of_mem hk;obtain⟨hu,hv,hd⟩:=nodup_split hn;have hne:∀x∈u++v,x≠k0:=fun x hx=>by
    rintro rfl
    rcases List.mem_append.1 hx with h|h
    ·exact hu h
    ·exact hv h
   rw[sa_split,if_pos rfl];refine Nat.add_le_add_left ?_ _;have h1:=hR i (by simp);rw[sa_split,if_pos rfl,Nat.zero_add]at h1;refine Nat.le_trans (Nat.le_of_eq (Nat.le_antisymm (sa_le (g:=fun k=>(if k=k0 then 0 else(a i k).natAbs)*bnd R B rows.length) fun x hx=>by rw[if_neg (hne x hx),if_neg (hne x hx)];exact Nat.le_refl _) (sa_le fun x hx=>by rw[if_neg (hne x hx),if_neg (hne x hx)];exact Nat.le_refl _))) ?_;rw[sa_mul];exact Nat.mul_le_mul_right _ h1
end Go.Cur
end
section
namespace Go.Cur
def Part.A0 (P:Part) (i0:Nat):Nat→Nat→Int:=fun i k=>if i=i0 then(if k=i0 then 1 else 0)else P.L i k
def Part.b0 (P:Part) (i0:Nat):Nat→Int:=fun i=>if i=i0 then 0 else-P.u i
def Part.num0 (P:Part) (i0:Nat) (k:Nat):Int:=Cur.num (P.A0 i0) (P.b0 i0) P.ns k
def Part.den0 (P:Part) (i0:Nat):Int:=D (P.A0 i0) P.ns
theorem den0_pos {P:Part} (ho:P.Ok) {i0:Nat} {tl:List Nat} (hn:P.ns=i0::tl):0<P.den0 i0:=by
 have hnd:=ho.nd;rw[hn,List.nodup_cons]at hnd;have h1:P.den0 i0=D P.L tl:=by
  unfold Part.den0 D;rw[hn,det_map,E,E_zero]
  ·have e:(P.A0 i0) i0 i0=1:=by simp[Part.A0]
   rw[e,Int.one_mul,Int.sub_zero];exact det_congr fun i hi k hk=>by
    have:¬i=i0:=by rintro rfl;exact hnd.1 hi
    simp[Part.A0,this]
  ·intro c l hc _ _;have:¬c=i0:=by rintro rfl;exact hnd.1 hc
   simp[Part.A0,this]
 rw[h1];have hmem:∀k∈tl,k∈P.ns:=fun k hk=>by rw[hn];simp[hk]
 refine D_pos _ rfl hnd.2 ?_ ?_
 ·have hc:Cond P.L P.ns:=⟨ho.off,fun k hk=>by rw[ho.col k hk];exact Int.le_refl _⟩;rw[hn]at hc;exact Cond.minor (u:=[]) hc (by simp) hnd.1
 ·intro U hU hne hs;exact ho.lead U hU hne (fun k hk=>hmem k (hs k hk)) ⟨i0,by rw[hn];simp,fun h=>hnd.1 (hs _ h)⟩
theorem num0_eq {P:Part} (ho:P.Ok) {i0:Nat} {tl:List Nat} (hn:P.ns=i0::tl) (hsum:sm P.u P.ns=0):∀i∈P.ns,sm (fun k=>P.L i k*P.num0 i0 k) P.ns=- (P.den0 i0*P.u i):=by
 have hnd:=ho.nd;rw[hn,List.nodup_cons]at hnd;have htl:∀i∈tl,sm (fun k=>P.L i k*P.num0 i0 k) P.ns=- (P.den0 i0*P.u i):=fun i hi=>by
  have hi0:¬i=i0:=by rintro rfl;exact hnd.1 hi
  have h1:=cramer_num (A:=P.A0 i0) (b:=P.b0 i0) ho.nd (i:=i) (by rw[hn];simp[hi]);have h2:sm (fun k=>P.A0 i0 i k*num (P.A0 i0) (P.b0 i0) P.ns k) P.ns=sm (fun k=>P.L i k*P.num0 i0 k) P.ns:=sm_congr fun k _=>by
   simp only[Part.A0,if_neg hi0];rfl
  rw[h2]at h1;rw[h1];show P.den0 i0*P.b0 i0 i=_;unfold Part.b0;rw[if_neg hi0,Int.mul_neg]
 intro i hi
 by_cases e:i=i0
 ·subst e;have h1:sm (fun j=>sm (fun k=>P.L j k*P.num0 i k) P.ns) P.ns=0:=by
   rw[sm_comm];refine sm_zero fun k hk=>?_;have:sm (fun j=>P.L j k*P.num0 i k) P.ns=sm (fun j=>P.num0 i k*P.L j k) P.ns:=sm_congr fun _ _=>Int.mul_comm _ _;rw[this,sm_smul,ho.col k hk,Int.mul_zero]
  have h2:sm (fun j=>sm (fun k=>P.L j k*P.num0 i k) P.ns) P.ns=sm (fun k=>P.L i k*P.num0 i k) P.ns+sm (fun j=>sm (fun k=>P.L j k*P.num0 i k) P.ns) tl:=by
   conv=>lhs;arg 2;rw[hn]
   rfl
  have h3:sm (fun j=>sm (fun k=>P.L j k*P.num0 i k) P.ns) tl=sm (fun j=>-P.den0 i*P.u j) tl:=sm_congr fun j hj=>by rw[htl j hj,Int.neg_mul]
  rw[h2,h3,sm_smul]at h1;rw[hn,sm]at hsum;have h4:sm P.u tl=-P.u i:=by omega
  rw[h4,Int.neg_mul_neg]at h1;omega
 ·rw[hn]at hi
  rcases List.mem_cons.1 hi with h|h
  ·exact absurd h e
  ·exact htl i h
theorem volt0 {P:Part} (ho:P.Ok) {i0:Nat} {tl:List Nat} (hn:P.ns=i0::tl) (hsum:sm P.u P.ns=0) {r:Int} (hr:∀b∈P.fs,P.V b*P.den0 i0-P.num0 i0 (P.p b)≤r):Volt P (fun k=>P.num0 i0 k+r) (P.den0 i0):=by
 refine⟨den0_pos ho hn,fun i hi=>?_⟩;have h1:sm (fun k=>P.L i k*(P.num0 i0 k+r)) P.ns=sm (fun k=>P.L i k*P.num0 i0 k) P.ns+r*sm (fun k=>P.L i k) P.ns:=by
  rw[←sm_smul,←sm_add];exact sm_congr fun k _=>by rw[Int.mul_add,Int.mul_comm r]
 have h2:P.give (fun k=>P.num0 i0 k+r) (P.den0 i0) i=0:=sm_zero fun b hb=>by
  split
  ·rename_i h;have:=hr b hb;rw[h]at this;show P.s b*max 0 (P.V b*P.den0 i0-(P.num0 i0 i+r))=0;rw[Int.max_eq_left (by omega),Int.mul_zero]
  ·rfl
 rw[h1,num0_eq ho hn hsum i hi,ho.row i hi,h2];omega
def dg (W:List Wn) (i:Nat):Nat:=(W.filter fun w=>decide (w.a=i)||decide (w.b=i)).length
theorem lw_diag {i n:Nat}:∀{W:List Wn},OkW W n→(∀w∈W,w.s≤4)→0≤lw W i i∧lw W i i≤4*dg W i
 |[],_,_=>by simp[lw,dg]
 | w ::W,hW,h4=>by
  have ih:=lw_diag (i:=i) (W:=W) (fun w hw=>hW w (by simp[hw])) fun w hw=>h4 w (by simp[hw]);obtain⟨_,_,hne,hs⟩:=hW w (by simp);have hs4:=h4 w (by simp);rw[lw];unfold dg at ih ⊢;rw[List.filter_cons]
  by_cases ha:w.a=i
  ·have hb:¬w.b=i:=by omega
   have e:ew w i*ew w i=1:=by
    unfold ew;rw[if_pos ha.symm,if_neg fun e=>hb e.symm];rfl
   rw[e,if_pos (by simp[ha]),List.length_cons];omega
  ·by_cases hb:w.b=i
   ·have e:ew w i*ew w i=1:=by
     unfold ew;rw[if_neg fun e=>ha e.symm,if_pos hb.symm];rfl
    rw[e,if_pos (by simp[hb]),List.length_cons];omega
   ·have e:ew w i*ew w i=0:=by
     unfold ew;rw[if_neg fun e=>ha e.symm,if_neg fun e=>hb e.symm];rfl
    rw[e,if_neg (by simp[ha,hb])];omega
theorem sa_sm {f:Nat→Int}:∀{U:List Nat},(∀k∈U,f k≤0)→(sa (fun k=>(f k).natAbs) U:Int)=-sm f U
 |[],_=>rfl
 |k::U,h=>by
  have h1:=h k (by simp);have h2:=sa_sm (f:=f) (U:=U) fun k hk=>h k (by simp[hk]);rw[sa,sm];omega
theorem row_abs {P:Part} (ho:P.Ok) {i:Nat} (hi:i∈P.ns) (h0:0≤P.L i i):(sa (fun k=>(P.L i k).natAbs) P.ns:Int)=2*P.L i i:=by
 obtain⟨u,v,e⟩:=List.append_of_mem hi;have hnd:=ho.nd;have hr:=ho.row i hi;rw[e]at hnd hr ⊢;obtain⟨hu,hv,_⟩:=nodup_split hnd;rw[sa_split];rw[sm_split]at hr;have h1:=sa_sm (f:=fun k=>P.L i k) (U:=u++v) fun k hk=>ho.off i hi k (by
  rw[e];simp only[List.mem_append,List.mem_cons]at hk ⊢;rcases hk with h|h<;>simp[h]) (by
  rintro rfl
  rcases List.mem_append.1 hk with h|h
  ·exact hu h
  ·exact hv h)
 omega
end Go.Cur
end
section
namespace Go.Cur
open Go.AM Go.Proofs
abbrev wr (n:Int):Int:=IntKind.i64.wrap n
theorem wr_def (n:Int):wr n=if n % 18446744073709551616≥9223372036854775808 then n % 18446744073709551616-18446744073709551616 else n % 18446744073709551616:=by
 simp[IntKind.wrap,IntKind.bits,IntKind.signed]
theorem wr_emod (n:Int):wr n % 18446744073709551616=n % 18446744073709551616:=by
 rw[wr_def];split<;>omega
theorem wr_eq {a b:Int} (h:a % 18446744073709551616=b % 18446744073709551616):wr a=wr b:=by rw[wr_def,wr_def,h]
theorem wr_add (a b:Int):wr (wr a+b)=wr (a+b):=wr_eq (by rw[Int.add_emod,wr_emod,←Int.add_emod])
theorem wr_add' (a b:Int):wr (a+wr b)=wr (a+b):=by rw[Int.add_comm,wr_add,Int.add_comm]
theorem wr_mul (a b:Int):wr (wr a*b)=wr (a*b):=wr_eq (by rw[Int.mul_emod,wr_emod,←Int.mul_emod])
theorem wr_mul' (a b:Int):wr (a*wr b)=wr (a*b):=by rw[Int.mul_comm,wr_mul,Int.mul_comm]
theorem wr_id {n:Int} (h1:-9223372036854775808≤n) (h2:n≤9223372036854775807):wr n=n:=wrap_in h1 h2
theorem bits_or (x y:Nat) (hx:x<4294967296) (hy:y<4294967296):bits .or .i64 x y=((x|||y:Nat):Int):=by
 have hb:x|||y<4294967296:=Nat.or_lt_two_pow (n:=32) (by omega) (by omega);show IntKind.i64.wrap ((BitVec.ofInt 64 x|||BitVec.ofInt 64 y).toNat:Int)=_;have h:(BitVec.ofInt 64 x|||BitVec.ofInt 64 y).toNat=x|||y:=by
  simp only[BitVec.toNat_or,BitVec.ofInt_natCast,BitVec.toNat_ofNat];rw[Nat.mod_eq_of_lt (by omega),Nat.mod_eq_of_lt (by omega)]
 rw[h];exact wrap_in (by omega) (by omega)
theorem bits_and1 (x:Nat) (hx:x<4294967296):bits .and .i64 x 1=((x % 2:Nat):Int):=by
 show IntKind.i64.wrap ((BitVec.ofInt 64 x&&&BitVec.ofInt 64 (1:Nat)).toNat:Int)=_;have h:(BitVec.ofInt 64 x&&&BitVec.ofInt 64 (1:Nat)).toNat=x % 2:=by
  simp only[BitVec.toNat_and,BitVec.ofInt_natCast,BitVec.toNat_ofNat];rw[Nat.mod_eq_of_lt (by omega),Nat.mod_eq_of_lt (by omega),Nat.and_one_is_mod]
 rw[h];exact wrap_in (by omega) (by omega)
theorem shr_bit (x k:Nat) (hx:x<4294967296):bits .and .i64 ((x:Int)/2^((k:Int).toNat)) 1=if x.testBit k then 1 else 0:=by
 have e:(x:Int)/2^((k:Int).toNat)=((x/2^k:Nat):Int):=by
  rw[Int.toNat_natCast,Int.natCast_ediv];simp
 rw[e,bits_and1 _ (Nat.lt_of_le_of_lt (Nat.div_le_self _ _) hx)];rw[Nat.testBit_eq_decide_div_mod_eq];have:x/2^k % 2=0∨x/2^k % 2=1:=by omega
 rcases this with h|h<;>simp[h]
theorem shl1 (k:Nat) (hk:k≤20):IntKind.i64.wrap (1*2^((k:Int).toNat))=((2^k:Nat):Int):=by
 have h1:2^k≤2^20:=Nat.pow_le_pow_right (by omega) hk;have e:(1:Int)*2^((k:Int).toNat)=((2^k:Nat):Int):=by rw[Int.toNat_natCast,Int.one_mul];simp
 rw[e];generalize 2^k=m at h1;exact wrap_in (by omega) (by omega)
def unu (n used:Nat):List Nat:=(List.range n).filter fun k=> !used.testBit k
theorem unu_succ (k used:Nat):unu (k+1) used=unu k used++if used.testBit k then []else [k]:=by
 unfold unu;rw[List.range_succ,List.filter_append]
 cases h:used.testBit k<;>simp[h]
theorem unu_mem {n used k:Nat}:k∈unu n used↔k<n∧used.testBit k=false:=by simp[unu]
theorem unu_nodup {n used:Nat}:(unu n used).Nodup:=List.nodup_range.filter _
theorem unu_split {n used k:Nat} (hk:k<n) (h:used.testBit k=false):∃v,unu n used=unu k used++k::v:=by
 have:∀d,∃v,unu (k+1+d) used=unu k used++k::v:=by
  intro d
  induction d with
  |zero=>exact⟨[],by rw[Nat.add_zero,unu_succ,h];simp⟩
  |succ d ih=>
   obtain⟨v,hv⟩:=ih;refine⟨v++if used.testBit (k+1+d)then []else [k+1+d],?_⟩;rw[←Nat.add_assoc,unu_succ,hv,List.append_assoc]
   rfl
 have:=this (n-(k+1))
 rwa [show k+1+(n-(k+1))=n by omega]at this
theorem unu_use {n used k:Nat} (hk:k<n) (h:used.testBit k=false):unu n (used|||2^k)=(unu n used).eraseIdx (unu k used).length:=by
 obtain⟨v,hv⟩:=unu_split hk h;have hnd:=unu_nodup (n:=n) (used:=used);have h1:unu n (used|||2^k)=(unu n used).filter fun x=>decide (x≠k):=by
  unfold unu;rw[List.filter_filter];refine List.filter_congr fun x _=>?_;rw[Nat.testBit_or,Nat.testBit_two_pow]
  by_cases e:x=k
  ·subst e;simp
  ·have e':¬k=x:=fun h=>e h.symm;simp[e,e']
 rw[hv]at hnd;obtain⟨hu,hv',_⟩:=nodup_split hnd;rw[h1,hv,List.eraseIdx_append_of_length_le (Nat.le_refl _),Nat.sub_self,List.eraseIdx_cons_zero,List.filter_append,List.filter_cons,if_neg (by simp)]
 congr 1
 ·refine List.filter_eq_self.2 fun x hx=>?_;have:x≠k:=by rintro rfl;exact hu hx
  simp[this]
 ·refine List.filter_eq_self.2 fun x hx=>?_;have:x≠k:=by rintro rfl;exact hv' hx
  simp[this]
theorem unu_at {n used k:Nat} (hk:k<n) (h:used.testBit k=false):(unu n used)[(unu k used).length]?=some k:=by
 obtain⟨v,hv⟩:=unu_split hk h;rw[hv,List.getElem?_append_right (Nat.le_refl _),Nat.sub_self];rfl
theorem unu_len {n used k:Nat} (hk:k<n) (h:used.testBit k=false):(unu n (used|||2^k)).length+1=(unu n used).length:=by
 have h1:=(List.getElem?_eq_some_iff.1 (unu_at hk h)).1;rw[unu_use hk h,List.length_eraseIdx_of_lt h1];omega
theorem use_lt {n used k:Nat} (hu:used<2^n) (hk:k<n):used|||2^k<2^n:=Nat.or_lt_two_pow hu (Nat.pow_lt_pow_right (by omega) hk)
abbrev Kvs:=List (List KC×Value)
def fromS (call:Nat→Kvs→Int×Kvs) (a:Nat→Nat→Int) (row used:Nat) (st:Int×Int×Kvs) (k:Nat):Int×Int×Kvs:=
 if used.testBit k then st
 else if a row k=0 then(st.1,wr (-st.2.1),st.2.2)
 else(wr (st.1+wr (wr (st.2.1*a row k)*(call (used|||2^k) st.2.2).1)),wr (-st.2.1),(call (used|||2^k) st.2.2).2)
def fromF (a:Nat→Nat→Int) (n:Nat):Nat→Nat→Nat→Kvs→Int×Kvs
 |0,_,used,s=>(igt s used,s)
 | d+1,row,used,s=>
  if (kvGet s (ik used)).isSome then(igt s used,s)
  else(((List.range n).foldl (fromS (fromF a n d (row+1)) a row used) (0,1,s)).1,
   kvSet ((List.range n).foldl (fromS (fromF a n d (row+1)) a row used) (0,1,s)).2.2 (ik used) (.int .i64 ((List.range n).foldl (fromS (fromF a n d (row+1)) a row used) (0,1,s)).1))
def mval (a:Nat→Nat→Int) (n used:Nat):Int:=wr (minor a ((List.range n).drop (n-(unu n used).length)) (unu n used))
structure Kn (a:Nat→Nat→Int) (n:Nat) (s:Kvs):Prop where
 ok:∀(u:Nat) v,kvGet s (ik u)=some v→v= .int .i64 (mval a n u)
 int:IntM s
 full:(kvGet s (ik ((2^n-1:Nat):Int))).isSome
theorem Kn.igt {a:Nat→Nat→Int} {n:Nat} {s:Kvs} (h:Kn a n s) {u:Nat} (hu:(kvGet s (ik u)).isSome):igt s u=mval a n u:=by
 obtain⟨v,hv⟩:=Option.isSome_iff_exists.1 hu;have:=h.ok u v hv;unfold Cur.igt;rw[hv,this]
theorem Kn.set {a:Nat→Nat→Int} {n:Nat} {s:Kvs} (h:Kn a n s) (u:Nat):Kn a n (kvSet s (ik u) (.int .i64 (mval a n u))):=by
 refine⟨fun x v hx=>?_,h.int.set _ _,?_⟩
 ·rw[kv_get]at hx
  split at hx
  ·rename_i e;have:=ik_inj.1 e;have e2:x=u:=by omega
   simp only[Option.some.injEq]at hx;rw[←hx,e2]
  ·exact h.ok x v hx
 ·rw[kv_get]
  split
  ·rfl
  ·exact h.full
theorem full_of {n used:Nat} (hu:used<2^n) (h:unu n used=[]):used=2^n-1:=by
 refine Nat.eq_of_testBit_eq fun k=>?_;rw[Nat.testBit_two_pow_sub_one]
 by_cases hk:k<n
 ·have:¬k∈unu n used:=by rw[h];simp
  rw[unu_mem]at this;have:used.testBit k=true:=by
   cases hb:used.testBit k with
   |true=>rfl
   |false=>exact absurd ⟨hk,hb⟩ this
  simp[this,hk]
 ·have:used.testBit k=false:=Nat.testBit_lt_two_pow (Nat.lt_of_lt_of_le hu (Nat.pow_le_pow_right (by omega) (by omega)));simp[this,hk]
theorem sg_wr (j:Nat):wr (-sg j)=sg (j+1):=by
 have:sg j=1∨sg j=-1:=by
  induction j with
  |zero=>exact Or.inl rfl
  |succ j ih=>rcases ih with h|h<;>simp[sg,h]
 rw[sg]
 rcases this with h|h<;>rw[h]<;>rfl
theorem fromF_ok {a:Nat→Nat→Int} {n:Nat}:∀(d row used:Nat) (s:Kvs),row+d=n→used<2^n→(unu n used).length=d→Kn a n s→(fromF a n d row used s).1=mval a n used∧Kn a n (fromF a n d row used s).2
 |0,row,used,s,hr,hu,hl,hk=>by
  have:=full_of hu (List.length_eq_zero_iff.1 hl);subst this;exact⟨hk.igt hk.full,hk⟩
 | d + 1,row,used,s,hr,hu,hl,hk=>by
  rw[fromF]
  by_cases hs:(kvGet s (ik used)).isSome
  ·rw[if_pos hs];exact⟨hk.igt hs,hk⟩
  ·rw [if_neg hs]
   let t:Nat→Int:=fun j=>sg j*(a row ((unu n used)[j]?.getD 0)*minor a ((List.range n).drop (row+1)) ((unu n used).eraseIdx j))
   have key:∀k,k≤n→((List.range k).foldl (fromS (fromF a n d (row+1)) a row used) (0,1,s)).1=wr (ps t (unu k used).length)∧((List.range k).foldl (fromS (fromF a n d (row+1)) a row used) (0,1,s)).2.1=sg (unu k used).length∧Kn a n ((List.range k).foldl (fromS (fromF a n d (row+1)) a row used) (0,1,s)).2.2:=by
    intro k
    induction k with
    |zero=>intro _;exact⟨rfl,rfl,hk⟩
    | succ k ih=>
     intro hkn;obtain⟨i1,i2,i3⟩:=ih (by omega);rw[List.range_succ,List.foldl_append];simp only[List.foldl_cons,List.foldl_nil];generalize (List.range k).foldl (fromS (fromF a n d (row+1)) a row used) (0,1,s)=st at i1 i2 i3 ⊢;obtain⟨sum,sign,s1⟩:=st;simp only at i1 i2 i3 ⊢;unfold fromS;rw[unu_succ]
     by_cases hb:used.testBit k=true
     ·rw[if_pos hb,if_pos hb,List.append_nil];exact⟨i1,i2,i3⟩
     ·have hb':used.testBit k=false:=by simpa using hb
      rw[if_neg hb,if_neg hb,List.length_append,List.length_singleton];have hat:=unu_at (n:=n) (by omega) hb';have ht:t (unu k used).length=sg (unu k used).length*(a row k*minor a ((List.range n).drop (row+1)) (unu n (used|||2^k))):=by
       show sg _*(a row ((unu n used)[(unu k used).length]?.getD 0)*minor a ((List.range n).drop (row+1)) ((unu n used).eraseIdx (unu k used).length))=_;rw[hat,unu_use (by omega) hb'];rfl
      by_cases h0:a row k=0
      ·rw[if_pos h0,ps,ht,h0,Int.zero_mul,Int.mul_zero,Int.add_zero,i2];exact⟨i1,sg_wr _,i3⟩
      ·rw[if_neg h0];obtain⟨c1,c2⟩:=fromF_ok d (row+1) (used|||2^k) s1 (by omega) (use_lt hu (by omega)) (by have:=unu_len (n:=n) (by omega) hb';omega) i3;refine⟨?_,?_,c2⟩
       ·simp only;rw[c1,i1,i2,ps,ht];have hlen:=unu_len (n:=n) (by omega) hb';have hm:mval a n (used|||2^k)=wr (minor a ((List.range n).drop (row+1)) (unu n (used|||2^k))):=by
         unfold mval;rw[show n-(unu n (used|||2^k)).length=row+1 by omega]
        rw[hm,wr_add,wr_mul,wr_mul',wr_add',Int.mul_assoc]
       ·simp only;rw[i2];exact sg_wr _
   obtain⟨k1,k2,k3⟩:=key n (Nat.le_refl _);have hv:wr (ps t (unu n used).length)=mval a n used:=by
    unfold mval;have hrow:(List.range n).drop (n-(unu n used).length)=row::(List.range n).drop (row+1):=by
     rw[hl,show n-(d+1)=row by omega,List.drop_eq_getElem_cons (by simp;omega)];simp
    rw[hrow,minor_cons]
   rw[hv]at k1;rw[k1];exact⟨rfl,k3.set used⟩
end Go.Cur
end
section
namespace Go.Cur
open Go.AM Go.Proofs
def mAt (m:List (List Int)) (i k:Nat):Int:=at0 (rowAt m i) k
abbrev mL (m:List (List Int)):AV:= .lst 1 (m.map rCell)
structure Sq (m:List (List Int)) (n:Nat):Prop where
 len:m.length=n
 rows:∀r∈m,r.length=n
theorem Sq.row {m:List (List Int)} {n i:Nat} (h:Sq m n) (hi:i<n):m[i]?=some (rowAt m i)∧(rowAt m i).length=n:=by
 have h1:=rowAt_nat (m:=m) (k:=i) (by rw[h.len];exact hi);exact⟨h1,h.rows _ (List.mem_of_getElem? h1)⟩
theorem Sq.get {m:List (List Int)} {n i k:Nat} (h:Sq m n) (hi:i<n) (hk:k<n):(rowAt m i)[k]?=some (mAt m i k):=at0_nat (by rw[(h.row hi).2];exact hk)
def dB (m:List (List Int)):Nat→AV
 |0=> .vptr [.any]
 |d+1=> .vptr [.clo 102 [.ptr 0 0 0, .vptr [mL m],dB m d]]
theorem dB_ren (m:List (List Int)) (G:List (Option Nat)) (h0:newName G 0=some 0):∀d k,2*d+1≤k→renAV G k (dB m d)=dB m d
 |0,k,h=>by
  obtain⟨k,rfl⟩:∃m,k=m+1:=⟨k-1,by omega⟩;show AV.vptr [renAV G k .any]=_
  cases k<;>rfl
 | d+1,k,h=>by
  obtain⟨k,rfl⟩:∃m,k=m+2:=⟨k-2,by omega⟩;have ih:=dB_ren m G h0 d k (by omega);have p0:renAV G k (.ptr 0 0 0)= .ptr 0 0 0:=by
   have e:renAV G k (.ptr 0 0 0)=match newName G 0 with|some q=> .ptr q 0 0|none=> .any:=by cases k<;>rfl
   rw[e,h0]
  have p1:renAV G k (.vptr [mL m])= .vptr [mL m]:=by
   obtain⟨k,rfl⟩:∃m,k=m+1:=⟨k-1,by omega⟩;show AV.vptr [renAV G k (mL m)]=_
   cases k<;>rfl
  show AV.vptr [.clo 102 [renAV G k (.ptr 0 0 0),renAV G k (.vptr [mL m]),renAV G k (dB m d)]]=_;rw[ih,p0,p1];rfl
abbrev dArgs (m:List (List Int)) (row used:Nat) (B:AV):List AV:=[I row,I used, .ptr 0 0 0, .vptr [mL m],B]
abbrev kRow (s:Kvs):Option ARow:=some (.map false [.i .i64] s)
theorem m_found (m:List (List Int)) (row used:Nat) (s:Kvs) (B:AV) (hI:IntM s) (hs:(kvGet s (ik used)).isSome=true):
  MutCall Try.prog 102 (dArgs m row used B) [some (.els 1 [[.mp 1]])] [kRow s] (I (igt s used)) [some (.els 1 [[.mp 1]])] [kRow s]:=by
 refine MutCall.of_bodyG [2] Try.func102 rfl (by decide) (by simp[Try.ntmps102]) rfl rfl ?_;intro J hJ;simp only[Try.ntmps102,Try.results102];refine gS fun K hK=>?_;simp -dsimp;apply hK;clear hK K;refine gwp_seq_k fun K1 hK1=>?_;refine gS fun K hK=>?_;simp -dsimp [igt_look hI,hs];refine valK_intro (_) (fun hm=>rfl) ?_;simp -dsimp [igt_look hI,hs];apply hK;clear hK K;refine gS fun K hK=>?_;simp -dsimp;apply hK;clear hK K;refine gwp_cond rfl (fun hc0=>?_) (fun hc0=>?_)
 ·refine gS fun K hK=>?_;simp -dsimp;apply hK;clear hK K;exact gwp_ret ⟨[some 0,some 1],rfl,by simp,by simp,by simp,by simp[resP,tupOf]⟩
 ·simp at hc0
theorem m_step (m:List (List Int)) (n d row used:Nat) (s:Kvs) (hq:Sq m n) (hn:n≤10) (hr:row+(d+1)=n) (hu:used<2^n) (hl:(unu n used).length=d+1) (hk:Kn (mAt m) n s) (hs:(kvGet s (ik used)).isSome=false)
  (hb:∀row used s,row+d=n→used<2^n→(unu n used).length=d→Kn (mAt m) n s→MutCall Try.prog 102 (dArgs m row used (dB m d)) [some (.els 1 [[.mp 1]])] [kRow s] (I (fromF (mAt m) n d row used s).1) [some (.els 1 [[.mp 1]])] [kRow (fromF (mAt m) n d row used s).2]):
  MutCall Try.prog 102 (dArgs m row used (dB m (d+1))) [some (.els 1 [[.mp 1]])] [kRow s] (I (fromF (mAt m) n (d+1) row used s).1) [some (.els 1 [[.mp 1]])] [kRow (fromF (mAt m) n (d+1) row used s).2]:=by
 have hI:=hk.int;have hdn:d≤10:=by omega
 have hB1:∀k,36≤k→renAV [some 0,some 1] k (dB m d)=dB m d:=fun k hk=>dB_ren m _ rfl d k (by omega);have hB2:∀k,36≤k→renAV [some 0,some 2] k (dB m d)=dB m d:=fun k hk=>dB_ren m _ rfl d k (by omega);have hpow:(2:Nat)^n≤2^10:=Nat.pow_le_pow_right (by omega) hn;have hu2:used<4294967296:=by omega
 have hok:=fun s=>fromF_ok (a:=mAt m) (n:=n) d (row+1) s;have e0:fromF (mAt m) n (d+1) row used s=(((List.range n).foldl (fromS (fromF (mAt m) n d (row+1)) (mAt m) row used) (0,1,s)).1,
   kvSet ((List.range n).foldl (fromS (fromF (mAt m) n d (row+1)) (mAt m) row used) (0,1,s)).2.2 (ik used) (.int .i64 ((List.range n).foldl (fromS (fromF (mAt m) n d (row+1)) (mAt m) row used) (0,1,s)).1)):=by
  rw[fromF,if_neg (by simp[hs])]
 rw[e0];have hml:=hq.len;have gr:=(hq.row (i:=row) (by omega)).1;have wrow:IntKind.i64.wrap ((row:Int)+1)=((row+1:Nat):Int):=by rw[wrap_in (by omega) (by omega)];omega
 show MutCall Try.prog 102 [I row,I used, .ptr 0 0 0, .vptr [mL m], .vptr [.clo 102 [.ptr 0 0 0, .vptr [mL m],dB m d]]] _ _ _ _ _;generalize dB m d=B at hb hB1 hB2 ⊢;refine MutCall.of_bodyG [2] Try.func102 rfl (by decide) (by simp[Try.ntmps102]) rfl rfl ?_;intro J hJ;simp only[Try.ntmps102,Try.results102];refine gS fun K hK=>?_;simp -dsimp;apply hK;clear hK K;refine gwp_seq_k fun K1 hK1=>?_;refine gS fun K hK=>?_;simp -dsimp [igt_look hI,hs];refine valK_intro (_) (fun hm=>rfl) ?_;simp -dsimp [igt_look hI,hs];apply hK;clear hK K;refine gS fun K hK=>?_;simp -dsimp;apply hK;clear hK K;refine gwp_cond rfl (fun hc0=>?_) (fun hc0=>?_)
 ·simp at hc0
 ·refine gwp_skip ?_;simp only[zT,reduceIte,Nat.reduceEqDiff];refine hK1 _ _ ?_;refine gwp_prune [0,1,2,3,4] (Or.inr (by simp)) ?_;simp only[zP,Nat.reduceEqDiff,reduceIte];refine gS fun K hK=>?_;simp -dsimp;apply hK;clear hK K;refine gwp_seq_k fun K2 hK2=>?_;refine gS fun K hK=>?_;simp -dsimp;apply hK;clear hK K;refine gwp_block ?_;refine gwp_prune [0,1,2,3,4,10,11,23,24] (Or.inr (by simp)) ?_;simp only[zP,Nat.reduceEqDiff,reduceIte];refine gwp_loop_l [0,1,2,3,4,23] (α:=Nat×(Int×Int×Kvs)) (fun x=>[(10,I x.2.1),(11,I x.2.2.1),(24,I x.1)]) (fun x=>[some (.els 1 [[.mp 1]]),kRow x.2.2.2]) (fun x=>x.1≤n∧x.2=(List.range x.1).foldl (fromS (fromF (mAt m) n d (row+1)) (mAt m) row used) (0,1,s)∧Kn (mAt m) n x.2.2.2) (fun x=>n-x.1) (0,0,1,s) ?_ ?_ ?_
  ·exact⟨Nat.zero_le _,rfl,hk⟩
  ·exact gsub (sub_rb [some 0,some 1] rfl (by simp[hB1]) (by simp)) (by simp)
  rintro⟨k,sum,sign,s1⟩ ⟨k1,k2,k3⟩;simp only at k1 k2 k3 ⊢;simp only[zP,Nat.reduceEqDiff,reduceIte];refine gS fun K hK=>?_;simp -dsimp;apply hK;clear hK K;refine gwp_seq_k fun K3 hK3=>?_;refine gwp_cond rfl (fun hc1=>?_) (fun hc1=>?_)
  ·have hkn:k<n:=by rw[←hml];simpa using hc1
   have wk:=zW k (by omega);have hbit:bits .and .i64 ((used:Int)/2^k) 1=if used.testBit k then 1 else 0:=by have:=shr_bit used k hu2;rwa [Int.toNat_natCast]at this
   have hb64:k≤IntKind.i64.bits:=Nat.le_trans (show k≤10 by omega) (by decide);have gk:=hq.get (i:=row) (by omega) hkn;have hst:(List.range (k+1)).foldl (fromS (fromF (mAt m) n d (row+1)) (mAt m) row used) (0,1,s)=fromS (fromF (mAt m) n d (row+1)) (mAt m) row used (sum,sign,s1) k:=by rw[List.range_succ,List.foldl_append,←k2];rfl
   refine gwp_skip ?_;simp only[zT,reduceIte,Nat.reduceEqDiff];refine hK3 _ _ ?_;refine gwp_prune [0,1,2,3,4,10,11,23,24] (Or.inr (by simp)) ?_;simp only[zP,Nat.reduceEqDiff,reduceIte];refine gwp_seq_k fun K4 hK4=>?_;refine gwp_block ?_;refine gS fun K hK=>?_;simp -dsimp;apply hK;clear hK K;refine gwp_seq_k fun K5 hK5=>?_;refine gS fun K hK=>?_;simp -dsimp [hbit,hb64];apply hK;clear hK K;refine gwp_cond rfl (fun hc2=>?_) (fun hc2=>?_)
   ·have hbt:used.testBit k=true:=by
     cases h:used.testBit k with
     |true=>rfl
     |false=>rw[h]at hc2;simp at hc2
    refine gwp_exit ?_;simp only[zT,reduceIte,Nat.reduceEqDiff];refine hK4 _ _ ?_;refine gwp_prune [0,1,2,3,4,10,11,23,24] (Or.inr (by simp)) ?_;simp only[zP,Nat.reduceEqDiff,reduceIte];refine gR fun K hK=>?_;simp -dsimp [wk];apply hK;clear hK K;simp only[zT,reduceIte,Nat.reduceEqDiff];have hf:fromS (fromF (mAt m) n d (row+1)) (mAt m) row used (sum,sign,s1) k=(sum,sign,s1):=by unfold fromS;rw[if_pos hbt]
    rw[hf]at hst;exact⟨(k+1,sum,sign,s1),⟨by simp only;omega,hst.symm,k3⟩,by simp only;omega,gsub (sub_rb [some 0,some 1] rfl (by simp[hB1]) (by simp)) (by simp)⟩
   ·have hbt:used.testBit k=false:=by
     cases h:used.testBit k with
     |false=>rfl
     |true=>rw[h]at hc2;simp at hc2
    refine gwp_skip ?_;simp only[zT,reduceIte,Nat.reduceEqDiff];refine hK5 _ _ ?_;refine gwp_prune [0,1,2,3,4,10,11,12,23,24] (Or.inr (by simp)) ?_;simp only[zP,Nat.reduceEqDiff,reduceIte];refine gwp_seq_k fun K6 hK6=>?_;refine gS fun K hK=>?_;simp -dsimp [gr,gk];apply hK;clear hK K;refine gS fun K hK=>?_;simp -dsimp;apply hK;clear hK K;refine gwp_cond rfl (fun hc3=>?_) (fun hc3=>?_)
    ·skip
     try simp at hc3
     have hor:bits .or .i64 (used:Int) (2^k)=((used|||2^k:Nat):Int):=by have:=bits_or used (2^k) hu2 (Nat.lt_of_le_of_lt (Nat.pow_le_pow_right (by omega) (show k≤10 by omega)) (by decide));rwa [Int.natCast_pow]at this
     have hsh:IntKind.i64.wrap (2^k)=2^k:=by have:=shl1 k (by omega);rw[Int.toNat_natCast,Int.one_mul,Int.natCast_pow]at this;exact this
     have hk3:=hok (used|||2^k) s1 (by omega) (use_lt hu hkn) (by have:=unu_len hkn hbt;omega) k3;have hcall:=hb (row+1) (used|||2^k) s1 (by omega) (use_lt hu hkn) (by have:=unu_len hkn hbt;omega) k3;refine gwp_draw mixed rfl (by decide) rfl rfl fun K hK=>?_;simp -dsimp [wrow,hor,hsh,hb64];refine callK_mut [0] [1] [some 0,none,some 1] (hcall) (by decide) rfl (by simp[hB1]) (by simp[hB1]) rfl (by simp) ?_;simp -dsimp [wrow,hor,hsh,hb64];refine hK _ _ _ (by decide+kernel) ?_;clear hK K;simp only[zT,reduceIte,Nat.reduceEqDiff];refine hK6 _ _ ?_;refine gwp_prune [0,1,2,3,4,10,11,23,24] (Or.inr (by simp)) ?_;simp only[zP,Nat.reduceEqDiff,reduceIte];refine gR fun K hK=>?_;simp -dsimp;apply hK;clear hK K;simp only[zT,reduceIte,Nat.reduceEqDiff];refine hK4 _ _ ?_;refine gwp_prune [0,1,2,3,4,10,11,23,24] (Or.inr (by simp)) ?_;simp only[zP,Nat.reduceEqDiff,reduceIte];refine gR fun K hK=>?_;simp -dsimp [wk];apply hK;clear hK K;simp only[zT,reduceIte,Nat.reduceEqDiff];have hf:fromS (fromF (mAt m) n d (row+1)) (mAt m) row used (sum,sign,s1) k=(wr (sum+wr (wr (sign*mAt m row k)*(fromF (mAt m) n d (row+1) (used|||2^k) s1).1)),wr (-sign),(fromF (mAt m) n d (row+1) (used|||2^k) s1).2):=by unfold fromS;rw[if_neg (by simp[hbt]),if_neg hc3]
     rw[hf]at hst;exact⟨(k+1,_),⟨by simp only;omega,hst.symm,hk3.2⟩,by simp only;omega,gsub (sub_rb [some 0,some 2] rfl (by simp[hB2]) (by simp)) (by simp)⟩
    ·skip
     try simp at hc3
     refine gwp_skip ?_;simp only[zT,reduceIte,Nat.reduceEqDiff];refine hK6 _ _ ?_;refine gwp_prune [0,1,2,3,4,10,11,23,24] (Or.inr (by simp)) ?_;simp only[zP,Nat.reduceEqDiff,reduceIte];refine gR fun K hK=>?_;simp -dsimp;apply hK;clear hK K;simp only[zT,reduceIte,Nat.reduceEqDiff];refine hK4 _ _ ?_;refine gwp_prune [0,1,2,3,4,10,11,23,24] (Or.inr (by simp)) ?_;simp only[zP,Nat.reduceEqDiff,reduceIte];refine gR fun K hK=>?_;simp -dsimp [wk];apply hK;clear hK K;simp only[zT,reduceIte,Nat.reduceEqDiff];have hf:fromS (fromF (mAt m) n d (row+1)) (mAt m) row used (sum,sign,s1) k=(sum,wr (-sign),s1):=by unfold fromS;rw[if_neg (by simp[hbt]),if_pos hc3]
     rw[hf]at hst;exact⟨(k+1,_),⟨by simp only;omega,hst.symm,k3⟩,by simp only;omega,gsub (sub_rb [some 0,some 1] rfl (by simp[hB1]) (by simp)) (by simp)⟩
  ·have hkl:¬k<m.length:=by simpa using hc1
   have hkn:k=n:=by omega
   rw[hkn]at k2;refine gwp_exit ?_;simp only[zT,reduceIte,Nat.reduceEqDiff];refine hK2 _ _ ?_;refine gwp_prune [1,2,10] (Or.inr (by simp)) ?_;simp only[zP,Nat.reduceEqDiff,reduceIte];refine gS fun K hK=>?_;simp -dsimp;apply hK;clear hK K;refine gS fun K hK=>?_;simp -dsimp;apply hK;clear hK K;have k4:=k2.symm;exact gwp_ret ⟨[some 0,some 1],rfl,by simp,by simp[k4],by simp,by simp[resP,tupOf,k4]⟩
theorem m_from (m:List (List Int)) (n:Nat) (hq:Sq m n) (hn:n≤10):∀(d row used:Nat) (s:Kvs),row+d=n→used<2^n→(unu n used).length=d→Kn (mAt m) n s→
  MutCall Try.prog 102 (dArgs m row used (dB m d)) [some (.els 1 [[.mp 1]])] [kRow s] (I (fromF (mAt m) n d row used s).1) [some (.els 1 [[.mp 1]])] [kRow (fromF (mAt m) n d row used s).2]
 |0,row,used,s,hr,hu,hl,hk=>by
  have:=full_of hu (List.length_eq_zero_iff.1 hl);subst this;exact m_found m row _ s _ hk.int hk.full
 | d+1,row,used,s,hr,hu,hl,hk=>by
  cases hs:(kvGet s (ik used)).isSome with
  |true=>
   rw[fromF,if_pos hs];exact m_found m row used s _ hk.int hs
  |false=>exact m_step m n d row used s hq hn hr hu hl hk hs (m_from m n hq hn d)
abbrev fvRow:Option ARow:=some (.els 1 [[.clo 102 [.ptr 0 0 0, .ptr 3 0 0, .ptr 2 0 0]]])
abbrev mxRow (m:List (List Int)):Option ARow:=some (.els 1 [[mL m]])
theorem renC_mx (m:List (List Int)) (H:Nat→Option ARow) (h3:H 3=mxRow m) (k:Nat):renC H [0,1] (k+1) (.ptr 3 0 0)= .vptr [mL m]:=by
 have e:newName ([0,1].map some) 3=none:=by decide
 have e2:∀k,renC H [0,1] k (mL m)=mL m:=fun k=>by cases k<;>rfl
 simp only[renC,e,h3];simp[e2]
theorem eat_dB (m:List (List Int)) (H:Nat→Option ARow) (h2:H 2=fvRow) (h3:H 3=mxRow m):∀d,renC H [0,1] (2*d+1) (.ptr 2 0 0)=dB m d
 |0=>by
  have e:newName ([0,1].map some) 2=none:=by decide
  simp only[renC,e,h2];rfl
 | d+1=>by
  have e:newName ([0,1].map some) 2=none:=by decide
  have ih:=eat_dB m H h2 h3 d;have e3:=renC_mx m H h3 (2*d);have e0:renC H [0,1] (2*d+1) (.ptr 0 0 0)= .ptr 0 0 0:=rfl;rw[show 2*(d+1)+1=(2*d+1)+1+1 by omega];have:renC H [0,1] (2*d+1+1+1) (.ptr 2 0 0)= .vptr [.clo 102 [renC H [0,1] (2*d+1) (.ptr 0 0 0),renC H [0,1] (2*d+1) (.ptr 3 0 0),renC H [0,1] (2*d+1) (.ptr 2 0 0)]]:=by
   conv=>lhs;simp only[renC,e,h2]
   rfl
  rw[this,ih,e0,e3];rfl
def detL (m:List (List Int)):Int:=minor (mAt m) (List.range m.length) (List.range m.length)
theorem unu_zero (n:Nat):unu n 0=List.range n:=by
 unfold unu;rw[List.filter_eq_self];intro x _;simp
theorem kn_first (a:Nat→Nat→Int) (n:Nat):Kn a n (kvSet [] (ik ((2^n-1:Nat):Int)) (.int .i64 1)):=by
 have hu:unu n (2^n-1)=[]:=by
  unfold unu;rw[List.filter_eq_nil_iff];intro x hx;rw[List.mem_range]at hx;rw[Nat.testBit_two_pow_sub_one];simp[hx]
 have hv:mval a n (2^n-1)=1:=by
  unfold mval;rw[hu];simp only[List.length_nil,Nat.sub_zero];rw[List.drop_of_length_le (by simp)]
  rfl
 refine⟨fun u v h=>?_,IntM.nil.set _ _,by rw[kv_get];simp⟩;rw[kv_get]at h
 split at h
 ·rename_i e;have:=ik_inj.1 e;have e2:u=2^n-1:=by omega
  simp only[Option.some.injEq]at h;rw[←h,e2,hv]
 ·cases h
theorem m_fromA (m:List (List Int)) (n:Nat) (hq:Sq m n) (hn:n≤10) (s:Kvs) (hk:Kn (mAt m) n s):
  MutCall Try.prog 102 [I 0,I 0, .ptr 0 0 0, .ptr 3 0 0, .ptr 2 0 0] [some (.els 1 [[.mp 1]])] ([kRow s]++[fvRow,mxRow m]) (I (wr (detL m))) [some (.els 1 [[.mp 1]])] [kRow (fromF (mAt m) n n 0 0 s).2]:=by
 have hl:(unu n 0).length=n:=by rw[unu_zero];simp
 have h:=m_from m n hq hn n 0 0 s (by omega) (Nat.two_pow_pos n) hl hk;have hv:=(fromF_ok (a:=mAt m) (n:=n) n 0 0 s (by omega) (Nat.two_pow_pos n) hl hk).1;have hd:mval (mAt m) n 0=wr (detL m):=by
  unfold mval detL;rw[hl,unu_zero,hq.len,Nat.sub_self,List.drop_zero]
 rw[hv,hd]at h;refine MutCall.eat2 (2*n+1) 2 rfl ?_ ?_ h
 ·simp[List.range,List.range.loop]
 ·have e2:=eat_dB m (hget ([some (.els 1 [[.mp 1]])]++([kRow s]++[fvRow,mxRow m]))) rfl rfl n;have e3:=renC_mx m (hget ([some (.els 1 [[.mp 1]])]++([kRow s]++[fvRow,mxRow m]))) rfl (2*n);show [renC _ [0,1] (2*n+1) (I 0),renC _ [0,1] (2*n+1) (I 0),renC _ [0,1] (2*n+1) (.ptr 0 0 0),renC _ [0,1] (2*n+1) (.ptr 3 0 0),renC _ [0,1] (2*n+1) (.ptr 2 0 0)]=_;rw[e2,e3]
  rfl
theorem c_determinant (m:List (List Int)) (n:Nat) (hq:Sq m n) (hn:n≤10):PureCall Try.prog 95 [mL m] (I (wr (detL m))):=by
 have h:=m_fromA m n hq hn _ (kn_first (mAt m) n);have hml:=hq.len;have hb64:n≤IntKind.i64.bits:=Nat.le_trans (show n≤10 by omega) (by decide);have hpow:(1:Nat)≤2^n∧(2:Nat)^n≤2^10:=⟨Nat.one_le_two_pow,Nat.pow_le_pow_right (by omega) hn⟩;have hsh:IntKind.i64.wrap (2^n)=2^n:=by have:=shl1 n (by omega);rw[Int.toNat_natCast,Int.one_mul,Int.natCast_pow]at this;exact this
 have hw1:IntKind.i64.wrap (2^n-1)=((2^n-1:Nat):Int):=by
  have e:((2:Int)^n)=((2^n:Nat):Int):=by simp
  rw[e];generalize 2^n=q at hpow;rw[wrap_in (by omega) (by omega)];omega
 refine PureCall.of_bodyG Try.func95 rfl (by decide) (by simp[Try.ntmps95]) ?_;intro J hJ;simp only[Try.ntmps95,Try.results95];refine gS fun K hK=>?_;simp -dsimp;apply hK;clear hK K;refine gS fun K hK=>?_;simp -dsimp [hml,hb64,hsh,hw1];apply hK;clear hK K;refine gS fun K hK=>?_;simp -dsimp;apply hK;clear hK K;refine gS fun K hK=>?_;simp -dsimp;apply hK;clear hK K;refine gS fun K hK=>?_;simp -dsimp;refine callK_mut [2] [1,3,0] [none,none,some 0,none,some 1] (h) (by decide) rfl (by simp) (by simp) rfl (by simp) ?_;simp -dsimp;apply hK;clear hK K;exact gwp_ret (by simp[resP,tupOf])
end Go.Cur
end
section
namespace Go.Cur
open Go.AM Go.Proofs
theorem o_ClI (t:List Int) (hne:t≠[]) (hn:t.length≤1000):OwnCall Try.prog 94 [iL t] 0 t.length 1 (t.map nCell):=by
 have f1:Fits t.length 9:=fits_of (by omega) (by omega);refine OwnCall.of_body Try.func94 rfl (by decide) (by simp[Try.ntmps94]) (by simp) (by simpa using hne) ?_;simp only[Try.ntmps94,Try.results94];refine aS fun K hK=>?_;simp -dsimp;apply hK;clear hK K;refine awp_seq_k fun K1 hK1=>?_;refine aS fun K hK=>?_;simp -dsimp [hne];apply hK;clear hK K;refine awp_cond rfl (fun hc0=>?_) (fun hc0=>?_)
 ·simp at hc0
 ·refine awp_skip ?_;simp only[zT,reduceIte,Nat.reduceEqDiff];refine hK1 _ _ ?_;refine awp_prune [0] ?_;simp only[zP,Nat.reduceEqDiff,reduceIte];refine aS fun K hK=>?_;simp -dsimp [hne,f1];apply hK;clear hK K;exact awp_ret ⟨2,0,rfl,by simp,by simp⟩
def repl (m:List (List Int)) (b:List Int) (k:Nat):List (List Int):=(List.range m.length).map fun(i:Nat)=>(rowAt m i).set k (at0 b i)
theorem repl_len {m:List (List Int)} {b:List Int} {k:Nat}:(repl m b k).length=m.length:=by simp[repl]
theorem repl_get {m:List (List Int)} {b:List Int} {k i:Nat} (hi:i<m.length):(repl m b k)[i]?=some ((rowAt m i).set k (at0 b i)):=by
 unfold repl;rw[List.getElem?_map,List.getElem?_range hi];rfl
theorem repl_sq {m:List (List Int)} {b:List Int} {n k:Nat} (h:Sq m n):Sq (repl m b k) n:=by
 refine⟨by rw[repl_len];exact h.len,fun r hr=>?_⟩;obtain⟨i,hi⟩:=List.getElem?_of_mem hr;have hl:=(List.getElem?_eq_some_iff.1 hi).1;rw[repl_len]at hl;rw[repl_get hl]at hi;simp only[Option.some.injEq]at hi;rw[←hi,List.length_set];exact(h.row (by rw[←h.len];exact hl)).2
theorem repl_at {m:List (List Int)} {b:List Int} {n k i j:Nat} (h:Sq m n) (hi:i<n) (hj:j<n):mAt (repl m b k) i j=if j=k then at0 b i else mAt m i j:=by
 have h1:rowAt (repl m b k) i=(rowAt m i).set k (at0 b i):=rowAt_of (repl_get (by rw[h.len];exact hi));have hl:=(h.row hi).2;unfold mAt;rw[h1]
 by_cases e:j=k
 ·subst e;rw[if_pos rfl];exact at0_of (by rw[List.getElem?_set_self (by omega)])
 ·rw[if_neg e];have:((rowAt m i).set k (at0 b i))[j]?=some (at0 (rowAt m i) j):=by
   rw[List.getElem?_set_ne (fun h=>e h.symm)];exact at0_nat (by omega)
  exact at0_of this
def solL (m:List (List Int)) (b:List Int):List Int:=(List.range m.length).map fun k=>wr (detL (repl m b k))
theorem m_solved (m:List (List Int)) (b:List Int) (n:Nat) (hq:Sq m n) (h1:1≤n) (hn:n≤10) (hb:b.length=n):MutCall Try.prog 76 [mL m,iL b] [] [] (.tup [.row 0 0 n,I (wr (detL m))]) [] [some (.els 1 ((solL m b).map nCell))]:=by
 have hml:=hq.len;have hdet:=c_determinant m n hq hn;refine MutCall.of_bodyG [] Try.func76 rfl (by decide) (by simp[Try.ntmps76]) rfl rfl ?_;intro J hJ;simp only[Try.ntmps76,Try.results76];refine gS fun K hK=>?_;simp -dsimp;apply hK;clear hK K;refine gS fun K hK=>?_;simp -dsimp;apply hK;clear hK K;refine gwp_seq_k fun K1 hK1=>?_;refine gS fun K hK=>?_;simp -dsimp;apply hK;clear hK K;refine gwp_block ?_;refine gwp_prune [0,1,6,12,13] (Or.inr (by simp)) ?_;simp only[zP,Nat.reduceEqDiff,reduceIte];refine gwp_loop_l [0,1,12] (α:=Nat) (fun k=>[(6, .row 0 0 k),(13,I k)]) (fun k=>[some (.els 1 (((solL m b).take k).map nCell))]) (fun k=>k≤n) (fun k=>n-k) 0 ?_ ?_ ?_
 ·exact Nat.zero_le _
 ·exact gsub ((sub_nil 6 1 (by simp)).trans (sub_same (by simp))) (by simp)
 rintro k k1;simp only[zP,Nat.reduceEqDiff,reduceIte];refine gS fun K hK=>?_;simp -dsimp;apply hK;clear hK K;refine gwp_seq_k fun K2 hK2=>?_;refine gwp_cond rfl (fun hc0=>?_) (fun hc0=>?_)
 ·have hkn:k<n:=by rw[←hml];simpa using hc0
  have wk:=zW k (by omega);have gsk:(solL m b)[k]?=some (wr (detL (repl m b k))):=by
   unfold solL;rw[List.getElem?_map,List.getElem?_range (by omega)];rfl
  have hsl:min k (solL m b).length=k:=by simp only[solL,List.length_map,List.length_range];omega
  have hdk:=c_determinant (repl m b k) n (repl_sq hq) hn;have hrl:=repl_len (m:=m) (b:=b) (k:=k);have hrg:=fun i (hi:i<n)=>repl_get (m:=m) (b:=b) (k:=k) (i:=i) (by omega);generalize repl m b k=M at gsk hdk hrl hrg;refine gwp_skip ?_;simp only[zT,reduceIte,Nat.reduceEqDiff];refine hK2 _ _ ?_;refine gwp_prune [0,1,6,12,13] (Or.inr (by simp)) ?_;simp only[zP,Nat.reduceEqDiff,reduceIte];refine gwp_seq_k fun K3 hK3=>?_;refine gwp_block ?_;refine gS fun K hK=>?_;simp -dsimp;apply hK;clear hK K;refine gS fun K hK=>?_;simp -dsimp;apply hK;clear hK K;refine gwp_seq_k fun K4 hK4=>?_;refine gS fun K hK=>?_;simp -dsimp;apply hK;clear hK K;refine gwp_block ?_;refine gwp_prune [0,1,6,7,8,12,13,16,17,18] (Or.inr (by simp)) ?_;simp only[zP,Nat.reduceEqDiff,reduceIte];refine gwp_loop_l [0,1,6,7,12,13,16,17] (α:=Nat) (fun i=>[(8, .row 1 0 i),(18,I i)]) (fun i=>[some (.els 1 (((solL m b).take k).map nCell)),some (.els 1 ((M.take i).map rCell))]) (fun i=>i≤n) (fun i=>n-i) 0 ?_ ?_ ?_
  ·exact Nat.zero_le _
  ·exact gsub ((sub_nil 8 1 (by simp)).trans (sub_rb [some 0,some 1] rfl (by simp) (by simp))) (by simp)
  rintro i i1;simp only[zP,Nat.reduceEqDiff,reduceIte];refine gS fun K hK=>?_;simp -dsimp;apply hK;clear hK K;refine gwp_seq_k fun K5 hK5=>?_;refine gwp_cond rfl (fun hc1=>?_) (fun hc1=>?_)
  ·have hin:i<n:=by rw[←hml];simpa using hc1
   have wi:=zW i (by omega);obtain⟨gr,hrn⟩:=hq.row hin;have gb:=at0_nat (l:=b) (k:=i) (by omega);have hgi:=hrg i hin;have hMt:M.take (i+1)=M.take i++[(rowAt m i).set k (at0 b i)]:=by rw[List.take_add_one,hgi];rfl
   have hMl:(M.take i).length=i:=by rw[List.length_take];omega
   have hmin:min i M.length=i:=by omega
   have hne:rowAt m i≠[]:=by intro e;rw[e]at hrn;simp at hrn;omega
   have hcl:=o_ClI (rowAt m i) hne (by omega);generalize rowAt m i=r at gr hrn hMt hcl hgi;have f1:Fits (i+1) 25:=fits_of (by omega) (by omega);have htr:List.take n ((r.map nCell).set k [I (at0 b (i:Int))])=(r.map nCell).set k [I (at0 b (i:Int))]:=List.take_of_length_le (by simp;omega);refine gwp_skip ?_;simp only[zT,reduceIte,Nat.reduceEqDiff];refine hK5 _ _ ?_;refine gwp_prune [0,1,6,7,8,12,13,16,17,18] (Or.inr (by simp)) ?_;simp only[zP,Nat.reduceEqDiff,reduceIte];refine gwp_seq_k fun K6 hK6=>?_;refine gwp_block ?_;refine gS fun K hK=>?_;simp -dsimp [gr];apply hK;clear hK K;refine gS fun K hK=>?_;simp -dsimp;refine callK_own (hcl) ?_;simp -dsimp;apply hK;clear hK K;refine gS fun K hK=>?_;simp -dsimp [gb,hrn,hkn];apply hK;clear hK K;refine gR fun K hK=>?_;simp -dsimp [f1,hmin];apply hK;clear hK K;simp only[zT,reduceIte,Nat.reduceEqDiff];refine hK6 _ _ ?_;refine gwp_prune [0,1,6,7,8,12,13,16,17,18] (Or.inr (by simp)) ?_;simp only[zP,Nat.reduceEqDiff,reduceIte];refine gR fun K hK=>?_;simp -dsimp [wi];apply hK;clear hK K;simp only[zT,reduceIte,Nat.reduceEqDiff];exact⟨i+1,by omega,by omega,gsub (sub_rf [some 0,some 4] rfl (by simp[hmin,hrn]) (by simp[hmin,hrn,List.take_add_one,hgi,List.map_set,htr])) (by simp)⟩
  ·have hil:¬i<m.length:=by simpa using hc1
   have hin:i=n:=by omega
   have htk:List.take i (M.map rCell)=M.map rCell:=List.take_of_length_le (by simp;omega);have hmin:min i M.length=i:=by omega
   have hle:i≤M.length:=by omega
   have f2:Fits (k+1) 9:=fits_of (by omega) (by omega);refine gwp_exit ?_;simp only[zT,reduceIte,Nat.reduceEqDiff];refine hK4 _ _ ?_;refine gwp_prune [0,1,6,8,12,13] (Or.inr (by simp)) ?_;simp only[zP,Nat.reduceEqDiff,reduceIte];refine gR fun K hK=>?_;simp -dsimp [hmin,hle,htk,hsl,f2];refine callK_intro _ (hdk) (by simp) ?_;simp -dsimp [hmin,hle,htk,hsl,f2];apply hK;clear hK K;simp only[zT,reduceIte,Nat.reduceEqDiff];refine hK3 _ _ ?_;refine gwp_prune [0,1,6,12,13] (Or.inr (by simp)) ?_;simp only[zP,Nat.reduceEqDiff,reduceIte];refine gR fun K hK=>?_;simp -dsimp [wk];apply hK;clear hK K;simp only[zT,reduceIte,Nat.reduceEqDiff];exact⟨k+1,by omega,by omega,gsub (sub_rb [some 2] rfl (by simp[hsl]) (by simp[hsl,List.take_add_one,gsk])) (by simp)⟩
 ·have hkl:¬k<m.length:=by simpa using hc0
  have hkn:k=n:=by omega
  refine gwp_exit ?_;simp only[zT,reduceIte,Nat.reduceEqDiff];refine hK1 _ _ ?_;refine gwp_prune [0,6] (Or.inr (by simp)) ?_;simp only[zP,Nat.reduceEqDiff,reduceIte];refine gS fun K hK=>?_;simp -dsimp;refine callK_intro _ (hdet) (by simp) ?_;simp -dsimp;apply hK;clear hK K;have hsn:k=(solL m b).length:=by simp[solL];omega
  have htk:List.take k ((solL m b).map nCell)=(solL m b).map nCell:=List.take_of_length_le (by simp;omega);exact gwp_ret ⟨[some 0],rfl,by simp,by simp[htk],by simp,by simp[resP,tupOf,hkn]⟩
end Go.Cur
end
section
namespace Go.AM
def unordB (l:List Oper):List (Nat×Nat):=(List.range l.length).flatMap fun k=>((List.range k).filter fun j=> !((closL l []).getD k 0).testBit j).map fun j=>(j,k)
theorem draw_pairs {l:List Oper} {tr:List Tr} (ps:List (Nat×Nat)) (hb:backB l 0=true) (hu:unordB l=ps) (hp:∀p∈ps,confl (tr.getD p.1 ([],[])) (tr.getD p.2 ([],[]))=false):drawB l tr=true:=by
 subst hu;unfold drawB;rw[hb,Bool.true_and,List.all_eq_true];intro k hk;rw[List.all_eq_true];intro j hj
 cases hq:((closL l []).getD k 0).testBit j with
 |true=>simp
 | false=>
  have:=hp (j,k) (by
   unfold unordB;rw[List.mem_flatMap];exact⟨k,hk,List.mem_map.2 ⟨j,List.mem_filter.2 ⟨hj,by rw[hq];rfl⟩,rfl⟩⟩)
  simp only at this;rw[this];rfl
def mrow (f:Nat→Nat→Int) (n i:Nat):Option ARow:=some (.els 1 ((List.range n).map fun j=>[I (f i j)]))
def mrows (f:Nat→Nat→Int) (m n:Nat):Hp:=(List.range m).map (mrow f n)
def outs (c m n:Nat):List (List AV):=(List.range m).map fun i=>[.row (i+c) 0 n]
def upd2 (f:Nat→Nat→Int) (i j:Nat) (v:Int):Nat→Nat→Int:=fun i' j'=>if i'=i∧j'=j then v else f i' j'
@[simp] theorem mrows_length (f:Nat→Nat→Int) (m n:Nat):(mrows f m n).length=m:=by simp[mrows]
@[simp] theorem outs_length (c m n:Nat):(outs c m n).length=m:=by simp[outs]
@[simp] theorem outs_take (c m n:Nat):List.take m (outs c m n)=outs c m n:=List.take_of_length_le (by simp)
theorem outs_succ (c m n:Nat):outs c (m+1) n=outs c m n++[[.row (m+c) 0 n]]:=by simp[outs,List.range_succ]
theorem outs_get {c m n i:Nat} (h:i<m):(outs c m n)[i]?=some [.row (i+c) 0 n]:=by
 unfold outs;rw[List.getElem?_map,List.getElem?_range h];rfl
@[simp] theorem outs_getE {c m n i:Nat} (h:i<(outs c m n).length):(outs c m n)[i]=[.row (i+c) 0 n]:=by simp[outs]
theorem mrow_get {f:Nat→Nat→Int} {n i j:Nat} (h:j<n):((List.range n).map fun j=>[I (f i j)])[j]?=some [I (f i j)]:=by
 rw[List.getElem?_map,List.getElem?_range h];rfl
theorem mrows_congr {f g:Nat→Nat→Int} {m n:Nat} (h:∀i,i<m→∀j,j<n→f i j=g i j):mrows f m n=mrows g m n:=by
 unfold mrows mrow;refine List.map_congr_left fun i hi=>?_;rw[List.mem_range]at hi
 congr 2
 refine List.map_congr_left fun j hj=>?_;rw[List.mem_range]at hj;rw[h i hi j hj]
theorem hget_app_l:∀{M X:Hp} {i:Nat},i<M.length→hget (M++X) i=hget M i
 |[],X,i,h=>by simp at h
 |x::M,X,0,h=>rfl
 |x::M,X,i+1,h=>hget_app_l (M:=M) (by simpa using h)
theorem hget_app_r:∀{M X:Hp} {q:Nat},hget (M++X) (M.length+q)=hget X q
 |[],X,q=>by simp
 |x::M,X,q=>by
  rw[List.cons_append,List.length_cons,show M.length+1+q=(M.length+q)+1 by omega];exact hget_app_r (M:=M)
theorem hset_app_l:∀{M X:Hp} {i:Nat} {o:Option ARow},i<M.length→hset (M++X) i o=hset M i o++X
 |[],X,i,o,h=>by simp at h
 |x::M,X,0,o,h=>rfl
 |x::M,X,i+1,o,h=>by
  show x::hset (M++X) i o=x::(hset M i o++X);rw[hset_app_l (M:=M) (by simpa using h)]
theorem hset_app_r:∀{M X:Hp} {q:Nat} {o:Option ARow},hset (M++X) (M.length+q) o=M++hset X q o
 |[],X,q,o=>by simp
 |x::M,X,q,o=>by
  rw[List.cons_append,List.length_cons,show M.length+1+q=(M.length+q)+1 by omega];show x::hset (M++X) (M.length+q) o=_;rw[hset_app_r (M:=M)];rfl
theorem hset_set:∀{M:Hp} {i:Nat} {o:Option ARow},i<M.length→hset M i o=M.set i o
 |[],i,o,h=>by simp at h
 |x::M,0,o,h=>rfl
 |x::M,i+1,o,h=>by
  show x::hset M i o=x::M.set i o;rw[hset_set (M:=M) (by simpa using h)]
theorem hget_mrows' {f:Nat→Nat→Int} {m n i:Nat} (h:i<m):hget (mrows f m n) i=mrow f n i:=by
 unfold mrows;rw[hget_map,List.getElem?_range h]
theorem hget_mrows {f:Nat→Nat→Int} {m n i:Nat} {X:Hp} (h:i<m):hget (mrows f m n++X) i=mrow f n i:=by
 rw[hget_app_l (by simpa using h),hget_mrows' h]
@[simp] theorem hget_mtail {f:Nat→Nat→Int} {m n q:Nat} {X:Hp}:hget (mrows f m n++X) (m+q)=hget X q:=by
 have:=hget_app_r (M:=mrows f m n) (X:=X) (q:=q)
 rwa [mrows_length]at this
@[simp] theorem hget_mtail0 {f:Nat→Nat→Int} {m n:Nat} {X:Hp}:hget (mrows f m n++X) m=hget X 0:=hget_mtail (q:=0)
@[simp] theorem hset_mtail {f:Nat→Nat→Int} {m n q:Nat} {X:Hp} {o:Option ARow}:hset (mrows f m n++X) (m+q) o=mrows f m n++hset X q o:=by
 have:=hset_app_r (M:=mrows f m n) (X:=X) (q:=q) (o:=o)
 rwa [mrows_length]at this
@[simp] theorem hset_mtail0 {f:Nat→Nat→Int} {m n:Nat} {X:Hp} {o:Option ARow}:hset (mrows f m n++X) m o=mrows f m n++hset X 0 o:=hset_mtail (q:=0)
@[simp] theorem hset_mend {f:Nat→Nat→Int} {m n:Nat} {o:Option ARow}:hset (mrows f m n) m o=mrows f m n++[o]:=by
 have:=hset_mtail0 (f:=f) (m:=m) (n:=n) (X:=[]) (o:=o);rw[List.append_nil]at this;exact this
theorem row_set {f:Nat→Int} {n j:Nat} {v:Int}:((List.range n).map fun j=>[I (f j)]).set j [I v]=(List.range n).map fun j'=>[I (if j'=j then v else f j')]:=by
 refine List.ext_getElem? fun j'=>?_
 by_cases hn:j'<n
 ·rw[List.getElem?_map,List.getElem?_range hn]
  by_cases hj:j'=j
  ·subst hj;rw[List.getElem?_set_self (by simpa using hn)];simp
  ·rw[List.getElem?_set_ne (fun e=>hj e.symm),List.getElem?_map,List.getElem?_range hn];simp[hj]
 ·rw[List.getElem?_eq_none (by simp;omega),List.getElem?_eq_none (by simp;omega)]
theorem mrows_set {f:Nat→Nat→Int} {m n i j:Nat} {v:Int} (hi:i<m):(mrows f m n).set i (some (.els 1 (((List.range n).map fun j=>[I (f i j)]).set j [I v])))=mrows (upd2 f i j v) m n:=by
 rw[row_set (f:=f i)];refine List.ext_getElem? fun i'=>?_
 by_cases hm:i'<m
 ·unfold mrows;rw[List.getElem?_map,List.getElem?_range hm]
  by_cases h:i'=i
  ·subst h;rw[List.getElem?_set_self (by simpa using hm)];simp[mrow,upd2]
  ·rw[List.getElem?_set_ne (fun e=>h e.symm),List.getElem?_map,List.getElem?_range hm];simp[mrow,upd2,h]
 ·rw[List.getElem?_eq_none (by simp;omega),List.getElem?_eq_none (by simp;omega)]
theorem hset_mrows' {f:Nat→Nat→Int} {m n i j:Nat} {v:Int} (hi:i<m):hset (mrows f m n) i (some (.els 1 (((List.range n).map fun j=>[I (f i j)]).set j [I v])))=mrows (upd2 f i j v) m n:=by
 rw[hset_set (by simpa using hi),mrows_set hi]
theorem hset_mrows {f:Nat→Nat→Int} {m n i j:Nat} {v:Int} {X:Hp} (hi:i<m):hset (mrows f m n++X) i (some (.els 1 (((List.range n).map fun j=>[I (f i j)]).set j [I v])))=mrows (upd2 f i j v) m n++X:=by
 rw[hset_app_l (by simpa using hi),hset_mrows' hi]
theorem newName_cat {gf:List (Option Nat)} {m c i:Nat} (hi:i<m) (hout:some (i+c)∉gf):newName (gf++(List.range m).map fun i=>some (i+c)) (i+c)=some (i+gf.length):=by
 unfold newName;rw[List.findIdx?_append];have h1:gf.findIdx? (fun x=>x==some (i+c))=none:=by
  rw[List.findIdx?_eq_none_iff];intro x hx;simp only[beq_eq_false_iff_ne,ne_eq];rintro rfl;exact hout hx
 have h2:((List.range m).map fun i=>some (i+c)).findIdx? (fun x=>x==some (i+c))=some i:=by
  rw[List.findIdx?_eq_some_iff_getElem];refine⟨by simpa using hi,by simp,fun j hj=>?_⟩;simp;omega
 rw[h1,h2];rfl
theorem ren_outs {g:List (Option Nat)} {c c' m n:Nat} (hg:∀i,i<m→newName g (i+c)=some (i+c')):((outs c m n).map fun e=>e.map (renAV g 3))=outs c' m n:=by
 unfold outs;rw[List.map_map];refine List.map_congr_left fun i hi=>?_;rw[List.mem_range]at hi;show [renAV g 3 (.row (i+c) 0 n)]=_;have e:renAV g 3 (.row (i+c) 0 n)=match newName g (i+c)with|some q=> .row q 0 n|none=> .any:=rfl
 rw[e,hg i hi]
theorem ren_mrow {g:List (Option Nat)} {f:Nat→Nat→Int} {n i:Nat}:(mrow f n i).map (renRow g)=mrow f n i:=by
 unfold mrow;simp only[Option.map_some,renRow,List.map_map]
 congr 2
theorem nodupB_cat {gf:List (Option Nat)} {m c:Nat} (h:nodupB gf=true) (hout:∀i,i<m→some (i+c)∉gf):∀(i j q:Nat),(gf++(List.range m).map fun i=>some (i+c))[i]?=some (some q)→(gf++(List.range m).map fun i=>some (i+c))[j]?=some (some q)→i=j:=by
 intro i j q h1 h2;have hr:∀k,gf.length≤k→(gf++(List.range m).map fun i=>some (i+c))[k]?=some (some q)→k-gf.length<m∧q=k-gf.length+c:=by
  intro k hk hq;rw[List.getElem?_append_right hk,List.getElem?_map]at hq
  by_cases hkm:k-gf.length<m
  ·rw[List.getElem?_range hkm]at hq;simp only[Option.map_some,Option.some.injEq]at hq;exact⟨hkm,hq.symm⟩
  ·rw[List.getElem?_eq_none (by simp;omega)]at hq;cases hq
 by_cases hi:i<gf.length
 ·rw[List.getElem?_append_left hi]at h1
  by_cases hj:j<gf.length
  ·rw[List.getElem?_append_left hj]at h2;exact nodupB_spec gf h i j q h1 h2
  ·obtain⟨a,b⟩:=hr j (by omega) h2;subst b;exact absurd (List.mem_of_getElem? h1) (hout _ a)
 ·obtain⟨a,b⟩:=hr i (by omega) h1
  by_cases hj:j<gf.length
  ·rw[List.getElem?_append_left hj]at h2;subst b;exact absurd (List.mem_of_getElem? h2) (hout _ a)
  ·obtain⟨a',b'⟩:=hr j (by omega) h2;omega
def ren1 (H:Hp) (g:List (Option Nat)):Option Nat→Option ARow
 |some r=>(hget H r).map (renRow g)
 |none=>none
theorem renH_map (H:Hp) (g:List (Option Nat)):renH H g=g.map (ren1 H g):=rfl
attribute [simp] ren1
theorem nodupB_conv:∀(g:List (Option Nat)),(∀(i j q:Nat),g[i]?=some (some q)→g[j]?=some (some q)→i=j)→nodupB g=true
 |[],_=>rfl
 | x::g,h=>by
  have hg:=nodupB_conv g fun i j q h1 h2=>by
   have:=h (i+1) (j+1) q (by simpa using h1) (by simpa using h2);omega
  cases x with
  |none=>exact hg
  |some q=>
   simp only[nodupB,Bool.and_eq_true,Bool.not_eq_true',List.contains_eq_mem,decide_eq_false_iff_not];refine⟨fun hm=>?_,hg⟩;obtain⟨j,hj⟩:=List.getElem?_of_mem hm;have:=h 0 (j+1) q (by simp) (by simpa using hj);omega
theorem nodupB_cat' {gf:List (Option Nat)} {m c:Nat} (h:nodupB gf=true) (hout:∀i,i<m→some (i+c)∉gf):nodupB (gf++(List.range m).map fun i=>some (i+c))=true:=nodupB_conv _ (nodupB_cat h hout)
theorem renH_cat {H F':Hp} (gf:List (Option Nat)) (f:Nat→Nat→Int) (m n c:Nat) (hM:∀i,i<m→hget H (i+c)=mrow f n i) (hF:gf.map (ren1 H (gf++(List.range m).map fun i=>some (i+c)))=F'):
  renH H (gf++(List.range m).map fun i=>some (i+c))=F'++mrows f m n:=by
 rw[renH_map,List.map_append,hF]
 congr 1
 unfold mrows;rw[List.map_map];refine List.map_congr_left fun i hi=>?_;rw[List.mem_range]at hi;show(hget H (i+c)).map (renRow _)=_;rw[hM i hi,ren_mrow]
theorem sub_cat {nt:Nat} {T T':Tm} {H F':Hp} (gf:List (Option Nat)) (f:Nat→Nat→Int) (m n c:Nat) (hn:nodupB gf=true) (hout:∀i,i<m→some (i+c)∉gf) (hM:∀i,i<m→hget H (i+c)=mrow f n i)
  (hT:subT (gf++(List.range m).map fun i=>some (i+c)) T T') (hF:gf.map (ren1 H (gf++(List.range m).map fun i=>some (i+c)))=F'):Sub nt T H T' (F'++mrows f m n):=
 sub_ren _ (nodupB_cat hn hout) hT (renH_cat gf f m n c hM hF)
def updsFrom:Nat→Hp→List (Nat×Option ARow)
 |_,[]=>[]
 |N,x::L=>(N,x)::updsFrom (N+1) L
theorem newUps_from (bg:List (Option Nat)):∀(N:Nat) (L:Hp),newUps bg N L=updsFrom N (L.map (Option.map (renRow bg)))
 |N,[]=>rfl
 |N,x::L=>by simp only[newUps,updsFrom,List.map_cons,newUps_from bg (N+1) L]
theorem hset_end:∀(H:Hp) (x:Option ARow),hset H H.length x=H++[x]
 |[],x=>rfl
 |y::H,x=>by show y::hset H H.length x=_;rw[hset_end H x];rfl
theorem from_all:∀(L H:Hp),upsIn H (updsFrom H.length L)∧happ H (updsFrom H.length L)=H++L
 |[],H=>⟨trivial,by simp[updsFrom,happ]⟩
 |x::L,H=>by
  have ih:=from_all L (H++[x]);simp only[List.length_append,List.length_cons,List.length_nil,Nat.zero_add]at ih;simp only[updsFrom,upsIn,happ];rw[hset_end];exact⟨⟨Nat.le_refl _,ih.1⟩,by rw[ih.2];simp⟩
theorem from_once:∀(L:Hp) (N:Nat),upsOnce (updsFrom N L)=true∧∀q∈updsFrom N L,N≤q.1
 |[],N=>⟨rfl,by simp[updsFrom]⟩
 | x::L,N=>by
  obtain⟨h1,h2⟩:=from_once L (N+1);refine⟨?_,fun q hq=>?_⟩
  ·simp only[updsFrom,upsOnce,Bool.and_eq_true,List.all_eq_true,bne_iff_ne,ne_eq];exact⟨fun q hq e=>by have:=h2 q hq;omega,h1⟩
  ·simp only[updsFrom,List.mem_cons]at hq
   rcases hq with rfl|hq
   ·exact Nat.le_refl _
   ·have:=h2 q hq;omega
@[simp] theorem upsIn_from {H L:Hp} {N:Nat} (h:H.length=N):upsIn H (updsFrom N L):=h▸(from_all L H).1
@[simp] theorem happ_from {H L:Hp} {N:Nat} (h:H.length=N):happ H (updsFrom N L)=H++L:=h▸(from_all L H).2
@[simp] theorem upsOnce_from {L:Hp} {N:Nat}:upsOnce (updsFrom N L)=true:=(from_once L N).1
theorem newName_back {N n q:Nat} (hq:q<n):newName (backG [] N n) q=some (N+q):=by
 unfold newName backG;rw[List.findIdx?_append];have h1:((List.range N).map fun r=>List.findIdx? (fun x=>x==r) ([]:List Nat)).findIdx? (fun x=>x==some q)=none:=by
  rw[List.findIdx?_eq_none_iff];intro x hx;obtain⟨r,_,rfl⟩:=List.mem_map.1 hx
  rfl
 have h2:((List.range n).map fun j=>some (([]:List Nat).length+j)).findIdx? (fun x=>x==some q)=some q:=by
  rw[List.findIdx?_eq_some_iff_getElem];refine⟨by simpa using hq,by simp,fun j hj=>?_⟩;simp;omega
 rw[h1,h2];simp[Nat.add_comm]
theorem callK_mat {P:Program} {m:List Bool} {f:FuncId} {args:List AV} {fl:Bool} {rd rd0:List Nat} {raw:List AV} {H:Nat→Option ARow} {N:Nat} {K:Eff→Prop} {args':List AV} {n:Nat} {R:List (List AV)} {F:Nat→Nat→Int}
  (h:MutCall P f args' [] [] (.tup [.row 0 0 n, .row 1 0 n]) [] ([some (.els 1 (outs 2 n n)),some (.els 1 R)]++mrows F n n)) (ha:raw.map (renAV [] 40)=args') (hR:∀g,R.map (fun e=>e.map (renAV g 3))=R)
  (hk:K ⟨.tup [.row N 0 n, .row (N+1) 0 n],updsFrom N ([some (.els 1 (outs (N+2) n n)),some (.els 1 R)]++mrows F n n),rd0⟩):callK P m f args fl rd rd0 raw H N K:=by
 refine callK_mut [] [] (backG [] N (n+2)) h (by simp[nodN]) (congrArg (backG [] N) (by simp<;>omega)) ha rfl rfl rfl ?_;have hM:(mrows F n n).map (Option.map (renRow (backG [] N (n+2))))=mrows F n n:=by
  unfold mrows;rw[List.map_map];exact List.map_congr_left fun i _=>ren_mrow
 have ho:((outs 2 n n).map fun e=>e.map (renAV (backG [] N (n+2)) 3))=outs (N+2) n n:=by
  unfold outs;rw[List.map_map];refine List.map_congr_left fun i hi=>?_;rw[List.mem_range]at hi;show [renAV (backG [] N (n+2)) 3 (.row (i+2) 0 n)]=_;have e:renAV (backG [] N (n+2)) 3 (.row (i+2) 0 n)=match newName (backG [] N (n+2)) (i+2)with|some q=> .row q 0 n|none=> .any:=rfl
  rw[e,newName_back (by omega),show N+(i+2)=i+(N+2)by omega]
 have hr:renAV (backG [] N (n+2)) 3 (.tup [.row 0 0 n, .row 1 0 n])= .tup [.row N 0 n, .row (N+1) 0 n]:=by
  have e0:renAV (backG [] N (n+2)) 2 (.row 0 0 n)=match newName (backG [] N (n+2)) 0 with|some q=> .row q 0 n|none=> .any:=rfl
  have e1:renAV (backG [] N (n+2)) 2 (.row 1 0 n)=match newName (backG [] N (n+2)) 1 with|some q=> .row q 0 n|none=> .any:=rfl
  show AV.tup [renAV (backG [] N (n+2)) 2 (.row 0 0 n),renAV (backG [] N (n+2)) 2 (.row 1 0 n)]=_;rw[e0,e1,newName_back (by omega),newName_back (by omega)];rfl
 have hu:newUps (backG [] N (n+2)) N ([some (.els 1 (outs 2 n n)),some (.els 1 R)]++mrows F n n)=updsFrom N ([some (.els 1 (outs (N+2) n n)),some (.els 1 R)]++mrows F n n):=by
  rw[newUps_from,List.map_append,hM];simp only[List.map_cons,List.map_nil,Option.map_some,renRow,ho,hR]
 rw[hr,hu];simpa [keptUps,goneUps]using hk
def matL (f:Nat→Nat→Int) (m n:Nat):List (List Int):=(List.range m).map fun i=>(List.range n).map fun j=>f i j
theorem matL_get {f:Nat→Nat→Int} {m n i:Nat} (h:i<m):(matL f m n)[i]?=some ((List.range n).map fun j=>f i j):=by
 unfold matL;rw[List.getElem?_map,List.getElem?_range h];rfl
theorem frz_rows {H:Nat→Option ARow} {r n:Nat} {es:List (List AV)} {M:List (List Int)} (h1:1≤n) (hr:H r=some (.els 1 es)) (he:es.length=n) (hm:M.length=n)
  (hM:∀i,i<n→∃nm l,es[i]?=some [.row nm 0 n]∧M[i]?=some l∧H nm=some (.els 1 (l.map fun x=>[I x]))∧l.length=n):frz H 3 (.row r 0 n)= .lst 1 (M.map fun l=>[.lst 1 (l.map fun x=>[I x])]):=by
 have hp:plainEls es=false:=by
  obtain⟨nm,l,g1,_⟩:=hM 0 (by omega);unfold plainEls;rw[List.all_eq_false];exact⟨_,List.mem_of_getElem? g1,by simp[AV.noRef]⟩
 have hf:(es.map fun e=>e.map (frz H 2))=M.map fun l=>[.lst 1 (l.map fun x=>[I x])]:=by
  refine List.ext_getElem? fun i=>?_
  by_cases hi:i<n
  ·obtain⟨nm,l,g1,g2,g3,g4⟩:=hM i hi;rw[List.getElem?_map,List.getElem?_map,g1,g2];simp only[Option.map_some,List.map_cons,List.map_nil,Option.some.injEq,List.cons.injEq,and_true];have hpl:plainEls (l.map fun x=>[I x])=true:=by simp[plainEls,AV.noRef]
   have ht:List.take n (l.map fun x=>[I x])=l.map fun x=>[I x]:=List.take_of_length_le (by simp;omega);simp only[frz,g3];rw[if_pos (by simp;omega),if_pos hpl,List.drop_zero,ht]
  ·rw[List.getElem?_eq_none (by simp;omega),List.getElem?_eq_none (by simp;omega)]
 have ht:List.take n (es.map fun e=>e.map (frz H 2))=es.map fun e=>e.map (frz H 2):=List.take_of_length_le (by simp;omega);simp only[frz,hr];rw[if_pos (by simp;omega),hp];simp only[Bool.false_eq_true,if_false,List.drop_zero];rw[List.take_of_length_le (by omega),hf]
end Go.AM
end
section
namespace Go.Cur
open Go.AM Go.Proofs
def upN (p:List Nat):List Int:=p.map fun(k:Nat)=>(k:Int)
theorem upN_len (p:List Nat):(upN p).length=p.length:=by simp[upN]
theorem upN_get {p:List Nat} {k x:Nat} (h:p[k]?=some x):(upN p)[k]?=some (x:Int):=by simp[upN,h]
theorem upN_mem {p:List Nat} {x:Int}:x∈upN p↔0≤x∧x.toNat∈p:=by
 simp only[upN,List.mem_map];constructor
 ·rintro⟨k,hk,rfl⟩;exact⟨by omega,by simpa using hk⟩
 ·rintro⟨h0,h1⟩;exact⟨x.toNat,h1,by omega⟩
def idxM:List Nat→Nat→Kvs
 |[],_=>[]
 |x::p,n=>(ik x, .int .i64 n)::idxM p (n+1)
theorem idxM_none {x:Nat}:∀{p:List Nat} {n:Nat},x∉p→kvGet (idxM p n) (ik x)=none
 |[],_,_=>rfl
 |y::p,n,h=>by
  simp only[List.mem_cons,not_or]at h;simp only[idxM,kvGet];rw[if_neg (fun e=>h.1 (by have:=ik_inj.1 e;omega)),idxM_none h.2]
theorem idxM_some {x:Nat}:∀{p:List Nat} {n:Nat},x∈p→kvGet (idxM p n) (ik x)=some (.int .i64 ((p.idxOf x+n:Nat):Int))
 |[],_,h=>by simp at h
 | y::p,n,h=>by
  simp only[idxM,kvGet]
  by_cases e:x=y
  ·subst e;rw[if_pos rfl];simp
  ·rw[if_neg (fun h=>e (by have:=ik_inj.1 h;omega)),idxM_some ((List.mem_cons.1 h).resolve_left e)];rw[List.idxOf_cons];have:(y==x)=false:=by simp;exact fun h=>e h.symm
   rw[this];simp only[cond_false]
   congr 3;omega
theorem idxM_snoc {x:Nat}:∀{p:List Nat} {n:Nat},x∉p→kvSet (idxM p n) (ik x) (.int .i64 ((n+p.length:Nat):Int))=idxM (p++[x]) n
 |[],n,_=>by simp[idxM,kvSet]
 |y::p,n,h=>by
  simp only[List.mem_cons,not_or]at h;have ih:=idxM_snoc (n:=n+1) h.2;simp only[List.cons_append,idxM,kvSet,List.length_cons];rw[if_neg (fun e=>h.1 (by have:=ik_inj.1 e;omega)),show n+(p.length+1)=n+1+p.length by omega,ih]
theorem idxOf_get {x:Nat}:∀{p:List Nat},x∈p→p[p.idxOf x]?=some x
 |[],h=>by simp at h
 | y::p,h=>by
  rw[List.idxOf_cons]
  by_cases e:y=x
  ·subst e;simp
  ·have:(y==x)=false:=by simpa using e
   rw[this];simp only[cond_false,List.getElem?_cons_succ];exact idxOf_get ((List.mem_cons.1 h).resolve_left (fun h=>e h.symm))
def onW (l:List Wr) (b:List Bool):List Wn:=(l.zip b).filterMap fun q=>if q.2 then some ⟨q.1.A.toNat,q.1.B.toNat,q.1.Siem⟩else none
theorem onW_snoc {l:List Wr} {b:List Bool} {k:Nat} {w:Wr} {x:Bool} (hl:l[k]?=some w) (hb:b[k]?=some x):onW (l.take (k+1)) (b.take (k+1))=onW (l.take k) (b.take k)++if x then [⟨w.A.toNat,w.B.toNat,w.Siem⟩]else []:=by
 have hk:=(List.getElem?_eq_some_iff.1 hl).1;have hk2:=(List.getElem?_eq_some_iff.1 hb).1;unfold onW;rw[List.take_add_one,List.take_add_one,hl,hb,List.zip_append (by simp;omega),List.filterMap_append]
 cases x<;>simp
def rgt (us:Kvs) (p:List Nat):List Int:=p.map fun(k:Nat)=>-igt us k
def Lf (W:List Wn) (p:List Nat):Nat→Nat→Int:=fun i j=>lw W (p.getD i 0) (p.getD j 0)
theorem mrow0 (n i:Nat):some (ARow.els 1 (List.replicate n [I 0]))=mrow (fun _ _=>0) n i:=by
 unfold mrow;rw[List.map_const'];simp
theorem ew_abs (w:Wn) (i:Nat):(ew w i).natAbs≤1:=by
 unfold ew
 split<;>split<;>omega
theorem lw_abs {i k:Nat}:∀{W:List Wn},(∀w∈W,w.s.natAbs≤4)→(lw W i k).natAbs≤4*W.length
 |[],_=>by simp[lw]
 | w::W,h=>by
  have ih:=lw_abs (i:=i) (k:=k) (W:=W) fun w hw=>h w (by simp[hw]);have h1:(w.s*(ew w i*ew w k)).natAbs≤4*(1*1):=by
   rw[Int.natAbs_mul,Int.natAbs_mul];exact Nat.mul_le_mul (h w (by simp)) (Nat.mul_le_mul (ew_abs w i) (ew_abs w k))
  rw[lw,List.length_cons];omega
theorem onW_len (l:List Wr) (b:List Bool):(onW l b).length≤l.length:=by
 refine Nat.le_trans (List.length_filterMap_le _ _) ?_;rw[List.length_zip];exact Nat.min_le_left _ _
theorem onW_mem {l:List Wr} {b:List Bool} {x:Wn} (h:x∈onW l b):∃w∈l,x=⟨w.A.toNat,w.B.toNat,w.Siem⟩:=by
 unfold onW at h;rw[List.mem_filterMap]at h;obtain⟨q,hq,h⟩:=h
 split at h
 ·simp only[Option.some.injEq]at h;exact⟨q.1,(List.of_mem_zip hq).1,h.symm⟩
 ·cases h
theorem onW_take {l:List Wr} {b:List Bool} {x:Wn} {k:Nat} (h:x∈onW (l.take k) (b.take k)):x∈onW l b:=by
 unfold onW at h ⊢;rw[List.mem_filterMap]at h ⊢;obtain⟨q,hq,h⟩:=h;refine⟨q,?_,h⟩;rw[List.zip_eq_zipWith,←List.take_zipWith]at hq;exact List.mem_of_mem_take hq
theorem m_equations (g:Gr) (s:Sta) (p:List Nat) (us:Kvs) (n:Nat) (hpn:p.length=n) (h1:1≤n) (h10:n≤10) (hnd:p.Nodup) (hI:IntM us) (hus:∀x,-40≤igt us x∧igt us x≤40)
  (hsw:s.Wires.length=g.Wires.length) (hwl:g.Wires.length≤80) (hw:∀w∈g.Wires,wrB g w=true) (hcl:∀w∈onW g.Wires s.Wires,w.a∈p↔w.b∈p):
  MutCall Try.prog 75 [net g s,iL (upN p), .mpc false [.i .i64] us] [] [] (.tup [.row 0 0 n, .row 1 0 n]) [] ([some (.els 1 (outs 2 n n)),some (.els 1 ((rgt us p).map nCell))]++mrows (Lf (onW g.Wires s.Wires) p) n n):=by
 have hpl:=upN_len p;have wneg:∀x,IntKind.i64.wrap (-igt us x)=-igt us x:=fun x=>wrap_in (by have:=hus x;omega) (by have:=hus x;omega);refine MutCall.of_bodyG [] Try.func75 rfl (by decide) (by simp[Try.ntmps75]) rfl rfl ?_;intro J hJ;simp only[Try.ntmps75,Try.results75];refine gS fun K hK=>?_;simp -dsimp;apply hK;clear hK K;refine gS fun K hK=>?_;simp -dsimp;apply hK;clear hK K;refine gwp_seq_k fun K1 hK1=>?_;refine gS fun K hK=>?_;simp -dsimp;apply hK;clear hK K;refine gwp_block ?_;refine gwp_prune [0,1,2,8,21,22,23] (Or.inr (by simp)) ?_;simp only[zP,Nat.reduceEqDiff,reduceIte];refine gwp_loop_l [0,1,2,8,21,22] (α:=Nat) (fun k=>[(23,I k)]) (fun k=>[kRow (idxM (p.take k) 0)]) (fun k=>k≤n) (fun k=>n-k) 0 ?_ ?_ ?_
 ·exact Nat.zero_le _
 ·exact gsub (sub_same (by simp)) (by simp)
 rintro k k1;simp only[zP,Nat.reduceEqDiff,reduceIte];refine gS fun K hK=>?_;simp -dsimp;apply hK;clear hK K;refine gwp_seq_k fun K2 hK2=>?_;refine gwp_cond rfl (fun hc0=>?_) (fun hc0=>?_)
 ·skip
  try simp at hc0
  have hkn:k<p.length:=by rw[←hpl];simpa using hc0
  obtain⟨x,hx⟩:∃x,p[k]?=some x:=⟨_,List.getElem?_eq_getElem hkn⟩;have gx:=upN_get hx;have hsn:=idxM_snoc (p:=p.take k) (n:=0) (x:=x) (by
   intro hm;obtain⟨j,hj⟩:=List.getElem?_of_mem hm;have hjl:=(List.getElem?_eq_some_iff.1 hj).1;rw[List.length_take]at hjl;rw[List.getElem?_take,if_pos (by omega)]at hj;have:=(List.getElem?_inj (by omega) hnd).1 (hj.trans hx.symm);omega)
  have htl:(p.take k).length=k:=by rw[List.length_take];omega
  rw[htl,Nat.zero_add]at hsn;have hts:p.take (k+1)=p.take k++[x]:=by rw[List.take_add_one,hx];rfl
  have wk:=zW k (by omega);refine gwp_skip ?_;simp only[zT,reduceIte,Nat.reduceEqDiff];refine hK2 _ _ ?_;refine gwp_prune [0,1,2,8,21,22,23] (Or.inr (by simp)) ?_;simp only[zP,Nat.reduceEqDiff,reduceIte];refine gwp_seq_k fun K3 hK3=>?_;refine gwp_block ?_;refine gS fun K hK=>?_;simp -dsimp [gx];apply hK;clear hK K;refine gR fun K hK=>?_;simp -dsimp [hsn];apply hK;clear hK K;simp only[zT,reduceIte,Nat.reduceEqDiff];refine hK3 _ _ ?_;refine gwp_prune [0,1,2,8,21,22,23] (Or.inr (by simp)) ?_;simp only[zP,Nat.reduceEqDiff,reduceIte];refine gR fun K hK=>?_;simp -dsimp [wk];apply hK;clear hK K;simp only[zT,reduceIte,Nat.reduceEqDiff];exact⟨k+1,by omega,by omega,gsub (sub_rb [some 0] rfl (by simp) (by simp[hsn,hts])) (by simp)⟩
 ·skip
  try simp at hc0
  have hkp:¬k<p.length:=by rw[←hpl];simpa using hc0
  have htp:p.take k=p:=List.take_of_length_le (by omega);refine gwp_exit ?_;simp only[zT,reduceIte,Nat.reduceEqDiff];refine hK1 _ _ ?_;refine gwp_prune [0,1,2,8] (Or.inr (by simp)) ?_;simp only[zP,Nat.reduceEqDiff,reduceIte];refine gS fun K hK=>?_;simp -dsimp;apply hK;clear hK K;refine gS fun K hK=>?_;simp -dsimp;apply hK;clear hK K;refine gwp_seq_k fun K4 hK4=>?_;refine gS fun K hK=>?_;simp -dsimp;apply hK;clear hK K;refine gwp_block ?_;refine gwp_prune [0,1,2,8,11,12,32,33,34] (Or.inr (by simp)) ?_;simp only[zP,Nat.reduceEqDiff,reduceIte];refine gwp_loop_l [0,1,2,8,32,33] (α:=Nat) (fun k=>[(11, .row 1 0 k),(12, .row 2 0 k),(34,I k)]) (fun k=>[kRow (idxM p 0),some (.els 1 (outs 3 k n)),some (.els 1 (((rgt us p).take k).map nCell))]++mrows (fun _ _=>0) k n) (fun k=>k≤n) (fun k=>n-k) 0 ?_ ?_ ?_
  ·exact Nat.zero_le _
  ·refine gsub ((sub_nil 11 1 (by simp)).trans ((sub_nil 12 1 (by simp)).trans (sub_rb [some 0,some 1,some 2] rfl (by simp) (by simp[htp,outs,mrows])))) (by simp)
  rintro k k1;simp only[zP,Nat.reduceEqDiff,reduceIte];refine gS fun K hK=>?_;simp -dsimp;apply hK;clear hK K;refine gwp_seq_k fun K5 hK5=>?_;refine gwp_cond rfl (fun hc1=>?_) (fun hc1=>?_)
  ·skip
   try simp at hc1
   have hkn:k<p.length:=by rw[←hpl];simpa using hc1
   obtain⟨x,hx⟩:∃x,p[k]?=some x:=⟨_,List.getElem?_eq_getElem hkn⟩;have gx:=upN_get hx;have wk:=zW k (by omega);have hrl:min k (rgt us p).length=k:=by simp only[rgt,List.length_map];omega
   have gr:(rgt us p)[k]?=some (-igt us x):=by simp[rgt,hx]
   have f1:Fits (k+1) 25:=fits_of (by omega) (by omega);have f2:Fits (k+1) 9:=fits_of (by omega) (by omega);have f0:Fits n 9:=fits_of (by omega) (by omega);refine gwp_skip ?_;simp only[zT,reduceIte,Nat.reduceEqDiff];refine hK5 _ _ ?_;refine gwp_prune [0,1,2,8,11,12,32,33,34] (Or.inr (by simp)) ?_;simp only[zP,Nat.reduceEqDiff,reduceIte];refine gwp_seq_k fun K6 hK6=>?_;refine gwp_block ?_;refine gS fun K hK=>?_;simp -dsimp [gx];apply hK;clear hK K;refine gS fun K hK=>?_;simp -dsimp [f0,f1,hpl,hpn,Nat.add_assoc];apply hK;clear hK K;refine gR fun K hK=>?_;simp -dsimp [igt_look hI,wneg,f2,hrl,Nat.add_assoc];refine valK_intro (_) (fun hm=>rfl) ?_;simp -dsimp [igt_look hI,wneg,f2,hrl,Nat.add_assoc];apply hK;clear hK K;simp only[zT,reduceIte,Nat.reduceEqDiff];refine hK6 _ _ ?_;refine gwp_prune [0,1,2,8,11,12,32,33,34] (Or.inr (by simp)) ?_;simp only[zP,Nat.reduceEqDiff,reduceIte];refine gR fun K hK=>?_;simp -dsimp [wk];apply hK;clear hK K;simp only[zT,reduceIte,Nat.reduceEqDiff];have hout:∀i,i<k+1→some (i+3)∉ [some 0,some (k+5),some (k+6)]:=fun i hi=>by simp;omega
   have hM:∀i,i<k+1→hget (mrows (fun _ _=>0) k n++[some (.els 1 (List.replicate n [I 0])),some (.els 1 [[.row (k+3) 0 n]]),some (.els 1 (outs 3 k n++[[.row (k+3) 0 n]])),some (.els 1 (List.take k ((rgt us p).map nCell)++[[I (-igt us x)]]))]) i=mrow (fun _ _=>0) n i:=fun i hi=>by
    rcases Nat.lt_succ_iff_lt_or_eq.1 hi with h|h
    ·exact hget_mrows h
    ·subst h;rw[hget_mtail0];exact mrow0 _ _
   have hro:=ren_outs (g:=some 0::some (k+5)::some (k+6)::(List.range (k+1)).map fun i=>some (i+3)) (c:=3) (c':=3) (m:=k+1) (n:=n) (fun i hi=>newName_cat (gf:=[some 0,some (k+5),some (k+6)]) hi (hout i hi));rw[outs_succ]at hro;refine⟨k+1,by omega,by omega,gsub (sub_cat (F':=[kRow (idxM p 0),some (.els 1 (outs 3 (k+1) n)),some (.els 1 (((rgt us p).take (k+1)).map nCell))]) [some 0,some (k+5),some (k+6)] (fun _ _=>0) (k+1) n 3 (by simp[nodupB]) hout hM (by simp[hpl,hpn]) ?_) (by simp)⟩;simp[hro,outs_succ,List.take_add_one,gr]
  ·skip
   try simp at hc1
   have hkp:¬k<p.length:=by rw[←hpl];simpa using hc1
   have hkn:k=n:=by omega
   subst hkn;have hrt:List.take k ((rgt us p).map nCell)=(rgt us p).map nCell:=List.take_of_length_le (by simp[rgt];omega);rw[hrt];refine gwp_exit ?_;simp only[zT,reduceIte,Nat.reduceEqDiff];refine hK4 _ _ ?_;refine gwp_prune [0,8,11,12] (Or.inr (by simp)) ?_;simp only[zP,Nat.reduceEqDiff,reduceIte];refine gwp_seq_k fun K7 hK7=>?_;refine gS fun K hK=>?_;simp -dsimp;apply hK;clear hK K;refine gwp_block ?_;refine gwp_prune [0,8,11,12,56,57,58] (Or.inr (by simp)) ?_;simp only[zP,Nat.reduceEqDiff,reduceIte];refine gwp_loop_l [0,8,11,12,56,57] (α:=Nat) (fun q=>[(58,I q)]) (fun q=>[kRow (idxM p 0),some (.els 1 (outs 3 k k)),some (.els 1 ((rgt us p).map nCell))]++mrows (Lf (onW (g.Wires.take q) (s.Wires.take q)) p) k k) (fun q=>q≤g.Wires.length) (fun q=>g.Wires.length-q) 0 ?_ ?_ ?_
   ·exact Nat.zero_le _
   ·have hm0:mrows (Lf (onW (g.Wires.take 0) (s.Wires.take 0)) p) k k=mrows (fun _ _=>0) k k:=mrows_congr fun i _ j _=>rfl;rw[hm0];exact gsub (sub_same (by simp)) (by simp)
   rintro q q1;simp only[zP,Nat.reduceEqDiff,reduceIte];refine gS fun K hK=>?_;simp -dsimp;apply hK;clear hK K;refine gwp_seq_k fun K8 hK8=>?_;refine gwp_cond rfl (fun hc2=>?_) (fun hc2=>?_)
   ·skip
    try simp at hc2
    obtain⟨w,hq⟩:∃w,g.Wires[q]?=some w:=⟨_,List.getElem?_eq_getElem hc2⟩;have wq:=zW q (by omega);have hwb:=hw w (List.mem_of_getElem? hq);simp only[wrB,Bool.and_eq_true,inr_iff,Bool.not_eq_true',decide_eq_false_iff_not]at hwb;obtain⟨⟨⟨hwA,hwB⟩,hAB⟩,hwS⟩:=hwb;have gsw:=bAt_get (l:=s.Wires) (k:=q) (by omega);have hsn:=onW_snoc hq gsw;obtain⟨a,ha⟩:∃a:Nat,w.A=a:=⟨w.A.toNat,by omega⟩;obtain⟨b,hb⟩:∃b:Nat,w.B=b:=⟨w.B.toNat,by omega⟩;have hab:a≠b:=by omega
    obtain⟨wA,wB,wS,wSw⟩:=w;simp only at ha hb hwS hsn;subst ha hb;simp only[Int.toNat_natCast]at hsn;obtain⟨ia,hia⟩:∃ia:Nat,ia=if a∈p then p.idxOf a else 0:=⟨_,rfl⟩;have hA1:(kvGet (idxM p 0) (ik (a:Int))).getD (.int .i64 0)= .int .i64 (ia:Int):=by
     by_cases h:a∈p
     ·rw[idxM_some h,hia,if_pos h];rfl
     ·rw[idxM_none h,hia,if_neg h];rfl
    have hA2:(kvGet (idxM p 0) (ik (a:Int))).isSome=decide (a∈p):=by
     by_cases h:a∈p
     ·rw[idxM_some h];simp[h]
     ·rw[idxM_none h];simp[h]
    have hfb:∀i j,(Lf (onW (g.Wires.take q) (s.Wires.take q)) p i j).natAbs≤320:=fun i j=>by
     refine Nat.le_trans (lw_abs fun x hx=>?_) ?_
     ·obtain⟨w',hw',e⟩:=onW_mem (onW_take hx);have:=hw w' hw';simp only[wrB,Bool.and_eq_true,inr_iff]at this;rw[e];simp only;omega
     ·have:=onW_len (g.Wires.take q) (s.Wires.take q);rw[List.length_take]at this;omega
    refine gwp_skip ?_;simp only[zT,reduceIte,Nat.reduceEqDiff];refine hK8 _ _ ?_;refine gwp_prune [0,8,11,12,56,57,58] (Or.inr (by simp)) ?_;simp only[zP,Nat.reduceEqDiff,reduceIte];refine gwp_seq_k fun K9 hK9=>?_;refine gwp_block ?_;refine gS fun K hK=>?_;simp -dsimp [hq];apply hK;clear hK K;refine gS fun K hK=>?_;simp -dsimp [hA1,hA2,Nat.add_assoc];refine valK_intro (_) (fun hm=>rfl) ?_;simp -dsimp [hA1,hA2,Nat.add_assoc];apply hK;clear hK K;refine gwp_seq_k fun K10 hK10=>?_;refine gS fun K hK=>?_;simp -dsimp [gsw];refine idxK_intro (bCell (bAt s.Wires q)) (fun _=>by simp[gsw]) ?_;simp -dsimp [gsw];apply hK;clear hK K;refine gwp_cond rfl (fun hc3=>?_) (fun hc3=>?_)
    ·have hfe:mrows (Lf (onW (g.Wires.take (q+1)) (s.Wires.take (q+1))) p) k k=mrows (Lf (onW (g.Wires.take q) (s.Wires.take q)) p) k k:=by
      rw[hsn]
      cases hx:bAt s.Wires q with
      |false=>simp
      | true=>
       have hna:a∉p:=by simpa [hx]using hc3
       refine mrows_congr fun i hi j hj=>?_;have hxi:p.getD i 0∈p:=by rw[List.getD_eq_getElem?_getD,List.getElem?_eq_getElem (by omega)];simp
       have hmem:(⟨a,b,wS⟩:Wn)∈onW g.Wires s.Wires:=onW_take (k:=q+1) (by rw[hsn,hx];simp);have hnb:b∉p:=fun h=>hna ((hcl _ hmem).2 h);have e0:ew ⟨a,b,wS⟩ (p.getD i 0)=0:=by
        have n1:p.getD i 0≠a:=fun e=>hna (by rw[←e];exact hxi);have n2:p.getD i 0≠b:=fun e=>hnb (by rw[←e];exact hxi);unfold ew;rw[if_neg n1,if_neg n2];rfl
       unfold Lf;rw[if_pos rfl,lw_append];show _+(wS*(ew ⟨a,b,wS⟩ (p.getD i 0)*ew ⟨a,b,wS⟩ (p.getD j 0))+0)=_;rw[e0,Int.zero_mul,Int.mul_zero];omega
     refine gwp_exit ?_;simp only[zT,reduceIte,Nat.reduceEqDiff];refine hK9 _ _ ?_;refine gwp_prune [0,8,11,12,56,57,58] (Or.inr (by simp)) ?_;simp only[zP,Nat.reduceEqDiff,reduceIte];refine gR fun K hK=>?_;simp -dsimp [wq];apply hK;clear hK K;simp only[zT,reduceIte,Nat.reduceEqDiff];refine⟨q+1,by omega,by omega,gsub (sub_cat (F':=[kRow (idxM p 0),some (.els 1 (outs 3 k k)),some (.els 1 ((rgt us p).map nCell))]) [some 0,some 1,some 2] (Lf (onW (g.Wires.take (q+1)) (s.Wires.take (q+1))) p) k k 3 (by simp[nodupB]) (fun i hi=>by simp) ?_ (by simp) ?_) (by simp)⟩
     ·intro i hi;show hget (mrows _ k k++_) i=_;rw[hget_mrows hi];rw[←hget_mrows' (m:=k) hi,←hget_mrows' (m:=k) hi,hfe]
     ·have hro:=ren_outs (g:=some 0::some 1::some 2::(List.range k).map fun i=>some (i+3)) (c:=3) (c':=3) (m:=k) (n:=k) (fun i hi=>newName_cat (gf:=[some 0,some 1,some 2]) hi (by simp));simp[hro]
    ·have hap:a∈p∧bAt s.Wires q=true:=by simpa using hc3
     have hmem:(⟨a,b,wS⟩:Wn)∈onW g.Wires s.Wires:=onW_take (k:=q+1) (by rw[hsn,hap.2];simp);have hbp:b∈p:=(hcl _ hmem).1 hap.1;rw[if_pos hap.1]at hia;obtain⟨ib,hib⟩:∃ib:Nat,ib=p.idxOf b:=⟨_,rfl⟩;have hB1:(kvGet (idxM p 0) (ik (b:Int))).getD (.int .i64 0)= .int .i64 (ib:Int):=by rw[idxM_some hbp,hib];rfl
     have hik:ia<k:=by rw[hia,←hpn];exact List.idxOf_lt_length_of_mem hap.1
     have hjk:ib<k:=by rw[hib,←hpn];exact List.idxOf_lt_length_of_mem hbp
     have gA:p[ia]?=some a:=by rw[hia];exact idxOf_get hap.1
     have gB:p[ib]?=some b:=by rw[hib];exact idxOf_get hbp
     have lia:ia≤k+1:=by omega
     have lib:ib≤k+1:=by omega
     have hij:ia≠ib:=by rintro rfl;rw[gA]at gB;simp only[Option.some.injEq]at gB;exact hab gB
     have hji:ib≠ia:=fun e=>hij e.symm;have hfe:∀i,i<k→∀j,j<k→Lf (onW (g.Wires.take (q+1)) (s.Wires.take (q+1))) p i j=upd2 (upd2 (upd2 (upd2 (Lf (onW (g.Wires.take q) (s.Wires.take q)) p) ia ia (Lf (onW (g.Wires.take q) (s.Wires.take q)) p ia ia+wS)) ib ib (Lf (onW (g.Wires.take q) (s.Wires.take q)) p ib ib+wS)) ia ib (Lf (onW (g.Wires.take q) (s.Wires.take q)) p ia ib-wS)) ib ia (Lf (onW (g.Wires.take q) (s.Wires.take q)) p ib ia-wS) i j:=by
      intro i hi j hj;have hE:∀i,i<k→ew ⟨a,b,wS⟩ (p.getD i 0)=(if i=ia then 1 else 0)-(if i=ib then 1 else 0):=by
       intro i hi;have hgi:p[i]?=some (p.getD i 0):=by rw[List.getD_eq_getElem?_getD,List.getElem?_eq_getElem (by omega)];rfl
       have q1:(p.getD i 0=a)↔i=ia:=by
        constructor
        ·intro e;rw[e]at hgi;exact(List.getElem?_inj (by omega) hnd).1 (hgi.trans gA.symm)
        ·rintro rfl;rw[gA]at hgi;simp only[Option.some.injEq]at hgi;exact hgi.symm
       have q2:(p.getD i 0=b)↔i=ib:=by
        constructor
        ·intro e;rw[e]at hgi;exact(List.getElem?_inj (by omega) hnd).1 (hgi.trans gB.symm)
        ·rintro rfl;rw[gB]at hgi;simp only[Option.some.injEq]at hgi;exact hgi.symm
       unfold ew;simp only[q1,q2]
      rw[hsn,hap.2];have hL:Lf (onW (g.Wires.take q) (s.Wires.take q)++[⟨a,b,wS⟩]) p i j=Lf (onW (g.Wires.take q) (s.Wires.take q)) p i j+wS*(((if i=ia then 1 else 0)-(if i=ib then 1 else 0))*((if j=ia then 1 else 0)-(if j=ib then 1 else 0))):=by
       unfold Lf;rw[lw_append,←hE i hi,←hE j hj];simp[lw]
      rw[if_pos rfl,hL];unfold upd2
      by_cases e1:i=ia
      ·subst e1
       by_cases e2:j=i
       ·subst e2;simp[hij,hji]
       ·by_cases e3:j=ib
        ·subst e3;simp[hij,hji,e2];omega
        ·simp[hij,hji,e2,e3]
      ·by_cases e2:i=ib
       ·subst e2
        by_cases e3:j=i
        ·subst e3;simp[hij,hji]
        ·by_cases e4:j=ia
         ·subst e4;simp[hij,hji,e3];omega
         ·simp[hij,hji,e3,e4]
       ·simp[e1,e2]
     generalize Lf (onW (g.Wires.take q) (s.Wires.take q)) p=f at hfe hfb ⊢;have w1:IntKind.i64.wrap (f ia ia+wS)=f ia ia+wS:=wrap_in (by have:=hfb ia ia;omega) (by have:=hfb ia ia;omega);have w2:IntKind.i64.wrap (f ib ib+wS)=f ib ib+wS:=wrap_in (by have:=hfb ib ib;omega) (by have:=hfb ib ib;omega);have w3:IntKind.i64.wrap (f ia ib-wS)=f ia ib-wS:=wrap_in (by have:=hfb ia ib;omega) (by have:=hfb ia ib;omega);have w4:IntKind.i64.wrap (f ib ia-wS)=f ib ia-wS:=wrap_in (by have:=hfb ib ia;omega) (by have:=hfb ib ia;omega);have e2:upd2 f ia ia (f ia ia+wS) ib ib=f ib ib:=by simp[upd2,hji]
     have e3:upd2 (upd2 f ia ia (f ia ia+wS)) ib ib (f ib ib+wS) ia ib=f ia ib:=by simp[upd2,hij,hji]
     have e4:upd2 (upd2 (upd2 f ia ia (f ia ia+wS)) ib ib (f ib ib+wS)) ia ib (f ia ib-wS) ib ia=f ib ia:=by simp[upd2,hij,hji]
     refine gwp_skip ?_;simp only[zT,reduceIte,Nat.reduceEqDiff];refine hK10 _ _ ?_;refine gwp_prune [0,8,11,12,16,17,56,57,58] (Or.inr (by simp)) ?_;simp only[zP,Nat.reduceEqDiff,reduceIte];refine gS fun K hK=>?_;simp -dsimp [hB1,Nat.add_assoc];refine valK_intro (_) (fun hm=>rfl) ?_;simp -dsimp [hB1,Nat.add_assoc];apply hK;clear hK K;refine gwp_sd mixed rfl (by decide) rfl rfl fun K hK=>?_;simp -dsimp [lia,lib,Nat.add_assoc,outs_get hik,hik,hget_mrows hik,mrow,mrow_get hik,hset_mrows hik,w1];refine hK _ _ _ (by exact draw_pairs [(0,1),(0,4),(1,4),(2,4),(3,4),(0,7),(1,7),(2,7),(3,7),(4,7),(5,7),(6,7),(0,8),(1,8),(2,8),(3,8),(4,8),(5,8),(6,8)] (by decide+kernel) (by decide+kernel) (by simp[confl]<;>omega)) ?_;clear hK K;refine gwp_sd mixed rfl (by decide) rfl rfl fun K hK=>?_;simp -dsimp [lia,lib,Nat.add_assoc,outs_get hjk,hjk,hget_mrows hjk,mrow,mrow_get hjk,hset_mrows hjk,e2,w2];refine hK _ _ _ (by exact draw_pairs [(0,1),(0,4),(1,4),(2,4),(3,4),(0,7),(1,7),(2,7),(3,7),(4,7),(5,7),(6,7),(0,8),(1,8),(2,8),(3,8),(4,8),(5,8),(6,8)] (by decide+kernel) (by decide+kernel) (by simp[confl]<;>omega)) ?_;clear hK K;refine gwp_sd mixed rfl (by decide) rfl rfl fun K hK=>?_;simp -dsimp [lia,lib,Nat.add_assoc,outs_get hik,hik,hget_mrows hik,mrow,hjk,mrow_get hjk,hset_mrows hik,e3,w3];refine hK _ _ _ (by exact draw_pairs [(0,1),(0,4),(1,4),(2,4),(3,4),(0,7),(1,7),(2,7),(3,7),(4,7),(5,7),(6,7),(0,8),(1,8),(2,8),(3,8),(4,8),(5,8),(6,8)] (by decide+kernel) (by decide+kernel) (by simp[confl]<;>omega)) ?_;clear hK K;refine gwp_draw mixed rfl (by decide) rfl rfl fun K hK=>?_;simp -dsimp [lia,lib,Nat.add_assoc,outs_get hjk,hjk,hget_mrows hjk,mrow,hik,mrow_get hik,hset_mrows hjk,e4,w4];refine hK _ _ _ (by exact draw_pairs [(0,1),(0,4),(1,4),(2,4),(3,4),(0,7),(1,7),(2,7),(3,7),(4,7),(5,7),(6,7),(0,8),(1,8),(2,8),(3,8),(4,8),(5,8),(6,8)] (by decide+kernel) (by decide+kernel) (by simp[confl]<;>omega)) ?_;clear hK K;simp only[zT,reduceIte,Nat.reduceEqDiff];refine hK9 _ _ ?_;refine gwp_prune [0,8,11,12,56,57,58] (Or.inr (by simp)) ?_;simp only[zP,Nat.reduceEqDiff,reduceIte];refine gR fun K hK=>?_;simp -dsimp [wq];apply hK;clear hK K;simp only[zT,reduceIte,Nat.reduceEqDiff];refine⟨q+1,by omega,by omega,gsub (sub_cat (F':=[kRow (idxM p 0),some (.els 1 (outs 3 k k)),some (.els 1 ((rgt us p).map nCell))]) [some 0,some 1,some 2] (Lf (onW (g.Wires.take (q+1)) (s.Wires.take (q+1))) p) k k 3 (by simp[nodupB]) (fun i hi=>by simp) ?_ (by simp) ?_) (by simp)⟩
     ·intro i hi;show hget (mrows _ k k++_) i=_;rw[hget_mrows hi];rw[←hget_mrows' (m:=k) hi,←hget_mrows' (m:=k) hi,mrows_congr hfe]
     ·have hro:=ren_outs (g:=some 0::some 1::some 2::(List.range k).map fun i=>some (i+3)) (c:=3) (c':=3) (m:=k) (n:=k) (fun i hi=>newName_cat (gf:=[some 0,some 1,some 2]) hi (by simp));simp[hro]
   ·skip
    try simp at hc2
    have hqe:q=g.Wires.length:=by omega
    have ht1:g.Wires.take q=g.Wires:=List.take_of_length_le (by omega);have ht2:s.Wires.take q=s.Wires:=List.take_of_length_le (by omega);rw[ht1,ht2];refine gwp_exit ?_;simp only[zT,reduceIte,Nat.reduceEqDiff];refine hK7 _ _ ?_;refine gwp_prune [11,12] (Or.inr (by simp)) ?_;simp only[zP,Nat.reduceEqDiff,reduceIte];refine gS fun K hK=>?_;simp -dsimp;apply hK;clear hK K;have hout:∀i,i<k→some (i+3)∉ [some 1,some 2]:=fun i hi=>by simp
    have hro:=ren_outs (g:=some 1::some 2::(List.range k).map fun i=>some (i+3)) (c:=3) (c':=2) (m:=k) (n:=k) (fun i hi=>newName_cat (gf:=[some 1,some 2]) hi (hout i hi));refine gwp_ret ⟨[some 1,some 2]++(List.range k).map fun i=>some (i+3),nodupB_cat' rfl hout,by simp,?_,by simp,by simp[resP,tupOf]⟩;refine renH_cat (F':=[some (.els 1 (outs 2 k k)),some (.els 1 ((rgt us p).map nCell))]) [some 1,some 2] _ k k 3 (fun i hi=>?_) ?_
    ·show hget (mrows _ k k) i=_;exact hget_mrows' hi
    ·simp[hro]
end Go.Cur
end
section
namespace Go.Cur
open Go.AM Go.Proofs
theorem getD_get {p:List Nat} {i:Nat} (h:i<p.length):p[i]?=some (p.getD i 0):=by
 rw[List.getD_eq_getElem?_getD,List.getElem?_eq_getElem h];rfl
theorem matL_sq (f:Nat→Nat→Int) (n:Nat):Sq (matL f n n) n:=by
 refine⟨by simp[matL],fun r hr=>?_⟩;obtain⟨i,_,rfl⟩:=List.mem_map.1 hr;simp
theorem matL_at {f:Nat→Nat→Int} {n i j:Nat} (hi:i<n) (hj:j<n):mAt (matL f n n) i j=f i j:=by
 unfold mAt;rw[rowAt_of (matL_get hi)];exact at0_of (by rw[List.getElem?_map,List.getElem?_range hj];rfl)
theorem map_range {α:Type} (p:List Nat) (f:Nat→α):p.map f=(List.range p.length).map fun i=>f (p.getD i 0):=by
 conv=>lhs;rw[list_range (p:=p)]
 rw[List.map_map];rfl
abbrev eqM (A:Nat→Nat→Int) (p:List Nat):List (List Int):=matL (fun i j=>A (p.getD i 0) (p.getD j 0)) p.length p.length
theorem eqM_det (A:Nat→Nat→Int) (p:List Nat):detL (eqM A p)=D A p:=by
 unfold detL;rw[(matL_sq _ _).len,D_minor];exact minor_congr fun i hi k hk=>matL_at (List.mem_range.1 hi) (List.mem_range.1 hk)
theorem eqM_sol (A:Nat→Nat→Int) (b:Nat→Int) (p:List Nat) (hp:p.Nodup):solL (eqM A p) (p.map b)=p.map fun k=>wr (num A b p k):=by
 unfold solL;rw[(matL_sq _ _).len,map_range p (fun k=>wr (num A b p k))];refine List.map_congr_left fun k hk=>?_;rw[List.mem_range]at hk;have h1:(repl (eqM A p) (p.map b) k).length=p.length:=by rw[repl_len,(matL_sq _ _).len]
 have h2:detL (repl (eqM A p) (p.map b) k)=num A b p (p.getD k 0):=by
  unfold detL;rw[h1,num_minor hp hk];refine minor_congr fun i hi j hj=>?_;rw[List.mem_range]at hi hj;rw[repl_at (matL_sq _ _) hi hj,matL_at hi hj];have:at0 (p.map b) i=b (p.getD i 0):=at0_of (by rw[List.getElem?_map,getD_get hi];rfl);rw[this]
 rw[h2]
def fdOf (g:Gr) (fs:List Int) (b:Nat):Fd:=fdI g (at0 fs b)
def Pt (g:Gr) (W:List Wn) (us:Kvs) (p:List Nat) (fs:List Int) (t:Nat):Part:=
 ⟨p,lw W,fun x=>igt us x,List.range t,fun b=>(fdOf g fs b).At.toNat,fun b=>(fdOf g fs b).Siem,fun b=>(fdOf g fs b).Volts⟩
def bitS (a:Nat):Nat→Bool:=fun b=>a.testBit b
section
variable (g:Gr) (W:List Wn) (us:Kvs) (p:List Nat) (fs:List Int)
theorem at_succ (t a:Nat) (c:Nat→Int) (i:Nat):(Pt g W us p fs (t+1)).at_ (bitS a) c i=(Pt g W us p fs t).at_ (bitS a) c i+if a.testBit t=true∧(fdOf g fs t).At.toNat=i then c t else 0:=by
 unfold Part.at_;show sm _ (List.range (t+1))=sm _ (List.range t)+_;rw[List.range_succ,sm_append];show _+((if bitS a t=true∧(Pt g W us p fs (t+1)).p t=i then c t else 0)+0)=_;rw[Int.add_zero];rfl
def Af (t a:Nat):Nat→Nat→Int:=fun i j=>(Pt g W us p fs t).A (bitS a) (p.getD i 0) (p.getD j 0)
def Rf (t a:Nat):Nat→Int:=fun i=>(Pt g W us p fs t).b (bitS a) (p.getD i 0)
def RfL (t a:Nat):List Int:=(List.range p.length).map (Rf g W us p fs t a)
theorem RfL_len (t a:Nat):(RfL g W us p fs t a).length=p.length:=by simp[RfL]
theorem RfL_get {t a k:Nat} (h:k<p.length):(RfL g W us p fs t a)[k]?=some (Rf g W us p fs t a k):=by
 unfold RfL;rw[List.getElem?_map,List.getElem?_range h];rfl
theorem RfL_eq (t a:Nat):RfL g W us p fs t a=p.map ((Pt g W us p fs t).b (bitS a)):=by
 rw[map_range p];rfl
theorem Af_zero (a:Nat):Af g W us p fs 0 a=Lf W p:=by
 funext i j
 unfold Af Part.A Lf;have:(Pt g W us p fs 0).at_ (bitS a) (Pt g W us p fs 0).s (p.getD i 0)=0:=rfl;rw[this];show lw W _ _+_=_
 split<;>omega
theorem Rf_zero (a:Nat):RfL g W us p fs 0 a=rgt us p:=by
 unfold RfL rgt;rw[map_range p fun(k:Nat)=>-igt us k];refine List.map_congr_left fun i _=>?_;unfold Rf Part.b;have:(Pt g W us p fs 0).at_ (bitS a) (fun b=>(Pt g W us p fs 0).s b*(Pt g W us p fs 0).V b) (p.getD i 0)=0:=rfl;rw[this];show-igt us _+0=_;omega
theorem Af_off {t a:Nat} (h:a.testBit t=false):Af g W us p fs (t+1) a=Af g W us p fs t a:=by
 funext i j
 unfold Af Part.A;rw[show(Pt g W us p fs (t+1)).s=(Pt g W us p fs t).s from rfl,at_succ];simp[h];rfl
theorem Rf_off {t a:Nat} (h:a.testBit t=false):RfL g W us p fs (t+1) a=RfL g W us p fs t a:=by
 unfold RfL
 congr 1
 funext i
 unfold Rf Part.b;rw[show(fun b=>(Pt g W us p fs (t+1)).s b*(Pt g W us p fs (t+1)).V b)=fun b=>(Pt g W us p fs t).s b*(Pt g W us p fs t).V b from rfl,at_succ];simp[h];rfl
theorem Af_on {t a k:Nat} (hp:p.Nodup) (h:a.testBit t=true) (hk:k<p.length) (hat:p.getD k 0=(fdOf g fs t).At.toNat):∀i,i<p.length→∀j,j<p.length→upd2 (Af g W us p fs t a) k k (Af g W us p fs t a k k+(fdOf g fs t).Siem) i j=Af g W us p fs (t+1) a i j:=by
 intro i hi j hj;unfold upd2;have e:∀i j,(Pt g W us p fs (t+1)).A (bitS a) i j=(Pt g W us p fs t).A (bitS a) i j+if i=j∧(fdOf g fs t).At.toNat=i then(fdOf g fs t).Siem else 0:=by
  intro i j;unfold Part.A;rw[show(Pt g W us p fs (t+1)).s=(Pt g W us p fs t).s from rfl,at_succ];show lw W i j+_=lw W i j+_+_
  by_cases hij:i=j
  ·subst hij
   by_cases hx:(fdOf g fs t).At.toNat=i
   ·simp[h,hx];rw[Int.add_assoc];rfl
   ·simp[h,hx]
  ·simp[hij]
 show _=(Pt g W us p fs (t+1)).A (bitS a) (p.getD i 0) (p.getD j 0);rw[e];show(if i=k∧j=k then(Pt g W us p fs t).A (bitS a) (p.getD k 0) (p.getD k 0)+_ else(Pt g W us p fs t).A (bitS a) (p.getD i 0) (p.getD j 0))=_
 by_cases h1:i=k
 ·subst h1
  by_cases h2:j=i
  ·subst h2;rw[if_pos ⟨rfl,rfl⟩,if_pos ⟨rfl,hat.symm⟩]
  ·rw[if_neg (fun e=>h2 e.2),if_neg (fun e=>h2 (getD_inj hp hj hi e.1.symm)),Int.add_zero]
 ·rw[if_neg (fun e=>h1 e.1),if_neg (fun e=>h1 (getD_inj hp hi hk (by rw[←e.2,hat]))),Int.add_zero]
theorem Rf_on {t a k:Nat} (hp:p.Nodup) (h:a.testBit t=true) (hk:k<p.length) (hat:p.getD k 0=(fdOf g fs t).At.toNat):(RfL g W us p fs t a).set k (Rf g W us p fs t a k+(fdOf g fs t).Siem*(fdOf g fs t).Volts)=RfL g W us p fs (t+1) a:=by
 unfold RfL;refine List.ext_getElem? fun i=>?_;have e:∀i,(Pt g W us p fs (t+1)).b (bitS a) i=(Pt g W us p fs t).b (bitS a) i+if (fdOf g fs t).At.toNat=i then(fdOf g fs t).Siem*(fdOf g fs t).Volts else 0:=by
  intro i;unfold Part.b;rw[show(fun b=>(Pt g W us p fs (t+1)).s b*(Pt g W us p fs (t+1)).V b)=fun b=>(Pt g W us p fs t).s b*(Pt g W us p fs t).V b from rfl,at_succ];simp only[h,true_and];rw[←Int.add_assoc];rfl
 by_cases hi:i<p.length
 ·rw[List.getElem?_map,List.getElem?_range hi]
  by_cases h1:i=k
  ·subst h1;rw[List.getElem?_set_self (by simpa using hi)];show some (_+_)=some ((Pt g W us p fs (t+1)).b (bitS a) (p.getD i 0));rw[e,if_pos hat.symm];rfl
  ·rw[List.getElem?_set_ne (fun e=>h1 e.symm),List.getElem?_map,List.getElem?_range hi];show some _=some ((Pt g W us p fs (t+1)).b (bitS a) (p.getD i 0));rw[e,if_neg (fun e=>h1 (getD_inj hp hi hk (by rw[←e,hat]))),Int.add_zero];rfl
 ·rw[List.getElem?_eq_none (by simp;omega),List.getElem?_eq_none (by simp;omega)]
end
end Go.Cur
end
