import Derived.Test.YtibddmpaklcleaaL6
import Derived.OpenShut
import Derived.ProofKit
import Derived.WalkKit
import Derived.Test.YtibddmpaklcleaaRows
set_option maxRecDepth 100000
set_option maxHeartbeats 8000000
set_option linter.unusedVariables false
set_option linter.unusedSimpArgs false
section
namespace Go.Cur
open Go.AM Go.Proofs
theorem Z7 (g:Gr) (s:Sta) (l:List Ld):d4 Try.prog 12 [g.av,s.av,lL l] (Bo true):=by
 have hk:=b1s;have hfw:=b9E g s l;refine d4.of_body Try.func12 rfl (by decide) (by simp[Try.ntmps12]) ?_;simp only[Try.ntmps12,Try.results12];refine aS fun K hK=>?_;simp -dsimp;apply hK;clear hK K;refine b9 fun K1 hK1=>?_;refine aS fun K hK=>?_;simp -dsimp;refine b8 _ (hfw) (by simp) ?_;simp -dsimp;apply hK;clear hK K;refine d9 rfl (fun hc0=>?_) (fun hc0=>?_)
 ·refine aS fun K hK=>?_;simp -dsimp;refine b8 _ (hk) (by simp) ?_;simp -dsimp;apply hK;clear hK K;exact f7 (by simp)
 ·have hfew:b8Y g s l.length=true:=by simpa using hc0
  have hsp:=a4J hfew;have hrf:=a6L g s l (by omega) (by omega) (by omega);have hlt:b0S g s l≠2→d4 Try.prog 17 [g.av,s.av] (Bo (b7l g s)):=fun h=>a9X g s (t6 (by rcases V1 g s l with h1|h1|h1;exact absurd h1.2 h;exact h1.1;exact h1.1));generalize hRE:b0S g s l=re at hrf hlt;refine e8 ?_;simp only[zT,reduceIte,Nat.reduceEqDiff];refine hK1 _ _ ?_;refine b7 [2,3,4] ?_;simp only[zP,Nat.reduceEqDiff,reduceIte];refine aS fun K hK=>?_;simp -dsimp;refine b8 _ (hrf) (by simp) ?_;simp -dsimp;apply hK;clear hK K;refine b9 fun K2 hK2=>?_;refine aS fun K hK=>?_;simp -dsimp;refine g6 _ (fun hm=>hlt (by simpa using hm)) (by simp) ?_;simp -dsimp;apply hK;clear hK K;refine d9 rfl (fun hc1=>?_) (fun hc1=>?_)
  ·refine aS fun K hK=>?_;simp -dsimp;refine b8 _ (hk) (by simp) ?_;simp -dsimp;apply hK;clear hK K;exact f7 (by simp)
  ·have hli:re=2∨b7l g s=true:=by
    by_cases h:re=2
    ·exact Or.inl h
    ·right;simp[h]at hc1;exact hc1
   have h5:t4 g s l=true→B6 g s=false→∀p∈j8 g s,p.length≤5:=fun h1 h2=>by
    refine b7a (hli.resolve_left fun h=>?_) h2;rw[←hRE]at h;unfold b0S at h;rw[if_pos h1]at h
    split at h<;>omega
   refine e8 ?_;simp only[zT,reduceIte,Nat.reduceEqDiff];refine hK2 _ _ ?_;refine b7 [2,3,4,7] ?_;simp only[zP,Nat.reduceEqDiff,reduceIte];have hsv:=b0O g s l (by omega) h5 (fun h=>b6m hfew (t6 h).gr);have w00:IntKind.i64.wrap 0=0:=f6 (by decide) (by decide)
   rcases V1 g s l with⟨hfi,hre⟩|⟨hfi,hlo,hre⟩|⟨hfi,hlo,hre⟩
   all_goals rw[hRE]at hre
   all_goals subst hre
   rw[if_neg (by rw[hfi];decide)]at hsv
   rotate_left
   rw[if_pos hfi,if_pos hlo]at hsv
   rotate_left
   have hnt:=t6 hfi;have h5':=h5 hfi hlo;have hrs:=a8w g s l hnt (by omega) (U1 hfi) h5';have hbd:=r6 hnt.gr;have hpl:=J0 g s;rw[if_pos hfi,if_neg (by rw[hlo];decide)]at hsv
   cases hok:okS g s (tkK l (H5 l))
   rw[if_neg (by rw[hok];decide)]at hsv hrs
   rotate_left
   rw[if_pos hok]at hsv hrs;obtain⟨ES,hES⟩:∃ES,ES=(j8 g s).map (enP g s (tkK l (H5 l))):=⟨_,rfl⟩;have hEl:ES.length≤1000:=by rw[hES];simp;omega
   rw[←hES]at hsv hrs
   rotate_left
   ·refine aS fun K hK=>?_;simp -dsimp;refine b8 _ (hsv) (by simp) ?_;simp -dsimp;apply hK;clear hK K;refine b9 fun K3 hK3=>?_;refine aS fun K hK=>?_;simp -dsimp;apply hK;clear hK K;refine d9 rfl (fun hc2=>?_) (fun hc2=>?_)
    ·refine aS fun K hK=>?_;simp -dsimp [w00];refine g6 _ (fun hm=>hk) (by simp) ?_;simp -dsimp [w00];apply hK;clear hK K;exact f7 (by simp)
    ·simp at hc2
   ·refine aS fun K hK=>?_;simp -dsimp;refine b8 _ (hsv) (by simp) ?_;simp -dsimp;apply hK;clear hK K;refine b9 fun K4 hK4=>?_;refine aS fun K hK=>?_;simp -dsimp;apply hK;clear hK K;refine d9 rfl (fun hc2=>?_) (fun hc2=>?_)
    ·refine aS fun K hK=>?_;simp -dsimp [w00];refine g6 _ (fun hm=>hk) (by simp) ?_;simp -dsimp [w00];apply hK;clear hK K;exact f7 (by simp)
    ·simp at hc2
   ·refine aS fun K hK=>?_;simp -dsimp;refine b8 _ (hsv) (by simp) ?_;simp -dsimp;apply hK;clear hK K;refine b9 fun K5 hK5=>?_;refine aS fun K hK=>?_;simp -dsimp;apply hK;clear hK K;refine d9 rfl (fun hc2=>?_) (fun hc2=>?_)
    ·simp at hc2
    ·refine e8 ?_;simp only[zT,reduceIte,Nat.reduceEqDiff];refine hK5 _ _ ?_;refine b7 [2,3,4,8,9] ?_;simp only[zP,Nat.reduceEqDiff,reduceIte];refine aS fun K hK=>?_;simp -dsimp;refine b8 _ (hrs) (by simp) ?_;simp -dsimp;apply hK;clear hK K;refine b9 fun K6 hK6=>?_;refine aS fun K hK=>?_;simp -dsimp;apply hK;clear hK K;refine d9 rfl (fun hc3=>?_) (fun hc3=>?_)
     ·refine aS fun K hK=>?_;simp -dsimp [w00];refine g6 _ (fun hm=>hk) (by simp) ?_;simp -dsimp [w00];apply hK;clear hK K;exact f7 (by simp)
     ·simp at hc3
   ·refine aS fun K hK=>?_;simp -dsimp;refine b8 _ (hsv) (by simp) ?_;simp -dsimp;apply hK;clear hK K;refine b9 fun K7 hK7=>?_;refine aS fun K hK=>?_;simp -dsimp;apply hK;clear hK K;refine d9 rfl (fun hc2=>?_) (fun hc2=>?_)
    ·simp at hc2
    ·refine e8 ?_;simp only[zT,reduceIte,Nat.reduceEqDiff];refine hK7 _ _ ?_;refine b7 [2,3,4,8,9] ?_;simp only[zP,Nat.reduceEqDiff,reduceIte];refine aS fun K hK=>?_;simp -dsimp;refine b8 _ (hrs) (by simp) ?_;simp -dsimp;apply hK;clear hK K;refine b9 fun K8 hK8=>?_;refine aS fun K hK=>?_;simp -dsimp;apply hK;clear hK K;refine d9 rfl (fun hc3=>?_) (fun hc3=>?_)
     ·simp at hc3
     ·refine e8 ?_;simp only[zT,reduceIte,Nat.reduceEqDiff];refine hK8 _ _ ?_;refine b7 [8,9,10] ?_;simp only[zP,Nat.reduceEqDiff,reduceIte];refine b9 fun K9 hK9=>?_;refine aS fun K hK=>?_;simp -dsimp;apply hK;clear hK K;refine d9 rfl (fun hc4=>?_) (fun hc4=>?_)
      ·simp at hc4
      ·refine e8 ?_;simp only[zT,reduceIte,Nat.reduceEqDiff];refine hK9 _ _ ?_;refine b7 [8,10] ?_;simp only[zP,Nat.reduceEqDiff,reduceIte];refine b9 fun K10 hK10=>?_;refine aS fun K hK=>?_;simp -dsimp;apply hK;clear hK K;refine e7 ?_;refine b7 [8,10,12] ?_;simp only[zP,Nat.reduceEqDiff,reduceIte];refine g7 [8,10] (α:=Nat) (fun k=>[(12,I k)]) (fun k=>[]) (fun k=>k≤ES.length) (fun k=>ES.length-k) 0 ?_ ?_ ?_
       ·exact Nat.zero_le _
       ·exact d8 [] rfl (by simp) (by simp)
       rintro k k1;simp only[zP,Nat.reduceEqDiff,reduceIte];refine b9 fun K11 hK11=>?_;refine aS fun K hK=>?_;simp -dsimp;apply hK;clear hK K;refine d9 rfl (fun hc5=>?_) (fun hc5=>?_)
       ·have hkl:k<ES.length:=by simpa using hc5
        have wk:=zW k (by omega);obtain⟨e,he⟩:∃e,ES[k]?=some e:=⟨_,List.getElem?_eq_getElem hkl⟩;refine e8 ?_;simp only[zT,reduceIte,Nat.reduceEqDiff];refine hK11 _ _ ?_;refine b7 [8,10,12] ?_;simp only[zP,Nat.reduceEqDiff,reduceIte];refine b9 fun K12 hK12=>?_;refine e7 ?_;refine v6 k7 rfl fun K hK=>?_;simp -dsimp [he];refine hK _ _ _ (by decide+kernel) ?_;clear hK K;refine d9 rfl (fun hc6=>?_) (fun hc6=>?_)
        ·simp at hc6
        ·refine e8 ?_;simp only[zT,reduceIte,Nat.reduceEqDiff];refine hK12 _ _ ?_;refine b7 [8,10,12] ?_;simp only[zP,Nat.reduceEqDiff,reduceIte];refine aR fun K hK=>?_;simp -dsimp [wk];apply hK;clear hK K;simp only[zT,reduceIte,Nat.reduceEqDiff];exact⟨k+1,by omega,by omega,d8 [] rfl (by simp) (by simp)⟩
       ·refine j0 ?_;simp only[zT,reduceIte,Nat.reduceEqDiff];refine hK10 _ _ ?_;refine b7 [] ?_;simp only[zP,Nat.reduceEqDiff,reduceIte];refine aS fun K hK=>?_;simp -dsimp;refine b8 _ (hk) (by simp) ?_;simp -dsimp;apply hK;clear hK K;exact f7 (by simp)
end Go.Cur
end
section
namespace Go.Tram
open Go.AM Go.Proofs
def RC (w:World) (avs:List AV) (cs:List Value):Prop:=avs.length=cs.length∧∀(i:Nat) c x,avs[i]?=some c→cs[i]?=some x→q8 w (fun _=>False) c x∧N7 x=true
theorem RC.one {w:World} {a:AV} {x:Value} (h:q8 w (fun _=>False) a x) (hc:N7 x=true):RC w [a] [x]:=by
 refine⟨rfl,fun i c y h1 h2=>?_⟩
 cases i with
 |zero=>simp at h1 h2;subst h1 h2;exact⟨h,hc⟩
 |succ i=>simp at h1
theorem RC.app {w:World} {a b:List AV} {x y:List Value} (h:RC w a x) (k:RC w b y):RC w (a++b) (x++y):=by
 refine⟨by simp[h.1,k.1],fun i c u h1 h2=>?_⟩
 by_cases hi:i<a.length
 ·rw[List.getElem?_append_left hi]at h1;rw[List.getElem?_append_left (by rw[←h.1];exact hi)]at h2;exact h.2 i c u h1 h2
 ·rw[List.getElem?_append_right (by omega)]at h1;rw[List.getElem?_append_right (by rw[←h.1];omega),←h.1]at h2;exact k.2 _ c u h1 h2
def b4o:List (Nat×Nat×TypeId)→Nat→Nat→Bool
 |[],o,n=>o==n
 |(off,sz,_)::r,o,n=>off==o&&b4o r (o+sz) n
theorem b3J:∀(fs:List (Nat×Nat×TypeId)) (o n:Nat),b4o fs o n=true→o≤n
 |[],o,n,h=>by simp[b4o]at h;omega
 |(off,sz,t)::r,o,n,h=>by
  simp only[b4o,Bool.and_eq_true]at h;have:=b3J r _ _ h.2;omega
theorem a9w:∀(fs:List (Nat×Nat×TypeId)) (o n:Nat),b4o fs o n=true→∀f∈fs,o≤f.1
 |[],o,n,h,f,hf=>by cases hf
 |(off,sz,t)::r,o,n,h,f,hf=>by
  simp only[b4o,Bool.and_eq_true,beq_iff_eq]at h
  rcases List.mem_cons.1 hf with rfl|hf
  ·simp only[];omega
  ·have:=a9w r _ _ h.2 f hf;omega
theorem a9a {w:World} {Q:(Nat×Nat×TypeId)→List AV→Prop}:∀(fs:List (Nat×Nat×TypeId)) (o N:Nat) (cs:List Value),b4o fs o N=true→cs.length=N→
  (∀f∈fs,∃a,RC w a ((cs.drop f.1).take f.2.1)∧Q f a)→∃avs,RC w avs (cs.drop o)∧∀f∈fs,Q f ((avs.drop (f.1-o)).take f.2.1)
 |[],o,N,cs,h,hl,_=>by
  simp only[b4o,beq_iff_eq]at h;refine⟨[],⟨by simp;omega,fun i c x h1=>by simp at h1⟩,fun f hf=>by cases hf⟩
 |(off,sz,t)::r,o,N,cs,h,hl,hq=>by
  simp only[b4o,Bool.and_eq_true,beq_iff_eq]at h;obtain⟨rfl,h2⟩:=h;have hle:=b3J r _ _ h2;obtain⟨a,ha,hqa⟩:=hq _ (List.mem_cons_self ..);obtain⟨b,hb,hqb⟩:=a9a r (off+sz) N cs h2 hl (fun f hf=>hq f (List.mem_cons_of_mem _ hf));have hal:a.length=sz:=by rw[ha.1];simp;omega
  have hsplit:cs.drop off=(cs.drop off).take sz++cs.drop (off+sz):=by rw[←List.drop_drop,List.take_append_drop]
  refine⟨a++b,by rw[hsplit];exact ha.app hb,fun f hf=>?_⟩
  rcases List.mem_cons.1 hf with rfl|hf
  ·simp only[Nat.sub_self,List.drop_zero];rw[List.take_append_of_le_length (by omega),List.take_of_length_le (by omega)];exact hqa
  ·have ho:=a9w r _ _ h2 f hf;have:=hqb f hf;rw[List.drop_append,List.drop_eq_nil_of_le (by omega),List.nil_append,hal,show f.1-off-sz=f.1-(off+sz)by omega];exact this
section
variable {P:Program}
def a7V (P:Program):Nat→TypeId→Bool
 |0,_=>false
 | n+1,t=>match a2U P t with
  |some _=>true
  |none=>match g8 P t with
   | .slice e=>decide ((g8 P e).size≠0)&&a7V P n e
   | .agg z fs=>b4o fs 0 z.length&&fs.all fun f=>a7V P n f.2.2
   |_=>false
def t9 (P:Program):Nat→TypeId→List AV→Prop
 |0,_,_=>False
 | n+1,t,avs=>match a2U P t with
  |some (.i k)=>∃m,avs=[.v (.int k m)]∧(Lit.int k m).wf=true
  |some .b=>∃b,avs=[.v (.bool b)]
  |none=>match g8 P t with
   | .slice e=>∃els,avs=[.lst (g8 P e).size els]∧els.length≤maxLen∧∀el∈els,t9 P n e el
   | .agg z fs=>avs.length=z.length∧∀f∈fs,t9 P n f.2.2 ((avs.drop f.1).take f.2.1)
   |_=>False
theorem b0f (w:World) {e:TypeId} (h:g8 P e≠ .bad):P.cellsOf e=(g8 P e).size:=by
 obtain⟨i,h1,h2,_⟩:=U7 (P:=P) (w:=w) h;simp[Program.cellsOf,h1,h2]
theorem a8M {w:World} {R:List AV→List Value→Prop} {g:Nat→Option (List Value)}:∀n,(∀i,i<n→∃cs,g i=some cs∧∃a,R a cs)→
  ∃(els:List (List AV)) (css:List (List Value)),els.length=n∧css.length=n∧∀(i:Nat) a cs,els[i]?=some a→css[i]?=some cs→g i=some cs∧R a cs
 |0,_=>⟨[],[],rfl,rfl,fun i a cs h=>by simp at h⟩
 | n+1,h=>by
  obtain⟨els,css,h1,h2,h3⟩:=a8M (w:=w) (R:=R) (g:=g) n (fun i hi=>h i (by omega));obtain⟨cs,hg,a,ha⟩:=h n (by omega);refine⟨els++[a],css++[cs],by simp[h1],by simp[h2],fun i b ds k1 k2=>?_⟩
  by_cases hi:i<n
  ·rw[List.getElem?_append_left (by omega)]at k1 k2;exact h3 i b ds k1 k2
  ·have hn:i=n:=by
    have:=(List.getElem?_eq_some_iff.1 k1).1;simp[h1]at this;omega
   subst hn;rw[List.getElem?_append_right (by omega)]at k1 k2;simp[h1,h2]at k1 k2;subst k1 k2;exact⟨hg,ha⟩
theorem b3Z {H:Type} {enc:TypeId×Value→H} {w:World} {spare:Nat→Bool} {held:Bool}:∀(n:Nat) (fuel:Nat) (t:TypeId) (cs:List Value) (x:DataW H×List MemPlace),a7V P n t=true→
  DataW.trod enc P w 0 spare held fuel t cs=some x→∃avs,RC w avs cs∧t9 P n t avs:=by
 intro n
 induction n with
 |zero=>intro fuel t cs x h;simp[a7V]at h
 | succ n ih=>
  intro fuel t cs x hg h;unfold a7V at hg;unfold t9
  cases hk:a2U P t with
  | some kt=>
   have hu:=(E1 hk).2.2.2
   cases kt with
   |i k=>
    obtain⟨m,rfl,rfl,hw⟩:=DataW.trod_int hu h;exact⟨[.v (.int k m)],RC.one (.v _) rfl,m,rfl,hw⟩
   |b=>
    obtain⟨b,rfl,rfl⟩:=DataW.trod_bool hu h;exact⟨[.v (.bool b)],RC.one (.v _) rfl,b,rfl⟩
  | none=>
   rw[hk]at hg;simp only at hg ⊢
   cases ht:g8 P t with
   |cell z=>rw[ht]at hg;simp at hg
   |arr z m e=>rw[ht]at hg;simp at hg
   |bad=>rw[ht]at hg;simp at hg
   | slice e=>
    rw[ht]at hg;simp only[Bool.and_eq_true,decide_eq_true_eq]at hg ⊢;obtain⟨hsz,hge⟩:=hg;have hne:g8 P e≠ .bad:=by intro hb;rw[hb]at hsz;exact hsz rfl
    have hc:=b0f w hne;obtain⟨info,h1,h2,_⟩:=n6 ht
    rcases DataW.trod_slice h2 h with⟨rfl,rfl⟩|⟨a,len,cap,elems,rest,n',rfl,rfl,rfl,hb,hl,hcap,hel,hall,_⟩
    ·exact⟨[.lst (g8 P e).size []],RC.one (.lstNil _ _ _) rfl,[],rfl,by simp,by simp⟩
    ·rw [hc]at hall;obtain⟨els,css,e1,e2,e3⟩:=a8M (w:=w) (R:=fun a cs=>RC w a cs∧t9 P n e a) (g:=fun i=>w.cells? 0 (a.add (i*(g8 P e).size)) (g8 P e).size) len (fun i hi=>by
      have h3:=hall i hi;obtain⟨y,hy⟩:∃y,elems[i]?=some y:=⟨_,List.getElem?_eq_getElem (by omega)⟩;rw[hy,Option.bind_eq_some_iff]at h3;obtain⟨cs,q1,q2⟩:=h3;obtain⟨av,r1,r2⟩:=ih _ _ _ _ hge q2;exact⟨cs,q1,av,r1,r2⟩)
     refine⟨[.lst (g8 P e).size els],?_,els,rfl,by omega,?_⟩
     ·refine RC.one ?_ rfl
      by_cases hlen:len=0
      ·have:els=[]:=List.eq_nil_of_length_eq_zero (by omega);subst this;subst hlen;exact .lstNil _ _ _
      ·have hcell:∀(i j:Nat) cs,css[i]?=some cs→j<(g8 P e).size→w.cell? ((a.add (i*(g8 P e).size)).add j)=cs[j]?∧cs.length=(g8 P e).size:=by
        intro i j cs hi hj;have hil:=(List.getElem?_eq_some_iff.1 hi).1;obtain⟨av,hav⟩:∃av,els[i]?=some av:=⟨_,List.getElem?_eq_getElem (by omega)⟩;have:=World.cells?_some (e3 i av cs hav hi).1;exact⟨this.2.2 j hj,this.2.1⟩
       have hspot:a.spot=none:=by
        obtain⟨cs,hcs⟩:∃cs,css[0]?=some cs:=⟨_,List.getElem?_eq_getElem (by omega)⟩;obtain⟨k1,k2⟩:=hcell 0 0 cs hcs (by omega);rw[List.getElem?_eq_getElem (by omega)]at k1;have ha:(a.add (0*(g8 P e).size)).add 0=a:=by simp[Addr.add]
        rw[ha]at k1;exact World.cell?_spot k1
       obtain⟨b,off,sp⟩:=a;simp only at hspot;subst hspot;have hcl:∀c∈css,c.length=(g8 P e).size:=by
        intro c hc';obtain⟨i,hi⟩:=List.getElem?_of_mem hc';exact(hcell i 0 c hi (by omega)).2
       have hell:∀c∈els,c.length=(g8 P e).size:=by
        intro c hc';obtain⟨i,hi⟩:=List.getElem?_of_mem hc';have hil:=(List.getElem?_eq_some_iff.1 hi).1;obtain⟨cs,hcs⟩:∃cs,css[i]?=some cs:=⟨_,List.getElem?_eq_getElem (by omega)⟩;rw[(e3 i c cs hi hcs).2.1.1];exact hcl cs (List.mem_of_getElem? hcs)
       have key:∀(i:Nat) (x:Value),css.flatten[i]?=some x→∃q j cs,i=q*(g8 P e).size+j∧j<(g8 P e).size∧css[q]?=some cs∧cs[j]?=some x:=by
        intro i x hx;have hil:=(List.getElem?_eq_some_iff.1 hx).1;rw[j9 hcl]at hil;have hq:i/ (g8 P e).size<css.length:=by rw[Nat.div_lt_iff_lt_mul (by omega)];exact hil
        have hj:=Nat.mod_lt i (show(g8 P e).size>0 by omega);have hme:i=i/ (g8 P e).size*(g8 P e).size+i % (g8 P e).size:=by rw[Nat.mul_comm];exact(Nat.div_add_mod i _).symm
        obtain⟨cs,hcs⟩:∃cs,css[i/ (g8 P e).size]?=some cs:=⟨_,List.getElem?_eq_getElem hq⟩;refine⟨_,_,cs,hme,hj,hcs,?_⟩;have:=n8 hcl hcs (i % (g8 P e).size) hj;rw[←hme]at this;rw[←this];exact hx
       have hre:els.length=len:=e1;rw[←hre];have hblk:b<w.heap.size:=by
        obtain⟨cs,hcs⟩:∃cs,css[0]?=some cs:=⟨_,List.getElem?_eq_getElem (by omega)⟩;obtain⟨k1,k2⟩:=hcell 0 0 cs hcs (by omega);rw[List.getElem?_eq_getElem (by omega)]at k1;simp only[Nat.zero_mul,Addr.add_lit,Nat.add_zero]at k1
        rcases Nat.lt_or_ge b w.heap.size with hlt|hge
        ·exact hlt
        ·simp[World.cell?,Array.getElem?_eq_none hge]at k1
       refine q8.lst _ els b off cap css.flatten (fun h=>h) hblk (by omega) hell (by rw[j9 hell,j9 hcl,e1,e2]) ?_ ?_
       ·intro i x hx;obtain⟨q,j,cs,rfl,hj,hcs,hxj⟩:=key i x hx;obtain⟨k1,_⟩:=hcell q j cs hcs hj;rw[Addr.add_lit,Addr.add_lit,hxj]at k1;obtain⟨av,hav⟩:∃av,els[q]?=some av:=⟨_,List.getElem?_eq_getElem (by have:=(List.getElem?_eq_some_iff.1 hcs).1;omega)⟩;have hr:=(e3 q av cs hav hcs).2.1;obtain⟨c,hc'⟩:∃c,av[j]?=some c:=⟨_,List.getElem?_eq_getElem (by rw[hr.1];exact(List.getElem?_eq_some_iff.1 hxj).1)⟩;refine⟨?_,(hr.2 j c x hc' hxj).2⟩;rw[←Nat.add_assoc];exact k1
       ·intro i c x hc' hx;obtain⟨q,j,cs,rfl,hj,hcs,hxj⟩:=key i x hx;obtain⟨av,hav⟩:∃av,els[q]?=some av:=⟨_,List.getElem?_eq_getElem (by have:=(List.getElem?_eq_some_iff.1 hcs).1;omega)⟩;rw[n8 hell hav j hj]at hc';exact((e3 q av cs hav hcs).2.1.2 j c x hc' hxj).1
     ·intro el hel';obtain⟨i,hi⟩:=List.getElem?_of_mem hel';have hil:=(List.getElem?_eq_some_iff.1 hi).1;obtain⟨cs,hcs⟩:∃cs,css[i]?=some cs:=⟨_,List.getElem?_eq_getElem (by omega)⟩;exact(e3 i el cs hi hcs).2.2
   | agg z fs=>
    rw[ht]at hg;simp only[Bool.and_eq_true]at hg ⊢;obtain⟨hlay,hgf⟩:=hg;obtain⟨info,fa,h1,h2,h3,h4,hfs,_,hall⟩:=D6 ht;obtain⟨xs,n',rfl,rfl,hl,hxl,hf⟩:=DataW.trod_struct h2 h;have hcl:cs.length=z.length:=by rw[hl];simp[Program.cellsOf,h1,h4]
    obtain⟨avs,hr,hq⟩:=a9a (w:=w) (Q:=fun f a=>t9 P n f.2.2 a) fs 0 z.length cs hlay hcl (fun f hff=>by
     have hff':=hff;rw[hfs,List.mem_map]at hff';obtain⟨fd,hfd,rfl⟩:=hff';obtain⟨i,hi⟩:=List.getElem?_of_mem hfd;have hia:fa[i]?=some fd:=by simpa using hi
     have htr:=hf i fd hia;have hil:i<xs.length:=by rw[hxl];exact(Array.getElem?_eq_some_iff.1 hia).1
     rw[List.getElem?_eq_getElem hil]at htr;exact ih _ _ _ _ (List.all_eq_true.1 hgf _ hff) htr)
    rw[List.drop_zero]at hr;refine⟨avs,hr,by rw[hr.1,hcl],fun f hff=>?_⟩;have:=hq f hff
    rwa [Nat.sub_zero]at this
end
end Go.Tram
end
section
namespace Go.Cur
open Go.AM Go.Proofs Go.Tram
section
variable {P:Program}
theorem D9 {n:Nat} {t e:TypeId} {avs:List AV} (hk:a2U P t=none) (ht:g8 P t= .slice e) (h:t9 P (n+1) t avs):∃els,avs=[.lst (g8 P e).size els]∧els.length≤maxLen∧∀el∈els,t9 P n e el:=by
 simp only[t9,hk,ht]at h;exact h
theorem F7 {n:Nat} {t:TypeId} {z:List Value} {fs:List (Nat×Nat×TypeId)} {avs:List AV} (hk:a2U P t=none) (ht:g8 P t= .agg z fs) (h:t9 P (n+1) t avs):avs.length=z.length∧∀f∈fs,t9 P n f.2.2 ((avs.drop f.1).take f.2.1):=by
 simp only[t9,hk,ht]at h;exact h
theorem b0k {n:Nat} {t:TypeId} {k:IntKind} {avs:List AV} (hk:a2U P t=some (.i k)) (h:t9 P (n+1) t avs):∃m,avs=[.v (.int k m)]∧(Lit.int k m).wf=true:=by
 simp only[t9,hk]at h;exact h
theorem a7x {n:Nat} {t:TypeId} {avs:List AV} (hk:a2U P t=some .b) (h:t9 P (n+1) t avs):∃b,avs=[.v (.bool b)]:=by
 simp only[t9,hk]at h;exact h
end
theorem a0i {α:Type} {c:α→List AV} {R:α→Prop}:∀{els:List (List AV)},(∀el∈els,∃a,el=c a∧R a)→∃l:List α,els=l.map c∧∀a∈l,R a
 |[],_=>⟨[],rfl,by simp⟩
 |e::els,h=>by
  obtain⟨a,rfl,ha⟩:=h e (List.mem_cons_self ..);obtain⟨l,rfl,hl⟩:=a0i (els:=els) (c:=c) (R:=R) (fun el hel=>h el (List.mem_cons_of_mem _ hel));refine⟨a::l,rfl,fun b hb=>?_⟩
  rcases List.mem_cons.1 hb with rfl|hb
  ·exact ha
  ·exact hl b hb
theorem a6x:(Try.prog).underlying 4=some .bool:=by kernel_rfl
theorem c2c:a2U Try.prog 3=some (.i .i64):=by kernel_rfl
theorem c0N:a2U Try.prog 4=some .b:=by kernel_rfl
def I64 (n:Int):Prop:=-9223372036854775808≤n∧n≤9223372036854775807
theorem c0G {m:Int} (h:(Lit.int .i64 m).wf=true):I64 m:=by
 simpa [Lit.wf,IntKind.min,IntKind.max,IntKind.signed,IntKind.bits,I64]using h
theorem H8 {n:Nat} {avs:List AV} (h:t9 Try.prog (n+1) 3 avs):∃m,avs=[I m]∧I64 m:=by
 obtain⟨m,h1,h2⟩:=b0k c2c h;exact⟨m,h1,c0G h2⟩
theorem c0w {α:Type} {l:List α} (h:l.length=2):∃a b,l=[a,b]:=by match l,h with|[a,b],_=>exact⟨a,b,rfl⟩
theorem c1r {α:Type} {l:List α} (h:l.length=3):∃a b c,l=[a,b,c]:=by match l,h with|[a,b,c],_=>exact⟨a,b,c,rfl⟩
theorem b8a {α:Type} {l:List α} (h:l.length=4):∃a b c d,l=[a,b,c,d]:=by match l,h with|[a,b,c,d],_=>exact⟨a,b,c,d,rfl⟩
theorem b9P {n:Nat} {avs:List AV} (h:t9 Try.prog (n+1) 4 avs):∃b,avs=i6 b:=a7x c0N h
theorem a9l {n:Nat} {avs:List AV} (h:t9 Try.prog (n+2) 26 avs):∃l:List Bool,avs=[bL l]∧l.length≤maxLen:=by
 obtain⟨els,hl,hb,he⟩:=D9 (by kernel_rfl) c2H h;obtain⟨l,rfl,hR⟩:=a0i (c:=i6) (R:=fun _=>True) (fun el hel=>by obtain⟨b,h⟩:=b9P (he el hel);exact⟨b,h,trivial⟩);simp at hl hb;exact⟨l,hl,hb⟩
theorem b9e {n:Nat} {avs:List AV} (h:t9 Try.prog (n+2) 54 avs):∃s:Wr,avs=s.cells:=by
 obtain⟨h1,h2⟩:=F7 (by kernel_rfl) c2P h;obtain⟨a,b,c,d,rfl⟩:=b8a h1;obtain⟨x,hx,_⟩:=H8 (h2 (0,1,3) (by simp));obtain⟨y,hy,_⟩:=H8 (h2 (1,1,3) (by simp));obtain⟨z,hz,_⟩:=H8 (h2 (2,1,3) (by simp));obtain⟨u,hu⟩:=b9P (h2 (3,1,4) (by simp));simp at hx hy hz hu;subst hx hy hz hu;exact⟨⟨x,y,z,u⟩,rfl⟩
theorem b8P {n:Nat} {avs:List AV} (h:t9 Try.prog (n+2) 52 avs):∃s:Fd,avs=s.cells:=by
 obtain⟨h1,h2⟩:=F7 (by kernel_rfl) c2w h;obtain⟨a,b,c,d,rfl⟩:=b8a h1;obtain⟨x,hx,_⟩:=H8 (h2 (0,1,3) (by simp));obtain⟨y,hy,_⟩:=H8 (h2 (1,1,3) (by simp));obtain⟨z,hz,_⟩:=H8 (h2 (2,1,3) (by simp));obtain⟨u,hu,_⟩:=H8 (h2 (3,1,3) (by simp));simp at hx hy hz hu;subst hx hy hz hu;exact⟨⟨x,y,z,u⟩,rfl⟩
theorem b8M {n:Nat} {avs:List AV} (h:t9 Try.prog (n+2) 66 avs):∃s:Ld,avs=s.cells∧I64 s.Units:=by
 obtain⟨h1,h2⟩:=F7 (by kernel_rfl) c2y h;obtain⟨a,b,c,rfl⟩:=c1r h1;obtain⟨x,hx,_⟩:=H8 (h2 (0,1,3) (by simp));obtain⟨y,hy,iy⟩:=H8 (h2 (1,1,3) (by simp));obtain⟨z,hz,_⟩:=H8 (h2 (2,1,3) (by simp));simp at hx hy hz;subst hx hy hz;exact⟨⟨x,y,z⟩,rfl,iy⟩
theorem b8Q {n:Nat} {avs:List AV} (h:t9 Try.prog (n+2) 49 avs):∃s:Fr,avs=s.cells∧I64 s.Num∧I64 s.Den:=by
 obtain⟨h1,h2⟩:=F7 (by kernel_rfl) c2K h;obtain⟨a,b,rfl⟩:=c0w h1;obtain⟨x,hx,ix⟩:=H8 (h2 (0,1,3) (by simp));obtain⟨y,hy,iy⟩:=H8 (h2 (1,1,3) (by simp));simp at hx hy;subst hx hy;exact⟨⟨x,y⟩,rfl,ix,iy⟩
theorem b2F {n:Nat} {avs:List AV} (h:t9 Try.prog (n+4) 25 avs):∃g:Gr,avs=g.cells∧g.Wires.length≤maxLen∧g.Feeds.length≤maxLen:=by
 obtain⟨h1,h2⟩:=F7 (by kernel_rfl) c1C h;obtain⟨a,b,c,d,rfl⟩:=b8a h1;obtain⟨x,hx,_⟩:=H8 (h2 (0,1,3) (by simp));obtain⟨e1,hl1,b1,he1⟩:=D9 (by kernel_rfl) c2L (h2 (1,1,22) (by simp));obtain⟨l1,rfl,_⟩:=a0i (c:=Wr.cells) (R:=fun _=>True) (fun el hel=>by obtain⟨b,h⟩:=b9e (he1 el hel);exact⟨b,h,trivial⟩);obtain⟨e2,hl2,b2,he2⟩:=D9 (by kernel_rfl) c2q (h2 (2,1,23) (by simp));obtain⟨l2,rfl,_⟩:=a0i (c:=Fd.cells) (R:=fun _=>True) (fun el hel=>by obtain⟨b,h⟩:=b8P (he2 el hel);exact⟨b,h,trivial⟩);obtain⟨y,hy,_⟩:=H8 (h2 (3,1,3) (by simp));simp at hx hl1 hl2 hy;subst hx hl1 hl2 hy;rw[List.length_map]at b1 b2;exact⟨⟨x,l1,l2,y⟩,by simp,b1,b2⟩
theorem a8L {n:Nat} {avs:List AV} (h:t9 Try.prog (n+4) 28 avs):∃s:Sta,avs=s.cells∧s.Feeds.length≤maxLen∧s.Wires.length≤maxLen:=by
 obtain⟨h1,h2⟩:=F7 (by kernel_rfl) c1M h;obtain⟨a,b,rfl⟩:=c0w h1;obtain⟨l1,hl1,b1⟩:=a9l (h2 (0,1,26) (by simp));obtain⟨l2,hl2,b2⟩:=a9l (h2 (1,1,26) (by simp));simp at hl1 hl2;subst hl1 hl2;exact⟨⟨l1,l2⟩,by simp,b1,b2⟩
theorem a8T {n:Nat} {avs:List AV} (h:t9 Try.prog (n+3) 29 avs):∃l:List Ld,avs=[lL l]∧l.length≤maxLen∧∀x∈l,I64 x.Units:=by
 obtain⟨els,hl,hb,he⟩:=D9 (by kernel_rfl) c1N h;obtain⟨l,rfl,hR⟩:=a0i (c:=Ld.cells) (R:=fun x=>I64 x.Units) (fun el hel=>b8M (he el hel));rw[List.length_map]at hb;exact⟨l,hl,hb,hR⟩
theorem b4Q {n:Nat} {avs:List AV} (h:t9 Try.prog (n+3) 35 avs):∃l:List Fr,avs=[fL l]∧l.length≤maxLen∧∀x∈l,I64 x.Num∧I64 x.Den:=by
 obtain⟨els,hl,hb,he⟩:=D9 (by kernel_rfl) c2o h;obtain⟨l,rfl,hR⟩:=a0i (c:=Fr.cells) (R:=fun x=>I64 x.Num∧I64 x.Den) (fun el hel=>b8Q (he el hel));rw[List.length_map]at hb;exact⟨l,hl,hb,hR⟩
open Go.WideShapes in
theorem a5e {H:Type} {enc:TypeId×Value→H} {W:World} {base n:Nat} {t:TypeId} {v:Value} {d:DataW H} {p:List MemPlace} {z:List Value} {fs:List (Nat×Nat×TypeId)} (hg:a7V Try.prog n t=true) (ht:g8 Try.prog t= .agg z fs)
  (hv:Value.okWide Try.prog W .any base t v) (h:DataW.Trod enc Try.prog W 0 (fun _=>true) true t v d p):∃avs,q8 W (fun _=>False) (.agg avs) v∧t9 Try.prog n t avs:=by
 obtain⟨fuel,h⟩:=h;obtain⟨avs,hr,hs⟩:=b3Z n fuel t _ _ hg h;obtain⟨info,fa,h1,h2,_⟩:=D6 ht;obtain⟨cs,rfl,_⟩:=okWide_struct h2 hv;refine⟨avs,?_,hs⟩;have:=q8.agg (w:=W) (S:=fun _=>False) avs cs.toList hr.1 (fun x hx=>by
  obtain⟨i,hi⟩:=List.getElem?_of_mem hx;have hil:=(List.getElem?_eq_some_iff.1 hi).1;obtain⟨c,hc⟩:∃c,avs[i]?=some c:=⟨_,List.getElem?_eq_getElem (by rw[hr.1];exact hil)⟩;exact(hr.2 i c x hc hi).2) (fun i c x h1 h2=>(hr.2 i c x h1 h2).1)
 simpa using this
open Go.WideShapes in
theorem a1H {H:Type} {enc:TypeId×Value→H} {W:World} {base n:Nat} {t e:TypeId} {v:Value} {d:DataW H} {p:List MemPlace} (hg:a7V Try.prog n t=true) (ht:g8 Try.prog t= .slice e)
  (hv:Value.okWide Try.prog W .any base t v) (h:DataW.Trod enc Try.prog W 0 (fun _=>true) true t v d p):∃av,q8 W (fun _=>False) av v∧t9 Try.prog n t [av]:=by
 obtain⟨fuel,h⟩:=h;obtain⟨avs,hr,hs⟩:=b3Z n fuel t _ _ hg h;obtain⟨info,h1,h2,_⟩:=n6 ht;obtain⟨a,len,cap,rfl⟩:=okWide_slice h2 hv;have hl:avs.length=1:=by rw[hr.1];rfl
 match avs,hl,hr,hs with
 |[av],_,hr,hs=>exact⟨av,(hr.2 0 av _ rfl rfl).1,hs⟩
theorem c2E:laidOutB Try.prog=true:=by kernel_rfl
theorem b9M:mapsRowed Try.prog=true:=by kernel_rfl
theorem c2Q:Kids Try.prog (· <Try.prog.types.size):=kids_rows c2E b9M
theorem full:∀t e,t<Try.prog.types.size→Try.prog.underlying t=some (.slice e)→0<Try.prog.cellsOf e:=slices_full_of Try.prog (by kernel_rfl)
theorem b4O {w w':World} (h:Ext (fun _=>False) w w') {a:Addr} (ha:a.block<w.heap.size):w'.cell? a=w.cell? a:=v7 (h.block _ ha (fun k=>k))
theorem a9k {H:Type} {enc:TypeId×Value→H} {f:Func} {s:ChangeSpec} {fresh handsOn again:Bool} {W W':World} {args:Array Value} {v:Value} {ds:List (DataW H)} {before:List MemPlace}
  (hvars:s.vars=[]) (hres:(s.fn H ds).results=[.lit (.bool true)]) (hargs:(s.fn H ds).args=ds) (hvs:(s.fn H ds).vars=[]) (hf:f.resultTypes= #[4]) (hts:∀t∈f.params.toList,t<Try.prog.types.size)
  (hW:DataW.Whole enc Try.prog f.params.toList s.vars false W args.toList ds [] before) (hext:Ext (fun _=>False) W W') (hv:v= .bool true):
  s.post enc Try.prog f false fresh handsOn again W args v W':=by
 subst hv;have hlt:=hW.lt;have hW':=hW;obtain⟨p,q,hA,hV,hpq,hz,hn⟩:=hW;rw[hvars]at hV;obtain⟨_,rfl⟩:=Go.ChangeShapes.trodVars_none hV;rw[List.append_nil]at hpq;subst hpq;have carry:∀(ts:List TypeId) (vs:List Value) (ds:List (DataW H)) (ps:List MemPlace),DataW.TrodAll enc Try.prog W 0 (fun _=>true) true ts vs ds ps→(∀x∈ps,x.block<W.heap.size)→DataW.TrodAll enc Try.prog W' 0 (fun _=>true) true ts vs ds ps:=by
  intro ts
  induction ts with
  |nil=>intro vs ds ps h _;match vs,ds,h with|[],[],h=>exact h
  | cons t ts ih=>
   intro vs ds ps h hl
   match vs,ds,h with
   |v::vs,d::ds,⟨p1,q1,⟨n,h1⟩,h2,he⟩=>
    subst he;refine⟨p1,q1,⟨n,DataW.trod_carry n _ _ _ h1 (fun x hx=>?_)⟩,ih vs ds q1 h2 (fun x hx=>hl x (List.mem_append_right _ hx)),rfl⟩;have hb:=hl x (List.mem_append_left _ hx)
    cases x with
    |cell b off=>exact b4O hext hb
    |map b=>exact hext.block b hb (fun k=>k)
 have hA':=carry _ _ _ _ hA hlt;have hag:∀sp:Nat→Bool,(∀x∈before,sp x.block=true)→DataW.TrodAll enc Try.prog W' 0 sp true f.params.toList args.toList (s.fn H (ds++[])).args before:=by
  intro sp hs;rw[List.append_nil,hargs];exact hA'.respare c2Q full hts hs
 have hr:∀(b:Nat) (sp:Nat→Bool) (hd:Bool),DataW.TrodAll enc Try.prog W' b sp hd f.resultTypes.toList ((Value.bool true).resultList f.resultTypes.size) (s.fn H (ds++[])).results []:=by
  intro b sp hd;rw[List.append_nil,hres,hf];exact Go.ChangeShapes.trodAll_mk1 (Go.RowKit.shut_bool a6x _)
 have hkept:W.keptBut W' (· ∈before):=by
  refine⟨hext.os,hext.output,fun i hi=>?_⟩;rw[hext.block i hi (fun k=>k)]
  cases hb:W.heap[i]? with
  |none=>trivial
  |some o=>cases o<;>simp
 have hv0:∀sp:Nat→Bool,DataW.TrodVars enc Try.prog W' sp s.vars (s.fn H (ds++[])).vars []:=by
  intro sp;rw[hvars,List.append_nil,hvs]
  rfl
 have hold:∀x∈before,(fun b=>decide (b<W.heap.size)) x.block=true:=fun x hx=>by simpa using hlt x hx
 refine⟨ds,[],before,[],before,[],hW',hr _ _ _,hag _ hold,hv0 _,World.keptBut_mono (fun x hx=>⟨hx,Or.inr (Or.inl hx)⟩) hkept,fun _=>?_⟩;refine⟨Go.RowKit.ok_one hf rfl (Go.RowKit.okWide_bool_mk a6x _),_,_,([]++before)++[],⟨[]++before,[],Go.ChangeShapes.trodAll_append (hag _ (fun _ _=>rfl)) (hr _ _ _),hv0 _,rfl,?_,?_⟩,?_⟩
 ·intro b off hp;have hp':MemPlace.cell b off∈before:=by simpa using hp
  have hb:=hlt _ hp';have:W'.frozen? ⟨b,off,none⟩=W.frozen? ⟨b,off,none⟩:=by unfold World.frozen?;rw[hext.block b hb (fun k=>k)]
  rw[this];exact hz b off hp'
 ·intro ha;cases ha
 ·intro x hx _;simpa using hx
theorem a6d {P : Program} {f : FuncId} {fn : Func} {c : Code} {avs : List AV} {vs : List Value} {W : World} (hf : P.funcs[f]? = some fn) (hb : fn.body = some c) (hname : (fn.name == "runtime.NumGoroutine") = false)
  (h:d4 P f avs (Bo true)) (hl:avs.length=vs.length) (hr:∀(i:Nat) c x,avs[i]?=some c→vs[i]?=some x→q8 W (fun _=>False) c x):
  Calls P f vs.toArray W fun e W'=>e= .returned (.bool true)∧Ext (fun _=>False) W W':=by
 have hn' : ¬ fn.name = "runtime.NumGoroutine" := by simpa using hname
 rcases h with⟨_,h2⟩|h2
 ·refine(h2 (fun _=>False) W vs (fun b k=>k.elim) hl hr).mono fun e W' ⟨v,q1,q2,q3⟩=>?_
  cases q2
  exact⟨q1,q3⟩
 ·exfalso;obtain⟨v,q1,_⟩:=h2 (fun _=>False) W vs hl hr;have:(callFunc f vs.toArray).run P W= .ok (.enter f vs.toArray) W:=by simp[callFunc,hf,hn',hb]
  rw[this]at q1
  cases q1
theorem b1Z {W:World}:∀(i:Nat) c x,([]:List AV)[i]?=some c→([]:List Value)[i]?=some x→q8 W (fun _=>False) c x:=fun i c x h=>by simp at h
theorem L9 {W:World} {a:AV} {v:Value} {xs:List AV} {vs:List Value} (h:q8 W (fun _=>False) a v) (k:∀(i:Nat) c x,xs[i]?=some c→vs[i]?=some x→q8 W (fun _=>False) c x):
  ∀(i:Nat) c x,(a::xs)[i]?=some c→(v::vs)[i]?=some x→q8 W (fun _=>False) c x:=fun i c x h1 h2=>by
 cases i with
 |zero=>simp at h1 h2;subst h1 h2;exact h
 |succ i=>exact k i c x (by simpa using h1) (by simpa using h2)
end Go.Cur
end
section
namespace Go.Cur
open Go.AM Go.Proofs
theorem b4H (a b:List Fr) (hb:b.length≤100000):d4 Try.prog 64 [fL a,fL b] (Bo (decide (a=b))):=by
 refine d4.of_body Try.func64 rfl (by decide) (by simp[Try.ntmps64]) ?_;simp only[Try.ntmps64,Try.results64];refine aS fun K hK=>?_;simp -dsimp;apply hK;clear hK K;refine b9 fun K1 hK1=>?_;refine aS fun K hK=>?_;simp -dsimp;apply hK;clear hK K;refine d9 rfl (fun hc0=>?_) (fun hc0=>?_)
 ·refine aS fun K hK=>?_;simp -dsimp;apply hK;clear hK K;have hne:a≠b:=by rintro rfl;simp at hc0
  exact f7 (by simp[hne])
 ·have hle:a.length=b.length:=by have:=(by simpa using hc0:(a.length:Int)=b.length);omega
  refine e8 ?_;simp only[zT,reduceIte,Nat.reduceEqDiff];refine hK1 _ _ ?_;refine b7 [0,1] ?_;simp only[zP,Nat.reduceEqDiff,reduceIte];refine b9 fun K2 hK2=>?_;refine aS fun K hK=>?_;simp -dsimp;apply hK;clear hK K;refine e7 ?_;refine b7 [0,1,12,13] ?_;simp only[zP,Nat.reduceEqDiff,reduceIte];refine g7 [0,1,12] (α:=Nat) (fun k=>[(13,I k)]) (fun k=>[]) (fun k=>k≤a.length∧a.take k=b.take k) (fun k=>a.length-k) 0 ?_ ?_ ?_
  ·exact⟨Nat.zero_le _,rfl⟩
  ·exact i7 (by simp)
  rintro k ⟨k1,k2⟩;simp only[zP,Nat.reduceEqDiff,reduceIte];refine aS fun K hK=>?_;simp -dsimp;apply hK;clear hK K;refine b9 fun K3 hK3=>?_;refine d9 rfl (fun hc1=>?_) (fun hc1=>?_)
  ·have hka:k<a.length:=by simpa using hc1
   have wk:=zW k (by omega);obtain⟨x,hx⟩:∃x,a[k]?=some x:=⟨_,List.getElem?_eq_getElem hka⟩;obtain⟨y,hy⟩:∃y,b[k]?=some y:=⟨_,List.getElem?_eq_getElem (by omega)⟩;refine e8 ?_;simp only[zT,reduceIte,Nat.reduceEqDiff];refine hK3 _ _ ?_;refine b7 [0,1,12,13] ?_;simp only[zP,Nat.reduceEqDiff,reduceIte];refine b9 fun K4 hK4=>?_;refine e7 ?_;refine aS fun K hK=>?_;simp -dsimp;apply hK;clear hK K;refine v6 k7 rfl fun K hK=>?_;simp -dsimp [hx,hy];refine hK _ _ _ (by decide+kernel) ?_;clear hK K;refine d9 rfl (fun hc2=>?_) (fun hc2=>?_)
   ·refine aS fun K hK=>?_;simp -dsimp;apply hK;clear hK K;have hne:a≠b:=by
     rintro rfl;rw[hx]at hy;have:=Option.some.inj hy;subst this;simp at hc2
    exact f7 (by simp[hne])
   ·refine e8 ?_;simp only[zT,reduceIte,Nat.reduceEqDiff];refine hK4 _ _ ?_;refine b7 [0,1,12,13] ?_;simp only[zP,Nat.reduceEqDiff,reduceIte];refine aR fun K hK=>?_;simp -dsimp [wk];apply hK;clear hK K;simp only[zT,reduceIte,Nat.reduceEqDiff];have hxy:x=y:=c0Z (by simpa using hc2);exact⟨k+1,⟨by omega,by rw[List.take_add_one,List.take_add_one,hx,hy,k2,hxy]⟩,by omega,d8 [] rfl (by simp) (by simp)⟩
  ·have hka:¬k<a.length:=by simpa using hc1
   have e:a=b:=by have h1:=k2;rw[List.take_of_length_le (by omega),List.take_of_length_le (by omega)]at h1;exact h1
   refine j0 ?_;simp only[zT,reduceIte,Nat.reduceEqDiff];refine hK2 _ _ ?_;refine b7 [] ?_;simp only[zP,Nat.reduceEqDiff,reduceIte];refine aS fun K hK=>?_;simp -dsimp;apply hK;clear hK K;exact f7 (by simp[e])
theorem a4W (g:Gr) (s:Sta) (l:List Ld) (v:List Fr) (e:Int) (he:e≠0) (h:d4 Try.prog 18 [g.av,s.av,lL l] (.tup [.v (.slice none 0 0), .v (.slice none 0 0),I e])):d4 Try.prog 39 [g.av,s.av,lL l,fL v] (Bo false):=by
 have hd:(e==0)=false:=by simpa using he
 refine d4.of_body Try.func39 rfl (by decide) (by simp[Try.ntmps39]) ?_;simp only[Try.ntmps39,Try.results39];refine aS fun K hK=>?_;simp -dsimp;apply hK;clear hK K;refine aS fun K hK=>?_;simp -dsimp;refine b8 _ (h) (by simp) ?_;simp -dsimp;apply hK;clear hK K;refine aS fun K hK=>?_;simp -dsimp [hd,he];refine g6 (Bo false) (fun hm=>absurd hm (by simp)) (by simp) ?_;simp -dsimp [hd,he];apply hK;clear hK K;exact f7 (by simp)
theorem b4B (g:Gr) (s:Sta) (l:List Ld) (v vs fs:List Fr) (hv:v.length≤100000) (h:d4 Try.prog 18 [g.av,s.av,lL l] (.tup [fL vs,fL fs,I 0])):d4 Try.prog 39 [g.av,s.av,lL l,fL v] (Bo (decide (vs=v))):=by
 have he:=b4H vs v hv;refine d4.of_body Try.func39 rfl (by decide) (by simp[Try.ntmps39]) ?_;simp only[Try.ntmps39,Try.results39];refine aS fun K hK=>?_;simp -dsimp;apply hK;clear hK K;refine aS fun K hK=>?_;simp -dsimp;refine b8 _ (h) (by simp) ?_;simp -dsimp;apply hK;clear hK K;refine aS fun K hK=>?_;simp -dsimp;refine g6 _ (fun hm=>he) (by simp) ?_;simp -dsimp;apply hK;clear hK K;exact f7 (by simp)
theorem a3e (g:Gr) (s:Sta) (l:List Ld) (v:List Fr):d4 Try.prog 10 [g.av,s.av,lL l,fL v] (Bo true):=by
 have hk:=b1s;have hfw:=b9E g s l;refine d4.of_body Try.func10 rfl (by decide) (by simp[Try.ntmps10]) ?_;simp only[Try.ntmps10,Try.results10];refine aS fun K hK=>?_;simp -dsimp;apply hK;clear hK K;refine b9 fun K1 hK1=>?_;refine aS fun K hK=>?_;simp -dsimp;refine b8 _ (hfw) (by simp) ?_;simp -dsimp;apply hK;clear hK K;refine d9 rfl (fun hc0=>?_) (fun hc0=>?_)
 ·refine aS fun K hK=>?_;simp -dsimp;refine b8 _ (hk) (by simp) ?_;simp -dsimp;apply hK;clear hK K;exact f7 (by simp)
 ·have hfv:b8Y g s l.length=true∧v.length≤50:=by simp at hc0;exact⟨hc0.1,by have:=hc0.2;omega⟩
  obtain⟨hfew,hv50⟩:=hfv;have hsp:=a4J hfew;have hrf:=a6L g s l (by omega) (by omega) (by omega);have hlt:b0S g s l≠2→d4 Try.prog 17 [g.av,s.av] (Bo (b7l g s)):=fun h=>a9X g s (t6 (by rcases V1 g s l with h1|h1|h1;exact absurd h1.2 h;exact h1.1;exact h1.1));generalize hRE:b0S g s l=re at hrf hlt;refine e8 ?_;simp only[zT,reduceIte,Nat.reduceEqDiff];refine hK1 _ _ ?_;refine b7 [2,3,4,5] ?_;simp only[zP,Nat.reduceEqDiff,reduceIte];refine aS fun K hK=>?_;simp -dsimp;refine b8 _ (hrf) (by simp) ?_;simp -dsimp;apply hK;clear hK K;refine b9 fun K2 hK2=>?_;refine aS fun K hK=>?_;simp -dsimp;refine g6 _ (fun hm=>hlt (by simpa using hm)) (by simp) ?_;simp -dsimp;apply hK;clear hK K;refine d9 rfl (fun hc1=>?_) (fun hc1=>?_)
  ·refine aS fun K hK=>?_;simp -dsimp;refine b8 _ (hk) (by simp) ?_;simp -dsimp;apply hK;clear hK K;exact f7 (by simp)
  ·have hli:re=2∨b7l g s=true:=by
    by_cases h:re=2
    ·exact Or.inl h
    ·right;simp[h]at hc1;exact hc1
   have h5:t4 g s l=true→B6 g s=false→∀p∈j8 g s,p.length≤5:=fun h1 h2=>by
    refine b7a (hli.resolve_left fun h=>?_) h2;rw[←hRE]at h;unfold b0S at h;rw[if_pos h1]at h
    split at h<;>omega
   refine e8 ?_;simp only[zT,reduceIte,Nat.reduceEqDiff];refine hK2 _ _ ?_;refine b7 [2,3,4,5,9] ?_;simp only[zP,Nat.reduceEqDiff,reduceIte];have hsv:=b8c g s l (by omega) (fun h=>b6m hfew (t6 h).gr) (fun h1 h2 p hp=>Or.inl (h5 h1 h2 p hp));unfold b2V at hsv
   rcases V1 g s l with⟨hfi,hre⟩|⟨hfi,hlo,hre⟩|⟨hfi,hlo,hre⟩
   all_goals rw[hRE]at hre
   all_goals subst hre
   rw[if_neg (by rw[hfi];decide)]at hsv
   rotate_left
   rw[if_pos hfi,if_pos hlo]at hsv
   rotate_left
   have hnt:=t6 hfi;have h5':=h5 hfi hlo;have hrs:=b5L g s l (H5 l) hnt (by omega) (by simp) (U1 hfi) h5';have hAl:=b7h l.length (by omega);have hbd:=r6 hnt.gr;rw[if_pos hfi,if_neg (by rw[hlo];decide)]at hsv
   cases hok:okS g s (tkK l (H5 l))
   rw[if_neg (by rw[hok];decide)]at hsv hrs
   rotate_left
   rw[if_pos hok]at hsv hrs;have g1:=fun(b:List Fr) (hb:b.length≤100000)=>a5g v b hb;have hvl:(vlA g.Nodes.toNat (vfS g s (tkK l (H5 l)))).length≤1000:=by simp[vlA];omega
   generalize vlA g.Nodes.toNat (vfS g s (tkK l (H5 l)))=VS at hsv hrs hvl;generalize flA g s (vfS g s (tkK l (H5 l)))=FS at hsv hrs
   rotate_left
   all_goals try (change d4 _ _ [_,_,_,bL (List.replicate l.length true)] _ at hrs)
   all_goals try (generalize List.replicate l.length true=al at hrs hAl)
   ·refine aS fun K hK=>?_;simp -dsimp;refine b8 _ (a4W g s l v 2 (by decide) hsv) (by simp) ?_;simp -dsimp;apply hK;clear hK K;refine b9 fun K3 hK3=>?_;refine aS fun K hK=>?_;simp -dsimp;apply hK;clear hK K;refine d9 rfl (fun hc2=>?_) (fun hc2=>?_)
    ·refine aS fun K hK=>?_;simp -dsimp;refine g6 _ (fun hm=>hk) (by simp) ?_;simp -dsimp;apply hK;clear hK K;exact f7 (by simp)
    ·simp at hc2
   ·refine aS fun K hK=>?_;simp -dsimp;refine b8 _ (a4W g s l v 3 (by decide) hsv) (by simp) ?_;simp -dsimp;apply hK;clear hK K;refine b9 fun K4 hK4=>?_;refine aS fun K hK=>?_;simp -dsimp;apply hK;clear hK K;refine d9 rfl (fun hc2=>?_) (fun hc2=>?_)
    ·refine aS fun K hK=>?_;simp -dsimp;refine g6 _ (fun hm=>hk) (by simp) ?_;simp -dsimp;apply hK;clear hK K;exact f7 (by simp)
    ·simp at hc2
   ·refine aS fun K hK=>?_;simp -dsimp;refine b8 _ (a4W g s l v 4 (by decide) hsv) (by simp) ?_;simp -dsimp;apply hK;clear hK K;refine b9 fun K5 hK5=>?_;refine aS fun K hK=>?_;simp -dsimp;apply hK;clear hK K;refine d9 rfl (fun hc2=>?_) (fun hc2=>?_)
    ·simp at hc2
    ·refine e8 ?_;simp only[zT,reduceIte,Nat.reduceEqDiff];refine hK5 _ _ ?_;refine b7 [2,3,4,5,10] ?_;simp only[zP,Nat.reduceEqDiff,reduceIte];refine v6 k7 rfl fun K hK=>?_;simp -dsimp;refine b8 _ (hAl) (by simp) ?_;simp -dsimp;refine b8 _ (hrs) (by simp) ?_;simp -dsimp;refine hK _ _ _ (by decide+kernel) ?_;clear hK K;refine aS fun K hK=>?_;simp -dsimp;refine g6 (Bo false) (fun hm=>absurd hm (by simp)) (by simp) ?_;simp -dsimp;refine⟨fun w=>(Z2 _ _ _ _ _ w Q6 a0v).1,_,fun w=>(Z2 _ (.const (.bool true)) (.const (.bool true)) _ _ w Q6 a0v).2,?_⟩;simp -dsimp;refine g6 _ (fun hm=>hk) (by simp) ?_;simp -dsimp;apply hK;clear hK K;exact f7 (by simp)
   ·refine aS fun K hK=>?_;simp -dsimp;refine b8 _ (b4B g s l v VS FS (by omega) hsv) (by simp) ?_;simp -dsimp;apply hK;clear hK K;refine b9 fun K6 hK6=>?_;refine aS fun K hK=>?_;simp -dsimp;apply hK;clear hK K;refine d9 rfl (fun hc2=>?_) (fun hc2=>?_)
    ·simp at hc2
    ·refine e8 ?_;simp only[zT,reduceIte,Nat.reduceEqDiff];refine hK6 _ _ ?_;refine b7 [2,3,4,5,10] ?_;simp only[zP,Nat.reduceEqDiff,reduceIte];refine v6 k7 rfl fun K hK=>?_;simp -dsimp;refine b8 _ (hAl) (by simp) ?_;simp -dsimp;refine b8 _ (hrs) (by simp) ?_;simp -dsimp;refine hK _ _ _ (by decide+kernel) ?_;clear hK K;refine aS fun K hK=>?_;simp -dsimp;refine g6 _ (fun hm=>g1 VS (by omega)) (by simp) ?_;simp -dsimp;refine⟨fun w=>(Z2 _ _ _ _ _ w Q6 a0v).1,_,fun w=>(Z2 _ (.const (.bool true)) (.const (.bool true)) _ _ w Q6 a0v).2,?_⟩;simp -dsimp;refine g6 _ (fun hm=>hk) (by simp) ?_;simp -dsimp;apply hK;clear hK K;exact f7 (by simp;exact eq_comm)
end Go.Cur
end
