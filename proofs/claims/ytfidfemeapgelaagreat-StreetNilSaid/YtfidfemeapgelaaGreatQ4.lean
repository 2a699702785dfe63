import Derived.Test.YtfidfemeapgelaaGreatQ3
import Derived.Laws.Bits64b
import Derived.Laws.FloatArith
import Derived.OpenShut
import Derived.ProofKit
import Derived.WalkKit
import GoSem.Extern.MathSqrt
import Derived.Test.YtfidfemeapgelaaGreatRows
set_option maxRecDepth 100000
set_option maxHeartbeats 8000000
set_option linter.unusedVariables false
set_option linter.unusedSimpArgs false
section
namespace Go.Street
open Go.AM Go.Proofs
def clr (j:Jn) (a b:Int):Int:=at0 (rowAt j.Clears a) b
def conf (j:Jn) (a b:Int):Bool:=decide (0≤clr j a b)
def strmB (s:Strm):Bool:=inr s.Kind 1 3&&inr s.Least 1 120
def Jn.n (j:Jn):Nat:=j.Streams.length
def streamsB (j:Jn):Bool:=inr j.n 1 20&&j.Streams.all strmB
def cellB (j:Jn) (a b:Nat):Bool:=inr (clr j a b) (-1) 60&& !(decide (a=b)&&decide (clr j a b≠ -1))&&(decide (clr j a b=-1)==decide (clr j b a=-1))
def clearsB (j:Jn):Bool:=decide (j.Clears.length=j.n)&&(j.Clears.all fun r=>decide (r.length=j.n))&&(List.range j.n).all fun a=>(List.range j.n).all fun b=>cellB j a b
structure Sqr (j:Jn):Prop where
 len:j.Clears.length=j.n
 rows:∀r∈j.Clears,r.length=j.n
theorem Sqr.row {j:Jn} (h:Sqr j) {a:Int} (h0:0≤a) (h1:a<j.n):j.Clears[a.toNat]?=some (rowAt j.Clears a)∧(rowAt j.Clears a).length=j.n:=by
 have:=rowAt_get (m:=j.Clears) (i:=a) h0 (by rw[h.len];exact h1);exact⟨this,h.rows _ (List.mem_of_getElem? this)⟩
theorem Sqr.get {j:Jn} (h:Sqr j) {a b:Int} (h0:0≤a) (h1:a<j.n) (k0:0≤b) (k1:b<j.n):(rowAt j.Clears a)[b.toNat]?=some (clr j a b):=
 at0_get k0 (by rw[(h.row h0 h1).2];exact k1)
structure Fit (j:Jn):Prop where
 s:j.Streams.length≤22
 c:j.Clears.length≤22
 p:j.Phases.length≤14
 l:j.Longest.length≤14
 g:j.Gates.length≤22
 cs:∀r∈j.Clears,r.length≤22
 ps:∀r∈j.Phases,r.length≤22
theorem c_within (x lo hi:Int):PureCall Tryz.prog 196 [I x,I lo,I hi] (Bo (inr x lo hi)):=by
 refine PureCall.of_body Tryz.func196 rfl (by decide) (by simp[Tryz.ntmps196]) ?_;simp only[Tryz.ntmps196,Tryz.results196];refine aS fun K hK=>?_;simp -dsimp;apply hK;clear hK K;refine aS fun K hK=>?_;simp -dsimp;apply hK;clear hK K;exact awp_ret (by simp[inr])
theorem c_conflict (j:Jn) (a b:Int) (h:Sqr j) (h0:0≤a) (h1:a<j.n) (k0:0≤b) (k1:b<j.n):PureCall Tryz.prog 263 [j.av,I a,I b] (Bo (conf j a b)):=by
 have g1:=(h.row h0 h1).1;have g2:=h.get h0 h1 k0 k1;refine PureCall.of_body Tryz.func263 rfl (by decide) (by simp[Tryz.ntmps263]) ?_;simp only[Tryz.ntmps263,Tryz.results263];refine aS fun K hK=>?_;simp -dsimp;apply hK;clear hK K;refine aS fun K hK=>?_;simp -dsimp [g1,g2,h0,k0];apply hK;clear hK K;exact awp_ret (by simp[conf])
theorem c_streams1 (s:Strm):PureCall Tryz.prog 268 [.agg s.cells] (Bo (!strmB s)):=by
 refine PureCall.of_body Tryz.func268 rfl (by decide) (by simp[Tryz.ntmps268]) ?_;simp only[Tryz.ntmps268,Tryz.results268];refine aS fun K hK=>?_;simp -dsimp;apply hK;clear hK K;refine aS fun K hK=>?_;simp -dsimp;refine callK_may _ (fun hm=>c_within s.Least 1 120) (by simp) ?_;simp -dsimp;apply hK;clear hK K;refine awp_ret ?_;simp[strmB,inr];rw[show decide (s.Kind<1)= !decide (1≤s.Kind)by rw[←decide_not];exact decide_eq_decide.2 (by omega),show decide (3<s.Kind)= !decide (s.Kind≤3)by rw[←decide_not];exact decide_eq_decide.2 (by omega)]
theorem c_Index_Strm (l:List Strm) (f:FuncId) (cl:List (List AV)) (q:Strm→Bool) (h:∀x∈l,PureCall Tryz.prog f (.agg x.cells::ipts cl) (Bo (q x))) (hn:l.length≤100000):
  PureCall Tryz.prog 325 [.lst 2 (l.map Strm.cells), .clo f (ipts cl)] (I (firstI l q)):=by
 refine PureCall.of_body Tryz.func325 rfl (by decide) (by simp[Tryz.ntmps325]) ?_;simp only[Tryz.ntmps325,Tryz.results325];refine aS fun K hK=>?_;simp -dsimp;apply hK;clear hK K;refine awp_seq_k fun K1 hK1=>?_;refine aS fun K hK=>?_;simp -dsimp;apply hK;clear hK K;refine awp_block ?_;refine awp_prune [0,1,7,8] ?_;simp only[zP,Nat.reduceEqDiff,reduceIte];refine awp_loop_l [0,1,7] (α:=Nat) (fun k=>[(8,I k)]) (fun _=>[]) (fun k=>k≤l.length∧(l.take k).any q=false) (fun k=>l.length-k) 0 ?_ ?_ ?_
 ·simp
 ·exact sub_same (by simp)
 rintro k ⟨k1,k2⟩;simp only[zP,Nat.reduceEqDiff,reduceIte];refine aS fun K hK=>?_;simp -dsimp;apply hK;clear hK K;refine awp_seq_k fun K2 hK2=>?_;refine awp_cond rfl (fun hc0=>?_) (fun hc0=>?_)
 ·skip
  try simp at hc0
  obtain⟨x,hx⟩:∃x,l[k]?=some x:=⟨_,List.getElem?_eq_getElem hc0⟩;have wk:=zW k (by omega);refine awp_skip ?_;simp only[zT,reduceIte,Nat.reduceEqDiff];refine hK2 _ _ ?_;refine awp_prune [0,1,7,8] ?_;simp only[zP,Nat.reduceEqDiff,reduceIte];refine awp_seq_k fun K3 hK3=>?_;refine awp_block ?_;refine aS fun K hK=>?_;simp -dsimp;apply hK;clear hK K;refine aS fun K hK=>?_;simp -dsimp [hx];refine callK_intro _ (h x (List.mem_of_getElem? hx)) (by simp) ?_;simp -dsimp [hx];apply hK;clear hK K;refine awp_cond rfl (fun hc1=>?_) (fun hc1=>?_)
  ·skip
   try simp at hc1
   refine aS fun K hK=>?_;simp -dsimp;apply hK;clear hK K;exact awp_ret (by simp[firstI_hit hx hc1 k2])
  ·skip
   try simp at hc1
   refine awp_skip ?_;simp only[zT,reduceIte,Nat.reduceEqDiff];refine hK3 _ _ ?_;refine awp_prune [0,1,7,8] ?_;simp only[zP,Nat.reduceEqDiff,reduceIte];refine aR fun K hK=>?_;simp -dsimp [wk];apply hK;clear hK K;simp only[zT,reduceIte,Nat.reduceEqDiff];exact⟨k+1,⟨by omega,by rw[any_take hx,k2,hc1];rfl⟩,by omega,sub_same (by simp)⟩
 ·skip
  try simp at hc0
  have hall:=any_of_take (by omega) k2;refine awp_exit ?_;simp only[zT,reduceIte,Nat.reduceEqDiff];refine hK1 _ _ ?_;refine awp_prune [] ?_;simp only[zP,Nat.reduceEqDiff,reduceIte];refine aS fun K hK=>?_;simp -dsimp;apply hK;clear hK K;exact awp_ret (by simp[firstI_none hall])
theorem c_Cont_Strm (l:List Strm) (f:FuncId) (cl:List (List AV)) (q:Strm→Bool) (h:∀x∈l,PureCall Tryz.prog f (.agg x.cells::ipts cl) (Bo (q x))) (hn:l.length≤100000):
  PureCall Tryz.prog 267 [.lst 2 (l.map Strm.cells), .clo f (ipts cl)] (Bo (l.any q)):=by
 refine PureCall.of_body Tryz.func267 rfl (by decide) (by simp[Tryz.ntmps267]) ?_;simp only[Tryz.ntmps267,Tryz.results267];refine aS fun K hK=>?_;simp -dsimp;apply hK;clear hK K;refine aS fun K hK=>?_;simp -dsimp;refine callK_intro _ (c_Index_Strm l f cl q h hn) (by simp) ?_;simp -dsimp;apply hK;clear hK K;exact awp_ret (by simp[firstI_nn])
theorem c_Index_i (l:List Int) (f:FuncId) (cl:List (List AV)) (q:Int→Bool) (h:∀x∈l,PureCall Tryz.prog f (I x::ipts cl) (Bo (q x))) (hn:l.length≤100000):
  PureCall Tryz.prog 197 [iL l, .clo f (ipts cl)] (I (firstI l q)):=by
 refine PureCall.of_body Tryz.func197 rfl (by decide) (by simp[Tryz.ntmps197]) ?_;simp only[Tryz.ntmps197,Tryz.results197];refine aS fun K hK=>?_;simp -dsimp;apply hK;clear hK K;refine awp_seq_k fun K1 hK1=>?_;refine aS fun K hK=>?_;simp -dsimp;apply hK;clear hK K;refine awp_block ?_;refine awp_prune [0,1,7,8] ?_;simp only[zP,Nat.reduceEqDiff,reduceIte];refine awp_loop_l [0,1,7] (α:=Nat) (fun k=>[(8,I k)]) (fun _=>[]) (fun k=>k≤l.length∧(l.take k).any q=false) (fun k=>l.length-k) 0 ?_ ?_ ?_
 ·simp
 ·exact sub_same (by simp)
 rintro k ⟨k1,k2⟩;simp only[zP,Nat.reduceEqDiff,reduceIte];refine aS fun K hK=>?_;simp -dsimp;apply hK;clear hK K;refine awp_seq_k fun K2 hK2=>?_;refine awp_cond rfl (fun hc0=>?_) (fun hc0=>?_)
 ·skip
  try simp at hc0
  obtain⟨x,hx⟩:∃x,l[k]?=some x:=⟨_,List.getElem?_eq_getElem hc0⟩;have wk:=zW k (by omega);refine awp_skip ?_;simp only[zT,reduceIte,Nat.reduceEqDiff];refine hK2 _ _ ?_;refine awp_prune [0,1,7,8] ?_;simp only[zP,Nat.reduceEqDiff,reduceIte];refine awp_seq_k fun K3 hK3=>?_;refine awp_block ?_;refine aS fun K hK=>?_;simp -dsimp;apply hK;clear hK K;refine aS fun K hK=>?_;simp -dsimp [hx];refine callK_intro _ (h x (List.mem_of_getElem? hx)) (by simp) ?_;simp -dsimp [hx];apply hK;clear hK K;refine awp_cond rfl (fun hc1=>?_) (fun hc1=>?_)
  ·skip
   try simp at hc1
   refine aS fun K hK=>?_;simp -dsimp;apply hK;clear hK K;exact awp_ret (by simp[firstI_hit hx hc1 k2])
  ·skip
   try simp at hc1
   refine awp_skip ?_;simp only[zT,reduceIte,Nat.reduceEqDiff];refine hK3 _ _ ?_;refine awp_prune [0,1,7,8] ?_;simp only[zP,Nat.reduceEqDiff,reduceIte];refine aR fun K hK=>?_;simp -dsimp [wk];apply hK;clear hK K;simp only[zT,reduceIte,Nat.reduceEqDiff];exact⟨k+1,⟨by omega,by rw[any_take hx,k2,hc1];rfl⟩,by omega,sub_same (by simp)⟩
 ·skip
  try simp at hc0
  have hall:=any_of_take (by omega) k2;refine awp_exit ?_;simp only[zT,reduceIte,Nat.reduceEqDiff];refine hK1 _ _ ?_;refine awp_prune [] ?_;simp only[zP,Nat.reduceEqDiff,reduceIte];refine aS fun K hK=>?_;simp -dsimp;apply hK;clear hK K;exact awp_ret (by simp[firstI_none hall])
theorem c_Cont_i (l:List Int) (f:FuncId) (cl:List (List AV)) (q:Int→Bool) (h:∀x∈l,PureCall Tryz.prog f (I x::ipts cl) (Bo (q x))) (hn:l.length≤100000):
  PureCall Tryz.prog 114 [iL l, .clo f (ipts cl)] (Bo (l.any q)):=by
 refine PureCall.of_body Tryz.func114 rfl (by decide) (by simp[Tryz.ntmps114]) ?_;simp only[Tryz.ntmps114,Tryz.results114];refine aS fun K hK=>?_;simp -dsimp;apply hK;clear hK K;refine aS fun K hK=>?_;simp -dsimp;refine callK_intro _ (c_Index_i l f cl q h hn) (by simp) ?_;simp -dsimp;apply hK;clear hK K;exact awp_ret (by simp[firstI_nn])
theorem c_ContT (l:List Int) (k:Nat) (f:FuncId) (cl:List (List AV)) (q:Int→Bool) (h:∀x∈l.take k,PureCall Tryz.prog f (I x::ipts cl) (Bo (q x))) (hn:l.length≤100000):
  PureCall Tryz.prog 114 [.lst 1 (List.take k (l.map nCell)), .clo f (ipts cl)] (Bo ((l.take k).any q)):=by
 have:=c_Cont_i (l.take k) f cl q h (by rw[List.length_take];omega);unfold iL at this
 rwa [List.map_take]at this
theorem c_streams (j:Jn) (hf:Fit j):PureCall Tryz.prog 187 [j.av] (Bo (streamsB j)):=by
 have hx:=c_Cont_Strm j.Streams 268 [] (fun s=> !strmB s) (fun s _=>c_streams1 s) (by have:=hf.s;omega);have e:(!j.Streams.any fun s=> !strmB s)=j.Streams.all strmB:=by rw[List.any_eq_not_all_not];simp
 refine PureCall.of_body Tryz.func187 rfl (by decide) (by simp[Tryz.ntmps187]) ?_;simp only[Tryz.ntmps187,Tryz.results187];refine aS fun K hK=>?_;simp -dsimp;apply hK;clear hK K;refine aS fun K hK=>?_;simp -dsimp;refine callK_intro _ (c_within _ _ _) (by simp) ?_;simp -dsimp;refine callK_may _ (fun hm=>hx) (by simp) ?_;simp -dsimp;apply hK;clear hK K;refine awp_ret ?_;simp[streamsB,Jn.n,←e]
theorem clears_bad {j:Jn} {a b:Nat} (h:Sqr j) (ha:a<j.n) (hb:b<j.n) (hc:cellB j a b=false):clearsB j=false:=by
 cases hh:clearsB j with
 |false=>rfl
 |true=>
  simp only[clearsB,Bool.and_eq_true,List.all_eq_true,List.mem_range]at hh;rw[hh.2 a ha b hb]at hc;cases hc
theorem c_clears (j:Jn) (hf:Fit j):PureCall Tryz.prog 188 [j.av] (Bo (clearsB j)):=by
 have f1:=hf.s;have f2:=hf.c;refine PureCall.of_body Tryz.func188 rfl (by decide) (by simp[Tryz.ntmps188]) ?_;simp only[Tryz.ntmps188,Tryz.results188];refine aS fun K hK=>?_;simp -dsimp;apply hK;clear hK K;refine awp_seq_k fun K1 hK1=>?_;refine aS fun K hK=>?_;simp -dsimp;apply hK;clear hK K;refine awp_cond rfl (fun hc0=>?_) (fun hc0=>?_)
 ·skip
  try simp at hc0
  refine aS fun K hK=>?_;simp -dsimp;apply hK;clear hK K;have hne:¬j.Clears.length=j.n:=by simp only[Jn.n];omega
  exact awp_ret (by simp[clearsB,hne])
 ·skip
  try simp at hc0
  refine awp_skip ?_;simp only[zT,reduceIte,Nat.reduceEqDiff];refine hK1 _ _ ?_;refine awp_prune [1] ?_;simp only[zP,Nat.reduceEqDiff,reduceIte];refine awp_seq_k fun K2 hK2=>?_;refine aS fun K hK=>?_;simp -dsimp;apply hK;clear hK K;refine awp_block ?_;refine awp_prune [1,20,21,22] ?_;simp only[zP,Nat.reduceEqDiff,reduceIte];refine awp_loop_l [1,20,21] (α:=Nat) (fun k=>[(22,I k)]) (fun _=>[some (.els 6 [j.cells])]) (fun k=>k≤j.Clears.length∧(j.Clears.take k).all (fun r=>decide (r.length=j.n))=true) (fun k=>j.Clears.length-k) 0 ?_ ?_ ?_
  ·simp
  ·exact sub_same (by simp)
  rintro k ⟨k1,k2⟩;simp only[zP,Nat.reduceEqDiff,reduceIte];refine aS fun K hK=>?_;simp -dsimp;apply hK;clear hK K;refine awp_seq_k fun K3 hK3=>?_;refine awp_cond rfl (fun hc1=>?_) (fun hc1=>?_)
  ·skip
   try simp at hc1
   obtain⟨r,hr⟩:∃x,j.Clears[k]?=some x:=⟨_,List.getElem?_eq_getElem hc1⟩;have wk:=zW k (by omega);refine awp_skip ?_;simp only[zT,reduceIte,Nat.reduceEqDiff];refine hK3 _ _ ?_;refine awp_prune [1,20,21,22] ?_;simp only[zP,Nat.reduceEqDiff,reduceIte];refine awp_seq_k fun K4 hK4=>?_;refine awp_block ?_;refine aS fun K hK=>?_;simp -dsimp [hr];apply hK;clear hK K;refine aS fun K hK=>?_;simp -dsimp;apply hK;clear hK K;refine awp_cond rfl (fun hc2=>?_) (fun hc2=>?_)
   ·skip
    try simp at hc2
    refine aS fun K hK=>?_;simp -dsimp;apply hK;clear hK K;refine awp_ret ?_;have hrn:¬r.length=j.n:=by simp only[Jn.n];omega
    have:j.Clears.all (fun r=>decide (r.length=j.n))=false:=all_ff hr (decide_eq_false hrn);simp[clearsB,this]
   ·skip
    try simp at hc2
    have hrn:r.length=j.n:=by simp only[Jn.n];omega
    refine awp_skip ?_;simp only[zT,reduceIte,Nat.reduceEqDiff];refine hK4 _ _ ?_;refine awp_prune [1,20,21,22] ?_;simp only[zP,Nat.reduceEqDiff,reduceIte];refine aR fun K hK=>?_;simp -dsimp [wk];apply hK;clear hK K;simp only[zT,reduceIte,Nat.reduceEqDiff];exact⟨k+1,⟨by omega,by rw[take_all' hr,k2,decide_eq_true hrn];rfl⟩,by omega,sub_rb [some 0] rfl (by simp) (by simp)⟩
  ·skip
   try simp at hc1
   have hall:=all_of_take (by omega) k2;have hsq:Sqr j:=⟨by simp only[Jn.n];omega,fun r hr=>by simpa using List.all_eq_true.1 hall r hr⟩;clear k2;refine awp_exit ?_;simp only[zT,reduceIte,Nat.reduceEqDiff];refine hK2 _ _ ?_;refine awp_prune [1] ?_;simp only[zP,Nat.reduceEqDiff,reduceIte];refine awp_seq_k fun K5 hK5=>?_;refine aS fun K hK=>?_;simp -dsimp;apply hK;clear hK K;refine awp_block ?_;refine awp_prune [1,36,37,38] ?_;simp only[zP,Nat.reduceEqDiff,reduceIte];refine awp_loop_l [1,36,37] (α:=Nat) (fun a=>[(38,I a)]) (fun _=>[some (.els 6 [j.cells])]) (fun a=>a≤j.n∧∀a',a'<a→∀b,b<j.n→cellB j a' b=true) (fun a=>j.n-a) 0 ?_ ?_ ?_
   ·exact⟨Nat.zero_le _,fun a' h=>by omega⟩
   ·exact sub_same (by simp)
   rintro a ⟨a1,a2⟩;simp only[zP,Nat.reduceEqDiff,reduceIte];refine aS fun K hK=>?_;simp -dsimp;apply hK;clear hK K;refine awp_seq_k fun K6 hK6=>?_;refine awp_cond rfl (fun hc3=>?_) (fun hc3=>?_)
   ·skip
    try simp at hc3
    have ha:a<j.n:=by have:=hsq.len;omega
    have wa:IntKind.i64.wrap ((a:Int)+1)=(a:Int)+1:=wrap_in (by omega) (by simp only[Jn.n]at ha;omega);have ga:=hsq.row (a:=(a:Int)) (by omega) (by omega);simp only[Int.toNat_natCast]at ga;refine awp_skip ?_;simp only[zT,reduceIte,Nat.reduceEqDiff];refine hK6 _ _ ?_;refine awp_prune [1,36,37,38] ?_;simp only[zP,Nat.reduceEqDiff,reduceIte];refine awp_seq_k fun K7 hK7=>?_;refine awp_block ?_;refine aS fun K hK=>?_;simp -dsimp [ga.1];apply hK;clear hK K;refine aS fun K hK=>?_;simp -dsimp;apply hK;clear hK K;refine awp_block ?_;refine awp_prune [1,5,36,37,38,43,44,45] ?_;simp only[zP,Nat.reduceEqDiff,reduceIte];refine awp_loop_l [1,5,36,37,38,43,44] (α:=Nat) (fun b=>[(45,I b)]) (fun _=>[some (.els 6 [j.cells])]) (fun b=>b≤j.n∧∀b',b'<b→cellB j a b'=true) (fun b=>j.n-b) 0 ?_ ?_ ?_
    ·exact⟨Nat.zero_le _,fun b' h=>by omega⟩
    ·exact sub_same (by simp)
    rintro b ⟨b1,b2⟩;simp only[zP,Nat.reduceEqDiff,reduceIte];refine aS fun K hK=>?_;simp -dsimp;apply hK;clear hK K;refine awp_seq_k fun K8 hK8=>?_;refine awp_cond rfl (fun hc4=>?_) (fun hc4=>?_)
    ·skip
     try simp at hc4
     have hb:b<j.n:=by rw[ga.2]at hc4;exact hc4
     have wb:IntKind.i64.wrap ((b:Int)+1)=(b:Int)+1:=wrap_in (by omega) (by simp only[Jn.n]at hb;omega);have gb:=hsq.get (a:=(a:Int)) (b:=(b:Int)) (by omega) (by omega) (by omega) (by omega);have gb':=hsq.row (a:=(b:Int)) (by omega) (by omega);have gc:=hsq.get (a:=(b:Int)) (b:=(a:Int)) (by omega) (by omega) (by omega) (by omega);simp only[Int.toNat_natCast]at gb gb' gc;have wm1:IntKind.i64.wrap (-1)=-1:=wrap_in (by omega) (by omega);refine awp_skip ?_;simp only[zT,reduceIte,Nat.reduceEqDiff];refine hK8 _ _ ?_;refine awp_prune [1,5,36,37,38,43,44,45] ?_;simp only[zP,Nat.reduceEqDiff,reduceIte];refine awp_seq_k fun K9 hK9=>?_;refine awp_block ?_;refine aS fun K hK=>?_;simp -dsimp [gb];apply hK;clear hK K;refine aS fun K hK=>?_;simp -dsimp [gb'.1,gc,wm1];refine callK_intro _ (c_within _ _ _) (by simp) ?_;simp -dsimp [gb'.1,gc,wm1];refine idxK_intro (rCell (rowAt j.Clears b)) (fun _=>by simp[gb'.1]) ?_;simp -dsimp [gb'.1,gc,wm1];refine idxK_intro (nCell (clr j b a)) (fun _=>by simp[gc]) ?_;simp -dsimp [gb'.1,gc,wm1];refine⟨fun w=>ne_guard _ _ _ _ _ w und_bool,_,fun w=>ne_bool _ _ _ w kt_bool,?_⟩;simp -dsimp;apply hK;clear hK K;refine awp_cond rfl (fun hc5=>?_) (fun hc5=>?_)
     ·have hcell:cellB j a b= !(!inr (clr j ↑a ↑b) (-1) 60||(a:Int)== (b:Int)&&clr j ↑a ↑b !=-1||(clr j ↑a ↑b== -1) !=(clr j ↑b ↑a== -1)):=by
       simp only[cellB];have hab:decide ((a:Int)=(b:Int))=decide (a=b):=decide_eq_decide.2 (by omega);simp only[beq_d,bne,ne_eq,decide_not,hab]
       cases inr (clr j a b) (-1) 60<;>cases decide (a=b)<;>cases decide (clr j a b=-1)<;>cases decide (clr j b a=-1)<;>rfl
      refine aS fun K hK=>?_;simp -dsimp;apply hK;clear hK K;exact awp_ret (by simp[clears_bad hsq ha hb (by rw[hcell,hc5];rfl)])
     ·have hcell:cellB j a b= !(!inr (clr j ↑a ↑b) (-1) 60||(a:Int)== (b:Int)&&clr j ↑a ↑b !=-1||(clr j ↑a ↑b== -1) !=(clr j ↑b ↑a== -1)):=by
       simp only[cellB];have hab:decide ((a:Int)=(b:Int))=decide (a=b):=decide_eq_decide.2 (by omega);simp only[beq_d,bne,ne_eq,decide_not,hab]
       cases inr (clr j a b) (-1) 60<;>cases decide (a=b)<;>cases decide (clr j a b=-1)<;>cases decide (clr j b a=-1)<;>rfl
      refine awp_skip ?_;simp only[zT,reduceIte,Nat.reduceEqDiff];refine hK9 _ _ ?_;refine awp_prune [1,5,36,37,38,43,44,45] ?_;simp only[zP,Nat.reduceEqDiff,reduceIte];refine aR fun K hK=>?_;simp -dsimp [wb];apply hK;clear hK K;simp only[zT,reduceIte,Nat.reduceEqDiff];exact⟨b+1,⟨by omega,fun b' h=>by rcases Nat.lt_succ_iff_lt_or_eq.1 h with h|rfl;exact b2 b' h;rw[hcell,hc5];rfl⟩,by omega,sub_rb [some 0] rfl (by simp) (by simp)⟩
    ·skip
     try simp at hc4
     refine awp_exit ?_;simp only[zT,reduceIte,Nat.reduceEqDiff];refine hK7 _ _ ?_;refine awp_prune [1,36,37,38] ?_;simp only[zP,Nat.reduceEqDiff,reduceIte];refine aR fun K hK=>?_;simp -dsimp [wa];apply hK;clear hK K;simp only[zT,reduceIte,Nat.reduceEqDiff];exact⟨a+1,⟨by omega,fun a' h b hb=>by rcases Nat.lt_succ_iff_lt_or_eq.1 h with h|rfl;exact a2 a' h b hb;exact b2 b (by omega)⟩,by omega,sub_rb [some 0] rfl (by simp) (by simp)⟩
   ·skip
    try simp at hc3
    refine awp_exit ?_;simp only[zT,reduceIte,Nat.reduceEqDiff];refine hK5 _ _ ?_;refine awp_prune [] ?_;simp only[zP,Nat.reduceEqDiff,reduceIte];refine aS fun K hK=>?_;simp -dsimp;apply hK;clear hK K;have hfin:clearsB j=true:=by
     have hall':(List.range j.n).all (fun a=>(List.range j.n).all fun b=>cellB j a b)=true:=by
      simp only[List.all_eq_true,List.mem_range];exact fun a ha b hb=>a2 a (by have:=hsq.len;omega) b hb
     simp only[clearsB,decide_eq_true hsq.len,hall,hall',Bool.true_and]
    exact awp_ret (by simp[hfin])
end Go.Street
end
section
namespace Go.Street
open Go.AM Go.Proofs
def strm (j:Jn) (s:Int):Strm:=(j.Streams[s.toNat]?).getD ⟨0,0⟩
theorem strm_get {j:Jn} {s:Int} (h0:0≤s) (h1:s<j.n):j.Streams[s.toNat]?=some (strm j s):=by
 unfold strm;rw[List.getElem?_eq_getElem (by simp only[Jn.n]at h1;omega)];rfl
def maxL (j:Jn) (p:List Int):Int:=p.foldl (fun m s=>maxI m (strm j s).Least) 0
def elB (j:Jn) (p:List Int) (k:Nat):Bool:=inr (at0 p k) 0 ((j.n:Int)-1)&& !(decide (0<k)&&decide (at0 p k≤at0 p (k-1:Nat)))&& !(p.take k).any fun x=>conf j x (at0 p k)
def phB (j:Jn) (p:List Int) (lim:Int):Bool:=(List.range p.length).all (elB j p)&&decide (p.length≠0)&&inr lim (maxI 1 (maxL j p)) 600
def phasesB (j:Jn):Bool:=inr j.Phases.length 1 12&&decide (j.Longest.length=j.Phases.length)&&inr j.Skips 0 20&&((List.range j.Phases.length).all fun i=>phB j (rowAt j.Phases i) (at0 j.Longest i))&&(List.range j.n).all fun(a:Nat)=>decide ((a:Int)∈j.Phases.flatten)
theorem maxL_snoc {j:Jn} {p:List Int} {k:Nat} {s:Int} (h:p[k]?=some s):maxL j (p.take (k+1))=maxI (maxL j (p.take k)) (strm j s).Least:=by
 rw[List.take_add_one,h];simp[maxL]
theorem flat_snoc {m:List (List Int)} {i:Nat} {r:List Int} (h:m[i]?=some r):(m.take (i+1)).flatten=(m.take i).flatten++r:=by
 rw[List.take_add_one,h];simp
theorem c_phases1 (j:Jn) (x s:Int) (h:Sqr j) (h0:0≤x) (h1:x<j.n) (k0:0≤s) (k1:s<j.n):PureCall Tryz.prog 269 (I x::ipts [j.cells,[I s]]) (Bo (conf j x s)):=by
 show PureCall Tryz.prog 269 [I x, .iptr j.cells, .iptr [I s]] (Bo (conf j x s));refine PureCall.of_body Tryz.func269 rfl (by decide) (by simp[Tryz.ntmps269]) ?_;simp only[Tryz.ntmps269,Tryz.results269];refine aS fun K hK=>?_;simp -dsimp;apply hK;clear hK K;refine aS fun K hK=>?_;simp -dsimp;refine callK_intro _ (c_conflict j x s h h0 h1 k0 k1) (by simp) ?_;simp -dsimp;apply hK;clear hK K;exact awp_ret (by simp)
theorem c_phases (j:Jn) (hf:Fit j) (hs:Sqr j) (hst:streamsB j=true):PureCall Tryz.prog 189 [j.av] (Bo (phasesB j)):=by
 have f1:=hf.s;have f2:=hf.p;have f3:=hf.l;have hn:1≤j.n∧j.n≤20:=by simp only[streamsB,Bool.and_eq_true,inr_iff]at hst;omega
 have hnl:j.n=j.Streams.length:=rfl;have wn:IntKind.i64.wrap ((j.Streams.length:Int)-1)=(j.n:Int)-1:=by rw[←hnl];exact wrap_in (by omega) (by omega)
 have hbad:∀{i k:Nat},i<j.Phases.length→k<(rowAt j.Phases i).length→elB j (rowAt j.Phases i) k=false→phasesB j=false:=by
  intro i k hi hk he
  cases hh:phasesB j with
  |false=>rfl
  |true=>
   simp only[phasesB,phB,Bool.and_eq_true,List.all_eq_true,List.mem_range]at hh;rw[(hh.1.2 i hi).1.1 k hk]at he;cases he
 refine PureCall.of_body Tryz.func189 rfl (by decide) (by simp[Tryz.ntmps189]) ?_;simp only[Tryz.ntmps189,Tryz.results189];refine aS fun K hK=>?_;simp -dsimp;apply hK;clear hK K;refine awp_seq_k fun K1 hK1=>?_;refine aS fun K hK=>?_;simp -dsimp;refine callK_intro _ (c_within _ _ _) (by simp) ?_;simp -dsimp;refine callK_may _ (fun hm=>c_within j.Skips 0 20) (by simp) ?_;simp -dsimp;apply hK;clear hK K;refine awp_cond rfl (fun hc0=>?_) (fun hc0=>?_)
 ·skip
  try simp at hc0
  refine aS fun K hK=>?_;simp -dsimp;apply hK;clear hK K;have hfin:phasesB j=false:=by
   cases hh:phasesB j with
   |false=>rfl
   |true=>
    simp only[phasesB,Bool.and_eq_true,decide_eq_true_eq]at hh;simp[hh.1.1.1.1,hh.1.1.2,hh.1.1.1.2]at hc0
  exact awp_ret (by simp[hfin])
 ·skip
  try simp at hc0
  have hP:=inr_iff.1 hc0.1.1;have hL:j.Longest.length=j.Phases.length:=by have:=hc0.1.2;omega
  refine awp_skip ?_;simp only[zT,reduceIte,Nat.reduceEqDiff];refine hK1 _ _ ?_;refine awp_prune [1] ?_;simp only[zP,Nat.reduceEqDiff,reduceIte];refine aS fun K hK=>?_;simp -dsimp;apply hK;clear hK K;refine awp_seq_k fun K2 hK2=>?_;refine aS fun K hK=>?_;simp -dsimp;apply hK;clear hK K;refine awp_block ?_;refine awp_prune [1,3,36,37,38] ?_;simp only[zP,Nat.reduceEqDiff,reduceIte];refine awp_loop_l [1,3,36,37] (α:=Nat) (fun i=>[(38,I i)]) (fun i=>[some (.els 6 [j.cells]),some (.map false [.i .i64] (metK (j.Phases.take i).flatten))]) (fun i=>i≤j.Phases.length∧∀i',i'<i→phB j (rowAt j.Phases i') (at0 j.Longest i')=true) (fun i=>j.Phases.length-i) 0 ?_ ?_ ?_
  ·exact⟨Nat.zero_le _,fun i' h=>by omega⟩
  ·exact sub_same (by simp)
  rintro i ⟨i1,i2⟩;simp only[zP,Nat.reduceEqDiff,reduceIte];refine aS fun K hK=>?_;simp -dsimp;apply hK;clear hK K;refine awp_seq_k fun K3 hK3=>?_;refine awp_cond rfl (fun hc1=>?_) (fun hc1=>?_)
  ·skip
   try simp at hc1
   have gp:=rowAt_nat hc1;have hpl:=hf.ps _ (List.mem_of_getElem? gp);have wi:=zW i (by omega);generalize hp:rowAt j.Phases i=p at gp hpl;refine awp_skip ?_;simp only[zT,reduceIte,Nat.reduceEqDiff];refine hK3 _ _ ?_;refine awp_prune [1,3,36,37,38] ?_;simp only[zP,Nat.reduceEqDiff,reduceIte];refine awp_seq_k fun K4 hK4=>?_;refine awp_block ?_;refine aS fun K hK=>?_;simp -dsimp [gp];apply hK;clear hK K;refine aS fun K hK=>?_;simp -dsimp;apply hK;clear hK K;refine awp_seq_k fun K5 hK5=>?_;refine aS fun K hK=>?_;simp -dsimp;apply hK;clear hK K;refine awp_block ?_;refine awp_prune [1,3,4,5,6,36,37,38,43,44,45] ?_;simp only[zP,Nat.reduceEqDiff,reduceIte];refine awp_loop_l [1,3,4,5,36,37,38,43,44] (α:=Nat) (fun k=>[(6,I (maxL j (p.take k))),(45,I k)]) (fun k=>[some (.els 6 [j.cells]),some (.map false [.i .i64] (metK ((j.Phases.take i).flatten++p.take k)))]) (fun k=>k≤p.length∧∀k',k'<k→elB j p k'=true) (fun k=>p.length-k) 0 ?_ ?_ ?_
   ·exact⟨Nat.zero_le _,fun k' h=>by omega⟩
   ·exact sub_rb [some 0,some 1] rfl (by simp[maxL]) (by simp)
   rintro k ⟨k1,k2⟩;simp only[zP,Nat.reduceEqDiff,reduceIte];refine aS fun K hK=>?_;simp -dsimp;apply hK;clear hK K;refine awp_seq_k fun K6 hK6=>?_;refine awp_cond rfl (fun hc2=>?_) (fun hc2=>?_)
   ·skip
    try simp at hc2
    have gs:=at0_nat hc2;have wk:=zW k (by omega);have wm:0<k→IntKind.i64.wrap ((k:Int)-1)=((k-1:Nat):Int):=fun h=>by rw[wrap_in (by omega) (by omega)];omega
    have gm:0<k→p[k-1]?=some (at0 p (k-1:Nat)):=fun h=>at0_nat (by omega);have hkl:k≤p.length:=by omega
    have hin:∀x∈p.take k,0≤x∧x<j.n:=by
     intro x hx;obtain⟨k',hk'⟩:=List.getElem?_of_mem hx;have hlt:=(List.getElem?_eq_some_iff.1 hk').1;rw[List.length_take]at hlt;have he:=k2 k' (by omega);rw[List.getElem?_take,if_pos (by omega)]at hk';simp only[elB,at0_of hk',Bool.and_eq_true,inr_iff]at he;omega
    generalize hsv:at0 p k=s at gs;refine awp_skip ?_;simp only[zT,reduceIte,Nat.reduceEqDiff];refine hK6 _ _ ?_;refine awp_prune [1,3,4,5,6,36,37,38,43,44,45] ?_;simp only[zP,Nat.reduceEqDiff,reduceIte];refine awp_seq_k fun K7 hK7=>?_;refine awp_block ?_;refine aS fun K hK=>?_;simp -dsimp [gs];apply hK;clear hK K;refine awp_seq_k fun K8 hK8=>?_;refine awp_sd mixed rfl fun K hK=>?_;simp -dsimp [wn,hkl];refine callK_intro _ (c_within _ _ _) (by simp) ?_;simp -dsimp [wn,hkl];refine⟨fun _ h=>by rw[wm h];omega,idxK_intro (nCell (at0 p (k-1:Nat))) (fun hm=>by simp at hm;rw[wm hm.2];simp[gm hm.2]) ?_⟩;simp -dsimp [wn,hkl];refine callK_may _ (fun hm=>c_ContT p k 269 [j.cells,[I s]] (fun x=>conf j x s) (fun x hx=>by simp at hm;have hsn:=inr_iff.1 hm.1;exact c_phases1 j x s hs (hin x hx).1 (hin x hx).2 hsn.1 (by omega)) (by omega)) (by simp) ?_;simp -dsimp [wn,hkl];refine hK _ _ _ (by decide+kernel) ?_;clear hK K;refine awp_cond rfl (fun hc3=>?_) (fun hc3=>?_)
    ·have helB:elB j p k= !(!inr s 0 (↑j.n-1)||decide (0<k)&&decide (s≤at0 p (k-1:Nat))||(p.take k).any fun x=>conf j x s):=by
      simp only[elB,hsv]
      cases inr s 0 (↑j.n-1)<;>cases decide (0<k)<;>cases decide (s≤at0 p (k-1:Nat))<;>cases ((p.take k).any fun x=>conf j x s)<;>rfl
     refine aS fun K hK=>?_;simp -dsimp;apply hK;clear hK K;exact awp_ret (by simp[hbad hc1 (by rw[hp];exact hc2) (by rw[hp,helB,hc3];rfl)])
    ·have helB:elB j p k= !(!inr s 0 (↑j.n-1)||decide (0<k)&&decide (s≤at0 p (k-1:Nat))||(p.take k).any fun x=>conf j x s):=by
      simp only[elB,hsv]
      cases inr s 0 (↑j.n-1)<;>cases decide (0<k)<;>cases decide (s≤at0 p (k-1:Nat))<;>cases ((p.take k).any fun x=>conf j x s)<;>rfl
     have hel:elB j p k=true:=by rw[helB,hc3];rfl
     have hsr:0≤s∧s<j.n:=by have:=hel;simp only[elB,hsv,Bool.and_eq_true,inr_iff]at this;omega
     have gst:=strm_get hsr.1 hsr.2;refine awp_skip ?_;simp only[zT,reduceIte,Nat.reduceEqDiff];refine hK8 _ _ ?_;refine awp_prune [1,3,4,5,6,8,36,37,38,43,44,45] ?_;simp only[zP,Nat.reduceEqDiff,reduceIte];refine aS fun K hK=>?_;simp -dsimp [metK_snoc];apply hK;clear hK K;refine aR fun K hK=>?_;simp -dsimp [gst,hsr.1];apply hK;clear hK K;simp only[zT,reduceIte,Nat.reduceEqDiff];refine hK7 _ _ ?_;refine awp_prune [1,3,4,5,6,36,37,38,43,44,45] ?_;simp only[zP,Nat.reduceEqDiff,reduceIte];refine aR fun K hK=>?_;simp -dsimp [wk];apply hK;clear hK K;simp only[zT,reduceIte,Nat.reduceEqDiff];have hps:p[k]?=some s:=gs;exact⟨k+1,⟨by omega,fun k' h=>by rcases Nat.lt_succ_iff_lt_or_eq.1 h with h|rfl;exact k2 k' h;exact hel⟩,by omega,sub_rb [some 0,some 1] rfl (by simp[maxL_snoc hps]) (by simp[List.take_add_one,hps])⟩
   ·skip
    try simp at hc2
    have gL:=at0_nat (l:=j.Longest) (k:=i) (by omega);refine awp_exit ?_;simp only[zT,reduceIte,Nat.reduceEqDiff];refine hK5 _ _ ?_;refine awp_prune [1,3,4,5,6,36,37,38] ?_;simp only[zP,Nat.reduceEqDiff,reduceIte];refine aS fun K hK=>?_;simp -dsimp;refine idxK_intro (nCell (at0 j.Longest i)) (fun _=>by simp[gL]) ?_;simp -dsimp;refine callK_may _ (fun hm=>c_within _ _ _) (by simp) ?_;simp -dsimp;apply hK;clear hK K;refine awp_cond rfl (fun hc4=>?_) (fun hc4=>?_)
    ·have htk:p.take k=p:=List.take_of_length_le (by omega);have hph:phB j p (at0 j.Longest i)= !(p.length==0|| !inr (at0 j.Longest i) (maxI 1 (maxL j p)) 600):=by
      have hall:(List.range p.length).all (elB j p)=true:=by
       simp only[List.all_eq_true,List.mem_range];exact fun k' h=>k2 k' (by omega)
      simp only[phB,hall,Bool.true_and]
      cases inr (at0 j.Longest i) (maxI 1 (maxL j p)) 600<;>by_cases h:p.length=0<;>simp[h]
     rw[htk]at hc4;refine aS fun K hK=>?_;simp -dsimp;apply hK;clear hK K;have hfin:phasesB j=false:=by
      cases hh:phasesB j with
      |false=>rfl
      |true=>
       simp only[phasesB,Bool.and_eq_true,List.all_eq_true,List.mem_range]at hh;have:=hh.1.2 i hc1;rw[hp,hph]at this;simp only[maxI]at this;have hc4b:(((p.length:Int)==0)|| !inr (at0 j.Longest ↑i) (if 1<maxL j p then maxL j p else 1) 600)=true:=hc4;rw[len_beq0]at hc4b;rw[hc4b]at this;cases this
     exact awp_ret (by simp[hfin])
    ·have htk:p.take k=p:=List.take_of_length_le (by omega);have hph:phB j p (at0 j.Longest i)= !(p.length==0|| !inr (at0 j.Longest i) (maxI 1 (maxL j p)) 600):=by
      have hall:(List.range p.length).all (elB j p)=true:=by
       simp only[List.all_eq_true,List.mem_range];exact fun k' h=>k2 k' (by omega)
      simp only[phB,hall,Bool.true_and]
      cases inr (at0 j.Longest i) (maxI 1 (maxL j p)) 600<;>by_cases h:p.length=0<;>simp[h]
     rw[htk]at hc4;have hpt:phB j p (at0 j.Longest i)=true:=by
      rw[hph];simp only[maxI];have hc4b:(((p.length:Int)==0)|| !inr (at0 j.Longest ↑i) (if 1<maxL j p then maxL j p else 1) 600)=false:=hc4;rw[len_beq0]at hc4b;rw[hc4b];rfl
     refine awp_skip ?_;simp only[zT,reduceIte,Nat.reduceEqDiff];refine hK4 _ _ ?_;refine awp_prune [1,3,36,37,38] ?_;simp only[zP,Nat.reduceEqDiff,reduceIte];refine aR fun K hK=>?_;simp -dsimp [wi];apply hK;clear hK K;simp only[zT,reduceIte,Nat.reduceEqDiff];refine⟨i+1,⟨by omega,fun i' h=>?_⟩,by omega,sub_rb [some 0,some 1] rfl (by simp) (by simp[flat_snoc gp,htk])⟩
     rcases Nat.lt_succ_iff_lt_or_eq.1 h with h|rfl
     ·exact i2 i' h
     ·rw[hp];exact hpt
  ·skip
   try simp at hc1
   have htP:j.Phases.take i=j.Phases:=List.take_of_length_le (by omega);refine awp_exit ?_;simp only[zT,reduceIte,Nat.reduceEqDiff];refine hK2 _ _ ?_;refine awp_prune [1,3] ?_;simp only[zP,Nat.reduceEqDiff,reduceIte];refine aS fun K hK=>?_;simp -dsimp [metK_len,htP];apply hK;clear hK K;have hphall:(List.range j.Phases.length).all (fun i=>phB j (rowAt j.Phases i) (at0 j.Longest i))=true:=by
    simp only[List.all_eq_true,List.mem_range];exact fun i' h=>i2 i' (by omega)
   have hb:∀x∈dd j.Phases.flatten,0≤x∧x<j.n:=by
    intro x hx;rw[dd_mem]at hx;obtain⟨p,hp,hxp⟩:=List.mem_flatten.1 hx;obtain⟨i',hi'⟩:=List.getElem?_of_mem hp;obtain⟨k',hk'⟩:=List.getElem?_of_mem hxp;have:=i2 i' (by have:=(List.getElem?_eq_some_iff.1 hi').1;omega);simp only[phB,rowAt_of hi',Bool.and_eq_true,List.all_eq_true,List.mem_range]at this;have:=this.1.1 k' (List.getElem?_eq_some_iff.1 hk').1;simp only[elB,at0_of hk',Bool.and_eq_true,inr_iff]at this;omega
   have hfull:=full_iff (dd_nodup j.Phases.flatten) hb;have hfin:phasesB j=((((dd j.Phases.flatten).length:Nat):Int)== (j.Streams.length:Int)):=by
    have e1:phasesB j=((List.range j.n).all fun(a:Nat)=>decide ((a:Int)∈j.Phases.flatten)):=by
     simp only[phasesB,hphall,Bool.and_true,inr_iff.2 hP,decide_eq_true hL,hc0.2,Bool.true_and]
    rw[e1,Bool.eq_iff_iff,beq_d,decide_eq_true_iff];simp only[List.all_eq_true,List.mem_range,decide_eq_true_eq];rw[show((((dd j.Phases.flatten).length:Nat):Int)=(j.Streams.length:Int))↔(dd j.Phases.flatten).length=j.n by rw[hnl];omega,hfull];simp only[dd_mem]
   exact awp_ret (by simp[hfin])
end Go.Street
end
section
namespace Go.Street
open Go.AM Go.Proofs
def mkey (m:Mv):List KC:=[.i .i64 m.Rail, .b m.Back]
def gkv (l:List Gt):List (List KC×Value):=l.map fun g=>(mkey g.M, .bool true)
theorem mkey_inj {a b:Mv}:mkey a=mkey b↔a=b:=by
 obtain⟨a1,a2⟩:=a;obtain⟨b1,b2⟩:=b;simp[mkey]
theorem gkv_get:∀(l:List Gt) (m:Mv),kvGet (gkv l) (mkey m)=if (l.any fun g=>decide (g.M=m))=true then some (.bool true)else none
 |[],m=>rfl
 |g::l,m=>by
  have ih:=gkv_get l m;simp only[gkv]at ih;simp only[gkv,List.map_cons,kvGet,List.any_cons,Bool.or_eq_true,decide_eq_true_eq]
  by_cases h:g.M=m
  ·rw[if_pos (by rw[h]),if_pos (Or.inl h)]
  ·rw[if_neg (fun e=>h (mkey_inj.1 e).symm),ih];simp only[h,false_or]
theorem gkv_snoc:∀(l:List Gt) (g:Gt),(l.any fun x=>decide (x.M=g.M))=false→kvSet (gkv l) (mkey g.M) (.bool true)=gkv (l++[g])
 |[],g,_=>rfl
 |x::l,g,h=>by
  simp only[List.any_cons,Bool.or_eq_false_iff,decide_eq_false_iff_not]at h;have ih:=gkv_snoc l g h.2;simp only[gkv]at ih;simp only[gkv,List.map_cons,List.cons_append,kvSet];rw[if_neg (fun e=>h.1 (mkey_inj.1 e).symm),ih]
theorem gkv_look (l:List Gt) (m:Mv):((kvGet (gkv l) [.i .i64 m.Rail, .b m.Back]).getD (.bool false))= .bool (l.any fun g=>decide (g.M=m)):=by
 rw[show([KC.i .i64 m.Rail,KC.b m.Back]:List KC)=mkey m from rfl,gkv_get]
 cases (l.any fun g=>decide (g.M=m))<;>rfl
def gtB (j:Jn) (l:List Gt) (g:Gt):Bool:= !(l.any fun x=>decide (x.M=g.M))&&inr g.Stream 0 ((j.n:Int)-1)&&decide ((strm j g.Stream).Kind=1)
def gatesTo (j:Jn):Nat→Bool
 |0=>true
 |k+1=>gatesTo j k&&(match j.Gates[k]? with|some g=>gtB j (j.Gates.take k) g|none=>true)
def gatesB (j:Jn):Bool:=gatesTo j j.Gates.length&&decide (j.Gates.length≤20)
theorem gatesTo_ff {j:Jn} {k:Nat} (h:gatesTo j k=false):∀d,gatesTo j (k+d)=false
 |0=>h
 |d+1=>by rw[←Nat.add_assoc];simp only[gatesTo,gatesTo_ff h d,Bool.false_and]
theorem gatesTo_succ {j:Jn} {k:Nat} {g:Gt} (h:j.Gates[k]?=some g):gatesTo j (k+1)=(gatesTo j k&&gtB j (j.Gates.take k) g):=by simp only[gatesTo,h]
theorem c_gates (j:Jn) (hf:Fit j) (hst:streamsB j=true):PureCall Tryz.prog 190 [j.av] (Bo (gatesB j)):=by
 have f1:=hf.s;have f2:=hf.g;have hn:1≤j.n∧j.n≤20:=by simp only[streamsB,Bool.and_eq_true,inr_iff]at hst;omega
 have hnl:j.n=j.Streams.length:=rfl;have wn:IntKind.i64.wrap ((j.Streams.length:Int)-1)=(j.n:Int)-1:=by rw[←hnl];exact wrap_in (by omega) (by omega)
 refine PureCall.of_body Tryz.func190 rfl (by decide) (by simp[Tryz.ntmps190]) ?_;simp only[Tryz.ntmps190,Tryz.results190];refine aS fun K hK=>?_;simp -dsimp;apply hK;clear hK K;refine aS fun K hK=>?_;simp -dsimp;apply hK;clear hK K;refine awp_seq_k fun K1 hK1=>?_;refine aS fun K hK=>?_;simp -dsimp;apply hK;clear hK K;refine awp_block ?_;refine awp_prune [1,3,9,10,11] ?_;simp only[zP,Nat.reduceEqDiff,reduceIte];refine awp_loop_l [1,3,9,10] (α:=Nat) (fun k=>[(11,I k)]) (fun k=>[some (.els 6 [j.cells]),some (.map true [.i .i64, .b] (gkv (j.Gates.take k)))]) (fun k=>k≤j.Gates.length∧gatesTo j k=true) (fun k=>j.Gates.length-k) 0 ?_ ?_ ?_
 ·exact⟨Nat.zero_le _,rfl⟩
 ·exact sub_rb [some 0,some 1] rfl (by simp) (by simp[gkv])
 rintro k ⟨k1,k2⟩;simp only[zP,Nat.reduceEqDiff,reduceIte];refine aS fun K hK=>?_;simp -dsimp;apply hK;clear hK K;refine awp_seq_k fun K2 hK2=>?_;refine awp_cond rfl (fun hc0=>?_) (fun hc0=>?_)
 ·skip
  try simp at hc0
  obtain⟨g,hg⟩:∃g,j.Gates[k]?=some g:=⟨_,List.getElem?_eq_getElem hc0⟩;have wk:=zW k (by omega);refine awp_skip ?_;simp only[zT,reduceIte,Nat.reduceEqDiff];refine hK2 _ _ ?_;refine awp_prune [1,3,9,10,11] ?_;simp only[zP,Nat.reduceEqDiff,reduceIte];refine awp_seq_k fun K3 hK3=>?_;refine awp_block ?_;refine aS fun K hK=>?_;simp -dsimp [hg];apply hK;clear hK K;refine awp_seq_k fun K4 hK4=>?_;refine aS fun K hK=>?_;simp -dsimp [wn,gkv_look];refine valK_intro (_) (fun hm=>rfl) ?_;simp -dsimp [wn,gkv_look];refine callK_may _ (fun hm=>c_within g.Stream 0 ((j.n:Int)-1)) (by simp) ?_;simp -dsimp [wn,gkv_look];refine⟨by simp only[inr_iff];intros;omega,idxK_intro (strm j g.Stream).cells (fun hm=>by simp at hm;have hr:=inr_iff.1 hm.2;simp[strm_get hr.1 (show g.Stream<j.n by omega)]) ?_⟩;simp -dsimp [wn];apply hK;clear hK K;refine awp_cond rfl (fun hc1=>?_) (fun hc1=>?_)
  ·have hgt:gtB j (j.Gates.take k) g= !(((List.take k j.Gates).any fun x=>decide (x.M=g.M))|| !inr g.Stream 0 (↑j.n-1)||(strm j g.Stream).Kind !=1):=by
    simp only[gtB,bne,beq_d]
    cases ((List.take k j.Gates).any fun x=>decide (x.M=g.M))<;>cases inr g.Stream 0 (↑j.n-1)<;>cases decide ((strm j g.Stream).Kind=1)<;>rfl
   refine aS fun K hK=>?_;simp -dsimp;apply hK;clear hK K;have hfin:gatesB j=false:=by
    have h1:gatesTo j (k+1)=false:=by rw[gatesTo_succ hg,hgt,hc1];simp
    have h2:=gatesTo_ff h1 (j.Gates.length-(k+1));rw[show k+1+(j.Gates.length-(k+1))=j.Gates.length by omega]at h2;simp[gatesB,h2]
   exact awp_ret (by simp[hfin])
  ·have hgt:gtB j (j.Gates.take k) g= !(((List.take k j.Gates).any fun x=>decide (x.M=g.M))|| !inr g.Stream 0 (↑j.n-1)||(strm j g.Stream).Kind !=1):=by
    simp only[gtB,bne,beq_d]
    cases ((List.take k j.Gates).any fun x=>decide (x.M=g.M))<;>cases inr g.Stream 0 (↑j.n-1)<;>cases decide ((strm j g.Stream).Kind=1)<;>rfl
   have hg1:gtB j (j.Gates.take k) g=true:=by rw[hgt,hc1];rfl
   have hany:((j.Gates.take k).any fun x=>decide (x.M=g.M))=false:=by
    simp only[gtB,Bool.and_eq_true,Bool.not_eq_true']at hg1;exact hg1.1.1
   have hset:kvSet (gkv (j.Gates.take k)) [.i .i64 g.M.Rail, .b g.M.Back] (.bool true)=gkv (j.Gates.take (k+1)):=by
    have:=gkv_snoc (j.Gates.take k) g hany;rw[List.take_add_one,hg];exact this
   refine awp_skip ?_;simp only[zT,reduceIte,Nat.reduceEqDiff];refine hK4 _ _ ?_;refine awp_prune [1,3,5,9,10,11] ?_;simp only[zP,Nat.reduceEqDiff,reduceIte];refine aR fun K hK=>?_;simp -dsimp [hset];apply hK;clear hK K;simp only[zT,reduceIte,Nat.reduceEqDiff];refine hK3 _ _ ?_;refine awp_prune [1,3,9,10,11] ?_;simp only[zP,Nat.reduceEqDiff,reduceIte];refine aR fun K hK=>?_;simp -dsimp [wk];apply hK;clear hK K;simp only[zT,reduceIte,Nat.reduceEqDiff];exact⟨k+1,⟨by omega,by rw[gatesTo_succ hg,k2,hg1];rfl⟩,by omega,sub_rb [some 0,some 1] rfl (by simp) (by simp)⟩
 ·skip
  try simp at hc0
  refine awp_exit ?_;simp only[zT,reduceIte,Nat.reduceEqDiff];refine hK1 _ _ ?_;refine awp_prune [1] ?_;simp only[zP,Nat.reduceEqDiff,reduceIte];refine aS fun K hK=>?_;simp -dsimp;apply hK;clear hK K;have hkk:k=j.Gates.length:=by omega
  subst hkk;have h20:decide ((j.Gates.length:Int)≤20)=decide (j.Gates.length≤20):=decide_eq_decide.2 (by omega);exact awp_ret (by simp only[retQ,resP,tupOf];simp[gatesB,k2,h20])
def jnB (j:Jn):Bool:=streamsB j&&clearsB j&&phasesB j&&gatesB j
theorem clears_sqr {j:Jn} (h:clearsB j=true):Sqr j:=by
 simp only[clearsB,Bool.and_eq_true,decide_eq_true_eq,List.all_eq_true]at h;exact⟨h.1.1,h.1.2⟩
def chk (j:Jn):Nat→Bool
 |0=>true
 |1=>streamsB j
 |2=>streamsB j&&clearsB j
 |3=>streamsB j&&clearsB j&&phasesB j
 |_=>jnB j
theorem c_Check (j:Jn) (hf:Fit j):PureCall Tryz.prog 104 [j.av] (I (if jnB j then 0 else 2)):=by
 have w1:IntKind.i64.wrap 1=1:=wrap_in (by omega) (by omega);have w2:IntKind.i64.wrap 2=2:=wrap_in (by omega) (by omega);have w3:IntKind.i64.wrap 3=3:=wrap_in (by omega) (by omega);have w4:IntKind.i64.wrap 4=4:=wrap_in (by omega) (by omega);refine PureCall.of_body Tryz.func104 rfl (by decide) (by simp[Tryz.ntmps104]) ?_;simp only[Tryz.ntmps104,Tryz.results104];refine aS fun K hK=>?_;simp -dsimp [w1,w2,w3,w4];apply hK;clear hK K;refine aS fun K hK=>?_;simp -dsimp [w1,w2,w3,w4];apply hK;clear hK K;refine aS fun K hK=>?_;simp -dsimp [w1,w2,w3,w4];apply hK;clear hK K;refine awp_seq_k fun K1 hK1=>?_;refine aS fun K hK=>?_;simp -dsimp [w1,w2,w3,w4];apply hK;clear hK K;refine awp_block ?_;refine awp_prune [18,19] ?_;simp only[zP,Nat.reduceEqDiff,reduceIte];refine awp_loop_l [18] (α:=Nat) (fun k=>[(19,I k)]) (fun _=>[some (.els 6 [j.cells]),some (.els 6 [j.cells])]) (fun k=>k≤4∧chk j k=true) (fun k=>4-k) 0 ?_ ?_ ?_
 ·exact⟨by omega,rfl⟩
 ·exact sub_rb [some 0,some 1] rfl (by simp) (by simp)
 rintro k ⟨k1,k2⟩;have hk:k=0∨k=1∨k=2∨k=3∨k=4:=by omega
 rcases hk with rfl|rfl|rfl|rfl|rfl
 ·simp only[zP,Nat.reduceEqDiff,reduceIte];refine aS fun K hK=>?_;simp -dsimp [w1,w2,w3,w4];apply hK;clear hK K;refine awp_seq_k fun K2 hK2=>?_;refine awp_cond rfl (fun hc0=>?_) (fun hc0=>?_)
  ·refine awp_skip ?_;simp only[zT,reduceIte,Nat.reduceEqDiff];refine hK2 _ _ ?_;refine awp_prune [18,19] ?_;simp only[zP,Nat.reduceEqDiff,reduceIte];refine awp_seq_k fun K3 hK3=>?_;refine awp_block ?_;refine aS fun K hK=>?_;simp -dsimp [w1,w2,w3,w4];apply hK;clear hK K;refine aS fun K hK=>?_;simp -dsimp [w1,w2,w3,w4];refine callK_intro _ (c_streams j hf) (by simp) ?_;simp -dsimp [w1,w2,w3,w4];apply hK;clear hK K;refine awp_cond rfl (fun hc1=>?_) (fun hc1=>?_)
   ·skip
    try simp at hc1
    refine aS fun K hK=>?_;simp -dsimp [w1,w2,w3,w4];apply hK;clear hK K;exact awp_ret (by simp[jnB,hc1])
   ·skip
    try simp at hc1
    refine awp_skip ?_;simp only[zT,reduceIte,Nat.reduceEqDiff];refine hK3 _ _ ?_;refine awp_prune [18,19] ?_;simp only[zP,Nat.reduceEqDiff,reduceIte];refine aR fun K hK=>?_;simp -dsimp [w1,w2,w3,w4];apply hK;clear hK K;simp only[zT,reduceIte,Nat.reduceEqDiff];exact⟨1,⟨by omega,by simpa [chk]using hc1⟩,by omega,sub_rb [some 0,some 1] rfl (by simp) (by simp)⟩
  ·simp at hc0
 ·simp only[zP,Nat.reduceEqDiff,reduceIte];refine aS fun K hK=>?_;simp -dsimp [w1,w2,w3,w4];apply hK;clear hK K;refine awp_seq_k fun K4 hK4=>?_;refine awp_cond rfl (fun hc0=>?_) (fun hc0=>?_)
  ·refine awp_skip ?_;simp only[zT,reduceIte,Nat.reduceEqDiff];refine hK4 _ _ ?_;refine awp_prune [18,19] ?_;simp only[zP,Nat.reduceEqDiff,reduceIte];refine awp_seq_k fun K5 hK5=>?_;refine awp_block ?_;refine aS fun K hK=>?_;simp -dsimp [w1,w2,w3,w4];apply hK;clear hK K;refine aS fun K hK=>?_;simp -dsimp [w1,w2,w3,w4];refine callK_intro _ (c_clears j hf) (by simp) ?_;simp -dsimp [w1,w2,w3,w4];apply hK;clear hK K;refine awp_cond rfl (fun hc1=>?_) (fun hc1=>?_)
   ·skip
    try simp at hc1
    refine aS fun K hK=>?_;simp -dsimp [w1,w2,w3,w4];apply hK;clear hK K;exact awp_ret (by simp[jnB,hc1])
   ·skip
    try simp at hc1
    refine awp_skip ?_;simp only[zT,reduceIte,Nat.reduceEqDiff];refine hK5 _ _ ?_;refine awp_prune [18,19] ?_;simp only[zP,Nat.reduceEqDiff,reduceIte];refine aR fun K hK=>?_;simp -dsimp [w1,w2,w3,w4];apply hK;clear hK K;simp only[zT,reduceIte,Nat.reduceEqDiff];exact⟨2,⟨by omega,by simp only[chk]at k2 ⊢;rw[k2,hc1];rfl⟩,by omega,sub_rb [some 0,some 1] rfl (by simp) (by simp)⟩
  ·simp at hc0
 ·simp only[zP,Nat.reduceEqDiff,reduceIte];refine aS fun K hK=>?_;simp -dsimp [w1,w2,w3,w4];apply hK;clear hK K;refine awp_seq_k fun K6 hK6=>?_;refine awp_cond rfl (fun hc0=>?_) (fun hc0=>?_)
  ·simp only[chk,Bool.and_eq_true]at k2;refine awp_skip ?_;simp only[zT,reduceIte,Nat.reduceEqDiff];refine hK6 _ _ ?_;refine awp_prune [18,19] ?_;simp only[zP,Nat.reduceEqDiff,reduceIte];refine awp_seq_k fun K7 hK7=>?_;refine awp_block ?_;refine aS fun K hK=>?_;simp -dsimp [w1,w2,w3,w4];apply hK;clear hK K;refine aS fun K hK=>?_;simp -dsimp [w1,w2,w3,w4];refine callK_intro _ (c_phases j hf (clears_sqr k2.2) k2.1) (by simp) ?_;simp -dsimp [w1,w2,w3,w4];apply hK;clear hK K;refine awp_cond rfl (fun hc1=>?_) (fun hc1=>?_)
   ·skip
    try simp at hc1
    refine aS fun K hK=>?_;simp -dsimp [w1,w2,w3,w4];apply hK;clear hK K;exact awp_ret (by simp[jnB,hc1])
   ·skip
    try simp at hc1
    refine awp_skip ?_;simp only[zT,reduceIte,Nat.reduceEqDiff];refine hK7 _ _ ?_;refine awp_prune [18,19] ?_;simp only[zP,Nat.reduceEqDiff,reduceIte];refine aR fun K hK=>?_;simp -dsimp [w1,w2,w3,w4];apply hK;clear hK K;simp only[zT,reduceIte,Nat.reduceEqDiff];exact⟨3,⟨by omega,by simp only[chk];rw[k2.1,k2.2,hc1];rfl⟩,by omega,sub_rb [some 0,some 1] rfl (by simp) (by simp)⟩
  ·simp at hc0
 ·simp only[zP,Nat.reduceEqDiff,reduceIte];refine aS fun K hK=>?_;simp -dsimp [w1,w2,w3,w4];apply hK;clear hK K;refine awp_seq_k fun K8 hK8=>?_;refine awp_cond rfl (fun hc0=>?_) (fun hc0=>?_)
  ·simp only[chk,Bool.and_eq_true]at k2;refine awp_skip ?_;simp only[zT,reduceIte,Nat.reduceEqDiff];refine hK8 _ _ ?_;refine awp_prune [18,19] ?_;simp only[zP,Nat.reduceEqDiff,reduceIte];refine awp_seq_k fun K9 hK9=>?_;refine awp_block ?_;refine aS fun K hK=>?_;simp -dsimp [w1,w2,w3,w4];apply hK;clear hK K;refine aS fun K hK=>?_;simp -dsimp [w1,w2,w3,w4];refine callK_intro _ (c_gates j hf k2.1.1) (by simp) ?_;simp -dsimp [w1,w2,w3,w4];apply hK;clear hK K;refine awp_cond rfl (fun hc1=>?_) (fun hc1=>?_)
   ·skip
    try simp at hc1
    refine aS fun K hK=>?_;simp -dsimp [w1,w2,w3,w4];apply hK;clear hK K;exact awp_ret (by simp[jnB,hc1])
   ·skip
    try simp at hc1
    refine awp_skip ?_;simp only[zT,reduceIte,Nat.reduceEqDiff];refine hK9 _ _ ?_;refine awp_prune [18,19] ?_;simp only[zP,Nat.reduceEqDiff,reduceIte];refine aR fun K hK=>?_;simp -dsimp [w1,w2,w3,w4];apply hK;clear hK K;simp only[zT,reduceIte,Nat.reduceEqDiff];exact⟨4,⟨by omega,by simp only[chk,jnB];rw[k2.1.1,k2.1.2,k2.2,hc1];rfl⟩,by omega,sub_rb [some 0,some 1] rfl (by simp) (by simp)⟩
  ·simp at hc0
 ·simp only[zP,Nat.reduceEqDiff,reduceIte];refine aS fun K hK=>?_;simp -dsimp [w1,w2,w3,w4];apply hK;clear hK K;refine awp_seq_k fun K10 hK10=>?_;refine awp_cond rfl (fun hc0=>?_) (fun hc0=>?_)
  ·simp at hc0
  ·refine awp_exit ?_;simp only[zT,reduceIte,Nat.reduceEqDiff];refine hK1 _ _ ?_;refine awp_prune [] ?_;simp only[zP,Nat.reduceEqDiff,reduceIte];refine aS fun K hK=>?_;simp -dsimp [w1,w2,w3,w4];apply hK;clear hK K;have hj:jnB j=true:=k2;exact awp_ret (by simp[hj])
end Go.Street
end
section
namespace Go.Street
open Go.AM Go.Proofs
theorem PureCall.split {P : Program} {f : FuncId} {fn : Func} {c : Code} {x : AV} {rest : List AV} {res : AV} (hf : P.funcs[f]? = some fn) (hb : fn.body = some c) (hname : (fn.name == "runtime.NumGoroutine") = false)
  (h:∀(w:World) (S:Nat→Prop) (y:Value),RepP w S x y→∃x',RepP w S x' y∧PureCall P f (x'::rest) res):PureCall P f (x::rest) res:=by
 have hn' : ¬ fn.name = "runtime.NumGoroutine" := by simpa using hname
 have hcf:∀(w:World) (vs:Array Value),(callFunc f vs).run P w= .ok (.enter f vs) w:=fun w vs=>by simp[callFunc,hf,hn',hb]
 refine Or.inl ⟨hcf,?_⟩;intro S0 w vs hlow hl hrep
 match vs,hl with
 | y::vs,hl=>
  obtain⟨x',hx',hp⟩:=h w S0 y (hrep 0 x y rfl rfl);have hrep':∀(i:Nat) c z,(x'::rest)[i]?=some c→(y::vs)[i]?=some z→RepP w S0 c z:=by
   intro i c z h1 h2
   cases i with
   |zero=>simp only[List.getElem?_cons_zero,Option.some.injEq]at h1 h2;subst h1 h2;exact hx'
   |succ i=>exact hrep (i+1) c z (by simpa using h1) h2
  rcases hp with⟨_,h2⟩|h2
  ·exact h2 S0 w (y::vs) hlow (by simpa using hl) hrep'
  ·obtain⟨v,h3,_⟩:=h2 S0 w (y::vs) (by simpa using hl) hrep';rw[hcf]at h3;cases h3
theorem eqg_slice (op:BinOp) (t:TypeId) (x y:Operand) (a b:Option Addr) (n c m d:Nat) (w:World):(eqGuard op t x y (.slice a n c) (.slice b m d)).run Tryz.prog w= .ok () w:=by
 cases op<;>simp[eqGuard]
theorem eq_slice_nil (t e:TypeId) (hu:(Tryz.prog).underlying t=some (.slice e)) (a:Option Addr) (n c:Nat) (w:World):(binOp .eql t (.slice a n c) (.slice none 0 0)).run Tryz.prog w= .ok (.bool a.isNone) w:=by
 have hq:(Op.equal t (.slice a n c) (.slice none 0 0)).run Tryz.prog w= .ok a.isNone w:=by
  show(Op.equalIn (Op.maxDepth-1+1) t _ _).run _ w=_
  cases a<;>simp[Op.equalIn,run_underlying hu]
 simp[binOp,hq]
@[simp] theorem sl_int:sliceB Tryz.prog 41=true:=by kernel_rfl
@[simp] theorem sl_st:sliceB Tryz.prog 81=true:=by kernel_rfl
@[simp] theorem sl_gt:sliceB Tryz.prog 83=true:=by kernel_rfl
theorem us_int:(Tryz.prog).underlying 41=some (.slice 3):=by kernel_rfl
theorem us_st:(Tryz.prog).underlying 81=some (.slice 220):=by kernel_rfl
theorem us_gt:(Tryz.prog).underlying 83=some (.slice 225):=by kernel_rfl
theorem lst_nil {w:World} {S:Nat→Prop} {sz:Nat} {y:Value} (h:RepP w S (.lst sz []) y):∃a cap,y= .slice a 0 cap:=by
 cases h with
 |lst _ _ b off cap=>exact⟨_,cap,rfl⟩
 |lstNil _ a cap=>exact⟨a,cap,rfl⟩
theorem nil_lst {w:World} {S:Nat→Prop} {sz:Nat} {y:Value} (h:RepP w S (.v (.slice none 0 0)) y):RepP w S (.lst sz []) y:=by
 cases h;exact .lstNil _ _ _
theorem full_lst {w:World} {S:Nat→Prop} {sz:Nat} {y:Value} (h:RepP w S (.full sz []) y):RepP w S (.lst sz []) y:=by
 cases h;exact .lstNil _ _ _
theorem c_Clone_Int (l:List Int) (hn:l.length≤1000):PureCall Tryz.prog 77 [.lst 1 (l.map nCell)] (.lst 1 (l.map nCell)):=by
 by_cases hne:l=[]
 ·subst hne;refine PureCall.split Tryz.func77 rfl (by decide) fun w S y hy=>?_;obtain⟨a,cap,rfl⟩:=lst_nil hy;refine⟨.v (.slice a 0 cap), .v _,?_⟩
  cases a with
  |none=>
   refine PureCall.res (res:= .v (.slice none 0 0)) ?_ fun w S y=>nil_lst;refine PureCall.of_body Tryz.func77 rfl (by decide) (by simp[Tryz.ntmps77]) ?_;simp only[Tryz.ntmps77,Tryz.results77];refine aS fun K hK=>?_;simp -dsimp;apply hK;clear hK K;refine awp_seq_k fun K1 hK1=>?_;refine aS fun K hK=>?_;simp -dsimp;apply hK;clear hK K;refine awp_cond rfl (fun hc0=>?_) (fun hc0=>?_)
   ·refine aS fun K hK=>?_;simp -dsimp;apply hK;clear hK K;exact awp_ret (by simp)
   ·simp at hc0
  |some a=>
   refine PureCall.res (res:= .full 1 []) ?_ fun w S y=>full_lst;refine PureCall.of_body Tryz.func77 rfl (by decide) (by simp[Tryz.ntmps77]) ?_;simp only[Tryz.ntmps77,Tryz.results77];refine aS fun K hK=>?_;simp -dsimp;apply hK;clear hK K;refine awp_seq_k fun K1 hK1=>?_;refine aS fun K hK=>?_;simp -dsimp;refine⟨fun w=>eqg_slice _ _ _ _ _ _ _ _ _ _ w,_,fun w=>eq_slice_nil _ _ us_int _ _ _ w,?_⟩;simp -dsimp;apply hK;clear hK K;refine awp_cond rfl (fun hc0=>?_) (fun hc0=>?_)
   ·simp at hc0
   ·refine awp_skip ?_;simp only[zT,reduceIte,Nat.reduceEqDiff];refine hK1 _ _ ?_;refine awp_prune [0] ?_;simp only[zP,Nat.reduceEqDiff,reduceIte];refine aS fun K hK=>?_;simp -dsimp;apply hK;clear hK K;exact awp_ret (by simp)
 ·have f1:Fits l.length 9:=fits_of (by omega) (by omega);refine PureCall.of_body Tryz.func77 rfl (by decide) (by simp[Tryz.ntmps77]) ?_;simp only[Tryz.ntmps77,Tryz.results77];refine aS fun K hK=>?_;simp -dsimp;apply hK;clear hK K;refine awp_seq_k fun K1 hK1=>?_;refine aS fun K hK=>?_;simp -dsimp [hne];apply hK;clear hK K;refine awp_cond rfl (fun hc0=>?_) (fun hc0=>?_)
  ·simp at hc0
  ·refine awp_skip ?_;simp only[zT,reduceIte,Nat.reduceEqDiff];refine hK1 _ _ ?_;refine awp_prune [0] ?_;simp only[zP,Nat.reduceEqDiff,reduceIte];refine aS fun K hK=>?_;simp -dsimp [hne,f1];apply hK;clear hK K;exact awp_ret (by simp)
theorem c_Clone_Strm (l:List Strm) (hn:l.length≤1000):PureCall Tryz.prog 192 [.lst 2 (l.map Strm.cells)] (.lst 2 (l.map Strm.cells)):=by
 by_cases hne:l=[]
 ·subst hne;refine PureCall.split Tryz.func192 rfl (by decide) fun w S y hy=>?_;obtain⟨a,cap,rfl⟩:=lst_nil hy;refine⟨.v (.slice a 0 cap), .v _,?_⟩
  cases a with
  |none=>
   refine PureCall.res (res:= .v (.slice none 0 0)) ?_ fun w S y=>nil_lst;refine PureCall.of_body Tryz.func192 rfl (by decide) (by simp[Tryz.ntmps192]) ?_;simp only[Tryz.ntmps192,Tryz.results192];refine aS fun K hK=>?_;simp -dsimp;apply hK;clear hK K;refine awp_seq_k fun K1 hK1=>?_;refine aS fun K hK=>?_;simp -dsimp;apply hK;clear hK K;refine awp_cond rfl (fun hc0=>?_) (fun hc0=>?_)
   ·refine aS fun K hK=>?_;simp -dsimp;apply hK;clear hK K;exact awp_ret (by simp)
   ·simp at hc0
  |some a=>
   refine PureCall.res (res:= .full 2 []) ?_ fun w S y=>full_lst;refine PureCall.of_body Tryz.func192 rfl (by decide) (by simp[Tryz.ntmps192]) ?_;simp only[Tryz.ntmps192,Tryz.results192];refine aS fun K hK=>?_;simp -dsimp;apply hK;clear hK K;refine awp_seq_k fun K1 hK1=>?_;refine aS fun K hK=>?_;simp -dsimp;refine⟨fun w=>eqg_slice _ _ _ _ _ _ _ _ _ _ w,_,fun w=>eq_slice_nil _ _ us_st _ _ _ w,?_⟩;simp -dsimp;apply hK;clear hK K;refine awp_cond rfl (fun hc0=>?_) (fun hc0=>?_)
   ·simp at hc0
   ·refine awp_skip ?_;simp only[zT,reduceIte,Nat.reduceEqDiff];refine hK1 _ _ ?_;refine awp_prune [0] ?_;simp only[zP,Nat.reduceEqDiff,reduceIte];refine aS fun K hK=>?_;simp -dsimp;apply hK;clear hK K;exact awp_ret (by simp)
 ·have f1:Fits l.length 17:=fits_of (by omega) (by omega);refine PureCall.of_body Tryz.func192 rfl (by decide) (by simp[Tryz.ntmps192]) ?_;simp only[Tryz.ntmps192,Tryz.results192];refine aS fun K hK=>?_;simp -dsimp;apply hK;clear hK K;refine awp_seq_k fun K1 hK1=>?_;refine aS fun K hK=>?_;simp -dsimp [hne];apply hK;clear hK K;refine awp_cond rfl (fun hc0=>?_) (fun hc0=>?_)
  ·simp at hc0
  ·refine awp_skip ?_;simp only[zT,reduceIte,Nat.reduceEqDiff];refine hK1 _ _ ?_;refine awp_prune [0] ?_;simp only[zP,Nat.reduceEqDiff,reduceIte];refine aS fun K hK=>?_;simp -dsimp [hne,f1];apply hK;clear hK K;exact awp_ret (by simp)
theorem c_Clone_Gt (l:List Gt) (hn:l.length≤1000):PureCall Tryz.prog 193 [.lst 3 (l.map Gt.cells)] (.lst 3 (l.map Gt.cells)):=by
 by_cases hne:l=[]
 ·subst hne;refine PureCall.split Tryz.func193 rfl (by decide) fun w S y hy=>?_;obtain⟨a,cap,rfl⟩:=lst_nil hy;refine⟨.v (.slice a 0 cap), .v _,?_⟩
  cases a with
  |none=>
   refine PureCall.res (res:= .v (.slice none 0 0)) ?_ fun w S y=>nil_lst;refine PureCall.of_body Tryz.func193 rfl (by decide) (by simp[Tryz.ntmps193]) ?_;simp only[Tryz.ntmps193,Tryz.results193];refine aS fun K hK=>?_;simp -dsimp;apply hK;clear hK K;refine awp_seq_k fun K1 hK1=>?_;refine aS fun K hK=>?_;simp -dsimp;apply hK;clear hK K;refine awp_cond rfl (fun hc0=>?_) (fun hc0=>?_)
   ·refine aS fun K hK=>?_;simp -dsimp;apply hK;clear hK K;exact awp_ret (by simp)
   ·simp at hc0
  |some a=>
   refine PureCall.res (res:= .full 3 []) ?_ fun w S y=>full_lst;refine PureCall.of_body Tryz.func193 rfl (by decide) (by simp[Tryz.ntmps193]) ?_;simp only[Tryz.ntmps193,Tryz.results193];refine aS fun K hK=>?_;simp -dsimp;apply hK;clear hK K;refine awp_seq_k fun K1 hK1=>?_;refine aS fun K hK=>?_;simp -dsimp;refine⟨fun w=>eqg_slice _ _ _ _ _ _ _ _ _ _ w,_,fun w=>eq_slice_nil _ _ us_gt _ _ _ w,?_⟩;simp -dsimp;apply hK;clear hK K;refine awp_cond rfl (fun hc0=>?_) (fun hc0=>?_)
   ·simp at hc0
   ·refine awp_skip ?_;simp only[zT,reduceIte,Nat.reduceEqDiff];refine hK1 _ _ ?_;refine awp_prune [0] ?_;simp only[zP,Nat.reduceEqDiff,reduceIte];refine aS fun K hK=>?_;simp -dsimp;apply hK;clear hK K;exact awp_ret (by simp)
 ·have f1:Fits l.length 25:=fits_of (by omega) (by omega);refine PureCall.of_body Tryz.func193 rfl (by decide) (by simp[Tryz.ntmps193]) ?_;simp only[Tryz.ntmps193,Tryz.results193];refine aS fun K hK=>?_;simp -dsimp;apply hK;clear hK K;refine awp_seq_k fun K1 hK1=>?_;refine aS fun K hK=>?_;simp -dsimp [hne];apply hK;clear hK K;refine awp_cond rfl (fun hc0=>?_) (fun hc0=>?_)
  ·simp at hc0
  ·refine awp_skip ?_;simp only[zT,reduceIte,Nat.reduceEqDiff];refine hK1 _ _ ?_;refine awp_prune [0] ?_;simp only[zP,Nat.reduceEqDiff,reduceIte];refine aS fun K hK=>?_;simp -dsimp [hne,f1];apply hK;clear hK K;exact awp_ret (by simp)
theorem c_owned1 (l:List (List Int)) (hn:l.length≤1000) (hr:∀r∈l,r.length≤1000):PureCall Tryz.prog 191 [.lst 1 (l.map rCell)] (.lst 1 (l.map rCell)):=by
 refine PureCall.of_body Tryz.func191 rfl (by decide) (by simp[Tryz.ntmps191]) ?_;simp only[Tryz.ntmps191,Tryz.results191];refine aS fun K hK=>?_;simp -dsimp;apply hK;clear hK K;refine aS fun K hK=>?_;simp -dsimp;apply hK;clear hK K;refine awp_seq_k fun K1 hK1=>?_;refine aS fun K hK=>?_;simp -dsimp;apply hK;clear hK K;refine awp_block ?_;refine awp_prune [3,6,7,8] ?_;simp only[zP,Nat.reduceEqDiff,reduceIte];refine awp_loop_l [6,7] (α:=Nat) (fun k=>[(3, .row 0 0 k),(8,I k)]) (fun k=>[some (.els 1 ((l.take k).map rCell))]) (fun k=>k≤l.length) (fun k=>l.length-k) 0 ?_ ?_ ?_
 ·exact Nat.zero_le _
 ·exact(sub_nil 3 1 (by simp)).trans (sub_same (by simp))
 rintro k k1;simp only[zP,Nat.reduceEqDiff,reduceIte];refine aS fun K hK=>?_;simp -dsimp;apply hK;clear hK K;refine awp_seq_k fun K2 hK2=>?_;refine awp_cond rfl (fun hc0=>?_) (fun hc0=>?_)
 ·skip
  try simp at hc0
  obtain⟨r,hk⟩:∃r,l[k]?=some r:=⟨_,List.getElem?_eq_getElem hc0⟩;have wk:=zW k (by omega);have f1:Fits (k+1) 25:=fits_of (by omega) (by omega);have hm:min k l.length=k:=Nat.min_eq_left (by omega);refine awp_skip ?_;simp only[zT,reduceIte,Nat.reduceEqDiff];refine hK2 _ _ ?_;refine awp_prune [3,6,7,8] ?_;simp only[zP,Nat.reduceEqDiff,reduceIte];refine awp_seq_k fun K3 hK3=>?_;refine awp_block ?_;refine aS fun K hK=>?_;simp -dsimp [hk];apply hK;clear hK K;refine aR fun K hK=>?_;simp -dsimp [hm,f1];refine callK_intro _ (c_Clone_Int r (hr r (List.mem_of_getElem? hk))) (by simp) ?_;simp -dsimp [hm,f1];apply hK;clear hK K;simp only[zT,reduceIte,Nat.reduceEqDiff];refine hK3 _ _ ?_;refine awp_prune [3,6,7,8] ?_;simp only[zP,Nat.reduceEqDiff,reduceIte];refine aR fun K hK=>?_;simp -dsimp [wk];apply hK;clear hK K;simp only[zT,reduceIte,Nat.reduceEqDiff];exact⟨k+1,by omega,by omega,sub_rb [some 1] rfl (by simp) (by simp[List.take_add_one,hk,hm])⟩
 ·skip
  try simp at hc0
  refine awp_exit ?_;simp only[zT,reduceIte,Nat.reduceEqDiff];refine hK1 _ _ ?_;refine awp_prune [3] ?_;simp only[zP,Nat.reduceEqDiff,reduceIte];refine aS fun K hK=>?_;simp -dsimp;apply hK;clear hK K;have hkk:k=l.length:=by omega
  subst hkk;exact awp_ret (by simp)
theorem c_owned (j:Jn) (hf:Fit j):PureCall Tryz.prog 105 [.agg j.cells] (.agg j.cells):=by
 have h1:=c_Clone_Strm j.Streams (by have:=hf.s;omega);have h2:=c_Clone_Int j.Longest (by have:=hf.l;omega);have h3:=c_Clone_Gt j.Gates (by have:=hf.g;omega);have h4:=c_owned1 j.Clears (by have:=hf.c;omega) (fun r hr=>by have:=hf.cs r hr;omega);have h5:=c_owned1 j.Phases (by have:=hf.p;omega) (fun r hr=>by have:=hf.ps r hr;omega);refine PureCall.of_body Tryz.func105 rfl (by decide) (by simp[Tryz.ntmps105]) ?_;simp only[Tryz.ntmps105,Tryz.results105];refine aS fun K hK=>?_;simp -dsimp;apply hK;clear hK K;refine aS fun K hK=>?_;simp -dsimp;apply hK;clear hK K;refine awp_sd mixed rfl fun K hK=>?_;simp -dsimp;refine callK_intro _ (h1) (by simp) ?_;simp -dsimp;refine callK_intro _ (h2) (by simp) ?_;simp -dsimp;refine callK_intro _ (h3) (by simp) ?_;simp -dsimp;refine hK _ _ _ (by decide+kernel) ?_;clear hK K;refine awp_sd mixed rfl fun K hK=>?_;simp -dsimp;refine callK_intro _ (h4) (by simp) ?_;simp -dsimp;refine callK_intro _ (h5) (by simp) ?_;simp -dsimp;refine hK _ _ _ (by decide+kernel) ?_;clear hK K;refine aS fun K hK=>?_;simp -dsimp;apply hK;clear hK K;exact awp_ret (by simp)
def maxOf (l:List Int):Int:=l.tail.foldl maxI (l.headD 0)
theorem maxOf_snoc {l:List Int} {k:Nat} {x:Int} (h:l[k]?=some x) (hk:1≤k):maxOf (l.take (k+1))=maxI (maxOf (l.take k)) x:=by
 cases l with
 |nil=>simp at h
 |cons y l=>
  obtain⟨k,rfl⟩:∃m,k=m+1:=⟨k-1,by omega⟩;simp only[List.getElem?_cons_succ]at h;simp only[maxOf,List.take_succ_cons,List.tail_cons,List.headD_cons];rw[List.take_add_one,h];simp only[Option.toList_some,List.foldl_append]
  rfl
theorem c_Max (l:List Int) (h1:1≤l.length) (hn:l.length≤1000):PureCall Tryz.prog 178 [iL l] (I (maxOf l)):=by
 obtain⟨x,hx⟩:∃x,l[0]?=some x:=⟨_,List.getElem?_eq_getElem (by omega)⟩;refine PureCall.of_body Tryz.func178 rfl (by decide) (by simp[Tryz.ntmps178]) ?_;simp only[Tryz.ntmps178,Tryz.results178];refine aS fun K hK=>?_;simp -dsimp;apply hK;clear hK K;refine awp_seq_k fun K1 hK1=>?_;refine aS fun K hK=>?_;simp -dsimp;apply hK;clear hK K;refine awp_cond rfl (fun hc0=>?_) (fun hc0=>?_)
 ·skip
  try simp at hc0
  omega
 ·skip
  try simp at hc0
  refine awp_skip ?_;simp only[zT,reduceIte,Nat.reduceEqDiff];refine hK1 _ _ ?_;refine awp_prune [0] ?_;simp only[zP,Nat.reduceEqDiff,reduceIte];refine aS fun K hK=>?_;simp -dsimp [hx];apply hK;clear hK K;refine awp_seq_k fun K2 hK2=>?_;refine aS fun K hK=>?_;simp -dsimp;apply hK;clear hK K;refine awp_block ?_;refine awp_prune [0,3,4] ?_;simp only[zP,Nat.reduceEqDiff,reduceIte];refine awp_loop_l [0] (α:=Nat) (fun k=>[(3,I (maxOf (l.take k))),(4,I k)]) (fun _=>[]) (fun k=>1≤k∧k≤l.length) (fun k=>l.length-k) 1 ?_ ?_ ?_
  ·exact⟨by omega,by omega⟩
  ·have hx1:maxOf (l.take 1)=x:=by simp[maxOf,List.take_add_one,hx]
   exact sub_same (by simp[hx1])
  rintro k ⟨k1,k2⟩;simp only[zP,Nat.reduceEqDiff,reduceIte];refine awp_seq_k fun K3 hK3=>?_;refine aS fun K hK=>?_;simp -dsimp;apply hK;clear hK K;refine awp_cond rfl (fun hc1=>?_) (fun hc1=>?_)
  ·skip
   try simp at hc1
   obtain⟨y,hy⟩:∃y,l[k]?=some y:=⟨_,List.getElem?_eq_getElem hc1⟩;have wk:=zW k (by omega);refine awp_skip ?_;simp only[zT,reduceIte,Nat.reduceEqDiff];refine hK3 _ _ ?_;refine awp_prune [0,3,4] ?_;simp only[zP,Nat.reduceEqDiff,reduceIte];refine awp_seq_k fun K4 hK4=>?_;refine awp_block ?_;refine aR fun K hK=>?_;simp -dsimp [hy];apply hK;clear hK K;simp only[zT,reduceIte,Nat.reduceEqDiff];refine hK4 _ _ ?_;refine awp_prune [0,3,4] ?_;simp only[zP,Nat.reduceEqDiff,reduceIte];refine aR fun K hK=>?_;simp -dsimp [wk];apply hK;clear hK K;simp only[zT,reduceIte,Nat.reduceEqDiff];exact⟨k+1,⟨by omega,by omega⟩,by omega,sub_same (by simp[maxOf_snoc hy k1,maxI])⟩
  ·skip
   try simp at hc1
   refine awp_exit ?_;simp only[zT,reduceIte,Nat.reduceEqDiff];refine hK2 _ _ ?_;refine awp_prune [3] ?_;simp only[zP,Nat.reduceEqDiff,reduceIte];refine aS fun K hK=>?_;simp -dsimp;apply hK;clear hK K;have htk:l.take k=l:=List.take_of_length_le (by omega);exact awp_ret (by simp[htk])
def mostC (j:Jn):Int:=j.Clears.foldl (fun m r=>maxI m (maxOf r)) 0
def boundJ (j:Jn):Int:=((j.Skips+1)*j.Phases.length+1)*(maxOf j.Longest+mostC j)
theorem maxI_le {a b B:Int} (h1:a≤B) (h2:b≤B):maxI a b≤B:=by unfold maxI;split<;>assumption
theorem le_maxI {a b A:Int} (h1:A≤a):A≤maxI a b:=by unfold maxI;split<;>omega
theorem fold_bd {l:List Int} {A B:Int}:∀m:Int,A≤m→m≤B→(∀x∈l,x≤B)→A≤l.foldl maxI m∧l.foldl maxI m≤B:=by
 induction l with
 |nil=>intro m h1 h2 _;exact⟨h1,h2⟩
 |cons x l ih=>intro m h1 h2 hx;exact ih _ (le_maxI h1) (maxI_le h2 (hx x (by simp))) (fun y hy=>hx y (by simp[hy]))
theorem maxOf_bd {l:List Int} {A B:Int} (hne:1≤l.length) (h:∀x∈l,A≤x∧x≤B):A≤maxOf l∧maxOf l≤B:=by
 cases l with
 |nil=>simp at hne
 |cons x l=>exact fold_bd x (h x (by simp)).1 (h x (by simp)).2 (fun y hy=>(h y (List.mem_cons_of_mem _ hy)).2)
structure JOk (j:Jn):Prop where
 n1:1≤j.n
 n2:j.n≤20
 strm:∀s:Int,0≤s→s<j.n→1≤(strm j s).Kind∧(strm j s).Kind≤3∧1≤(strm j s).Least∧(strm j s).Least≤120
 sqr:Sqr j
 cl:∀a b:Int,0≤a→a<j.n→0≤b→b<j.n→ -1≤clr j a b∧clr j a b≤60∧(a=b→clr j a b=-1)∧(clr j a b=-1↔clr j b a=-1)
 p1:1≤j.Phases.length
 p2:j.Phases.length≤12
 ll:j.Longest.length=j.Phases.length
 s1:0≤j.Skips
 s2:j.Skips≤20
 ph:∀i:Nat,i<j.Phases.length→phB j (rowAt j.Phases i) (at0 j.Longest i)=true
 all:∀a:Nat,a<j.n→(a:Int)∈j.Phases.flatten
 gt:gatesB j=true
theorem jnB_ok {j:Jn} (h:jnB j=true):JOk j:=by
 simp only[jnB,Bool.and_eq_true]at h;obtain⟨⟨⟨h1,h2⟩,h3⟩,h4⟩:=h;have hs:=h1;simp only[streamsB,Bool.and_eq_true,inr_iff,List.all_eq_true,strmB]at hs;have hsq:=clears_sqr h2;have hc:=h2;simp only[clearsB,Bool.and_eq_true,List.all_eq_true,List.mem_range]at hc;have hp:=h3;simp only[phasesB,Bool.and_eq_true,decide_eq_true_eq,inr_iff,List.all_eq_true,List.mem_range]at hp;refine⟨by omega,by omega,fun s a b=>?_,hsq,fun a b a0 a1 b0 b1=>?_,by omega,by omega,hp.1.1.1.2,hp.1.1.2.1,hp.1.1.2.2,hp.1.2,hp.2,h4⟩
 ·have:=hs.2 _ (List.mem_of_getElem? (strm_get a b));omega
 ·have:=hc.2 a.toNat (by omega) b.toNat (by omega);simp only[cellB,Int.toNat_of_nonneg a0,Int.toNat_of_nonneg b0,Bool.and_eq_true,inr_iff,Bool.not_eq_true',Bool.and_eq_false_iff,decide_eq_false_iff_not,beq_iff_eq,decide_eq_decide]at this;refine⟨this.1.1.1,this.1.1.2,fun e=>?_,this.2⟩;have h:=this.1.2
  by_cases hh:clr j a b=-1
  ·exact hh
  ·rcases h with h|h
   ·exact absurd (by rw[e]) h
   ·exact absurd hh h
theorem JOk.phase {j:Jn} (h:JOk j) {i:Int} (h0:0≤i) (h1:i<j.Phases.length):j.Phases[i.toNat]?=some (rowAt j.Phases i)∧1≤(rowAt j.Phases i).length∧
  (∀s∈rowAt j.Phases i,0≤s∧s<j.n)∧1≤at0 j.Longest i∧at0 j.Longest i≤600:=by
 have g:=rowAt_get h0 h1;have:=h.ph i.toNat (by omega);rw[Int.toNat_of_nonneg h0]at this;simp only[phB,Bool.and_eq_true,List.all_eq_true,List.mem_range,decide_eq_true_eq,inr_iff]at this;refine⟨g,by omega,fun s hs=>?_,?_,this.2.2⟩
 ·obtain⟨k,hk⟩:=List.getElem?_of_mem hs;have:=this.1.1 k (List.getElem?_eq_some_iff.1 hk).1;simp only[elB,at0_of hk,Bool.and_eq_true,inr_iff]at this;omega
 ·have h2:=this.2.1;have:(1:Int)≤maxI 1 (maxL j (rowAt j.Phases i)):=le_maxI (Int.le_refl _);omega
theorem JOk.rowBd {j:Jn} (h:JOk j) {r:List Int} (hr:r∈j.Clears):1≤r.length∧-1≤maxOf r∧maxOf r≤60:=by
 have hl:=h.sqr.rows r hr;have hn:=h.n1;refine⟨by omega,maxOf_bd (by omega) fun x hx=>?_⟩;obtain⟨a,ha⟩:=List.getElem?_of_mem hr;obtain⟨b,hb⟩:=List.getElem?_of_mem hx;have ha':=(List.getElem?_eq_some_iff.1 ha).1;have hb':=(List.getElem?_eq_some_iff.1 hb).1;have:=h.cl a b (by omega) (by have:=h.sqr.len;omega) (by omega) (by omega);simp only[clr,rowAt_of ha,at0_of hb]at this;omega
def mostTo (j:Jn) (k:Nat):Int:=(j.Clears.take k).foldl (fun m r=>maxI m (maxOf r)) 0
theorem mostTo_snoc {j:Jn} {k:Nat} {r:List Int} (h:j.Clears[k]?=some r):mostTo j (k+1)=maxI (mostTo j k) (maxOf r):=by
 unfold mostTo;rw[List.take_add_one,h];simp
theorem most_bd {j:Jn} (h:JOk j):0≤mostC j∧mostC j≤60:=by
 unfold mostC;have gen:∀(l:List (List Int)) (m:Int),(∀r∈l,maxOf r≤60)→0≤m→m≤60→0≤l.foldl (fun m r=>maxI m (maxOf r)) m∧l.foldl (fun m r=>maxI m (maxOf r)) m≤60:=by
  intro l
  induction l with
  |nil=>intro m _ h1 h2;exact⟨h1,h2⟩
  |cons r l ih=>intro m hr h1 h2;exact ih _ (fun x hx=>hr x (by simp[hx])) (le_maxI h1) (maxI_le h2 (hr r (by simp)))
 exact gen _ 0 (fun r hr=>(h.rowBd hr).2.2) (by omega) (by omega)
theorem long_bd {j:Jn} (h:JOk j):1≤maxOf j.Longest∧maxOf j.Longest≤600:=by
 refine maxOf_bd (by have:=h.ll;have:=h.p1;omega) fun x hx=>?_;obtain⟨i,hi⟩:=List.getElem?_of_mem hx;have hil:=(List.getElem?_eq_some_iff.1 hi).1;have:=(h.phase (i:=i) (by omega) (by have:=h.ll;omega)).2.2.2;rw[at0_of hi]at this;exact this
theorem c_Bound_t (j:Jn) (hf:Fit j) (h:jnB j=true):PureCall Tryz.prog 99 [.agg j.cells] (.tup [I (boundJ j),I 0]):=by
 have hc:=c_Check j hf;rw[h]at hc;have ho:=jnB_ok h;have hm:=most_bd ho;have hl:=long_bd ho;have hs1:=ho.s1;have hs2:=ho.s2;have hp1:=ho.p1;have hp2:=ho.p2;have w1:IntKind.i64.wrap (j.Skips+1)=j.Skips+1:=wrap_in (by omega) (by omega);have b1:0≤(j.Skips+1)*(j.Phases.length:Int)∧(j.Skips+1)*(j.Phases.length:Int)≤21*12:=⟨Int.mul_nonneg (by omega) (by omega),Int.mul_le_mul (by omega) (by omega) (by omega) (by omega)⟩;have w2:IntKind.i64.wrap ((j.Skips+1)*(j.Phases.length:Int))=(j.Skips+1)*(j.Phases.length:Int):=wrap_in (by omega) (by omega);have w3:IntKind.i64.wrap ((j.Skips+1)*(j.Phases.length:Int)+1)=(j.Skips+1)*(j.Phases.length:Int)+1:=wrap_in (by omega) (by omega);have w4:IntKind.i64.wrap (maxOf j.Longest+mostC j)=maxOf j.Longest+mostC j:=wrap_in (by omega) (by omega);have b2:0≤((j.Skips+1)*(j.Phases.length:Int)+1)*(maxOf j.Longest+mostC j)∧((j.Skips+1)*(j.Phases.length:Int)+1)*(maxOf j.Longest+mostC j)≤253*660:=⟨Int.mul_nonneg (by omega) (by omega),Int.mul_le_mul (by omega) (by omega) (by omega) (by omega)⟩;have w5:IntKind.i64.wrap (((j.Skips+1)*(j.Phases.length:Int)+1)*(maxOf j.Longest+mostC j))=boundJ j:=wrap_in (by omega) (by omega);have hfc:=hf.c;have hll:=ho.ll;have hml:mostTo j j.Clears.length=mostC j:=by simp[mostTo,mostC]
 refine PureCall.of_body Tryz.func99 rfl (by decide) (by simp[Tryz.ntmps99]) ?_;simp only[Tryz.ntmps99,Tryz.results99];refine aS fun K hK=>?_;simp -dsimp;apply hK;clear hK K;refine awp_seq_k fun K1 hK1=>?_;refine aS fun K hK=>?_;simp -dsimp;refine callK_intro _ (hc) (by simp) ?_;simp -dsimp;apply hK;clear hK K;refine aS fun K hK=>?_;simp -dsimp;apply hK;clear hK K;refine awp_cond rfl (fun hc0=>?_) (fun hc0=>?_)
 ·simp at hc0
 ·refine awp_skip ?_;simp only[zT,reduceIte,Nat.reduceEqDiff];refine hK1 _ _ ?_;refine awp_prune [1] ?_;simp only[zP,Nat.reduceEqDiff,reduceIte];refine aS fun K hK=>?_;simp -dsimp;apply hK;clear hK K;refine awp_seq_k fun K2 hK2=>?_;refine aS fun K hK=>?_;simp -dsimp;apply hK;clear hK K;refine awp_block ?_;refine awp_prune [1,5,14,15,16] ?_;simp only[zP,Nat.reduceEqDiff,reduceIte];refine awp_loop_l [1,14,15] (α:=Nat) (fun k=>[(5,I (mostTo j k)),(16,I k)]) (fun k=>[some (.els 6 [j.cells])]) (fun k=>k≤j.Clears.length) (fun k=>j.Clears.length-k) 0 ?_ ?_ ?_
  ·exact Nat.zero_le _
  ·have hm0:mostTo j 0=0:=rfl;exact sub_same (by simp[hm0])
  rintro k k1;simp only[zP,Nat.reduceEqDiff,reduceIte];refine aS fun K hK=>?_;simp -dsimp;apply hK;clear hK K;refine awp_seq_k fun K3 hK3=>?_;refine awp_cond rfl (fun hc1=>?_) (fun hc1=>?_)
  ·skip
   try simp at hc1
   obtain⟨r,hr⟩:∃r,j.Clears[k]?=some r:=⟨_,List.getElem?_eq_getElem hc1⟩;have wk:=zW k (by omega);refine awp_skip ?_;simp only[zT,reduceIte,Nat.reduceEqDiff];refine hK3 _ _ ?_;refine awp_prune [1,5,14,15,16] ?_;simp only[zP,Nat.reduceEqDiff,reduceIte];refine awp_seq_k fun K4 hK4=>?_;refine awp_block ?_;refine aS fun K hK=>?_;simp -dsimp [hr];apply hK;clear hK K;refine aR fun K hK=>?_;simp -dsimp;refine callK_intro _ (c_Max r (ho.rowBd (List.mem_of_getElem? hr)).1 (by have:=hf.cs r (List.mem_of_getElem? hr);omega)) (by simp) ?_;simp -dsimp;apply hK;clear hK K;simp only[zT,reduceIte,Nat.reduceEqDiff];refine hK4 _ _ ?_;refine awp_prune [1,5,14,15,16] ?_;simp only[zP,Nat.reduceEqDiff,reduceIte];refine aR fun K hK=>?_;simp -dsimp [wk];apply hK;clear hK K;simp only[zT,reduceIte,Nat.reduceEqDiff];exact⟨k+1,by omega,by omega,sub_rb [some 0] rfl (by simp[mostTo_snoc hr,maxI]) (by simp)⟩
  ·skip
   try simp at hc1
   have hkk:k=j.Clears.length:=by omega
   subst hkk;refine awp_exit ?_;simp only[zT,reduceIte,Nat.reduceEqDiff];refine hK2 _ _ ?_;refine awp_prune [1,5] ?_;simp only[zP,Nat.reduceEqDiff,reduceIte];refine awp_sd mixed rfl fun K hK=>?_;simp -dsimp [w1,w2,w3,w4,w5,hml];refine callK_intro _ (c_Max j.Longest (by omega) (by omega)) (by simp) ?_;simp -dsimp [w1,w2,w3,w4,w5,hml];refine hK _ _ _ (by decide+kernel) ?_;clear hK K;exact awp_ret (by simp)
end Go.Street
end
section
namespace Go.Tram
open Go.AM Go.Proofs
def RC (w:World) (avs:List AV) (cs:List Value):Prop:=avs.length=cs.length∧∀(i:Nat) c x,avs[i]?=some c→cs[i]?=some x→RepP w (fun _=>False) c x∧isCell x=true
theorem RC.one {w:World} {a:AV} {x:Value} (h:RepP w (fun _=>False) a x) (hc:isCell x=true):RC w [a] [x]:=by
 refine⟨rfl,fun i c y h1 h2=>?_⟩
 cases i with
 |zero=>simp at h1 h2;subst h1 h2;exact⟨h,hc⟩
 |succ i=>simp at h1
theorem RC.app {w:World} {a b:List AV} {x y:List Value} (h:RC w a x) (k:RC w b y):RC w (a++b) (x++y):=by
 refine⟨by simp[h.1,k.1],fun i c u h1 h2=>?_⟩
 by_cases hi:i<a.length
 ·rw[List.getElem?_append_left hi]at h1;rw[List.getElem?_append_left (by rw[←h.1];exact hi)]at h2;exact h.2 i c u h1 h2
 ·rw[List.getElem?_append_right (by omega)]at h1;rw[List.getElem?_append_right (by rw[←h.1];omega),←h.1]at h2;exact k.2 _ c u h1 h2
def layB:List (Nat×Nat×TypeId)→Nat→Nat→Bool
 |[],o,n=>o==n
 |(off,sz,_)::r,o,n=>off==o&&layB r (o+sz) n
theorem layB_le:∀(fs:List (Nat×Nat×TypeId)) (o n:Nat),layB fs o n=true→o≤n
 |[],o,n,h=>by simp[layB]at h;omega
 |(off,sz,t)::r,o,n,h=>by
  simp only[layB,Bool.and_eq_true]at h;have:=layB_le r _ _ h.2;omega
theorem layB_off:∀(fs:List (Nat×Nat×TypeId)) (o n:Nat),layB fs o n=true→∀f∈fs,o≤f.1
 |[],o,n,h,f,hf=>by cases hf
 |(off,sz,t)::r,o,n,h,f,hf=>by
  simp only[layB,Bool.and_eq_true,beq_iff_eq]at h
  rcases List.mem_cons.1 hf with rfl|hf
  ·simp only[];omega
  ·have:=layB_off r _ _ h.2 f hf;omega
theorem assemble {w:World} {Q:(Nat×Nat×TypeId)→List AV→Prop}:∀(fs:List (Nat×Nat×TypeId)) (o N:Nat) (cs:List Value),layB fs o N=true→cs.length=N→
  (∀f∈fs,∃a,RC w a ((cs.drop f.1).take f.2.1)∧Q f a)→∃avs,RC w avs (cs.drop o)∧∀f∈fs,Q f ((avs.drop (f.1-o)).take f.2.1)
 |[],o,N,cs,h,hl,_=>by
  simp only[layB,beq_iff_eq]at h;refine⟨[],⟨by simp;omega,fun i c x h1=>by simp at h1⟩,fun f hf=>by cases hf⟩
 |(off,sz,t)::r,o,N,cs,h,hl,hq=>by
  simp only[layB,Bool.and_eq_true,beq_iff_eq]at h;obtain⟨rfl,h2⟩:=h;have hle:=layB_le r _ _ h2;obtain⟨a,ha,hqa⟩:=hq _ (List.mem_cons_self ..);obtain⟨b,hb,hqb⟩:=assemble r (off+sz) N cs h2 hl (fun f hf=>hq f (List.mem_cons_of_mem _ hf));have hal:a.length=sz:=by rw[ha.1];simp;omega
  have hsplit:cs.drop off=(cs.drop off).take sz++cs.drop (off+sz):=by rw[←List.drop_drop,List.take_append_drop]
  refine⟨a++b,by rw[hsplit];exact ha.app hb,fun f hf=>?_⟩
  rcases List.mem_cons.1 hf with rfl|hf
  ·simp only[Nat.sub_self,List.drop_zero];rw[List.take_append_of_le_length (by omega),List.take_of_length_le (by omega)];exact hqa
  ·have ho:=layB_off r _ _ h2 f hf;have:=hqb f hf;rw[List.drop_append,List.drop_eq_nil_of_le (by omega),List.nil_append,hal,show f.1-off-sz=f.1-(off+sz)by omega];exact this
section
variable {P:Program}
def goodB (P:Program):Nat→TypeId→Bool
 |0,_=>false
 | n+1,t=>match ktOf P t with
  |some _=>true
  |none=>match tdOf P t with
   | .slice e=>decide ((tdOf P e).size≠0)&&goodB P n e
   | .agg z fs=>layB fs 0 z.length&&fs.all fun f=>goodB P n f.2.2
   |_=>false
def Shaped (P:Program):Nat→TypeId→List AV→Prop
 |0,_,_=>False
 | n+1,t,avs=>match ktOf P t with
  |some (.i k)=>∃m,avs=[.v (.int k m)]∧(Lit.int k m).wf=true
  |some .b=>∃b,avs=[.v (.bool b)]
  |none=>match tdOf P t with
   | .slice e=>∃els,avs=[.lst (tdOf P e).size els]∧els.length≤maxLen∧∀el∈els,Shaped P n e el
   | .agg z fs=>avs.length=z.length∧∀f∈fs,Shaped P n f.2.2 ((avs.drop f.1).take f.2.1)
   |_=>False
theorem cellsOf_td (w:World) {e:TypeId} (h:tdOf P e≠ .bad):P.cellsOf e=(tdOf P e).size:=by
 obtain⟨i,h1,h2,_⟩:=td_size (P:=P) (w:=w) h;simp[Program.cellsOf,h1,h2]
theorem elems_of {w:World} {R:List AV→List Value→Prop} {g:Nat→Option (List Value)}:∀n,(∀i,i<n→∃cs,g i=some cs∧∃a,R a cs)→
  ∃(els:List (List AV)) (css:List (List Value)),els.length=n∧css.length=n∧∀(i:Nat) a cs,els[i]?=some a→css[i]?=some cs→g i=some cs∧R a cs
 |0,_=>⟨[],[],rfl,rfl,fun i a cs h=>by simp at h⟩
 | n+1,h=>by
  obtain⟨els,css,h1,h2,h3⟩:=elems_of (w:=w) (R:=R) (g:=g) n (fun i hi=>h i (by omega));obtain⟨cs,hg,a,ha⟩:=h n (by omega);refine⟨els++[a],css++[cs],by simp[h1],by simp[h2],fun i b ds k1 k2=>?_⟩
  by_cases hi:i<n
  ·rw[List.getElem?_append_left (by omega)]at k1 k2;exact h3 i b ds k1 k2
  ·have hn:i=n:=by
    have:=(List.getElem?_eq_some_iff.1 k1).1;simp[h1]at this;omega
   subst hn;rw[List.getElem?_append_right (by omega)]at k1 k2;simp[h1,h2]at k1 k2;subst k1 k2;exact⟨hg,ha⟩
theorem trod_rc {H:Type} {enc:TypeId×Value→H} {w:World} {spare:Nat→Bool} {held:Bool}:∀(n:Nat) (fuel:Nat) (t:TypeId) (cs:List Value) (x:DataW H×List MemPlace),goodB P n t=true→
  DataW.trod enc P w 0 spare held fuel t cs=some x→∃avs,RC w avs cs∧Shaped P n t avs:=by
 intro n
 induction n with
 |zero=>intro fuel t cs x h;simp[goodB]at h
 | succ n ih=>
  intro fuel t cs x hg h;unfold goodB at hg;unfold Shaped
  cases hk:ktOf P t with
  | some kt=>
   have hu:=(ktOf_cell hk).2.2.2
   cases kt with
   |i k=>
    obtain⟨m,rfl,rfl,hw⟩:=DataW.trod_int hu h;exact⟨[.v (.int k m)],RC.one (.v _) rfl,m,rfl,hw⟩
   |b=>
    obtain⟨b,rfl,rfl⟩:=DataW.trod_bool hu h;exact⟨[.v (.bool b)],RC.one (.v _) rfl,b,rfl⟩
  | none=>
   rw[hk]at hg;simp only at hg ⊢
   cases ht:tdOf P t with
   |cell z=>rw[ht]at hg;simp at hg
   |arr z m e=>rw[ht]at hg;simp at hg
   |bad=>rw[ht]at hg;simp at hg
   | slice e=>
    rw[ht]at hg;simp only[Bool.and_eq_true,decide_eq_true_eq]at hg ⊢;obtain⟨hsz,hge⟩:=hg;have hne:tdOf P e≠ .bad:=by intro hb;rw[hb]at hsz;exact hsz rfl
    have hc:=cellsOf_td w hne;obtain⟨info,h1,h2,_⟩:=tdOf_slice ht
    rcases DataW.trod_slice h2 h with⟨rfl,rfl⟩|⟨a,len,cap,elems,rest,n',rfl,rfl,rfl,hb,hl,hcap,hel,hall,_⟩
    ·exact⟨[.lst (tdOf P e).size []],RC.one (.lstNil _ _ _) rfl,[],rfl,by simp,by simp⟩
    ·rw [hc]at hall;obtain⟨els,css,e1,e2,e3⟩:=elems_of (w:=w) (R:=fun a cs=>RC w a cs∧Shaped P n e a) (g:=fun i=>w.cells? 0 (a.add (i*(tdOf P e).size)) (tdOf P e).size) len (fun i hi=>by
      have h3:=hall i hi;obtain⟨y,hy⟩:∃y,elems[i]?=some y:=⟨_,List.getElem?_eq_getElem (by omega)⟩;rw[hy,Option.bind_eq_some_iff]at h3;obtain⟨cs,q1,q2⟩:=h3;obtain⟨av,r1,r2⟩:=ih _ _ _ _ hge q2;exact⟨cs,q1,av,r1,r2⟩)
     refine⟨[.lst (tdOf P e).size els],?_,els,rfl,by omega,?_⟩
     ·refine RC.one ?_ rfl
      by_cases hlen:len=0
      ·have:els=[]:=List.eq_nil_of_length_eq_zero (by omega);subst this;subst hlen;exact .lstNil _ _ _
      ·have hcell:∀(i j:Nat) cs,css[i]?=some cs→j<(tdOf P e).size→w.cell? ((a.add (i*(tdOf P e).size)).add j)=cs[j]?∧cs.length=(tdOf P e).size:=by
        intro i j cs hi hj;have hil:=(List.getElem?_eq_some_iff.1 hi).1;obtain⟨av,hav⟩:∃av,els[i]?=some av:=⟨_,List.getElem?_eq_getElem (by omega)⟩;have:=World.cells?_some (e3 i av cs hav hi).1;exact⟨this.2.2 j hj,this.2.1⟩
       have hspot:a.spot=none:=by
        obtain⟨cs,hcs⟩:∃cs,css[0]?=some cs:=⟨_,List.getElem?_eq_getElem (by omega)⟩;obtain⟨k1,k2⟩:=hcell 0 0 cs hcs (by omega);rw[List.getElem?_eq_getElem (by omega)]at k1;have ha:(a.add (0*(tdOf P e).size)).add 0=a:=by simp[Addr.add]
        rw[ha]at k1;exact World.cell?_spot k1
       obtain⟨b,off,sp⟩:=a;simp only at hspot;subst hspot;have hcl:∀c∈css,c.length=(tdOf P e).size:=by
        intro c hc';obtain⟨i,hi⟩:=List.getElem?_of_mem hc';exact(hcell i 0 c hi (by omega)).2
       have hell:∀c∈els,c.length=(tdOf P e).size:=by
        intro c hc';obtain⟨i,hi⟩:=List.getElem?_of_mem hc';have hil:=(List.getElem?_eq_some_iff.1 hi).1;obtain⟨cs,hcs⟩:∃cs,css[i]?=some cs:=⟨_,List.getElem?_eq_getElem (by omega)⟩;rw[(e3 i c cs hi hcs).2.1.1];exact hcl cs (List.mem_of_getElem? hcs)
       have key:∀(i:Nat) (x:Value),css.flatten[i]?=some x→∃q j cs,i=q*(tdOf P e).size+j∧j<(tdOf P e).size∧css[q]?=some cs∧cs[j]?=some x:=by
        intro i x hx;have hil:=(List.getElem?_eq_some_iff.1 hx).1;rw[length_flatten hcl]at hil;have hq:i/ (tdOf P e).size<css.length:=by rw[Nat.div_lt_iff_lt_mul (by omega)];exact hil
        have hj:=Nat.mod_lt i (show(tdOf P e).size>0 by omega);have hme:i=i/ (tdOf P e).size*(tdOf P e).size+i % (tdOf P e).size:=by rw[Nat.mul_comm];exact(Nat.div_add_mod i _).symm
        obtain⟨cs,hcs⟩:∃cs,css[i/ (tdOf P e).size]?=some cs:=⟨_,List.getElem?_eq_getElem hq⟩;refine⟨_,_,cs,hme,hj,hcs,?_⟩;have:=flatten_get hcl hcs (i % (tdOf P e).size) hj;rw[←hme]at this;rw[←this];exact hx
       have hre:els.length=len:=e1;rw[←hre];have hblk:b<w.heap.size:=by
        obtain⟨cs,hcs⟩:∃cs,css[0]?=some cs:=⟨_,List.getElem?_eq_getElem (by omega)⟩;obtain⟨k1,k2⟩:=hcell 0 0 cs hcs (by omega);rw[List.getElem?_eq_getElem (by omega)]at k1;simp only[Nat.zero_mul,Addr.add_lit,Nat.add_zero]at k1
        rcases Nat.lt_or_ge b w.heap.size with hlt|hge
        ·exact hlt
        ·simp[World.cell?,Array.getElem?_eq_none hge]at k1
       refine RepP.lst _ els b off cap css.flatten (fun h=>h) hblk (by omega) hell (by rw[length_flatten hell,length_flatten hcl,e1,e2]) ?_ ?_
       ·intro i x hx;obtain⟨q,j,cs,rfl,hj,hcs,hxj⟩:=key i x hx;obtain⟨k1,_⟩:=hcell q j cs hcs hj;rw[Addr.add_lit,Addr.add_lit,hxj]at k1;obtain⟨av,hav⟩:∃av,els[q]?=some av:=⟨_,List.getElem?_eq_getElem (by have:=(List.getElem?_eq_some_iff.1 hcs).1;omega)⟩;have hr:=(e3 q av cs hav hcs).2.1;obtain⟨c,hc'⟩:∃c,av[j]?=some c:=⟨_,List.getElem?_eq_getElem (by rw[hr.1];exact(List.getElem?_eq_some_iff.1 hxj).1)⟩;refine⟨?_,(hr.2 j c x hc' hxj).2⟩;rw[←Nat.add_assoc];exact k1
       ·intro i c x hc' hx;obtain⟨q,j,cs,rfl,hj,hcs,hxj⟩:=key i x hx;obtain⟨av,hav⟩:∃av,els[q]?=some av:=⟨_,List.getElem?_eq_getElem (by have:=(List.getElem?_eq_some_iff.1 hcs).1;omega)⟩;rw[flatten_get hell hav j hj]at hc';exact((e3 q av cs hav hcs).2.1.2 j c x hc' hxj).1
     ·intro el hel';obtain⟨i,hi⟩:=List.getElem?_of_mem hel';have hil:=(List.getElem?_eq_some_iff.1 hi).1;obtain⟨cs,hcs⟩:∃cs,css[i]?=some cs:=⟨_,List.getElem?_eq_getElem (by omega)⟩;exact(e3 i el cs hi hcs).2.2
   | agg z fs=>
    rw[ht]at hg;simp only[Bool.and_eq_true]at hg ⊢;obtain⟨hlay,hgf⟩:=hg;obtain⟨info,fa,h1,h2,h3,h4,hfs,_,hall⟩:=tdOf_agg ht;obtain⟨xs,n',rfl,rfl,hl,hxl,hf⟩:=DataW.trod_struct h2 h;have hcl:cs.length=z.length:=by rw[hl];simp[Program.cellsOf,h1,h4]
    obtain⟨avs,hr,hq⟩:=assemble (w:=w) (Q:=fun f a=>Shaped P n f.2.2 a) fs 0 z.length cs hlay hcl (fun f hff=>by
     have hff':=hff;rw[hfs,List.mem_map]at hff';obtain⟨fd,hfd,rfl⟩:=hff';obtain⟨i,hi⟩:=List.getElem?_of_mem hfd;have hia:fa[i]?=some fd:=by simpa using hi
     have htr:=hf i fd hia;have hil:i<xs.length:=by rw[hxl];exact(Array.getElem?_eq_some_iff.1 hia).1
     rw[List.getElem?_eq_getElem hil]at htr;exact ih _ _ _ _ (List.all_eq_true.1 hgf _ hff) htr)
    rw[List.drop_zero]at hr;refine⟨avs,hr,by rw[hr.1,hcl],fun f hff=>?_⟩;have:=hq f hff
    rwa [Nat.sub_zero]at this
end
end Go.Tram
end
section
namespace Go.Street
open Go.AM Go.Proofs Go.Tram
section
variable {P:Program}
theorem shaped_slice {n:Nat} {t e:TypeId} {avs:List AV} (hk:ktOf P t=none) (ht:tdOf P t= .slice e) (h:Shaped P (n+1) t avs):∃els,avs=[.lst (tdOf P e).size els]∧els.length≤maxLen∧∀el∈els,Shaped P n e el:=by
 simp only[Shaped,hk,ht]at h;exact h
theorem shaped_agg {n:Nat} {t:TypeId} {z:List Value} {fs:List (Nat×Nat×TypeId)} {avs:List AV} (hk:ktOf P t=none) (ht:tdOf P t= .agg z fs) (h:Shaped P (n+1) t avs):avs.length=z.length∧∀f∈fs,Shaped P n f.2.2 ((avs.drop f.1).take f.2.1):=by
 simp only[Shaped,hk,ht]at h;exact h
theorem shaped_int {n:Nat} {t:TypeId} {k:IntKind} {avs:List AV} (hk:ktOf P t=some (.i k)) (h:Shaped P (n+1) t avs):∃m,avs=[.v (.int k m)]∧(Lit.int k m).wf=true:=by
 simp only[Shaped,hk]at h;exact h
theorem shaped_bool {n:Nat} {t:TypeId} {avs:List AV} (hk:ktOf P t=some .b) (h:Shaped P (n+1) t avs):∃b,avs=[.v (.bool b)]:=by
 simp only[Shaped,hk]at h;exact h
end
theorem list_of {α:Type} {c:α→List AV} {R:α→Prop}:∀{els:List (List AV)},(∀el∈els,∃a,el=c a∧R a)→∃l:List α,els=l.map c∧∀a∈l,R a
 |[],_=>⟨[],rfl,by simp⟩
 |e::els,h=>by
  obtain⟨a,rfl,ha⟩:=h e (List.mem_cons_self ..);obtain⟨l,rfl,hl⟩:=list_of (els:=els) (c:=c) (R:=R) (fun el hel=>h el (List.mem_cons_of_mem _ hel));refine⟨a::l,rfl,fun b hb=>?_⟩
  rcases List.mem_cons.1 hb with rfl|hb
  ·exact ha
  ·exact hl b hb
theorem und_int:(Tryz.prog).underlying 3=some (.int .i64):=by kernel_rfl
theorem und_bool2:(Tryz.prog).underlying 4=some .bool:=by kernel_rfl
theorem k_int:ktOf Tryz.prog 3=some (.i .i64):=by kernel_rfl
theorem k_bool:ktOf Tryz.prog 4=some .b:=by kernel_rfl
def I64 (n:Int):Prop:=-9223372036854775808≤n∧n≤9223372036854775807
theorem wf_i64 {m:Int} (h:(Lit.int .i64 m).wf=true):I64 m:=by
 simpa [Lit.wf,IntKind.min,IntKind.max,IntKind.signed,IntKind.bits,I64]using h
theorem sh_int {n:Nat} {avs:List AV} (h:Shaped Tryz.prog (n+1) 3 avs):∃m,avs=[I m]∧I64 m:=by
 obtain⟨m,h1,h2⟩:=shaped_int k_int h;exact⟨m,h1,wf_i64 h2⟩
theorem list2 {α:Type} {l:List α} (h:l.length=2):∃a b,l=[a,b]:=by match l,h with|[a,b],_=>exact⟨a,b,rfl⟩
theorem sh_ints {n:Nat} {avs:List AV} (h:Shaped Tryz.prog (n+2) 41 avs):∃l:List Int,avs=[iL l]∧l.length≤maxLen∧∀x∈l,I64 x:=by
 obtain⟨els,hl,hb,he⟩:=shaped_slice (by kernel_rfl) td41 h;obtain⟨l,rfl,hR⟩:=list_of (c:=nCell) (R:=fun x=>I64 x) (fun el hel=>sh_int (he el hel));simp at hl hb;exact⟨l,hl,hb,hR⟩
theorem sh_move {n:Nat} {avs:List AV} (h:Shaped Tryz.prog (n+2) 56 avs):∃s:Mv,avs=s.cells∧I64 s.Rail:=by
 obtain⟨h1,h2⟩:=shaped_agg (by kernel_rfl) td56 h;obtain⟨a,b,rfl⟩:=list2 h1;obtain⟨x,hx,bx⟩:=sh_int (h2 (0,1,3) (by simp));obtain⟨y,hy⟩:=shaped_bool k_bool (h2 (1,1,4) (by simp));simp at hx hy;subst hx hy;exact⟨⟨x,y⟩,rfl,bx⟩
open Go.WideShapes in
theorem arg_agg {H:Type} {enc:TypeId×Value→H} {W:World} {base n:Nat} {t:TypeId} {v:Value} {d:DataW H} {p:List MemPlace} {z:List Value} {fs:List (Nat×Nat×TypeId)} (hg:goodB Tryz.prog n t=true) (ht:tdOf Tryz.prog t= .agg z fs)
  (hv:Value.okWide Tryz.prog W .any base t v) (h:DataW.Trod enc Tryz.prog W 0 (fun _=>true) true t v d p):∃avs,RepP W (fun _=>False) (.agg avs) v∧Shaped Tryz.prog n t avs:=by
 obtain⟨fuel,h⟩:=h;obtain⟨avs,hr,hs⟩:=trod_rc n fuel t _ _ hg h;obtain⟨info,fa,h1,h2,_⟩:=tdOf_agg ht;obtain⟨cs,rfl,_⟩:=okWide_struct h2 hv;refine⟨avs,?_,hs⟩;have:=RepP.agg (w:=W) (S:=fun _=>False) avs cs.toList hr.1 (fun x hx=>by
  obtain⟨i,hi⟩:=List.getElem?_of_mem hx;have hil:=(List.getElem?_eq_some_iff.1 hi).1;obtain⟨c,hc⟩:∃c,avs[i]?=some c:=⟨_,List.getElem?_eq_getElem (by rw[hr.1];exact hil)⟩;exact(hr.2 i c x hc hi).2) (fun i c x h1 h2=>(hr.2 i c x h1 h2).1)
 simpa using this
open Go.WideShapes in
theorem arg_slice {H:Type} {enc:TypeId×Value→H} {W:World} {base n:Nat} {t e:TypeId} {v:Value} {d:DataW H} {p:List MemPlace} (hg:goodB Tryz.prog n t=true) (ht:tdOf Tryz.prog t= .slice e)
  (hv:Value.okWide Tryz.prog W .any base t v) (h:DataW.Trod enc Tryz.prog W 0 (fun _=>true) true t v d p):∃av,RepP W (fun _=>False) av v∧Shaped Tryz.prog n t [av]:=by
 obtain⟨fuel,h⟩:=h;obtain⟨avs,hr,hs⟩:=trod_rc n fuel t _ _ hg h;obtain⟨info,h1,h2,_⟩:=tdOf_slice ht;obtain⟨a,len,cap,rfl⟩:=okWide_slice h2 hv;have hl:avs.length=1:=by rw[hr.1];rfl
 match avs,hl,hr,hs with
 |[av],_,hr,hs=>exact⟨av,(hr.2 0 av _ rfl rfl).1,hs⟩
theorem arg_int {H:Type} {enc:TypeId×Value→H} {W:World} {base:Nat} {v:Value} {d:DataW H} {p:List MemPlace}
  (hv:Value.okWide Tryz.prog W .any base 3 v) (h:DataW.Trod enc Tryz.prog W 0 (fun _=>true) true 3 v d p):∃n,RepP W (fun _=>False) (I n) v∧I64 n:=by
 obtain⟨n,rfl,rfl,rfl,w0⟩:=Go.ChangeShapes.open_int und_int hv h;exact⟨n, .v _,wf_i64 w0⟩
theorem laid:laidOutB Tryz.prog=true:=by kernel_rfl
theorem mapped:mapsRowed Tryz.prog=true:=by kernel_rfl
theorem kids:Kids Tryz.prog (· <Tryz.prog.types.size):=kids_rows laid mapped
theorem full:∀t e,t<Tryz.prog.types.size→Tryz.prog.underlying t=some (.slice e)→0<Tryz.prog.cellsOf e:=slices_full_of Tryz.prog (by kernel_rfl)
theorem ext_cell {w w':World} (h:Ext (fun _=>False) w w') {a:Addr} (ha:a.block<w.heap.size):w'.cell? a=w.cell? a:=cell_of_block (h.block _ ha (fun k=>k))
theorem post_ext {H:Type} {enc:TypeId×Value→H} {f:Func} {s:ChangeSpec} {fresh handsOn again:Bool} {W W':World} {args:Array Value} {v:Value} {ds:List (DataW H)} {before:List MemPlace}
  (hvars:s.vars=[]) (hres:(s.fn H ds).results=[.lit (.bool true)]) (hargs:(s.fn H ds).args=ds) (hvs:(s.fn H ds).vars=[]) (hf:f.resultTypes= #[4]) (hts:∀t∈f.params.toList,t<Tryz.prog.types.size)
  (hW:DataW.Whole enc Tryz.prog f.params.toList s.vars false W args.toList ds [] before) (hext:Ext (fun _=>False) W W') (hv:v= .bool true):
  s.post enc Tryz.prog f false fresh handsOn again W args v W':=by
 subst hv;have hlt:=hW.lt;have hW':=hW;obtain⟨p,q,hA,hV,hpq,hz,hn⟩:=hW;rw[hvars]at hV;obtain⟨_,rfl⟩:=Go.ChangeShapes.trodVars_none hV;rw[List.append_nil]at hpq;subst hpq;have carry:∀(ts:List TypeId) (vs:List Value) (ds:List (DataW H)) (ps:List MemPlace),DataW.TrodAll enc Tryz.prog W 0 (fun _=>true) true ts vs ds ps→(∀x∈ps,x.block<W.heap.size)→DataW.TrodAll enc Tryz.prog W' 0 (fun _=>true) true ts vs ds ps:=by
  intro ts
  induction ts with
  |nil=>intro vs ds ps h _;match vs,ds,h with|[],[],h=>exact h
  | cons t ts ih=>
   intro vs ds ps h hl
   match vs,ds,h with
   |v::vs,d::ds,⟨p1,q1,⟨n,h1⟩,h2,he⟩=>
    subst he;refine⟨p1,q1,⟨n,DataW.trod_carry n _ _ _ h1 (fun x hx=>?_)⟩,ih vs ds q1 h2 (fun x hx=>hl x (List.mem_append_right _ hx)),rfl⟩;have hb:=hl x (List.mem_append_left _ hx)
    cases x with
    |cell b off=>exact ext_cell hext hb
    |map b=>exact hext.block b hb (fun k=>k)
 have hA':=carry _ _ _ _ hA hlt;have hag:∀sp:Nat→Bool,(∀x∈before,sp x.block=true)→DataW.TrodAll enc Tryz.prog W' 0 sp true f.params.toList args.toList (s.fn H (ds++[])).args before:=by
  intro sp hs;rw[List.append_nil,hargs];exact hA'.respare kids full hts hs
 have hr:∀(b:Nat) (sp:Nat→Bool) (hd:Bool),DataW.TrodAll enc Tryz.prog W' b sp hd f.resultTypes.toList ((Value.bool true).resultList f.resultTypes.size) (s.fn H (ds++[])).results []:=by
  intro b sp hd;rw[List.append_nil,hres,hf];exact Go.ChangeShapes.trodAll_mk1 (Go.RowKit.shut_bool und_bool2 _)
 have hkept:W.keptBut W' (· ∈before):=by
  refine⟨hext.os,hext.output,fun i hi=>?_⟩;rw[hext.block i hi (fun k=>k)]
  cases hb:W.heap[i]? with
  |none=>trivial
  |some o=>cases o<;>simp
 have hv0:∀sp:Nat→Bool,DataW.TrodVars enc Tryz.prog W' sp s.vars (s.fn H (ds++[])).vars []:=by
  intro sp;rw[hvars,List.append_nil,hvs]
  rfl
 have hold:∀x∈before,(fun b=>decide (b<W.heap.size)) x.block=true:=fun x hx=>by simpa using hlt x hx
 refine⟨ds,[],before,[],before,[],hW',hr _ _ _,hag _ hold,hv0 _,World.keptBut_mono (fun x hx=>⟨hx,Or.inr (Or.inl hx)⟩) hkept,fun _=>?_⟩;refine⟨Go.RowKit.ok_one hf rfl (Go.RowKit.okWide_bool_mk und_bool2 _),_,_,([]++before)++[],⟨[]++before,[],Go.ChangeShapes.trodAll_append (hag _ (fun _ _=>rfl)) (hr _ _ _),hv0 _,rfl,?_,?_⟩,?_⟩
 ·intro b off hp;have hp':MemPlace.cell b off∈before:=by simpa using hp
  have hb:=hlt _ hp';have:W'.frozen? ⟨b,off,none⟩=W.frozen? ⟨b,off,none⟩:=by unfold World.frozen?;rw[hext.block b hb (fun k=>k)]
  rw[this];exact hz b off hp'
 ·intro ha;cases ha
 ·intro x hx _;simpa using hx
theorem law_calls {P : Program} {f : FuncId} {fn : Func} {c : Code} {avs : List AV} {vs : List Value} {W : World} (hf : P.funcs[f]? = some fn) (hb : fn.body = some c) (hname : (fn.name == "runtime.NumGoroutine") = false)
  (h:PureCall P f avs (Bo true)) (hl:avs.length=vs.length) (hr:∀(i:Nat) c x,avs[i]?=some c→vs[i]?=some x→RepP W (fun _=>False) c x):
  Calls P f vs.toArray W fun e W'=>e= .returned (.bool true)∧Ext (fun _=>False) W W':=by
 have hn' : ¬ fn.name = "runtime.NumGoroutine" := by simpa using hname
 rcases h with⟨_,h2⟩|h2
 ·refine(h2 (fun _=>False) W vs (fun b k=>k.elim) hl hr).mono fun e W' ⟨v,q1,q2,q3⟩=>?_
  cases q2
  exact⟨q1,q3⟩
 ·exfalso;obtain⟨v,q1,_⟩:=h2 (fun _=>False) W vs hl hr;have:(callFunc f vs.toArray).run P W= .ok (.enter f vs.toArray) W:=by simp[callFunc,hf,hn',hb]
  rw[this]at q1
  cases q1
theorem rep_nil {W:World}:∀(i:Nat) c x,([]:List AV)[i]?=some c→([]:List Value)[i]?=some x→RepP W (fun _=>False) c x:=fun i c x h=>by simp at h
theorem rep_cons {W:World} {a:AV} {v:Value} {xs:List AV} {vs:List Value} (h:RepP W (fun _=>False) a v) (k:∀(i:Nat) c x,xs[i]?=some c→vs[i]?=some x→RepP W (fun _=>False) c x):
  ∀(i:Nat) c x,(a::xs)[i]?=some c→(v::vs)[i]?=some x→RepP W (fun _=>False) c x:=fun i c x h1 h2=>by
 cases i with
 |zero=>simp at h1 h2;subst h1 h2;exact h
 |succ i=>exact k i c x (by simpa using h1) (by simpa using h2)
end Go.Street
end
section
namespace Go.Tram
open Go.AM
structure Spot where
 X:Int
 Y:Int
 deriving DecidableEq,Inhabited
structure REnd where
 Rail:Int
 Last:Bool
 deriving DecidableEq,Inhabited
structure Node where
 Spot:Spot
 Kind:Int
 Ends:List REnd
 Normal:Int
 deriving Inhabited
structure Rail where
 From:Int
 To:Int
 Shape:List Spot
 Limit:Int
 Slope:Int
 deriving Inhabited
structure Plan where
 Nodes:List Node
 Rails:List Rail
 deriving Inhabited
structure Strip where
 Rail:Int
 Segment:Int
 deriving DecidableEq,Inhabited
structure Profile where
 Half:Int
 Swing:Int
 deriving DecidableEq,Inhabited
structure Cover where
 Rail:Int
 From:Int
 To:Int
 deriving DecidableEq,Inhabited
structure Foul where
 RailA:Int
 ProfileA:Int
 RailB:Int
 ProfileB:Int
 deriving DecidableEq,Inhabited
@[simp] def Spot.cells (s:Spot):List AV:=[I s.X,I s.Y]
@[simp] def REnd.cells (s:REnd):List AV:=[I s.Rail,Bo s.Last]
@[simp] def Node.cells (n:Node):List AV:=[I n.Spot.X,I n.Spot.Y,I n.Kind, .lst 2 (n.Ends.map REnd.cells),I n.Normal]
@[simp] def Rail.cells (r:Rail):List AV:=[I r.From,I r.To, .lst 2 (r.Shape.map Spot.cells),I r.Limit,I r.Slope]
@[simp] def Plan.cells (p:Plan):List AV:=[.lst 5 (p.Nodes.map Node.cells), .lst 5 (p.Rails.map Rail.cells)]
@[simp] def Strip.cells (s:Strip):List AV:=[I s.Rail,I s.Segment]
@[simp] def Profile.cells (s:Profile):List AV:=[I s.Half,I s.Swing]
@[simp] def Cover.cells (s:Cover):List AV:=[I s.Rail,I s.From,I s.To]
@[simp] def Foul.cells (s:Foul):List AV:=[I s.RailA,I s.ProfileA,I s.RailB,I s.ProfileB]
abbrev Spot.av (s:Spot):AV:= .agg s.cells
abbrev Plan.av (s:Plan):AV:= .agg s.cells
abbrev Strip.av (s:Strip):AV:= .agg s.cells
abbrev Profile.av (s:Profile):AV:= .agg s.cells
abbrev Node.av (s:Node):AV:= .agg s.cells
abbrev Rail.av (s:Rail):AV:= .agg s.cells
abbrev REnd.av (s:REnd):AV:= .agg s.cells
abbrev Cover.av (s:Cover):AV:= .agg s.cells
abbrev Foul.av (s:Foul):AV:= .agg s.cells
theorem wrap_in {n:Int} (h1:-9223372036854775808≤n) (h2:n≤9223372036854775807):IntKind.i64.wrap n=n:=IntWalk.i64_in n ⟨h1,h2⟩
theorem mul_bd {a b A B:Int} (ha:-A≤a) (ha':a≤A) (hb:-B≤b) (hb':b≤B):-(A*B)≤a*b∧a*b≤A*B:=by
 have hA:0≤A:=by omega
 have hB:0≤B:=by omega
 have h1:(a*b).natAbs≤(A*B).natAbs:=by
  rw[Int.natAbs_mul,Int.natAbs_mul];exact Nat.mul_le_mul (by omega) (by omega)
 have h2:0≤A*B:=Int.mul_nonneg hA hB;omega
theorem sq_nn (a:Int):0≤a*a:=by
 rcases Int.le_total 0 a with h|h
 ·exact Int.mul_nonneg h h
 ·have:=Int.mul_nonneg (show 0≤-a by omega) (show 0≤-a by omega)
  rwa [Int.neg_mul_neg]at this
def inr (x lo hi:Int):Bool:=decide (lo≤x)&&decide (x≤hi)
theorem inr_iff {x lo hi:Int}:inr x lo hi=true↔lo≤x∧x≤hi:=by simp[inr]
def IsSq (n r:Int):Prop:=0≤r∧r*r≤n∧n<(r+1)*(r+1)
def isqN:Nat→Nat
 |0=>0
 |n+1=>if (isqN n+1)*(isqN n+1)≤n+1 then isqN n+1 else isqN n
@[irreducible] def isq (n:Int):Int:=(isqN n.toNat:Int)
theorem isqN_spec:∀n:Nat,isqN n*isqN n≤n∧n<(isqN n+1)*(isqN n+1)
 |0=>by simp[isqN]
 |n+1=>by
  obtain⟨h1,h2⟩:=isqN_spec n;simp only[isqN]
  split
  ·rename_i h;refine⟨h,?_⟩;have:(isqN n+1)*(isqN n+1)<(isqN n+1+1)*(isqN n+1+1):=Nat.mul_lt_mul'' (by omega) (by omega);omega
  ·exact⟨by omega,by omega⟩
theorem isq_spec {n:Int} (h:0≤n):IsSq n (isq n):=by
 obtain⟨h1,h2⟩:=isqN_spec n.toNat;refine⟨by simp[isq],?_,?_⟩
 ·have:((isqN n.toNat*isqN n.toNat:Nat):Int)≤n:=by omega
  simpa [isq]using this
 ·have:n<(((isqN n.toNat+1)*(isqN n.toNat+1):Nat):Int):=by omega
  simpa [isq]using this
theorem isSq_unique {n r s:Int} (h:IsSq n r) (k:IsSq n s):r=s:=by
 obtain⟨h1,h2,h3⟩:=h;obtain⟨k1,k2,k3⟩:=k
 rcases Int.lt_trichotomy r s with h|h|h
 ·have:(r+1)*(r+1)≤s*s:=Int.mul_le_mul (by omega) (by omega) (by omega) (by omega);omega
 ·exact h
 ·have:(s+1)*(s+1)≤r*r:=Int.mul_le_mul (by omega) (by omega) (by omega) (by omega);omega
theorem isq_of {n r:Int} (h:IsSq n r):isq n=r:=by
 have h0:0≤n:=Int.le_trans (Int.mul_nonneg h.1 h.1) h.2.1;exact isSq_unique (isq_spec h0) h
def spotB (s:Spot):Bool:=inr s.X (-10000000) 10000000&&inr s.Y (-10000000) 10000000
def sqd (a b:Spot):Int:=(a.X-b.X)*(a.X-b.X)+(a.Y-b.Y)*(a.Y-b.Y)
def far (a b:Spot):Int:=isq (sqd a b)
theorem spotB_iff {s:Spot}:spotB s=true↔(-10000000≤s.X∧s.X≤10000000)∧-10000000≤s.Y∧s.Y≤10000000:=by simp[spotB,inr_iff]
theorem sqd_bd {a b:Spot} (ha:spotB a=true) (hb:spotB b=true):0≤sqd a b∧sqd a b≤800000000000000:=by
 rw[spotB_iff]at ha hb;have h1:=mul_bd (a:=a.X-b.X) (b:=a.X-b.X) (A:=20000000) (B:=20000000) (by omega) (by omega) (by omega) (by omega);have h2:=mul_bd (a:=a.Y-b.Y) (b:=a.Y-b.Y) (A:=20000000) (B:=20000000) (by omega) (by omega) (by omega) (by omega);have h3:=sq_nn (a.X-b.X);have h4:=sq_nn (a.Y-b.Y);unfold sqd;omega
theorem far_bd {a b:Spot} (ha:spotB a=true) (hb:spotB b=true):0≤far a b∧far a b<30000000:=by
 obtain⟨h1,h2⟩:=sqd_bd ha hb;obtain⟨k1,k2,k3⟩:=isq_spec h1;refine⟨k1,?_⟩;unfold far
 rcases Int.lt_or_le (isq (sqd a b)) 30000000 with h|h
 ·exact h
 ·have:(30000000:Int)*30000000≤isq (sqd a b)*isq (sqd a b):=Int.mul_le_mul h h (by omega) (by omega);omega
@[irreducible] def Plan.node (p:Plan) (i:Int):Node:=p.Nodes[i.toNat]?.getD default
@[irreducible] def Plan.rail (p:Plan) (i:Int):Rail:=p.Rails[i.toNat]?.getD default
theorem get_of {α:Type} [Inhabited α] {l:List α} {i:Int} (h0:0≤i) (h1:i<l.length):l[i.toNat]?=some (l[i.toNat]?.getD default):=by
 have:i.toNat<l.length:=by omega
 simp[this]
theorem Plan.node_get {p:Plan} {i:Int} (h0:0≤i) (h1:i<p.Nodes.length):p.Nodes[i.toNat]?=some (p.node i):=by unfold Plan.node;exact get_of h0 h1
theorem Plan.rail_get {p:Plan} {i:Int} (h0:0≤i) (h1:i<p.Rails.length):p.Rails[i.toNat]?=some (p.rail i):=by unfold Plan.rail;exact get_of h0 h1
def endsN (k:Int):Int:=if k=1 then 1 else if k=2 then 2 else if k=3 then 4 else if k=4∨k=5∨k=6 then 3 else 0
def lineOf (p:Plan) (r:Rail):List Spot:=(p.node r.From).Spot::(r.Shape++[(p.node r.To).Spot])
def Plan.line (p:Plan) (i:Int):List Spot:=lineOf p (p.rail i)
def Plan.at (p:Plan) (e:REnd):Int:=if e.Last then(p.rail e.Rail).To else(p.rail e.Rail).From
def nth (l:List Spot) (k:Nat):Spot:=l[k]?.getD default
@[irreducible] def segLen (l:List Spot) (k:Nat):Int:=far (nth l k) (nth l (k+1))
def sumTo (l:List Spot):Nat→Int
 |0=>0
 |k+1=>sumTo l k+segLen l k
@[irreducible] def Plan.len (p:Plan) (i:Int):Int:=sumTo (p.line i) ((p.rail i).Shape.length+1)
theorem nth_get {l:List Spot} {k:Nat} (h:k<l.length):l[k]?=some (nth l k):=by simp[nth,h]
theorem line_len (p:Plan) (i:Int):(p.line i).length=(p.rail i).Shape.length+2:=by simp[Plan.line,lineOf]
def nodeB (n:Node):Bool:=(if n.Kind=5∨n.Kind=6 then inr n.Normal 1 2 else decide (n.Normal=0))&&(spotB n.Spot&&(decide (endsN n.Kind≠0)&&decide ((n.Ends.length:Int)=endsN n.Kind)))
def segB (l:List Spot) (k:Nat):Bool:=inr (segLen l k) 1 1000000
def railA (p:Plan) (r:Rail):Bool:=inr r.From 0 (p.Nodes.length-1)&&(inr r.To 0 (p.Nodes.length-1)&&(decide (r.Shape.length≤30)&&(inr r.Limit 1 50000&&inr r.Slope (-120) 120)))
def railB (p:Plan) (r:Rail):Bool:=railA p r&&(r.Shape.all spotB&&(List.range (r.Shape.length+1)).all (segB (lineOf p r)))
def endsOf (p:Plan):Nat→List (Nat×REnd)
 |0=>[]
 |k+1=>endsOf p k++(p.node k).Ends.map fun e=>(k,e)
def endB (p:Plan) (x:Nat×REnd):Bool:=inr x.2.Rail 0 (p.Rails.length-1)&&decide (p.at x.2=(x.1:Int))
def validA (p:Plan):Bool:=inr p.Nodes.length 1 300&&inr p.Rails.length 1 400&&p.Nodes.all nodeB&&p.Rails.all (railB p)
def validE (p:Plan):Bool:=(endsOf p p.Nodes.length).all (endB p)&&(decide ((endsOf p p.Nodes.length).map (·.2)).Nodup&&decide ((endsOf p p.Nodes.length).length=2*p.Rails.length))
def validB (p:Plan):Bool:=validA p&&validE p
theorem take_all' {α:Type} {l:List α} {f:α→Bool} {k:Nat} {x:α} (h:l[k]?=some x):(l.take (k+1)).all f=((l.take k).all f&&f x):=by
 rw[List.take_add_one,List.all_append,h];simp
theorem all_of_take {α:Type} {l:List α} {f:α→Bool} {k:Nat} (hk:l.length≤k) (h:(l.take k).all f=true):l.all f=true:=by rwa [List.take_of_length_le hk]at h
theorem all_ff {α:Type} {l:List α} {f:α→Bool} {k:Nat} {x:α} (h:l[k]?=some x) (hf:f x=false):l.all f=false:=by
 rw[List.all_eq_false];exact⟨x,List.mem_of_getElem? h,by simp[hf]⟩
def curE (p:Plan) (i j:Nat):List (Nat×REnd):=endsOf p i++((p.node i).Ends.take j).map fun e=>(i,e)
theorem curE_zero (p:Plan) (i:Nat):curE p i 0=endsOf p i:=by simp[curE]
theorem curE_succ {p:Plan} {i j:Nat} {e:REnd} (he:(p.node i).Ends[j]?=some e):curE p i (j+1)=curE p i j++[(i,e)]:=by
 simp[curE,List.take_add_one,he]
theorem curE_all {p:Plan} {i j:Nat} (h:(p.node i).Ends.length≤j):curE p i j=endsOf p (i+1):=by
 simp[curE,endsOf,List.take_of_length_le h]
theorem endsOf_prefix (p:Plan) (i:Nat):∀d,∃rest,endsOf p (i+d)=endsOf p i++rest
 |0=>⟨[],by simp⟩
 |d+1=>by
  obtain⟨r,hr⟩:=endsOf_prefix p i d;exact⟨r++(p.node ((i+d:Nat):Int)).Ends.map fun e=>(i+d,e),by rw[←Nat.add_assoc];simp only[endsOf];rw[hr,List.append_assoc]⟩
theorem E_prefix {p:Plan} {i j:Nat} (hi:i<p.Nodes.length) {e:REnd} (he:(p.node i).Ends[j]?=some e):∃rest,endsOf p p.Nodes.length=curE p i j++(i,e)::rest:=by
 obtain⟨r,hr⟩:=endsOf_prefix p (i+1) (p.Nodes.length-(i+1));rw[show i+1+(p.Nodes.length-(i+1))=p.Nodes.length by omega]at hr;refine⟨((p.node i).Ends.drop (j+1)).map (fun e=>(i,e))++r,?_⟩;rw[hr];have hj:j<(p.node i).Ends.length:=(List.getElem?_eq_some_iff.1 he).1;have he':(p.node i).Ends[j]=e:=(List.getElem?_eq_some_iff.1 he).2;have:(p.node i).Ends=(p.node i).Ends.take j++e::(p.node i).Ends.drop (j+1):=by
  rw[←he',List.getElem_cons_drop,List.take_append_drop]
 simp only[endsOf,curE]
 conv=>lhs;rw[this]
 simp
theorem valid_ff_end {p:Plan} {i j:Nat} (hi:i<p.Nodes.length) {e:REnd} (he:(p.node i).Ends[j]?=some e) (hf:endB p (i,e)=false):validB p=false:=by
 obtain⟨r,hr⟩:=E_prefix hi he;simp[validB,validE,hr,hf]
theorem valid_ff_dup {p:Plan} {i j m:Nat} (hi:i<p.Nodes.length) {e:REnd} (he:(p.node i).Ends[j]?=some e) {x:Nat×REnd} (hx:(curE p i j)[m]?=some x) (hxe:x.2=e):validB p=false:=by
 obtain⟨r,hr⟩:=E_prefix hi he;have hm:e∈(curE p i j).map (·.2):=by rw[←hxe];exact List.mem_map_of_mem (List.mem_of_getElem? hx)
 have:¬((endsOf p p.Nodes.length).map (·.2)).Nodup:=by
  rw[hr,List.map_append,List.map_cons,List.nodup_append];rintro⟨_,_,h⟩;exact h _ hm _ (by simp) rfl
 simp[validB,validE,this]
theorem node_ends {p:Plan} (h:p.Nodes.all nodeB=true) {i:Int} (h0:0≤i) (h1:i<p.Nodes.length):nodeB (p.node i)=true:=List.all_eq_true.1 h _ (List.mem_of_getElem? (p.node_get h0 h1))
theorem nodeB_spot {n:Node} (h:nodeB n=true):spotB n.Spot=true:=by simp[nodeB]at h;exact h.2.1
theorem nodeB_len {n:Node} (h:nodeB n=true):n.Ends.length≤4:=by
 simp only[nodeB,Bool.and_eq_true,decide_eq_true_eq]at h;have h2:=h.2.2.2;unfold endsN at h2
 repeat (split at h2;omega)
 omega
theorem endsOf_len {p:Plan} (h:p.Nodes.all nodeB=true):∀i,i≤p.Nodes.length→(endsOf p i).length≤4*i
 |0,_=>by simp[endsOf]
 |i+1,hi=>by
  have:=endsOf_len h i (by omega);have h2:=nodeB_len (node_ends h (i:=(i:Int)) (by omega) (by omega));simp only[endsOf,List.length_append,List.length_map];omega
theorem line_spots {p:Plan} {i:Int} (hf:spotB (p.node (p.rail i).From).Spot=true) (ht:spotB (p.node (p.rail i).To).Spot=true) (hs:(p.rail i).Shape.all spotB=true):(p.line i).all spotB=true:=by
 simp only[Plan.line,lineOf,List.all_cons,List.all_append,List.all_nil,hf,ht,hs,Bool.and_self]
end Go.Tram
end
section
namespace Go.Tram
open Go.AM Go.Proofs
theorem c_within (x lo hi:Int):PureCall Tryz.prog 215 [I x,I lo,I hi] (Bo (inr x lo hi)):=by
 refine PureCall.of_body Tryz.func215 rfl (by decide) (by simp[Tryz.ntmps215]) ?_;simp only[Tryz.ntmps215,Tryz.results215];refine aS fun K hK=>?_;simp -dsimp;apply hK;clear hK K;refine aS fun K hK=>?_;simp -dsimp;apply hK;clear hK K;exact awp_ret (by simp[inr])
theorem c_ends (k:Int):PureCall Tryz.prog 155 [I k] (I (endsN k)):=by
 refine PureCall.of_body Tryz.func155 rfl (by decide) (by simp[Tryz.ntmps155]) ?_;simp only[Tryz.ntmps155,Tryz.results155];refine aS fun K hK=>?_;simp -dsimp;apply hK;clear hK K;refine awp_seq_k fun K1 hK1=>?_;refine aS fun K hK=>?_;simp -dsimp;apply hK;clear hK K;refine awp_block ?_;refine aS fun K hK=>?_;simp -dsimp;apply hK;clear hK K;refine awp_cond rfl (fun hc0=>?_) (fun hc0=>?_)
 ·skip
  try simp at hc0
  refine aS fun K hK=>?_;simp -dsimp;apply hK;clear hK K;exact awp_ret (by simp_all [endsN])
 ·skip
  try simp at hc0
  refine aS fun K hK=>?_;simp -dsimp;apply hK;clear hK K;refine awp_cond rfl (fun hc1=>?_) (fun hc1=>?_)
  ·skip
   try simp at hc1
   refine aS fun K hK=>?_;simp -dsimp;apply hK;clear hK K;exact awp_ret (by simp_all [endsN])
  ·skip
   try simp at hc1
   refine aS fun K hK=>?_;simp -dsimp;apply hK;clear hK K;refine awp_cond rfl (fun hc2=>?_) (fun hc2=>?_)
   ·skip
    try simp at hc2
    refine aS fun K hK=>?_;simp -dsimp;apply hK;clear hK K;exact awp_ret (by simp_all [endsN])
   ·skip
    try simp at hc2
    refine awp_seq_k fun K2 hK2=>?_;refine aS fun K hK=>?_;simp -dsimp;apply hK;clear hK K;refine awp_cond rfl (fun hc3=>?_) (fun hc3=>?_)
    ·skip
     try simp at hc3
     refine awp_skip ?_;simp only[zT,reduceIte,Nat.reduceEqDiff];refine hK2 _ _ ?_;refine awp_prune [10] ?_;simp only[zP,Nat.reduceEqDiff,reduceIte];refine awp_cond rfl (fun hc5=>?_) (fun hc5=>?_)
     ·skip
      try simp at hc5
      refine aS fun K hK=>?_;simp -dsimp;apply hK;clear hK K;exact awp_ret (by simp_all [endsN])
     ·skip
      try simp at hc5
      refine awp_skip ?_;simp only[zT,reduceIte,Nat.reduceEqDiff];refine hK1 _ _ ?_;refine awp_prune [] ?_;simp only[zP,Nat.reduceEqDiff,reduceIte];refine aS fun K hK=>?_;simp -dsimp;apply hK;clear hK K;exact awp_ret (by simp_all [endsN])
    ·skip
     try simp at hc3
     refine aS fun K hK=>?_;simp -dsimp;apply hK;clear hK K;refine awp_cond rfl (fun hc4=>?_) (fun hc4=>?_)
     ·skip
      try simp at hc4
      refine awp_skip ?_;simp only[zT,reduceIte,Nat.reduceEqDiff];refine hK2 _ _ ?_;refine awp_prune [10] ?_;simp only[zP,Nat.reduceEqDiff,reduceIte];refine awp_cond rfl (fun hc5=>?_) (fun hc5=>?_)
      ·skip
       try simp at hc5
       refine aS fun K hK=>?_;simp -dsimp;apply hK;clear hK K;exact awp_ret (by simp_all [endsN])
      ·skip
       try simp at hc5
       refine awp_skip ?_;simp only[zT,reduceIte,Nat.reduceEqDiff];refine hK1 _ _ ?_;refine awp_prune [] ?_;simp only[zP,Nat.reduceEqDiff,reduceIte];refine aS fun K hK=>?_;simp -dsimp;apply hK;clear hK K;exact awp_ret (by simp_all [endsN])
     ·skip
      try simp at hc4
      refine aR fun K hK=>?_;simp -dsimp;apply hK;clear hK K;simp only[zT,reduceIte,Nat.reduceEqDiff];refine hK2 _ _ ?_;refine awp_prune [10] ?_;simp only[zP,Nat.reduceEqDiff,reduceIte];refine awp_cond rfl (fun hc5=>?_) (fun hc5=>?_)
      ·skip
       try simp at hc5
       refine aS fun K hK=>?_;simp -dsimp;apply hK;clear hK K;exact awp_ret (by simp_all [endsN])
      ·skip
       try simp at hc5
       refine awp_skip ?_;simp only[zT,reduceIte,Nat.reduceEqDiff];refine hK1 _ _ ?_;refine awp_prune [] ?_;simp only[zP,Nat.reduceEqDiff,reduceIte];refine aS fun K hK=>?_;simp -dsimp;apply hK;clear hK K;exact awp_ret (by simp_all [endsN])
end Go.Tram
end
section
namespace Go.Sq
open Ieee
theorem read_big {q r:Nat} (hq:1≤q) (hq2:q<2047) (hr:r<4503599627370496):double.read (q*4503599627370496+r)= .number false (4503599627370496+r) (double.leastPlace+(q-1:Nat)):=by
 have hb:double.binade=4503599627370496:=by decide
 have hs:double.signWeight=9223372036854775808:=by decide
 have hi:double.infRung=2047*4503599627370496:=by decide
 unfold Format.read;rw[hb,hs,hi];have h1:q*4503599627370496+r<9223372036854775808:=by omega
 rw[Nat.mod_eq_of_lt h1,Nat.div_eq_of_lt h1];have h2:¬q*4503599627370496+r<4503599627370496:=by omega
 have h3:q*4503599627370496+r<2047*4503599627370496:=by omega
 have h4:(q*4503599627370496+r)/4503599627370496=q:=by omega
 have h5:(q*4503599627370496+r) % 4503599627370496=r:=by omega
 simp only[h2,h3,if_true,if_false,h4,h5];simp
theorem cut_le {n drop:Nat} (h:n<2^(53+drop)):Toward.even.cut false n drop≤2^53:=by
 unfold Toward.cut;simp only[Nat.shiftLeft_eq,Nat.one_mul]
 by_cases hd:drop≤n.log2+2
 ·rw[Nat.min_eq_left hd];have hlow:n/2^drop<2^53:=by rw[Nat.div_lt_iff_lt_mul (Nat.two_pow_pos _),←Nat.pow_add];exact h
  have:∀b:Bool,b.toNat≤1:=by intro b;cases b<;>simp
  refine Nat.le_trans (Nat.add_le_add_left (this _) _) hlow
 ·rw[Nat.min_eq_right (by omega)];have hlt:n<2^(n.log2+2):=Nat.lt_of_lt_of_le (Nat.lt_log2_self) (Nat.pow_le_pow_right (by omega) (by omega));rw[Nat.div_eq_of_lt hlt];have:∀b:Bool,b.toNat≤1:=by intro b;cases b<;>simp
  exact Nat.le_trans (Nat.add_le_add_left (this _) _) (by decide)
theorem cut_none (n:Nat):Toward.even.cut false n 0=n:=by
 unfold Toward.cut;simp[Nat.mod_one]
theorem cut_zero_le (n drop:Nat):Toward.zero.cut false n drop≤n/2^drop:=by
 unfold Toward.cut;simp only[Nat.shiftLeft_eq,Nat.one_mul,Bool.toNat_false,Nat.add_zero]
 by_cases hd:drop≤n.log2+2
 ·rw[Nat.min_eq_left hd];exact Nat.le_refl _
 ·rw[Nat.min_eq_right (by omega)];have hlt:n<2^(n.log2+2):=Nat.lt_of_lt_of_le (Nat.lt_log2_self) (Nat.pow_le_pow_right (by omega) (by omega));rw[Nat.div_eq_of_lt hlt];exact Nat.zero_le _
theorem rootFrom_sq (n:Nat):∀todo root,root*root≤n→Datum.rootFrom n todo root*Datum.rootFrom n todo root≤n
 |0,root,h=>by simpa [Datum.rootFrom]using h
 |todo+1,root,h=>by
  simp only[Datum.rootFrom];refine rootFrom_sq n todo _ ?_
  split
  ·assumption
  ·exact h
theorem read_nat {n:Nat} (h1:1≤n) (h2:n<2^53):∃m:Nat,∃e:Int,double.read (double.write (.number false n 0))= .number false m e∧2^52≤m∧m<2^53∧e=(n.log2:Int)-52:=by
 have hn:n≠0:=by omega
 have hL:n.log2<53:=(Nat.log2_lt hn).2 h2;have hlo:=Nat.log2_self_le hn;have hhi:= @Nat.lt_log2_self n;have hlp:double.leastPlace=-1074:=by decide
 have hb:double.binade=4503599627370496:=by decide
 have hi:double.infRung=2047*4503599627370496:=by decide
 have hf:double.fractionBits=52:=rfl;refine⟨n*2^(52-n.log2),(n.log2:Int)-52,?_,?_,?_,rfl⟩
 ·simp only[Format.write,Format.nearest,hn,if_false,hf,hlp,hi,hb];have hmax:max ((0:Int)+(n.log2:Int)-(52:Nat)) (-1074)=(n.log2:Int)-52:=by omega
  rw[hmax];have e1:((0:Int)-((n.log2:Int)-52)).toNat=52-n.log2:=by omega
  have e2:(((n.log2:Int)-52)-0).toNat=0:=by omega
  have e3:(((n.log2:Int)-52)- -1074).toNat=n.log2+1022:=by omega
  rw[e1,e2,e3,cut_none,Nat.shiftLeft_eq];have hk1:2^52≤n*2^(52-n.log2):=by
   have:=Nat.mul_le_mul_right (2^(52-n.log2)) hlo;rw[←Nat.pow_add]at this
   rwa [show n.log2+(52-n.log2)=52 by omega]at this
  have hk2:n*2^(52-n.log2)<2^53:=by
   have:=Nat.mul_lt_mul_of_pos_right hhi (Nat.two_pow_pos (52-n.log2));rw[←Nat.pow_add]at this
   rwa [show n.log2+1+(52-n.log2)=53 by omega]at this
  generalize n*2^(52-n.log2)=k at hk1 hk2 ⊢;rw[Nat.min_eq_left (by omega)];have hq:(n.log2+1022)*4503599627370496+k=(n.log2+1023)*4503599627370496+(k-4503599627370496):=by omega
  simp only[Format.word,Bool.false_eq_true,if_false];rw[hq,read_big (by omega) (by omega) (by omega),hlp];rw[show 4503599627370496+(k-4503599627370496)=k by omega,show(-1074:Int)+((n.log2+1023-1:Nat):Int)=(n.log2:Int)-52 by omega]
 ·have:=Nat.mul_le_mul_right (2^(52-n.log2)) hlo;rw[←Nat.pow_add]at this
  rwa [show n.log2+(52-n.log2)=52 by omega]at this
 ·have:=Nat.mul_lt_mul_of_pos_right hhi (Nat.two_pow_pos (52-n.log2));rw[←Nat.pow_add]at this
  rwa [show n.log2+1+(52-n.log2)=53 by omega]at this
theorem read_write {m:Nat} {e:Int} (h1:1≤m) (hm:m<2^60) (he:-100≤e) (he2:e≤100):∃(k:Nat) (d:Int),double.read (double.write (.number false m e))= .number false k d∧k≤2^53∧d≤e+(m.log2:Int)-51∧-1000≤d:=by
 have hn:m≠0:=by omega
 have hL:m.log2<60:=(Nat.log2_lt hn).2 hm;have hhi:= @Nat.lt_log2_self m;have hlp:double.leastPlace=-1074:=by decide
 have hb:double.binade=4503599627370496:=by decide
 have hi:double.infRung=2047*4503599627370496:=by decide
 have hf:double.fractionBits=52:=rfl;simp only[Format.write,Format.nearest,hn,if_false,hf,hlp,hi,hb];have hmax:max (e+(m.log2:Int)-(52:Nat)) (-1074)=e+(m.log2:Int)-52:=by omega
 rw[hmax];have hkept:Toward.even.cut false (m<<< (e-(e+(m.log2:Int)-52)).toNat) ((e+(m.log2:Int)-52)-e).toNat≤2^53:=by
  refine cut_le ?_;rw[Nat.shiftLeft_eq];have:=Nat.mul_lt_mul_of_pos_right hhi (Nat.two_pow_pos (e-(e+(m.log2:Int)-52)).toNat);rw[←Nat.pow_add]at this;refine Nat.lt_of_lt_of_le this (Nat.pow_le_pow_right (by omega) ?_);omega
 generalize Toward.even.cut false (m<<< (e-(e+(m.log2:Int)-52)).toNat) ((e+(m.log2:Int)-52)-e).toNat=k at hkept;obtain⟨q,hq⟩:∃q:Nat,(e+(m.log2:Int)-52- -1074).toNat=q:=⟨_,rfl⟩;rw[hq];have hq1:(q:Int)=e+(m.log2:Int)+1022:=by omega
 rw[Nat.min_eq_left (by omega)];simp only[Format.word,Bool.false_eq_true,if_false];have hkq:q*4503599627370496+k=(q+k/4503599627370496)*4503599627370496+k % 4503599627370496:=by omega
 rw[hkq,read_big (by omega) (by omega) (by omega),hlp];refine⟨_,_,rfl,by omega,by omega,by omega⟩
theorem sqrt_bd {n:Nat} (h:n<2^50):∃r x:Nat,FloatKind.f64.format.sqrt (FloatKind.f64.nearest n)=some r∧floatToIntVal .f64 r .i64=some (x:Int)∧x≤2^30:=by
 have hfm:FloatKind.f64.format=double:=rfl
 by_cases h0:n=0
 ·subst h0;exact⟨0,0,by decide,by decide,by decide⟩
 have hne:FloatKind.f64.nearest (n:Int)=double.write (.number false n 0):=by
  simp only[FloatKind.nearest,FloatKind.encode,hfm,Int.natAbs_natCast]
  congr 1
 obtain⟨m,e,hr,hm1,hm2,he⟩:=read_nat (n:=n) (by omega) (Nat.lt_trans h (by decide));have hL:n.log2<50:=(Nat.log2_lt h0).2 h;have hmne:m≠0:=by omega
 have hml:m.log2=52:=by
  have a1:m.log2<53:=(Nat.log2_lt hmne).2 hm2;have a2:52≤m.log2:=(Nat.le_log2 hmne).2 hm1;omega
 have hf:double.fractionBits=52:=rfl;rw[hne,hfm];simp only[Format.sqrt,hr,hf,Datum.root,hmne,if_false,hml,Bool.false_eq_true];obtain⟨t,ht⟩:∃t:Nat,2*(52+2)-52+((e-((2*(52+2)-52:Nat):Int)) % 2).toNat=t:=⟨_,rfl⟩;rw[ht];have ht1:56≤t∧t≤57:=by omega
 obtain⟨w,hw⟩:∃w,Datum.rootFrom (m<<<t) ((m<<<t).log2/2+1) 0=w:=⟨_,rfl⟩;have hws:w*w≤m<<<t:=by rw[←hw];exact rootFrom_sq _ _ _ (Nat.zero_le _)
 rw[hw];have hN:m<<<t<2^110:=by
  rw[Nat.shiftLeft_eq];have:=Nat.mul_lt_mul_of_pos_right hm2 (Nat.two_pow_pos t);rw[←Nat.pow_add]at this;exact Nat.lt_of_lt_of_le this (Nat.pow_le_pow_right (by omega) (by omega))
 have hw55:w<2^55:=by
  rcases Nat.lt_or_ge w (2^55)with h|h
  ·exact h
  ·have:=Nat.mul_le_mul h h;rw[←Nat.pow_add]at this;omega
 have hNpos:0<m<<<t:=by rw[Nat.shiftLeft_eq];exact Nat.mul_pos (by omega) (Nat.two_pow_pos _)
 obtain⟨g,hg⟩:∃g,2*w+(w*w !=m<<<t).toNat=g:=⟨_,rfl⟩;have hbt:∀b:Bool,b.toNat≤1:=by intro b;cases b<;>simp
 have hg1:1≤g:=by
  rw[←hg]
  by_cases hw0:w=0
  ·subst hw0;have:(0*0 !=m<<<t)=true:=by simp;omega
   rw[this];decide
  ·omega
 have hg2:g<2^56:=by rw[←hg];have:=hbt (w*w !=m<<<t);omega
 rw[hg];simp only[Option.map_some];obtain⟨k,d,hk,hk1,hd1,hd2⟩:=read_write (m:=g) (e:=(e-(t:Int))/2-1) hg1 (Nat.lt_trans hg2 (by decide)) (by omega) (by omega);have hgl:g.log2<56:=(Nat.log2_lt (by omega)).2 hg2;refine⟨_,Toward.zero.cut false k (-d).toNat,rfl,?_,?_⟩
 ·have hd0:d.toNat=0:=by omega
  have hx:Toward.zero.cut false k (-d).toNat≤k:=Nat.le_trans (cut_zero_le _ _) (Nat.div_le_self _ _);have hI:(FloatKind.f64.decode (double.write (.number false g ((e-(t:Int))/2-1)))).toInt .zero=some ((Toward.zero.cut false k (-d).toNat:Nat):Int):=by
   simp only[FloatKind.decode,hfm,hk,Datum.toInt,Datum.integral,hd0,signed,Nat.shiftLeft_zero,Bool.false_eq_true,if_false]
  unfold floatToIntVal;rw[hI];have hmin:IntKind.i64.min=-9223372036854775808:=by decide
  have hmax:IntKind.i64.max=9223372036854775807:=by decide
  simp only[hmin,hmax];rw[if_pos (by omega)]
 ·refine Nat.le_trans (cut_zero_le _ _) ?_;have h27:27≤(-d).toNat:=by omega
  have:k/2^(-d).toNat≤k/2^27:=Nat.div_le_div_left (Nat.pow_le_pow_right (by omega) h27) (by decide);refine Nat.le_trans this ?_;omega
end Go.Sq
end
section
namespace Go.Tram
open Go.AM
def cmpI (a b:Int):Int:=if a<b then-1 else if b<a then 1 else 0
theorem cmpI_neg {a b:Int}:cmpI a b<0↔a<b:=by unfold cmpI;split<;>(try split)<;>omega
theorem cmpI_bd {a b:Int}:-1≤cmpI a b∧cmpI a b≤1:=by unfold cmpI;split<;>(try split)<;>omega
def dotS (a b c d:Spot):Int:=(b.X-a.X)*(d.X-c.X)+(b.Y-a.Y)*(d.Y-c.Y)
def crossS (a b c d:Spot):Int:=(b.X-a.X)*(d.Y-c.Y)-(b.Y-a.Y)*(d.X-c.X)
def spotted (a b p:Spot) (d:Int):Int:=
 if dotS a b a p≤0 then cmpI (dotS a p a p) (d*d)
 else if dotS a b a b≤dotS a b a p then cmpI (dotS b p b p) (d*d)
 else cmpI (crossS a b a p*crossS a b a p) (d*d*dotS a b a b)
def sideS (a b p:Spot):Int:=cmpI (crossS a b a p) 0
def crossing (a b c d:Spot):Bool:=decide (sideS a b c*sideS a b d<0)&&decide (sideS c d a*sideS c d b<0)
def min4 (a b c d:Int):Int:=min (min (min a b) c) d
def apart (a b c d:Spot) (r:Int):Int:=if crossing a b c d=true then cmpI 0 r else min4 (spotted a b c r) (spotted a b d r) (spotted c d a r) (spotted c d b r)
def bis (f:Int→Bool):Nat→Int→Int→Int
 |0,lo,_=>lo
 |n+1,lo,hi=>if hi-lo>1 then(if f ((lo+hi)/2)then bis f n ((lo+hi)/2) hi else bis f n lo ((lo+hi)/2))else lo
theorem bis_stop {f:Int→Bool} {n:Nat} {lo hi:Int} (h:hi-lo≤1):bis f n lo hi=lo:=by
 cases n with
 |zero=>rfl
 |succ n=>unfold bis;rw[if_neg (by omega)]
theorem bis_more {f:Int→Bool}:∀(n m:Nat) (lo hi:Int),(hi-lo).toNat≤n+1→(hi-lo).toNat≤m+1→bis f n lo hi=bis f m lo hi
 |0,m,lo,hi,h1,h2=>by rw[bis_stop (n:=m) (by omega)];rfl
 |n+1,0,lo,hi,h1,h2=>by rw[bis_stop (n:=n+1) (by omega)];rfl
 |n+1,m+1,lo,hi,h1,h2=>by
  unfold bis
  split
  ·rw[bis_more n m ((lo+hi)/2) hi (by omega) (by omega),bis_more n m lo ((lo+hi)/2) (by omega) (by omega)]
  ·rfl
theorem bis_spec {f:Int→Bool}:∀(n:Nat) (lo hi:Int),lo<hi→(hi-lo).toNat≤n+1→
  lo≤bis f n lo hi∧bis f n lo hi<hi∧(bis f n lo hi=lo∨f (bis f n lo hi)=true)∧(bis f n lo hi+1=hi∨f (bis f n lo hi+1)=false)
 |0,lo,hi,h0,h1=>by
  have:hi=lo+1:=by omega
  subst this;exact⟨Int.le_refl _,by simp[bis];omega,Or.inl rfl,Or.inl rfl⟩
 | n+1,lo,hi,h0,h1=>by
  unfold bis
  split
  ·split
   ·rename_i hf;obtain⟨k1,k2,k3,k4⟩:=bis_spec n ((lo+hi)/2) hi (by omega) (by omega);refine⟨by omega,k2,?_,k4⟩
    rcases k3 with k3|k3
    ·rw[k3];exact Or.inr hf
    ·exact Or.inr k3
   ·rename_i hf;obtain⟨k1,k2,k3,k4⟩:=bis_spec (f:=f) n lo ((lo+hi)/2) (by omega) (by omega);refine⟨k1,by omega,k3,?_⟩
    rcases k4 with k4|k4
    ·rw[k4];exact Or.inr (by simpa using hf)
    ·exact Or.inr k4
  ·exact⟨by omega,by omega,Or.inl rfl,Or.inl (by omega)⟩
def gap (a b c d:Spot):Int:=bis (fun r=>decide (0≤apart a b c d r)) 5000 0 5001
theorem dotS_self (a b:Spot):dotS a b a b=sqd a b:=by
 have h1:(b.X-a.X)*(b.X-a.X)=(a.X-b.X)*(a.X-b.X):=by rw[←Int.neg_mul_neg];congr 1<;>omega
 have h2:(b.Y-a.Y)*(b.Y-a.Y)=(a.Y-b.Y)*(a.Y-b.Y):=by rw[←Int.neg_mul_neg];congr 1<;>omega
 simp only[dotS,sqd,h1,h2]
theorem dotS_nn (a b:Spot):0≤dotS a b a b:=by
 have:=sq_nn (b.X-a.X);have:=sq_nn (b.Y-a.Y);unfold dotS;omega
theorem dotS_bd {a b c d:Spot} (ha:spotB a=true) (hb:spotB b=true) (hc:spotB c=true) (hd:spotB d=true):-800000000000000≤dotS a b c d∧dotS a b c d≤800000000000000:=by
 rw[spotB_iff]at ha hb hc hd;have h1:=mul_bd (a:=b.X-a.X) (b:=d.X-c.X) (A:=20000000) (B:=20000000) (by omega) (by omega) (by omega) (by omega);have h2:=mul_bd (a:=b.Y-a.Y) (b:=d.Y-c.Y) (A:=20000000) (B:=20000000) (by omega) (by omega) (by omega) (by omega);unfold dotS;omega
theorem crossS_bd {a b c d:Spot} (ha:spotB a=true) (hb:spotB b=true) (hc:spotB c=true) (hd:spotB d=true):-800000000000000≤crossS a b c d∧crossS a b c d≤800000000000000:=by
 rw[spotB_iff]at ha hb hc hd;have h1:=mul_bd (a:=b.X-a.X) (b:=d.Y-c.Y) (A:=20000000) (B:=20000000) (by omega) (by omega) (by omega) (by omega);have h2:=mul_bd (a:=b.Y-a.Y) (b:=d.X-c.X) (A:=20000000) (B:=20000000) (by omega) (by omega) (by omega) (by omega);unfold crossS;omega
theorem min4_neg {a b c d:Int}:min4 a b c d<0↔(a<0∨b<0∨c<0∨d<0):=by unfold min4;omega
end Go.Tram
namespace Go.Tram
open Go.AM
theorem split_mul (x y B:Int):x*y=(x/B)*(y/B)*(B*B)+(x/B)*(y % B)*B+(x % B)*(y/B)*B+(x % B)*(y % B):=by
 have hx:=Int.mul_ediv_add_emod x B;have hy:=Int.mul_ediv_add_emod y B;generalize x/B=x1 at*
 generalize x % B=x0 at*
 generalize y/B=y1 at*
 generalize y % B=y0 at*
 subst hx hy;simp only[Int.mul_add,Int.add_mul];have e1:B*x1*(B*y1)=x1*y1*(B*B):=by ac_rfl
 have e2:B*x1*y0=x1*y0*B:=by ac_rfl
 have e3:x0*(B*y1)=x0*y1*B:=by ac_rfl
 omega
theorem mul_range {a b A B:Int} (h0:0≤a) (h1:a<A) (k0:0≤b) (k1:b<B):0≤a*b∧a*b≤(A-1)*(B-1):=
 ⟨Int.mul_nonneg h0 k0,Int.mul_le_mul (by omega) (by omega) k0 (by omega)⟩
theorem mul_hi {x y:Int} (hx:0≤x) (hx':x<18446744073709551616) (hy:0≤y) (hy':y<18446744073709551616):
  (x/4294967296)*(y/4294967296)+((x/4294967296)*(y % 4294967296)+(x % 4294967296)*(y % 4294967296)/4294967296)/4294967296+
   (((x/4294967296)*(y % 4294967296)+(x % 4294967296)*(y % 4294967296)/4294967296) % 4294967296+(x % 4294967296)*(y/4294967296))/4294967296=x*y/18446744073709551616:=by
 have h:=split_mul x y 4294967296;have a1:=mul_range (a:=x/4294967296) (b:=y/4294967296) (A:=4294967296) (B:=4294967296) (by omega) (by omega) (by omega) (by omega);have a2:=mul_range (a:=x/4294967296) (b:=y % 4294967296) (A:=4294967296) (B:=4294967296) (by omega) (by omega) (by omega) (by omega);have a3:=mul_range (a:=x % 4294967296) (b:=y/4294967296) (A:=4294967296) (B:=4294967296) (by omega) (by omega) (by omega) (by omega);have a4:=mul_range (a:=x % 4294967296) (b:=y % 4294967296) (A:=4294967296) (B:=4294967296) (by omega) (by omega) (by omega) (by omega);generalize (x/4294967296)*(y/4294967296)=p at*
 generalize (x/4294967296)*(y % 4294967296)=q at*
 generalize (x % 4294967296)*(y/4294967296)=r at*
 generalize (x % 4294967296)*(y % 4294967296)=s at*
 omega
theorem cmp_words {p q:Int} (M:Int) (hM:0<M):(if cmpI (p/M) (q/M)≠0 then cmpI (p/M) (q/M)else cmpI (p % M) (q % M))=cmpI p q:=by
 have hp:=Int.mul_ediv_add_emod p M;have hq:=Int.mul_ediv_add_emod q M;have p0:=Int.emod_nonneg p (by omega:M≠0);have q0:=Int.emod_nonneg q (by omega:M≠0);have p1:=Int.emod_lt_of_pos p hM;have q1:=Int.emod_lt_of_pos q hM
 rcases Int.lt_trichotomy (p/M) (q/M)with h|h|h
 ·have:M*(p/M+1)≤M*(q/M):=Int.mul_le_mul_of_nonneg_left (by omega) (by omega);rw[Int.mul_add]at this;have hpq:p<q:=by omega
  simp[cmpI,h,hpq]
 ·rw[h]at hp;have e1:cmpI (p/M) (q/M)=0:=by rw[h];simp[cmpI]
  rw[e1];simp only[ne_eq,not_true_eq_false,if_false];have l1:p % M<q % M↔p<q:=by omega
  have l2:q % M<p % M↔q<p:=by omega
  simp only[cmpI,l1,l2]
 ·have:M*(q/M+1)≤M*(p/M):=Int.mul_le_mul_of_nonneg_left (by omega) (by omega);rw[Int.mul_add]at this;have hpq:q<p:=by omega
  have n1:¬p<q:=by omega
  have n2:¬p/M<q/M:=by omega
  simp[cmpI,h,hpq,n1,n2]
theorem mask32 {m:Int} (h0:0≤m) (h1:m<18446744073709551616):bits .and .u64 m 4294967295=m % 4294967296:=by
 obtain⟨n,rfl⟩:∃n:Nat,m=n:=⟨m.toNat,by omega⟩;have:=bits_and_u64_nat n 4294967295 (by omega) (by omega);rw[show((4294967295:Nat):Int)=4294967295 from rfl]at this;rw[this,show(4294967295:Nat)=2^32-1 from rfl,Nat.and_two_pow_sub_one_eq_mod];omega
end Go.Tram
namespace Go.Tram
open Go.AM
structure SS where
 Rail:Int
 Segment:Int
 a:Spot
 b:Spot
 bends:List Spot
 From:Int
 To:Int
 deriving Inhabited
@[simp] def SS.cells (s:SS):List AV:=[I s.Rail,I s.Segment,I s.a.X,I s.a.Y,I s.b.X,I s.b.Y, .lst 2 (s.bends.map Spot.cells),I s.From,I s.To]
abbrev SS.av (s:SS):AV:= .agg s.cells
def straightB (l:List Spot) (k:Nat):Bool:=decide (crossS (nth l (k-1)) (nth l k) (nth l k) (nth l (k+1))=0)&&decide (0<dotS (nth l (k-1)) (nth l k) (nth l k) (nth l (k+1)))
def bendB (l:List Spot) (k:Nat):Bool:=decide (0<k)&&(decide (k+1<l.length)&& !straightB l k)
def bendL (l:List Spot) (k:Nat):List Spot:=if bendB l k then [nth l k]else []
def stripOf (l:List Spot) (r:Int) (k:Nat):SS:=⟨r,k,nth l k,nth l (k+1),bendL l k++bendL l (k+1),sumTo l k,sumTo l (k+1)⟩
def stripsTo (l:List Spot) (r:Int) (n:Nat):List SS:=(List.range n).map (stripOf l r)
def Plan.strips (p:Plan) (r:Int):List SS:=stripsTo (p.line r) r ((p.rail r).Shape.length+1)
def sheetRows (p:Plan) (n:Nat):List (List AV):=(List.range n).map fun(r:Nat)=>[.lst 9 ((p.strips (r:Int)).map SS.cells)]
def sheet (p:Plan):List AV:=p.cells++[.lst 1 (sheetRows p p.Rails.length)]
def profB (x:Profile):Bool:=inr x.Half 1 2000&&inr x.Swing 0 1500
def swungB (s t:SS) (d:Int):Bool:=s.bends.any fun q=>decide (spotted t.a t.b q d≤0)
def bothB (s t:SS) (d:Int):Bool:=s.bends.any fun q=>t.bends.any fun r=>decide (dotS q r q r≤d*d)
def foulB (s:SS) (x:Profile) (t:SS) (y:Profile):Bool:=
 decide (apart s.a s.b t.a t.b (x.Half+y.Half)≤0)||(swungB s t (x.Half+x.Swing+y.Half)||(swungB t s (y.Half+y.Swing+x.Half)||bothB s t (x.Half+x.Swing+y.Half+y.Swing)))
structure SS.Ok (s:SS):Prop where
 a:spotB s.a=true
 b:spotB s.b=true
 l:s.bends.all spotB=true
 n:s.bends.length≤2
 p:0<dotS s.a s.b s.a s.b
def Plan.strip (p:Plan) (s:Strip):SS:=stripOf (p.line s.Rail) s.Rail s.Segment.toNat
def touchedOne (p:Plan) (c:Cover):List SS:=(p.strips c.Rail).filter fun x=>decide (c.From<x.To)&&decide (x.From<c.To)
def touched (p:Plan) (l:List Cover):List SS:=l.flatMap (touchedOne p)
def clearB (p:Plan) (a:List Cover) (x:Profile) (b:List Cover) (y:Profile):Bool:= !(touched p a).any fun s=>(touched p b).any fun t=>foulB s x t y
theorem strips_len (p:Plan) (r:Int):(p.strips r).length=(p.rail r).Shape.length+1:=by simp[Plan.strips,stripsTo]
theorem strips_get {p:Plan} {r:Int} {k:Nat} (h:k<(p.rail r).Shape.length+1):(p.strips r)[k]?=some (stripOf (p.line r) r k):=by
 simp[Plan.strips,stripsTo,h]
theorem valid_parts {p:Plan} (h:validB p=true):(1≤p.Nodes.length∧p.Nodes.length≤300)∧(1≤p.Rails.length∧p.Rails.length≤400)∧p.Nodes.all nodeB=true∧p.Rails.all (railB p)=true∧validE p=true:=by
 simp only[validB,validA,Bool.and_eq_true,inr_iff]at h;obtain⟨⟨⟨⟨h1,h2⟩,h3⟩,h4⟩,h5⟩:=h;exact⟨by omega,by omega,h3,h4,h5⟩
structure RailOk (p:Plan) (r:Int):Prop where
 f:0≤(p.rail r).From∧(p.rail r).From<p.Nodes.length
 t:0≤(p.rail r).To∧(p.rail r).To<p.Nodes.length
 s:(p.rail r).Shape.length≤30
 spots:(p.line r).all spotB=true
 spot:∀k,k<(p.line r).length→spotB (nth (p.line r) k)=true
 seg:∀k,k+1<(p.line r).length→1≤segLen (p.line r) k∧segLen (p.line r) k≤1000000
 len:(p.line r).length=(p.rail r).Shape.length+2
theorem rail_ok {p:Plan} (h:validB p=true) {r:Int} (h0:0≤r) (h1:r<p.Rails.length):RailOk p r:=by
 obtain⟨_,_,hA,hR,_⟩:=valid_parts h;have hb:railB p (p.rail r)=true:=List.all_eq_true.1 hR _ (List.mem_of_getElem? (p.rail_get h0 h1));simp only[railB,railA,Bool.and_eq_true,inr_iff,decide_eq_true_eq]at hb;obtain⟨⟨b1,b2,b3,b4,b5⟩,b6,b7⟩:=hb;have sF:=nodeB_spot (node_ends hA (i:=(p.rail r).From) (by omega) (by omega));have sT:=nodeB_spot (node_ends hA (i:=(p.rail r).To) (by omega) (by omega));have hl:=line_len p r;have hsp:=line_spots (p:=p) (i:=r) sF sT b6;refine⟨by omega,by omega,b3,hsp,fun k hk=>List.all_eq_true.1 hsp _ (List.mem_of_getElem? (nth_get hk)),fun k hk=>?_,hl⟩;have:=List.all_eq_true.1 b7 k (by simp;omega);simp only[segB,inr_iff]at this;exact this
theorem far_pos_dot {a b:Spot} (h:1≤far a b):0<dotS a b a b:=by
 have h0:=dotS_nn a b
 rcases Int.lt_or_eq_of_le h0 with h1|h1
 ·exact h1
 ·have hs:sqd a b=0:=by rw[←dotS_self,←h1]
  have:far a b=0:=by unfold far;rw[hs];exact isq_of ⟨by omega,by omega,by omega⟩
  omega
theorem bendL_sub {l:List Spot} {k:Nat} {s:Spot} (h:s∈bendL l k):0<k∧k+1<l.length∧s=nth l k:=by
 unfold bendL at h
 split at h
 ·rename_i hb;simp only[bendB,Bool.and_eq_true,decide_eq_true_eq]at hb;exact⟨hb.1,hb.2.1,by simpa using h⟩
 ·cases h
theorem bendL_len (l:List Spot) (k:Nat):(bendL l k).length≤1:=by unfold bendL;split<;>simp
theorem strip_ok {p:Plan} {r:Int} (h:RailOk p r) {k:Nat} (hk:k<(p.rail r).Shape.length+1):(stripOf (p.line r) r k).Ok:=by
 have hl:=h.len;refine⟨h.spot _ (by omega),h.spot _ (by omega),?_,?_,?_⟩
 ·rw[List.all_eq_true];intro s hs;simp only[stripOf,List.mem_append]at hs
  rcases hs with hs|hs
  ·obtain⟨_,h2,rfl⟩:=bendL_sub hs;exact h.spot _ (by omega)
  ·obtain⟨_,h2,rfl⟩:=bendL_sub hs;exact h.spot _ (by omega)
 ·have:=bendL_len (p.line r) k;have:=bendL_len (p.line r) (k+1);simp only[stripOf,List.length_append];omega
 ·have:=(h.seg k (by omega)).1;unfold segLen at this;exact far_pos_dot this
theorem strips_ok {p:Plan} {r:Int} (h:RailOk p r) {s:SS} (hs:s∈p.strips r):s.Ok:=by
 simp only[Plan.strips,stripsTo,List.mem_map,List.mem_range]at hs;obtain⟨k,hk,rfl⟩:=hs;exact strip_ok h hk
theorem sumTo_bd {p:Plan} {r:Int} (h:RailOk p r):∀k,k+1≤(p.line r).length→(k:Int)≤sumTo (p.line r) k∧sumTo (p.line r) k≤1000000*k
 |0,_=>by simp[sumTo]
 |k+1,hk=>by
  have h1:=sumTo_bd h k (by omega);have h2:=h.seg k (by omega);simp only[sumTo];omega
end Go.Tram
namespace Go.Tram
open Go.AM
theorem spotted_own_a {a b:Spot} {r:Int} (h:0<r):spotted a b a r<0:=by
 have h1:dotS a b a a=0:=by simp[dotS]
 have h2:dotS a a a a=0:=by simp[dotS]
 unfold spotted;rw[if_pos (by omega),h2,cmpI_neg];exact Int.mul_pos h h
theorem spotted_own_b {a b:Spot} {r:Int} (hp:0<dotS a b a b) (h:0<r):spotted a b b r<0:=by
 have h2:dotS b b b b=0:=by simp[dotS]
 unfold spotted;rw[if_neg (by omega),if_pos (by omega),h2,cmpI_neg];exact Int.mul_pos h h
theorem apart_meet {a b c d:Spot} {r:Int} (hp:0<dotS a b a b) (hq:0<dotS c d c d) (hm:c=a∨c=b∨d=a∨d=b) (h:0<r):apart a b c d r<0:=by
 unfold apart
 split
 ·rw[cmpI_neg];exact h
 ·rw[min4_neg]
  rcases hm with rfl|rfl|rfl|rfl
  ·exact Or.inl (spotted_own_a h)
  ·exact Or.inl (spotted_own_b hp h)
  ·exact Or.inr (Or.inl (spotted_own_a h))
  ·exact Or.inr (Or.inl (spotted_own_b hp h))
end Go.Tram
namespace Go.Tram
open Go.AM
def pairs (p:Plan) (a b:Int):List (SS×SS):=(p.strips a).flatMap fun s=>(p.strips b).map fun t=>(s,t)
theorem flatMap_at {α β γ:Type} (f:α→β→γ) (ys:List β):∀(xs:List α) (k j:Nat) (x:α) (y:β),xs[k]?=some x→ys[j]?=some y→(xs.flatMap fun x=>ys.map (f x))[k*ys.length+j]?=some (f x y)
 |[],k,j,x,y,h,_=>by simp at h
 |z::xs,0,j,x,y,h,hy=>by
  simp only[List.getElem?_cons_zero,Option.some.injEq]at h;subst h;have hj:j<ys.length:=(List.getElem?_eq_some_iff.1 hy).1;rw[List.flatMap_cons,List.getElem?_append_left (by simp;omega)];simp[hy]
 |z::xs,k+1,j,x,y,h,hy=>by
  have h':xs[k]?=some x:=by simpa using h
  rw[List.flatMap_cons,List.getElem?_append_right (by simp[Nat.succ_mul];omega)];have:=flatMap_at f ys xs k j x y h' hy;rw[List.length_map,show(k+1)*ys.length+j-ys.length=k*ys.length+j by rw[Nat.succ_mul];omega];exact this
theorem pairs_at {p:Plan} {a b:Int} {k j:Nat} {s t:SS} (hs:(p.strips a)[k]?=some s) (ht:(p.strips b)[j]?=some t):(pairs p a b)[k*(p.strips b).length+j]?=some (s,t):=flatMap_at _ _ _ _ _ _ _ hs ht
theorem pairs_len (p:Plan) (a b:Int):(pairs p a b).length=(p.strips a).length*(p.strips b).length:=by
 unfold pairs
 induction p.strips a with
 |nil=>simp
 |cons x l ih=>rw[List.flatMap_cons,List.length_append,ih];simp[Nat.succ_mul];omega
theorem pairs_mem {p:Plan} {a b:Int} {q:SS×SS} (h:q∈pairs p a b):q.1∈p.strips a∧q.2∈p.strips b:=by
 simp only[pairs,List.mem_flatMap,List.mem_map]at h;obtain⟨s,hs,t,ht,rfl⟩:=h;exact⟨hs,ht⟩
def meetB (p:Plan) (a b:Int):Bool:=
 decide (a=b)||(decide ((p.rail a).From=(p.rail b).From)||(decide ((p.rail a).From=(p.rail b).To)||(decide ((p.rail a).To=(p.rail b).From)||decide ((p.rail a).To=(p.rail b).To))))
def railsB (p:Plan) (a:Int) (x:Profile) (b:Int) (y:Profile):Bool:=(pairs p a b).any fun q=>foulB q.1 x q.2 y
theorem strips_first (p:Plan) (r:Int):stripOf (p.line r) r 0∈p.strips r:=List.mem_of_getElem? (strips_get (k:=0) (by omega))
theorem strips_last (p:Plan) (r:Int):stripOf (p.line r) r (p.rail r).Shape.length∈p.strips r:=List.mem_of_getElem? (strips_get (k:=(p.rail r).Shape.length) (by omega))
theorem line_first (p:Plan) (r:Int):nth (p.line r) 0=(p.node (p.rail r).From).Spot:=by simp[nth,Plan.line,lineOf]
theorem line_last (p:Plan) (r:Int):nth (p.line r) ((p.rail r).Shape.length+1)=(p.node (p.rail r).To).Spot:=by simp[nth,Plan.line,lineOf]
theorem prof_lo {x:Profile} (h:profB x=true):1≤x.Half∧0≤x.Swing:=by
 simp only[profB,Bool.and_eq_true,inr_iff]at h;omega
theorem foulB_meet {s t:SS} {x y:Profile} (hs:s.Ok) (ht:t.Ok) (hx:profB x=true) (hy:profB y=true) (hm:t.a=s.a∨t.a=s.b∨t.b=s.a∨t.b=s.b):foulB s x t y=true:=by
 have h1:=prof_lo hx;have h2:=prof_lo hy;have h3:=apart_meet hs.p ht.p hm (r:=x.Half+y.Half) (by omega);simp only[foulB];rw[decide_eq_true (show apart s.a s.b t.a t.b (x.Half+y.Half)≤0 by omega)]
 rfl
theorem railsB_mem {p:Plan} {a b:Int} {x y:Profile} {s t:SS} (hs:s∈p.strips a) (ht:t∈p.strips b) (h:foulB s x t y=true):railsB p a x b y=true:=
 List.any_eq_true.2 ⟨(s,t),by simp only[pairs,List.mem_flatMap,List.mem_map];exact⟨s,hs,t,ht,rfl⟩,h⟩
theorem rails_meet {p:Plan} {a b:Int} {x y:Profile} (hv:validB p=true) (ha:inr a 0 (p.Rails.length-1)=true) (hb:inr b 0 (p.Rails.length-1)=true) (hx:profB x=true) (hy:profB y=true) (hm:meetB p a b=true):railsB p a x b y=true:=by
 have ia:=inr_iff.1 ha;have ib:=inr_iff.1 hb;have ra:=rail_ok hv (r:=a) (by omega) (by omega);have rb:=rail_ok hv (r:=b) (by omega) (by omega);have fa:=strips_ok ra (strips_first p a);have la:=strips_ok ra (strips_last p a);have fb:=strips_ok rb (strips_first p b);have lb:=strips_ok rb (strips_last p b);simp only[meetB,Bool.or_eq_true,decide_eq_true_eq]at hm
 rcases hm with rfl|h|h|h|h
 ·exact railsB_mem (strips_first p a) (strips_first p a) (foulB_meet fa fa hx hy (Or.inl rfl))
 ·refine railsB_mem (strips_first p a) (strips_first p b) (foulB_meet fa fb hx hy (Or.inl ?_));show nth (p.line b) 0=nth (p.line a) 0;rw[line_first,line_first,h]
 ·refine railsB_mem (strips_first p a) (strips_last p b) (foulB_meet fa lb hx hy (Or.inr (Or.inr (Or.inl ?_))));show nth (p.line b) ((p.rail b).Shape.length+1)=nth (p.line a) 0;rw[line_first,line_last,h]
 ·refine railsB_mem (strips_last p a) (strips_first p b) (foulB_meet la fb hx hy (Or.inr (Or.inl ?_)));show nth (p.line b) 0=nth (p.line a) ((p.rail a).Shape.length+1);rw[line_first,line_last,h]
 ·refine railsB_mem (strips_last p a) (strips_last p b) (foulB_meet la lb hx hy (Or.inr (Or.inr (Or.inr ?_))));show nth (p.line b) ((p.rail b).Shape.length+1)=nth (p.line a) ((p.rail a).Shape.length+1);rw[line_last,line_last,h]
def pr (l:List Profile) (k:Nat):Profile:=l[k]?.getD default
theorem pr_get {l:List Profile} {k:Nat} {x:Profile} (h:l[k]?=some x):pr l k=x:=by simp[pr,h]
@[irreducible] def hitF (p:Plan) (l:List Profile) (a i b k:Nat):Bool:=(decide (a<b)||decide (i≤k))&&railsB p a (pr l i) b (pr l k)
def fK (p:Plan) (l:List Profile) (a i b n:Nat):List Foul:=(List.range n).flatMap fun k=>if hitF p l a i b k then [⟨a,i,b,k⟩]else []
def fB (p:Plan) (l:List Profile) (a i n:Nat):List Foul:=(List.range n).flatMap fun d=>fK p l a i (a+d) l.length
def fI (p:Plan) (l:List Profile) (a n:Nat):List Foul:=(List.range n).flatMap fun i=>fB p l a i (p.Rails.length-a)
def fA (p:Plan) (l:List Profile) (n:Nat):List Foul:=(List.range n).flatMap fun a=>fI p l a l.length
def foulsL (p:Plan) (l:List Profile):List Foul:=fA p l p.Rails.length
theorem fK_succ (p:Plan) (l:List Profile) (a i b n:Nat):fK p l a i b (n+1)=fK p l a i b n++(if hitF p l a i b n then [⟨a,i,b,n⟩]else []):=by
 simp only[fK,List.range_succ,List.flatMap_append,List.flatMap_cons,List.flatMap_nil,List.append_nil]
theorem fB_succ (p:Plan) (l:List Profile) (a i n:Nat):fB p l a i (n+1)=fB p l a i n++fK p l a i (a+n) l.length:=by
 simp only[fB,List.range_succ,List.flatMap_append,List.flatMap_cons,List.flatMap_nil,List.append_nil]
theorem fI_succ (p:Plan) (l:List Profile) (a n:Nat):fI p l a (n+1)=fI p l a n++fB p l a n (p.Rails.length-a):=by
 simp only[fI,List.range_succ,List.flatMap_append,List.flatMap_cons,List.flatMap_nil,List.append_nil]
theorem fA_succ (p:Plan) (l:List Profile) (n:Nat):fA p l (n+1)=fA p l n++fI p l n l.length:=by
 simp only[fA,List.range_succ,List.flatMap_append,List.flatMap_cons,List.flatMap_nil,List.append_nil]
theorem flat_len {α β:Type} (f:α→List β) (B:Nat):∀(l:List α),(∀x∈l,(f x).length≤B)→(l.flatMap f).length≤l.length*B
 |[],_=>by simp
 |x::l,h=>by
  rw[List.flatMap_cons,List.length_append,List.length_cons,Nat.succ_mul];have h1:=h x (by simp);have h2:=flat_len f B l fun y hy=>h y (by simp[hy]);omega
theorem range_flat_len {β:Type} (f:Nat→List β) (B n:Nat) (h:∀k,(f k).length≤B):((List.range n).flatMap f).length≤n*B:=by
 have:=flat_len f B (List.range n) fun x _=>h x
 rwa [List.length_range]at this
theorem fK_len (p:Plan) (l:List Profile) (a i b n:Nat):(fK p l a i b n).length≤n:=by
 have:=range_flat_len (fun k=>if hitF p l a i b k then [(⟨a,i,b,k⟩:Foul)]else []) 1 n (fun k=>by split<;>simp);unfold fK;omega
theorem fB_len (p:Plan) (l:List Profile) (a i n:Nat):(fB p l a i n).length≤n*l.length:=range_flat_len _ _ _ fun d=>fK_len p l a i (a+d) l.length
theorem fI_len (p:Plan) (l:List Profile) (a n:Nat):(fI p l a n).length≤n*(p.Rails.length*l.length):=
 range_flat_len _ _ _ fun i=>Nat.le_trans (fB_len p l a i _) (Nat.mul_le_mul (by omega) (Nat.le_refl _))
theorem fA_len (p:Plan) (l:List Profile) (n:Nat):(fA p l n).length≤n*(l.length*(p.Rails.length*l.length)):=range_flat_len _ _ _ fun a=>fI_len p l a l.length
theorem fouls_bd (p:Plan) (l:List Profile) {N a i d k:Nat} (hN:p.Rails.length≤N) (hl:l.length≤16) (ha:a<p.Rails.length) (hi:i≤l.length) (hd:d≤p.Rails.length) (hk:k≤l.length):
  (fA p l a++fI p l a i++fB p l a i d++fK p l a i (a+d) k).length≤N*(16*(N*16))+16*(N*16)+N*16+16:=by
 have h1:=fA_len p l a;have h2:=fI_len p l a i;have h3:=fB_len p l a i d;have h4:=fK_len p l a i (a+d) k;have k1:a*(l.length*(p.Rails.length*l.length))≤N*(16*(N*16)):=Nat.mul_le_mul (by omega) (Nat.mul_le_mul hl (Nat.mul_le_mul hN hl));have k2:i*(p.Rails.length*l.length)≤16*(N*16):=Nat.mul_le_mul (by omega) (Nat.mul_le_mul hN hl);have k3:d*l.length≤N*16:=Nat.mul_le_mul (by omega) hl;simp only[List.length_append];omega
structure Pair where
 a:Strip
 b:Strip
 gap:Int
 deriving Inhabited
@[simp] def Pair.cells (q:Pair):List AV:=[I q.a.Rail,I q.a.Segment,I q.b.Rail,I q.b.Segment,I q.gap]
end Go.Tram
namespace Go.Tram
open Go.AM
section
variable {m:Spot→Spot}
structure Mv (m:Spot→Spot) (s s':SS):Prop where
 a:s'.a=m s.a
 b:s'.b=m s.b
 bends:s'.bends=s.bends.map m
end
end Go.Tram
end
section
namespace Go.Tram
open Go.AM Go.Proofs
theorem c_Grow (n:Int) (h0:1≤n) (h1:n≤1000):OwnCall Tryz.prog 331 [.v (.slice none 0 0),I n] 0 0 2 (List.replicate n.toNat [I 0,I 0]):=by
 have w1:IntKind.i64.wrap 0=0:=by decide
 have w2:IntKind.i64.wrap n=n:=wrap_in (by omega) (by omega);have f1:Fits n.toNat 17:=fits_of (by omega) (by omega);have n1:¬n<0:=by omega
 have n2:0<n:=by omega
 have n3:¬n≤0:=by omega
 refine OwnCall.of_body Tryz.func331 rfl (by decide) (by simp[Tryz.ntmps331]) (by simp) (by simp;omega) ?_;simp only[Tryz.ntmps331,Tryz.results331];refine aS fun K hK=>?_;simp -dsimp [w1,w2,f1,n1,n2,n3,h0];apply hK;clear hK K;refine awp_seq_k fun K1 hK1=>?_;refine aS fun K hK=>?_;simp -dsimp [w1,w2,f1,n1,n2,n3,h0];apply hK;clear hK K;refine awp_cond rfl (fun hc0=>?_) (fun hc0=>?_)
 ·simp at hc0
 ·refine awp_skip ?_;simp only[zT,reduceIte,Nat.reduceEqDiff];refine hK1 _ _ ?_;refine awp_prune [0,1] ?_;simp only[zP,Nat.reduceEqDiff,reduceIte];refine awp_seq_k fun K2 hK2=>?_;refine aS fun K hK=>?_;simp -dsimp [w1,w2,f1,n1,n2,n3,h0];apply hK;clear hK K;refine aS fun K hK=>?_;simp -dsimp [w1,w2,f1,n1,n2,n3,h0];apply hK;clear hK K;refine awp_cond rfl (fun hc1=>?_) (fun hc1=>?_)
  ·refine aR fun K hK=>?_;simp -dsimp [w1,w2,f1,n1,n2,n3,h0];apply hK;clear hK K;simp only[zT,reduceIte,Nat.reduceEqDiff];refine hK2 _ _ ?_;refine awp_prune [0] ?_;simp only[zP,Nat.reduceEqDiff,reduceIte];refine aS fun K hK=>?_;simp -dsimp [w1,w2,f1,n1,n2,n3,h0];apply hK;clear hK K;exact awp_ret ⟨4,0,rfl,by simp,by simp⟩
  ·simp at hc1
theorem c_isNaN (n:Int):PureCall Tryz.prog 324 [I n] (Bo false):=by
 refine PureCall.of_body Tryz.func324 rfl (by decide) (by simp[Tryz.ntmps324]) ?_;simp only[Tryz.ntmps324,Tryz.results324];refine aS fun K hK=>?_;simp -dsimp;apply hK;clear hK K;refine aS fun K hK=>?_;simp -dsimp;apply hK;clear hK K;exact awp_ret (by simp)
theorem c_isNaNu (n:Int):PureCall Tryz.prog 384 [.v (.int .u64 n)] (Bo false):=by
 refine PureCall.of_body Tryz.func384 rfl (by decide) (by simp[Tryz.ntmps384]) ?_;simp only[Tryz.ntmps384,Tryz.results384];refine aS fun K hK=>?_;simp -dsimp;apply hK;clear hK K;refine aS fun K hK=>?_;simp -dsimp;apply hK;clear hK K;exact awp_ret (by simp)
theorem c_Compare (a b:Int):PureCall Tryz.prog 356 [I a,I b] (I (cmpI a b)):=by
 refine PureCall.of_body Tryz.func356 rfl (by decide) (by simp[Tryz.ntmps356]) ?_;simp only[Tryz.ntmps356,Tryz.results356];refine aS fun K hK=>?_;simp -dsimp;apply hK;clear hK K;refine aS fun K hK=>?_;simp -dsimp;refine callK_intro _ (c_isNaN a) (by simp) ?_;simp -dsimp;apply hK;clear hK K;refine aS fun K hK=>?_;simp -dsimp;refine callK_intro _ (c_isNaN b) (by simp) ?_;simp -dsimp;apply hK;clear hK K;refine awp_seq_k fun K1 hK1=>?_;refine aS fun K hK=>?_;simp -dsimp;apply hK;clear hK K;refine awp_cond rfl (fun hc0=>?_) (fun hc0=>?_)
 ·simp at hc0
 ·refine awp_skip ?_;simp only[zT,reduceIte,Nat.reduceEqDiff];refine hK1 _ _ ?_;refine awp_prune [0,1,6] ?_;simp only[zP,Nat.reduceEqDiff,reduceIte];refine awp_seq_k fun K2 hK2=>?_;refine aS fun K hK=>?_;simp -dsimp;apply hK;clear hK K;refine awp_cond rfl (fun hc2=>?_) (fun hc2=>?_)
  ·simp at hc2
  ·refine awp_skip ?_;simp only[zT,reduceIte,Nat.reduceEqDiff];refine hK2 _ _ ?_;refine awp_prune [0,1] ?_;simp only[zP,Nat.reduceEqDiff,reduceIte];refine awp_seq_k fun K3 hK3=>?_;refine aS fun K hK=>?_;simp -dsimp;apply hK;clear hK K;refine awp_cond rfl (fun hc3=>?_) (fun hc3=>?_)
   ·skip
    try simp at hc3
    refine aS fun K hK=>?_;simp -dsimp;apply hK;clear hK K;exact awp_ret (by simp_all [cmpI];try omega)
   ·skip
    try simp at hc3
    refine awp_skip ?_;simp only[zT,reduceIte,Nat.reduceEqDiff];refine hK3 _ _ ?_;refine awp_prune [0,1] ?_;simp only[zP,Nat.reduceEqDiff,reduceIte];refine awp_seq_k fun K4 hK4=>?_;refine aS fun K hK=>?_;simp -dsimp;apply hK;clear hK K;refine awp_cond rfl (fun hc4=>?_) (fun hc4=>?_)
    ·skip
     try simp at hc4
     refine aS fun K hK=>?_;simp -dsimp;apply hK;clear hK K;exact awp_ret (by simp_all [cmpI];try omega)
    ·skip
     try simp at hc4
     refine awp_skip ?_;simp only[zT,reduceIte,Nat.reduceEqDiff];refine hK4 _ _ ?_;refine awp_prune [] ?_;simp only[zP,Nat.reduceEqDiff,reduceIte];refine aS fun K hK=>?_;simp -dsimp;apply hK;clear hK K;exact awp_ret (by simp_all [cmpI];try omega)
theorem c_Compareu (a b:Int):PureCall Tryz.prog 377 [.v (.int .u64 a), .v (.int .u64 b)] (I (cmpI a b)):=by
 refine PureCall.of_body Tryz.func377 rfl (by decide) (by simp[Tryz.ntmps377]) ?_;simp only[Tryz.ntmps377,Tryz.results377];refine aS fun K hK=>?_;simp -dsimp;apply hK;clear hK K;refine aS fun K hK=>?_;simp -dsimp;refine callK_intro _ (c_isNaNu a) (by simp) ?_;simp -dsimp;apply hK;clear hK K;refine aS fun K hK=>?_;simp -dsimp;refine callK_intro _ (c_isNaNu b) (by simp) ?_;simp -dsimp;apply hK;clear hK K;refine awp_seq_k fun K1 hK1=>?_;refine aS fun K hK=>?_;simp -dsimp;apply hK;clear hK K;refine awp_cond rfl (fun hc0=>?_) (fun hc0=>?_)
 ·simp at hc0
 ·refine awp_skip ?_;simp only[zT,reduceIte,Nat.reduceEqDiff];refine hK1 _ _ ?_;refine awp_prune [0,1,6] ?_;simp only[zP,Nat.reduceEqDiff,reduceIte];refine awp_seq_k fun K2 hK2=>?_;refine aS fun K hK=>?_;simp -dsimp;apply hK;clear hK K;refine awp_cond rfl (fun hc2=>?_) (fun hc2=>?_)
  ·simp at hc2
  ·refine awp_skip ?_;simp only[zT,reduceIte,Nat.reduceEqDiff];refine hK2 _ _ ?_;refine awp_prune [0,1] ?_;simp only[zP,Nat.reduceEqDiff,reduceIte];refine awp_seq_k fun K3 hK3=>?_;refine aS fun K hK=>?_;simp -dsimp;apply hK;clear hK K;refine awp_cond rfl (fun hc3=>?_) (fun hc3=>?_)
   ·skip
    try simp at hc3
    refine aS fun K hK=>?_;simp -dsimp;apply hK;clear hK K;exact awp_ret (by simp_all [cmpI];try omega)
   ·skip
    try simp at hc3
    refine awp_skip ?_;simp only[zT,reduceIte,Nat.reduceEqDiff];refine hK3 _ _ ?_;refine awp_prune [0,1] ?_;simp only[zP,Nat.reduceEqDiff,reduceIte];refine awp_seq_k fun K4 hK4=>?_;refine aS fun K hK=>?_;simp -dsimp;apply hK;clear hK K;refine awp_cond rfl (fun hc4=>?_) (fun hc4=>?_)
    ·skip
     try simp at hc4
     refine aS fun K hK=>?_;simp -dsimp;apply hK;clear hK K;exact awp_ret (by simp_all [cmpI];try omega)
    ·skip
     try simp at hc4
     refine awp_skip ?_;simp only[zT,reduceIte,Nat.reduceEqDiff];refine hK4 _ _ ?_;refine awp_prune [] ?_;simp only[zP,Nat.reduceEqDiff,reduceIte];refine aS fun K hK=>?_;simp -dsimp;apply hK;clear hK K;exact awp_ret (by simp_all [cmpI];try omega)
def partsAV (parts:List (List Spot)):AV:= .lst 1 (parts.map fun q=>[.lst 2 (q.map Spot.cells)])
@[irreducible] def tot (parts:List (List Spot)) (k:Nat):Nat:=(parts.take k).flatten.length
theorem tot_zero (parts:List (List Spot)):tot parts 0=0:=by unfold tot;simp
theorem tot_succ {parts:List (List Spot)} {k:Nat} {q:List Spot} (h:parts[k]?=some q):tot parts (k+1)=tot parts k+q.length:=by
 unfold tot;rw[List.take_add_one,h];simp
theorem tot_all {parts:List (List Spot)} {k:Nat} (h:parts.length≤k):tot parts k=parts.flatten.length:=by unfold tot;rw[List.take_of_length_le h]
theorem tot_le (parts:List (List Spot)) (k:Nat):tot parts k≤parts.flatten.length:=by
 unfold tot;have:=congrArg (fun l=>l.flatten.length) (List.take_append_drop k parts);simp only[List.flatten_append,List.length_append]at this;omega
def cat (parts:List (List Spot)) (k:Nat):List (List AV):=(parts.take k).flatten.map Spot.cells
theorem cat_succ {parts:List (List Spot)} {k:Nat} {q:List Spot} (h:parts[k]?=some q):cat parts (k+1)=cat parts k++q.map Spot.cells:=by
 unfold cat;rw[List.take_add_one,h];simp
theorem cat_len (parts:List (List Spot)) (k:Nat):(cat parts k).length=tot parts k:=by unfold cat tot;rw[List.length_map]
theorem cat_ren (parts:List (List Spot)) (k:Nat) (g:List (Option Nat)):(cat parts k).map (fun e=>e.map (renAV g 3))=cat parts k:=by unfold cat;rw[List.map_map];exact List.map_congr_left fun s _=>rfl
theorem cat_frz (parts:List (List Spot)) (k:Nat) (H:Hp):(cat parts k).map (fun e=>e.map (frzP H 5))=cat parts k:=by unfold cat;rw[List.map_map];exact List.map_congr_left fun s _=>rfl
theorem cat_all {parts:List (List Spot)} {k:Nat} (h:parts.length≤k):cat parts k=parts.flatten.map Spot.cells:=by unfold cat;rw[List.take_of_length_le h]
theorem c_Concat (parts:List (List Spot)) (h1:1≤parts.flatten.length) (h2:parts.flatten.length≤1000) (h3:parts.length≤1000):PureCall Tryz.prog 282 [partsAV parts] (.lst 2 (parts.flatten.map Spot.cells)):=by
 unfold partsAV;refine PureCall.of_body Tryz.func282 rfl (by decide) (by simp[Tryz.ntmps282]) ?_;simp only[Tryz.ntmps282,Tryz.results282];refine aS fun K hK=>?_;simp -dsimp;apply hK;clear hK K;refine aS fun K hK=>?_;simp -dsimp;apply hK;clear hK K;refine awp_seq_k fun K1 hK1=>?_;refine aS fun K hK=>?_;simp -dsimp;apply hK;clear hK K;refine awp_block ?_;refine awp_prune [0,3,9,10,11] ?_;simp only[zP,Nat.reduceEqDiff,reduceIte];refine awp_loop_l [0,9,10] (α:=Nat) (fun k=>[(3,I (tot parts k:Nat)),(11,I k)]) (fun _=>[]) (fun k=>k≤parts.length) (fun k=>parts.length-k) 0 ?_ ?_ ?_
 ·simp
 ·exact sub_same (by simp[tot_zero])
 rintro k k1;simp only[zP,Nat.reduceEqDiff,reduceIte];refine aS fun K hK=>?_;simp -dsimp;apply hK;clear hK K;refine awp_seq_k fun K2 hK2=>?_;refine awp_cond rfl (fun hc0=>?_) (fun hc0=>?_)
 ·skip
  try simp at hc0
  obtain⟨q,hq⟩:∃q,parts[k]?=some q:=⟨_,List.getElem?_eq_getElem hc0⟩;have hs:=tot_succ hq;have hle:=tot_le parts (k+1);have w1:IntKind.i64.wrap ((tot parts k:Int)+(q.length:Int))=(tot parts (k+1):Nat):=by rw[wrap_in (by omega) (by omega)];omega
  have wk:=zW k (by omega);have wn:¬((tot parts (k+1):Nat):Int)<0:=by omega
  refine awp_skip ?_;simp only[zT,reduceIte,Nat.reduceEqDiff];refine hK2 _ _ ?_;refine awp_prune [0,3,9,10,11] ?_;simp only[zP,Nat.reduceEqDiff,reduceIte];refine awp_seq_k fun K3 hK3=>?_;refine awp_block ?_;refine aS fun K hK=>?_;simp -dsimp [hq];apply hK;clear hK K;refine aS fun K hK=>?_;simp -dsimp [w1];apply hK;clear hK K;refine aS fun K hK=>?_;simp -dsimp [wn];apply hK;clear hK K;refine awp_cond rfl (fun hc1=>?_) (fun hc1=>?_)
  ·simp at hc1
  ·refine awp_skip ?_;simp only[zT,reduceIte,Nat.reduceEqDiff];refine hK3 _ _ ?_;refine awp_prune [0,3,9,10,11] ?_;simp only[zP,Nat.reduceEqDiff,reduceIte];refine aR fun K hK=>?_;simp -dsimp [wk];apply hK;clear hK K;simp only[zT,reduceIte,Nat.reduceEqDiff];exact⟨k+1,by omega,by omega,sub_same (by simp)⟩
 ·skip
  try simp at hc0
  have hk:tot parts k=parts.flatten.length:=tot_all (by omega);refine awp_exit ?_;simp only[zT,reduceIte,Nat.reduceEqDiff];refine hK1 _ _ ?_;refine awp_prune [0,3] ?_;simp only[zP,Nat.reduceEqDiff,reduceIte];refine aS fun K hK=>?_;simp -dsimp;refine callK_own (c_Grow (tot parts k:Nat) (by omega) (by omega)) ?_;simp -dsimp;apply hK;clear hK K;refine awp_seq_k fun K4 hK4=>?_;refine aS fun K hK=>?_;simp -dsimp;apply hK;clear hK K;refine awp_block ?_;refine awp_prune [6,25,26,27] ?_;simp only[zP,Nat.reduceEqDiff,reduceIte];refine awp_loop_l [25,26] (α:=Nat×List (List AV)) (fun x=>[(6, .row 0 0 (tot parts x.1)),(27,I x.1)]) (fun x=>[some (.els 2 x.2)]) (fun x=>x.1≤parts.length∧x.2.take (tot parts x.1)=cat parts x.1∧tot parts x.1≤x.2.length) (fun x=>parts.length-x.1) (0,List.replicate (tot parts k) [I 0,I 0]) ?_ ?_ ?_
  ·simp[tot_zero,cat]
  ·exact sub_same (by simp[tot_zero])
  rintro⟨k,es⟩ ⟨k1,k2,k3⟩;simp only at k1 k2 k3;simp only[zP,Nat.reduceEqDiff,reduceIte];refine aS fun K hK=>?_;simp -dsimp;apply hK;clear hK K;refine awp_seq_k fun K5 hK5=>?_;refine awp_cond rfl (fun hc2=>?_) (fun hc2=>?_)
  ·skip
   try simp at hc2
   obtain⟨q,hq⟩:∃q,parts[k]?=some q:=⟨_,List.getElem?_eq_getElem hc2⟩;have hs:=tot_succ hq;have hle:=tot_le parts (k+1);have hcl:=cat_len parts k;have wk:=zW k (by omega);have f1:Fits (tot parts k+q.length) 17:=fits_of (by omega) (by omega);refine awp_skip ?_;simp only[zT,reduceIte,Nat.reduceEqDiff];refine hK5 _ _ ?_;refine awp_prune [6,25,26,27] ?_;simp only[zP,Nat.reduceEqDiff,reduceIte];refine awp_seq_k fun K6 hK6=>?_;refine awp_block ?_;refine aS fun K hK=>?_;simp -dsimp [hq];apply hK;clear hK K;refine aR fun K hK=>?_;simp -dsimp [k2,k3,hcl,f1];apply hK;clear hK K;simp only[zT,reduceIte,Nat.reduceEqDiff];refine hK6 _ _ ?_;refine awp_prune [6,25,26,27] ?_;simp only[zP,Nat.reduceEqDiff,reduceIte];refine aR fun K hK=>?_;simp -dsimp [wk];apply hK;clear hK K;simp only[zT,reduceIte,Nat.reduceEqDiff];exact⟨(k+1,cat parts (k+1)),⟨by omega,by rw[List.take_of_length_le (by rw[cat_len];exact Nat.le_refl _)],by rw[cat_len];exact Nat.le_refl _⟩,by simp;omega,sub_rb [some 1] rfl (by simp[hs]) (by simp[cat_succ hq,cat_ren,Function.comp_def])⟩
  ·skip
   try simp at hc2
   refine awp_exit ?_;simp only[zT,reduceIte,Nat.reduceEqDiff];refine hK4 _ _ ?_;refine awp_prune [6] ?_;simp only[zP,Nat.reduceEqDiff,reduceIte];refine aS fun K hK=>?_;simp -dsimp;apply hK;clear hK K;exact awp_ret (by simp[k2,k3,cat_frz];rw[cat_all hc2,List.map_flatten])
end Go.Tram
end
section
namespace Go.Tram
open Go.AM Go.Proofs
theorem c_tline (p:Plan) (r:Rail) (hf:0≤r.From∧r.From<p.Nodes.length) (ht:0≤r.To∧r.To<p.Nodes.length) (hs:r.Shape.length≤900):
  PureCall Tryz.prog 213 [p.av,r.av] (.lst 2 ((lineOf p r).map Spot.cells)):=by
 have e2:p.Nodes[r.From.toNat]?=some (p.node r.From):=Plan.node_get hf.1 hf.2;have e3:p.Nodes[r.To.toNat]?=some (p.node r.To):=Plan.node_get ht.1 ht.2;have hc:=(c_Concat [[(p.node r.From).Spot],r.Shape,[(p.node r.To).Spot]] (by simp) (by simp;omega) (by simp)).wk (args:=[.full 1 [[.full 2 [[I (p.node r.From).Spot.X,I (p.node r.From).Spot.Y]]],[.lst 2 (r.Shape.map Spot.cells)],[.full 2 [[I (p.node r.To).Spot.X,I (p.node r.To).Spot.Y]]]]]) (by simp[AM.wk,partsAV,Function.comp_def]);refine PureCall.of_body Tryz.func213 rfl (by decide) (by simp[Tryz.ntmps213]) ?_;simp only[Tryz.ntmps213,Tryz.results213];refine aS fun K hK=>?_;simp -dsimp;apply hK;clear hK K;refine awp_sd mixed rfl fun K hK=>?_;simp -dsimp [e2,e3,hf.1,ht.1];refine callK_intro _ (hc) (by simp) ?_;simp -dsimp [e2,e3,hf.1,ht.1];refine hK _ _ _ (by decide+kernel) ?_;clear hK K;exact awp_ret (by simp[lineOf])
theorem c_tspot (s:Spot):PureCall Tryz.prog 310 [s.av] (Bo (spotB s)):=by
 refine PureCall.of_body Tryz.func310 rfl (by decide) (by simp[Tryz.ntmps310]) ?_;simp only[Tryz.ntmps310,Tryz.results310];refine aS fun K hK=>?_;simp -dsimp;apply hK;clear hK K;refine aS fun K hK=>?_;simp -dsimp;refine callK_intro _ (c_within _ _ _) (by simp) ?_;simp -dsimp;refine callK_may _ (fun hm=>c_within _ _ _) (by simp) ?_;simp -dsimp;apply hK;clear hK K;exact awp_ret (by simp[spotB])
theorem c_sizes:PureCall Tryz.prog 311 [] (.agg [I 0,I 1,I 2,I 4,I 3,I 3,I 3]):=by
 refine PureCall.of_body Tryz.func311 rfl (by decide) (by simp[Tryz.ntmps311]) ?_;simp only[Tryz.ntmps311,Tryz.results311];refine aS fun K hK=>?_;simp -dsimp;apply hK;clear hK K;refine aS fun K hK=>?_;simp -dsimp [Value.oneCell'];apply hK;clear hK K;exact awp_ret (by simp)
theorem c_ending (p:Plan) (e:REnd) (h0:0≤e.Rail) (h1:e.Rail<p.Rails.length):PureCall Tryz.prog 219 [p.av,e.av] (I (p.at e)):=by
 have e1:p.Rails[e.Rail.toNat]?=some (p.rail e.Rail):=Plan.rail_get h0 h1;refine PureCall.of_body Tryz.func219 rfl (by decide) (by simp[Tryz.ntmps219]) ?_;simp only[Tryz.ntmps219,Tryz.results219];refine aS fun K hK=>?_;simp -dsimp;apply hK;clear hK K;refine awp_seq_k fun K1 hK1=>?_;refine aS fun K hK=>?_;simp -dsimp;apply hK;clear hK K;refine awp_cond rfl (fun hc0=>?_) (fun hc0=>?_)
 ·skip
  try simp at hc0
  refine aS fun K hK=>?_;simp -dsimp [e1,h0];apply hK;clear hK K;exact awp_ret (by simp[Plan.at,hc0])
 ·skip
  try simp at hc0
  refine awp_skip ?_;simp only[zT,reduceIte,Nat.reduceEqDiff];refine hK1 _ _ ?_;refine awp_prune [2,3] ?_;simp only[zP,Nat.reduceEqDiff,reduceIte];refine aS fun K hK=>?_;simp -dsimp [e1,h0];apply hK;clear hK K;exact awp_ret (by simp[Plan.at,hc0])
theorem c_Sqrt (n:Nat) (h:n<2^50):∃r x:Nat,PureCall Tryz.prog 332 [.v (.float .f64 (FloatKind.f64.nearest n))] (.v (.float .f64 r))∧floatToIntVal .f64 r .i64=some (x:Int)∧x≤2^30:=by
 obtain⟨r,x,h1,h2,h3⟩:=Sq.sqrt_bd h;have hs:PureCall Tryz.prog 360 [.v (.float .f64 (FloatKind.f64.nearest n))] (.v (.float .f64 r)):=by
  refine PureCall.of_ext (us:=[.float .f64 (FloatKind.f64.nearest n)]) (e:=Extern.MathSqrt.sqrt) Tryz.func360 (by rfl) (by rfl) (by rfl) (by rfl) (fun w=>?_);have e:Extern.MathSqrt.sqrt #[.float .f64 (FloatKind.f64.nearest n)]=(match FloatKind.f64.format.sqrt (FloatKind.f64.nearest n)with
   |some r=>pure (.float .f64 r)
   |none=>do pure (.float .f64 (←choose (.nanBits .f64 (FloatKind.f64.nearest n) (FloatKind.f64.nearest n))))):=rfl
  rw[h1]at e;show(Extern.MathSqrt.sqrt #[.float .f64 (FloatKind.f64.nearest n)]).run _ w=_;rw[e]
  rfl
 refine⟨r,x,?_,h2,h3⟩;refine PureCall.of_body Tryz.func332 rfl (by decide) (by simp[Tryz.ntmps332]) ?_;simp only[Tryz.ntmps332,Tryz.results332];refine aS fun K hK=>?_;simp -dsimp;apply hK;clear hK K;refine aS fun K hK=>?_;simp -dsimp;refine callK_intro _ (hs) (by simp) ?_;simp -dsimp;apply hK;clear hK K;exact awp_ret (by simp)
theorem und_int:(Tryz.prog).underlying 3=some (.int .i64):=by kernel_rfl
theorem und_f64:(Tryz.prog).underlying 477=some (.float .f64):=by kernel_rfl
theorem conv_if (n:Int) (w:World):(convert 3 477 (.int .i64 n)).run Tryz.prog w= .ok (.float .f64 (FloatKind.f64.nearest n)) w:=by
 simp[convert,run_underlying und_int,run_underlying und_f64,Conv.intToFloat]
theorem sq_le {a b:Int} (h0:0≤a) (h:a≤b):a*a≤b*b:=Int.mul_le_mul h h h0 (by omega)
theorem c_troot (n:Int) (h0:0≤n) (h1:n<1000000000000000):PureCall Tryz.prog 283 [I n] (I (isq n)):=by
 obtain⟨m,rfl⟩:∃m:Nat,n=m:=⟨n.toNat,by omega⟩;obtain⟨r,x,hs,hx,hxb⟩:=c_Sqrt m (by omega);have hsq:=isq_spec h0;obtain⟨s1,s2,s3⟩:=hsq;generalize hq:isq (m:Int)=q at s1 s2 s3;have hqb:q≤40000000:=by
  rcases Int.lt_or_le 40000000 q with h|h
  ·have:=sq_le (by omega) (Int.le_of_lt h);omega
  ·exact h
 refine PureCall.of_body Tryz.func283 rfl (by decide) (by simp[Tryz.ntmps283]) ?_;simp only[Tryz.ntmps283,Tryz.results283];refine aS fun K hK=>?_;simp -dsimp;apply hK;clear hK K;refine aS fun K hK=>?_;simp -dsimp;refine⟨_,conv_if m,?_⟩;simp;refine callK_intro _ (hs) (by simp) ?_;simp -dsimp;refine⟨_,fun w=>run_convert_float_int w _ _ .f64 .i64 r x (by rw[und_f64];rfl) und_int hx,?_⟩
 try simp
 apply hK;clear hK K;refine awp_seq_k fun K1 hK1=>?_;refine awp_block ?_;refine awp_prune [0,3] ?_;simp only[zP,Nat.reduceEqDiff,reduceIte];refine awp_loop_l [0] (α:=Int) (fun x=>[(3,I x)]) (fun _=>[]) (fun x=>0≤x∧x≤1100000000) (fun x=>x.toNat) (x:Int) ?_ ?_ ?_
 ·omega
 ·exact sub_same (by simp)
 rintro y ⟨y1,y2⟩;have b1:=mul_bd (a:=y) (b:=y) (A:=1100000000) (B:=1100000000) (by omega) (by omega) (by omega) (by omega);have w1:IntKind.i64.wrap (y*y)=y*y:=wrap_in (by omega) (by omega);have w2:IntKind.i64.wrap (y-1)=y-1:=wrap_in (by omega) (by omega);simp only[zP,Nat.reduceEqDiff,reduceIte];refine awp_seq_k fun K2 hK2=>?_;refine aS fun K hK=>?_;simp -dsimp [w1];apply hK;clear hK K;refine awp_cond rfl (fun hc0=>?_) (fun hc0=>?_)
 ·skip
  try simp at hc0
  have y0:y≠0:=by rintro rfl;simp at hc0;omega
  refine awp_skip ?_;simp only[zT,reduceIte,Nat.reduceEqDiff];refine hK2 _ _ ?_;refine awp_prune [0,3] ?_;simp only[zP,Nat.reduceEqDiff,reduceIte];refine awp_block ?_;refine aR fun K hK=>?_;simp -dsimp [w2];apply hK;clear hK K;simp only[zT,reduceIte,Nat.reduceEqDiff];exact⟨y-1,⟨by omega,by omega⟩,by omega,sub_same (by simp)⟩
 ·skip
  try simp at hc0
  have hyq:y≤q:=by
   rcases Int.lt_or_le q y with h|h
   ·have:=sq_le (a:=q+1) (b:=y) (by omega) (by omega);omega
   ·exact h
  refine awp_exit ?_;simp only[zT,reduceIte,Nat.reduceEqDiff];refine hK1 _ _ ?_;refine awp_prune [0,3] ?_;simp only[zP,Nat.reduceEqDiff,reduceIte];refine awp_seq_k fun K3 hK3=>?_;refine awp_block ?_;refine awp_prune [0,3] ?_;simp only[zP,Nat.reduceEqDiff,reduceIte];refine awp_loop_l [0] (α:=Int) (fun x=>[(3,I x)]) (fun _=>[]) (fun x=>0≤x∧x≤q) (fun x=>(q-x).toNat) y ?_ ?_ ?_
  ·omega
  ·exact sub_same (by simp)
  rintro z ⟨z1,z2⟩;have b2:=mul_bd (a:=z+1) (b:=z+1) (A:=1100000000) (B:=1100000000) (by omega) (by omega) (by omega) (by omega);have w3:IntKind.i64.wrap (z+1)=z+1:=wrap_in (by omega) (by omega);have w4:IntKind.i64.wrap ((z+1)*(z+1))=(z+1)*(z+1):=wrap_in (by omega) (by omega);simp only[zP,Nat.reduceEqDiff,reduceIte];refine awp_seq_k fun K4 hK4=>?_;refine aS fun K hK=>?_;simp -dsimp [w3,w4];apply hK;clear hK K;refine awp_cond rfl (fun hc1=>?_) (fun hc1=>?_)
  ·skip
   try simp at hc1
   have hzq:z+1≤q:=by
    rcases Int.lt_or_le q (z+1)with h|h
    ·have:=sq_le (a:=q+1) (b:=z+1) (by omega) (by omega);omega
    ·exact h
   refine awp_skip ?_;simp only[zT,reduceIte,Nat.reduceEqDiff];refine hK4 _ _ ?_;refine awp_prune [0,3] ?_;simp only[zP,Nat.reduceEqDiff,reduceIte];refine awp_block ?_;refine aR fun K hK=>?_;simp -dsimp [w3];apply hK;clear hK K;simp only[zT,reduceIte,Nat.reduceEqDiff];exact⟨z+1,⟨by omega,by omega⟩,by omega,sub_same (by simp)⟩
  ·skip
   try simp at hc1
   have hzq:z=q:=by
    rcases Int.lt_or_le z q with h|h
    ·have:=sq_le (a:=z+1) (b:=q) (by omega) (by omega);omega
    ·omega
   refine awp_exit ?_;simp only[zT,reduceIte,Nat.reduceEqDiff];refine hK3 _ _ ?_;refine awp_prune [3] ?_;simp only[zP,Nat.reduceEqDiff,reduceIte];refine aS fun K hK=>?_;simp -dsimp;apply hK;clear hK K;exact awp_ret (by simp[hq,hzq])
end Go.Tram
end
section
namespace Go.Tram
open Go.AM Go.Proofs
theorem c_span (a b:Spot) (ha:spotB a=true) (hb:spotB b=true):PureCall Tryz.prog 214 [a.av,b.av] (I (far a b)):=by
 have hs:=sqd_bd ha hb;have ha':=spotB_iff.1 ha;have hb':=spotB_iff.1 hb;have w1:IntKind.i64.wrap (a.X-b.X)=a.X-b.X:=wrap_in (by omega) (by omega);have w2:IntKind.i64.wrap (a.Y-b.Y)=a.Y-b.Y:=wrap_in (by omega) (by omega);have h1:=mul_bd (a:=a.X-b.X) (b:=a.X-b.X) (A:=20000000) (B:=20000000) (by omega) (by omega) (by omega) (by omega);have h2:=mul_bd (a:=a.Y-b.Y) (b:=a.Y-b.Y) (A:=20000000) (B:=20000000) (by omega) (by omega) (by omega) (by omega);have w3:IntKind.i64.wrap ((a.X-b.X)*(a.X-b.X))=(a.X-b.X)*(a.X-b.X):=wrap_in (by omega) (by omega);have w4:IntKind.i64.wrap ((a.Y-b.Y)*(a.Y-b.Y))=(a.Y-b.Y)*(a.Y-b.Y):=wrap_in (by omega) (by omega);have w5:IntKind.i64.wrap ((a.X-b.X)*(a.X-b.X)+(a.Y-b.Y)*(a.Y-b.Y))=sqd a b:=wrap_in (by unfold sqd at hs;omega) (by unfold sqd at hs;omega);refine PureCall.of_body Tryz.func214 rfl (by decide) (by simp[Tryz.ntmps214]) ?_;simp only[Tryz.ntmps214,Tryz.results214];refine aS fun K hK=>?_;simp -dsimp [w1,w2,w3,w4,w5];apply hK;clear hK K;refine awp_sd mixed rfl fun K hK=>?_;simp -dsimp [w1,w2,w3,w4,w5];refine hK _ _ _ (by decide+kernel) ?_;clear hK K;refine aS fun K hK=>?_;simp -dsimp [w1,w2,w3,w4,w5];refine callK_intro _ (c_troot _ hs.1 (by omega)) (by simp) ?_;simp -dsimp [w1,w2,w3,w4,w5];apply hK;clear hK K;exact awp_ret (by simp[far])
theorem sizes_get {k:Int} (h1:1≤k) (h6:k≤6):(List.take 1 (List.drop k.toNat [I 0,I 1,I 2,I 4,I 3,I 3,I 3])).head?.getD AV.any=I (endsN k):=by
 have:k=1∨k=2∨k=3∨k=4∨k=5∨k=6:=by omega
 rcases this with rfl|rfl|rfl|rfl|rfl|rfl<;>rfl
theorem c_tnode (n:Node):PureCall Tryz.prog 238 [n.av] (Bo (nodeB n)):=by
 refine PureCall.of_body Tryz.func238 rfl (by decide) (by simp[Tryz.ntmps238]) ?_;simp only[Tryz.ntmps238,Tryz.results238];refine aS fun K hK=>?_;simp -dsimp;apply hK;clear hK K;refine awp_seq_k fun K1 hK1=>?_;refine awp_sd mixed rfl fun K hK=>?_;simp -dsimp;refine callK_may _ (fun hm=>c_tspot n.Spot) (by simp) ?_;simp -dsimp;refine callK_may _ (fun hm=>c_sizes) (by simp) ?_;simp -dsimp;refine⟨by omega,valK_intro (I (endsN n.Kind)) (fun hm=>by simp at hm;exact sizes_get (by omega) (by omega)) ?_⟩;simp;refine hK _ _ _ (by decide+kernel) ?_;clear hK K;refine awp_cond rfl (fun hc0=>?_) (fun hc0=>?_)
 ·skip
  try simp at hc0
  refine aS fun K hK=>?_;simp -dsimp;apply hK;clear hK K;refine awp_ret ?_;have:nodeB n=false:=by
   cases hq:nodeB n with
   |false=>rfl
   |true=>
    simp[nodeB]at hq;have hk:1≤n.Kind∧n.Kind≤6:=by have:=hq.2.2.1;unfold endsN at this;repeat (split at this;omega);omega
    simp[hq]at hc0;omega
  simp[this]
 ·skip
  try simp at hc0
  have he:endsN n.Kind≠0:=by have:=hc0.1.1;unfold endsN;repeat (split;omega);omega
  refine awp_skip ?_;simp only[zT,reduceIte,Nat.reduceEqDiff];refine hK1 _ _ ?_;refine awp_prune [1] ?_;simp only[zP,Nat.reduceEqDiff,reduceIte];refine awp_seq_k fun K2 hK2=>?_;refine aS fun K hK=>?_;simp -dsimp;apply hK;clear hK K;refine awp_cond rfl (fun hc1=>?_) (fun hc1=>?_)
  ·skip
   try simp at hc1
   refine aS fun K hK=>?_;simp -dsimp;refine callK_intro _ (c_within _ _ _) (by simp) ?_;simp -dsimp;apply hK;clear hK K;refine awp_ret ?_;simp[nodeB,hc0,hc1,he]
  ·skip
   try simp at hc1
   refine awp_skip ?_;simp only[zT,reduceIte,Nat.reduceEqDiff];refine hK2 _ _ ?_;refine awp_prune [1] ?_;simp only[zP,Nat.reduceEqDiff,reduceIte];refine aS fun K hK=>?_;simp -dsimp;apply hK;clear hK K;refine awp_ret ?_;simp[nodeB,hc0,hc1,he];exact Bool.eq_iff_iff.2 (by simp)
theorem railA_iff {p:Plan} {r:Rail} (h:railA p r=true):(0≤r.From∧r.From<p.Nodes.length)∧(0≤r.To∧r.To<p.Nodes.length)∧r.Shape.length≤30:=by
 simp only[railA,Bool.and_eq_true,inr_iff,decide_eq_true_eq]at h;omega
theorem railB_line {p:Plan} {r:Rail} (hA:p.Nodes.all nodeB=true):railB p r=(railA p r&&((lineOf p r).all spotB&&(List.range (r.Shape.length+1)).all (segB (lineOf p r)))):=by
 cases h:railA p r with
 |false=>simp[railB,h]
 |true=>
  obtain⟨h1,h2,_⟩:=railA_iff h;have sF:=nodeB_spot (node_ends hA (i:=r.From) h1.1 h1.2);have sT:=nodeB_spot (node_ends hA (i:=r.To) h2.1 h2.2);simp only[railB,h,lineOf,List.all_cons,List.all_append,List.all_nil,sF,sT,Bool.true_and,Bool.and_true]
theorem lineOf_len (p:Plan) (r:Rail):(lineOf p r).length=r.Shape.length+2:=by simp[lineOf]
theorem c_trail (p:Plan) (r:Rail) (hA:p.Nodes.all nodeB=true) (hN:p.Nodes.length≤300):PureCall Tryz.prog 241 [p.av,r.av] (Bo (railB p r)):=by
 have wn:IntKind.i64.wrap ((p.Nodes.length:Int)-1)=(p.Nodes.length:Int)-1:=wrap_in (by omega) (by omega);have hl:=lineOf_len p r;refine PureCall.of_body Tryz.func241 rfl (by decide) (by simp[Tryz.ntmps241]) ?_;simp only[Tryz.ntmps241,Tryz.results241];refine aS fun K hK=>?_;simp -dsimp;apply hK;clear hK K;refine awp_seq_k fun K1 hK1=>?_;refine aS fun K hK=>?_;simp -dsimp [wn];refine callK_intro _ (c_within _ _ _) (by simp) ?_;simp -dsimp [wn];refine callK_may _ (fun hm=>c_within _ _ _) (by simp) ?_;simp -dsimp [wn];refine callK_may _ (fun hm=>c_within _ _ _) (by simp) ?_;simp -dsimp [wn];refine callK_may _ (fun hm=>c_within _ _ _) (by simp) ?_;simp -dsimp [wn];apply hK;clear hK K;refine awp_cond rfl (fun hc0=>?_) (fun hc0=>?_)
 ·skip
  try simp at hc0
  refine aS fun K hK=>?_;simp -dsimp;apply hK;clear hK K;refine awp_ret ?_;have hra:railA p r=false:=by
   cases hq:railA p r with
   |false=>rfl
   |true=>simp[railA]at hq;simp[hq,wn]at hc0;omega
  simp[railB,hra]
 ·skip
  try simp at hc0
  have hra:railA p r=true:=by simp[railA,hc0];omega
  obtain⟨hF,hT,hsl⟩:=railA_iff hra;refine awp_skip ?_;simp only[zT,reduceIte,Nat.reduceEqDiff];refine hK1 _ _ ?_;refine awp_prune [2,3] ?_;simp only[zP,Nat.reduceEqDiff,reduceIte];refine aS fun K hK=>?_;simp -dsimp;refine callK_intro _ (c_tline p r hF hT (by omega)) (by simp) ?_;simp -dsimp;apply hK;clear hK K;refine awp_seq_k fun K2 hK2=>?_;refine aS fun K hK=>?_;simp -dsimp;apply hK;clear hK K;refine awp_block ?_;refine awp_prune [5,47,48,49] ?_;simp only[zP,Nat.reduceEqDiff,reduceIte];refine awp_loop_l [5,47,48] (α:=Nat) (fun k=>[(49,I k)]) (fun _=>[some (.els 2 [p.cells]),some (.els 5 [r.cells])]) (fun k=>k≤(lineOf p r).length∧∀m,m<k→spotB (nth (lineOf p r) m)=true∧(0<m→segB (lineOf p r) (m-1)=true)) (fun k=>(lineOf p r).length-k) 0 ?_ ?_ ?_
  ·exact⟨by omega,fun m hm=>by omega⟩
  ·exact sub_same (by simp)
  rintro k ⟨k1,k2⟩;simp only[zP,Nat.reduceEqDiff,reduceIte];refine aS fun K hK=>?_;simp -dsimp;apply hK;clear hK K;refine awp_seq_k fun K3 hK3=>?_;refine awp_cond rfl (fun hc1=>?_) (fun hc1=>?_)
  ·skip
   try simp at hc1
   have g0:=nth_get (l:=lineOf p r) (k:=k) (by omega);have wk:=zW k (by omega);have wm:0<k→IntKind.i64.wrap ((k:Int)-1)=((k-1:Nat):Int):=fun h=>by rw[wrap_in (by omega) (by omega)];omega
   refine awp_skip ?_;simp only[zT,reduceIte,Nat.reduceEqDiff];refine hK3 _ _ ?_;refine awp_prune [5,47,48,49] ?_;simp only[zP,Nat.reduceEqDiff,reduceIte];refine awp_seq_k fun K4 hK4=>?_;refine awp_block ?_;refine aS fun K hK=>?_;simp -dsimp [g0];apply hK;clear hK K;refine awp_sd mixed rfl fun K hK=>?_;simp -dsimp;refine callK_intro _ (c_tspot (nth (lineOf p r) k)) (by simp) ?_;simp -dsimp;refine⟨fun _ h=>by rw[wm h];omega,idxK_intro (Spot.cells (nth (lineOf p r) (k-1))) (fun hm=>by simp at hm;rw[wm hm.2];simp[nth_get (l:=lineOf p r) (k:=k-1) (by omega)]) ?_⟩;simp;refine callK_may _ (fun hm=>c_span (nth (lineOf p r) (k-1)) (nth (lineOf p r) k) (by simp at hm;exact(k2 (k-1) (by omega)).1) (by simp at hm;exact hm.1)) (by simp) ?_;simp -dsimp;refine callK_may _ (fun hm=>c_within _ _ _) (by simp) ?_;simp -dsimp;refine hK _ _ _ (by decide+kernel) ?_;clear hK K;refine awp_cond rfl (fun hc2=>?_) (fun hc2=>?_)
   ·skip
    try simp at hc2
    have hB:railB p r=false:=by
     rw[railB_line hA]
     by_cases hs:spotB (nth (lineOf p r) k)=true
     ·have h3:0<k∧inr (far (nth (lineOf p r) (k-1)) (nth (lineOf p r) k)) 1 1000000=false:=by simp[hs]at hc2;exact hc2
      have hseg:segB (lineOf p r) (k-1)=false:=by simp only[segB,segLen];rw[show k-1+1=k by omega];exact h3.2
      have:(List.range (r.Shape.length+1)).all (segB (lineOf p r))=false:=by rw[List.all_eq_false];exact⟨k-1,by simp;omega,by simp[hseg]⟩
      simp[this]
     ·have:(lineOf p r).all spotB=false:=all_ff g0 (by simpa using hs);simp only[this,Bool.false_and,Bool.and_false]
    refine aS fun K hK=>?_;simp -dsimp;apply hK;clear hK K;exact awp_ret (by simp[hB])
   ·skip
    try simp at hc2
    refine awp_skip ?_;simp only[zT,reduceIte,Nat.reduceEqDiff];refine hK4 _ _ ?_;refine awp_prune [5,47,48,49] ?_;simp only[zP,Nat.reduceEqDiff,reduceIte];refine aR fun K hK=>?_;simp -dsimp [wk];apply hK;clear hK K;simp only[zT,reduceIte,Nat.reduceEqDiff];refine⟨k+1,⟨by omega,fun m hm=>?_⟩,by omega,sub_rb [some 0,some 1] rfl (by simp) (by simp[Function.comp_def])⟩
    by_cases hmk:m<k
    ·exact k2 m hmk
    ·obtain rfl:m=k:=by omega
     refine⟨hc2.1,fun h=>?_⟩;simp only[segB,segLen];rw[show m-1+1=m by omega];exact hc2.2 h
  ·skip
   try simp at hc1
   have hB:railB p r=true:=by
    rw[railB_line hA,hra];simp only[Bool.true_and,Bool.and_eq_true,List.all_eq_true,List.mem_range];refine⟨fun s hs=>?_,fun m hm=>?_⟩
    ·obtain⟨m,hm⟩:=List.getElem?_of_mem hs;have hml:=(List.getElem?_eq_some_iff.1 hm).1;have:=(k2 m (by omega)).1;rw[nth_get hml]at hm;simp only[Option.some.injEq]at hm
     rwa [hm]at this
    ·exact(k2 (m+1) (by omega)).2 (by omega)
   refine awp_exit ?_;simp only[zT,reduceIte,Nat.reduceEqDiff];refine hK2 _ _ ?_;refine awp_prune [] ?_;simp only[zP,Nat.reduceEqDiff,reduceIte];refine aS fun K hK=>?_;simp -dsimp;apply hK;clear hK K;exact awp_ret (by simp[hB])
end Go.Tram
end
section
namespace Go.Tram
open Go.AM Go.Proofs
def ipts:List (List AV)→List AV
 |[]=>[]
 |c::cs=> .iptr c::ipts cs
@[simp] theorem ipts_frz (H:Nat→Option ARow) (n:Nat):∀cl:List (List AV),(ipts cl).map (frz H n)=ipts cl
 |[]=>rfl
 |c::cs=>by simp only[ipts,List.map_cons,ipts_frz H n cs,List.cons.injEq,and_true];cases n<;>rfl
@[simp] theorem ipts_noRef (n:Nat):∀cl:List (List AV),(ipts cl).all (AV.noRef n)=true
 |[]=>rfl
 |c::cs=>by simp only[ipts,List.all_cons,ipts_noRef n cs,Bool.and_true];cases n<;>rfl
@[simp] theorem ipts_rd (H:Nat→Option ARow) (n:Nat):∀cl:List (List AV),(ipts cl).flatMap (frzRd H n)=[]
 |[]=>rfl
 |c::cs=>by simp only[ipts,List.flatMap_cons,ipts_rd H n cs,List.append_nil];cases n<;>rfl
def firstI {α:Type} (l:List α) (q:α→Bool):Int:=match l.findIdx? q with|some i=>i|none=>-1
theorem firstI_none {α:Type} {l:List α} {q:α→Bool} (h:l.any q=false):firstI l q=-1:=by
 have:l.findIdx? q=none:=by
  rw[List.findIdx?_eq_none_iff];intro x hx;rw[List.any_eq_false]at h;simpa using h x hx
 unfold firstI;rw[this]
theorem firstI_hit {α:Type} {l:List α} {q:α→Bool} {k:Nat} {x:α} (hx:l[k]?=some x) (hq:q x=true) (hn:(l.take k).any q=false):firstI l q=k:=by
 obtain⟨hk,he⟩:=List.getElem?_eq_some_iff.1 hx;have:l.findIdx? q=some k:=by
  rw[List.findIdx?_eq_some_iff_getElem];refine⟨hk,by rw[he];exact hq,fun j hj=>?_⟩;rw[List.any_eq_false]at hn;have:=hn l[j] (by rw[List.mem_take_iff_getElem];exact⟨j,by omega,rfl⟩);simpa using this
 unfold firstI;rw[this]
theorem firstI_nn {α:Type} (l:List α) (q:α→Bool):decide (0≤firstI l q)=l.any q:=by
 cases h:l.any q with
 |false=>rw[firstI_none h];rfl
 |true=>
  rw[List.any_eq_true]at h;obtain⟨x,hx,hq⟩:=h;unfold firstI
  cases hi:l.findIdx? q with
  |none=>rw[List.findIdx?_eq_none_iff]at hi;exact absurd hq (by simp[hi x hx])
  |some i=>simp
theorem any_take {α:Type} {l:List α} {q:α→Bool} {k:Nat} {x:α} (h:l[k]?=some x):(l.take (k+1)).any q=((l.take k).any q||q x):=by
 rw[List.take_add_one,List.any_append,h];simp
theorem any_of_take {α:Type} {l:List α} {q:α→Bool} {k:Nat} (hk:l.length≤k) (h:(l.take k).any q=false):l.any q=false:=by rwa [List.take_of_length_le hk]at h
theorem c_Index_Node (l:List Node) (f:FuncId) (cl:List (List AV)) (q:Node→Bool) (h:∀x∈l,PureCall Tryz.prog f (.agg x.cells::ipts cl) (Bo (q x))) (hn:l.length≤100000):
  PureCall Tryz.prog 309 [.lst 5 (l.map Node.cells), .clo f (ipts cl)] (I (firstI l q)):=by
 refine PureCall.of_body Tryz.func309 rfl (by decide) (by simp[Tryz.ntmps309]) ?_;simp only[Tryz.ntmps309,Tryz.results309];refine aS fun K hK=>?_;simp -dsimp;apply hK;clear hK K;refine awp_seq_k fun K1 hK1=>?_;refine aS fun K hK=>?_;simp -dsimp;apply hK;clear hK K;refine awp_block ?_;refine awp_prune [0,1,7,8] ?_;simp only[zP,Nat.reduceEqDiff,reduceIte];refine awp_loop_l [0,1,7] (α:=Nat) (fun k=>[(8,I k)]) (fun _=>[]) (fun k=>k≤l.length∧(l.take k).any q=false) (fun k=>l.length-k) 0 ?_ ?_ ?_
 ·simp
 ·exact sub_same (by simp)
 rintro k ⟨k1,k2⟩;simp only[zP,Nat.reduceEqDiff,reduceIte];refine aS fun K hK=>?_;simp -dsimp;apply hK;clear hK K;refine awp_seq_k fun K2 hK2=>?_;refine awp_cond rfl (fun hc0=>?_) (fun hc0=>?_)
 ·skip
  try simp at hc0
  obtain⟨x,hx⟩:∃x,l[k]?=some x:=⟨_,List.getElem?_eq_getElem hc0⟩;have wk:=zW k (by omega);refine awp_skip ?_;simp only[zT,reduceIte,Nat.reduceEqDiff];refine hK2 _ _ ?_;refine awp_prune [0,1,7,8] ?_;simp only[zP,Nat.reduceEqDiff,reduceIte];refine awp_seq_k fun K3 hK3=>?_;refine awp_block ?_;refine aS fun K hK=>?_;simp -dsimp;apply hK;clear hK K;refine aS fun K hK=>?_;simp -dsimp [hx];refine callK_intro _ (h x (List.mem_of_getElem? hx)) (by simp) ?_;simp -dsimp [hx];apply hK;clear hK K;refine awp_cond rfl (fun hc1=>?_) (fun hc1=>?_)
  ·skip
   try simp at hc1
   refine aS fun K hK=>?_;simp -dsimp;apply hK;clear hK K;exact awp_ret (by simp[firstI_hit hx hc1 k2])
  ·skip
   try simp at hc1
   refine awp_skip ?_;simp only[zT,reduceIte,Nat.reduceEqDiff];refine hK3 _ _ ?_;refine awp_prune [0,1,7,8] ?_;simp only[zP,Nat.reduceEqDiff,reduceIte];refine aR fun K hK=>?_;simp -dsimp [wk];apply hK;clear hK K;simp only[zT,reduceIte,Nat.reduceEqDiff];exact⟨k+1,⟨by omega,by rw[any_take hx,k2,hc1];rfl⟩,by omega,sub_same (by simp)⟩
 ·skip
  try simp at hc0
  have hall:=any_of_take (by omega) k2;refine awp_exit ?_;simp only[zT,reduceIte,Nat.reduceEqDiff];refine hK1 _ _ ?_;refine awp_prune [] ?_;simp only[zP,Nat.reduceEqDiff,reduceIte];refine aS fun K hK=>?_;simp -dsimp;apply hK;clear hK K;exact awp_ret (by simp[firstI_none hall])
theorem c_Cont_Node (l:List Node) (f:FuncId) (cl:List (List AV)) (q:Node→Bool) (h:∀x∈l,PureCall Tryz.prog f (.agg x.cells::ipts cl) (Bo (q x))) (hn:l.length≤100000):
  PureCall Tryz.prog 236 [.lst 5 (l.map Node.cells), .clo f (ipts cl)] (Bo (l.any q)):=by
 refine PureCall.of_body Tryz.func236 rfl (by decide) (by simp[Tryz.ntmps236]) ?_;simp only[Tryz.ntmps236,Tryz.results236];refine aS fun K hK=>?_;simp -dsimp;apply hK;clear hK K;refine aS fun K hK=>?_;simp -dsimp;refine callK_intro _ (c_Index_Node l f cl q h hn) (by simp) ?_;simp -dsimp;apply hK;clear hK K;exact awp_ret (by simp[firstI_nn])
theorem c_Index_Rail (l:List Rail) (f:FuncId) (cl:List (List AV)) (q:Rail→Bool) (h:∀x∈l,PureCall Tryz.prog f (.agg x.cells::ipts cl) (Bo (q x))) (hn:l.length≤100000):
  PureCall Tryz.prog 312 [.lst 5 (l.map Rail.cells), .clo f (ipts cl)] (I (firstI l q)):=by
 refine PureCall.of_body Tryz.func312 rfl (by decide) (by simp[Tryz.ntmps312]) ?_;simp only[Tryz.ntmps312,Tryz.results312];refine aS fun K hK=>?_;simp -dsimp;apply hK;clear hK K;refine awp_seq_k fun K1 hK1=>?_;refine aS fun K hK=>?_;simp -dsimp;apply hK;clear hK K;refine awp_block ?_;refine awp_prune [0,1,7,8] ?_;simp only[zP,Nat.reduceEqDiff,reduceIte];refine awp_loop_l [0,1,7] (α:=Nat) (fun k=>[(8,I k)]) (fun _=>[]) (fun k=>k≤l.length∧(l.take k).any q=false) (fun k=>l.length-k) 0 ?_ ?_ ?_
 ·simp
 ·exact sub_same (by simp)
 rintro k ⟨k1,k2⟩;simp only[zP,Nat.reduceEqDiff,reduceIte];refine aS fun K hK=>?_;simp -dsimp;apply hK;clear hK K;refine awp_seq_k fun K2 hK2=>?_;refine awp_cond rfl (fun hc0=>?_) (fun hc0=>?_)
 ·skip
  try simp at hc0
  obtain⟨x,hx⟩:∃x,l[k]?=some x:=⟨_,List.getElem?_eq_getElem hc0⟩;have wk:=zW k (by omega);refine awp_skip ?_;simp only[zT,reduceIte,Nat.reduceEqDiff];refine hK2 _ _ ?_;refine awp_prune [0,1,7,8] ?_;simp only[zP,Nat.reduceEqDiff,reduceIte];refine awp_seq_k fun K3 hK3=>?_;refine awp_block ?_;refine aS fun K hK=>?_;simp -dsimp;apply hK;clear hK K;refine aS fun K hK=>?_;simp -dsimp [hx];refine callK_intro _ (h x (List.mem_of_getElem? hx)) (by simp) ?_;simp -dsimp [hx];apply hK;clear hK K;refine awp_cond rfl (fun hc1=>?_) (fun hc1=>?_)
  ·skip
   try simp at hc1
   refine aS fun K hK=>?_;simp -dsimp;apply hK;clear hK K;exact awp_ret (by simp[firstI_hit hx hc1 k2])
  ·skip
   try simp at hc1
   refine awp_skip ?_;simp only[zT,reduceIte,Nat.reduceEqDiff];refine hK3 _ _ ?_;refine awp_prune [0,1,7,8] ?_;simp only[zP,Nat.reduceEqDiff,reduceIte];refine aR fun K hK=>?_;simp -dsimp [wk];apply hK;clear hK K;simp only[zT,reduceIte,Nat.reduceEqDiff];exact⟨k+1,⟨by omega,by rw[any_take hx,k2,hc1];rfl⟩,by omega,sub_same (by simp)⟩
 ·skip
  try simp at hc0
  have hall:=any_of_take (by omega) k2;refine awp_exit ?_;simp only[zT,reduceIte,Nat.reduceEqDiff];refine hK1 _ _ ?_;refine awp_prune [] ?_;simp only[zP,Nat.reduceEqDiff,reduceIte];refine aS fun K hK=>?_;simp -dsimp;apply hK;clear hK K;exact awp_ret (by simp[firstI_none hall])
theorem c_Cont_Rail (l:List Rail) (f:FuncId) (cl:List (List AV)) (q:Rail→Bool) (h:∀x∈l,PureCall Tryz.prog f (.agg x.cells::ipts cl) (Bo (q x))) (hn:l.length≤100000):
  PureCall Tryz.prog 239 [.lst 5 (l.map Rail.cells), .clo f (ipts cl)] (Bo (l.any q)):=by
 refine PureCall.of_body Tryz.func239 rfl (by decide) (by simp[Tryz.ntmps239]) ?_;simp only[Tryz.ntmps239,Tryz.results239];refine aS fun K hK=>?_;simp -dsimp;apply hK;clear hK K;refine aS fun K hK=>?_;simp -dsimp;refine callK_intro _ (c_Index_Rail l f cl q h hn) (by simp) ?_;simp -dsimp;apply hK;clear hK K;exact awp_ret (by simp[firstI_nn])
theorem c_Index_Spot (l:List Spot) (f:FuncId) (cl:List (List AV)) (q:Spot→Bool) (h:∀x∈l,PureCall Tryz.prog f (.agg x.cells::ipts cl) (Bo (q x))) (hn:l.length≤100000):
  PureCall Tryz.prog 357 [.lst 2 (l.map Spot.cells), .clo f (ipts cl)] (I (firstI l q)):=by
 refine PureCall.of_body Tryz.func357 rfl (by decide) (by simp[Tryz.ntmps357]) ?_;simp only[Tryz.ntmps357,Tryz.results357];refine aS fun K hK=>?_;simp -dsimp;apply hK;clear hK K;refine awp_seq_k fun K1 hK1=>?_;refine aS fun K hK=>?_;simp -dsimp;apply hK;clear hK K;refine awp_block ?_;refine awp_prune [0,1,7,8] ?_;simp only[zP,Nat.reduceEqDiff,reduceIte];refine awp_loop_l [0,1,7] (α:=Nat) (fun k=>[(8,I k)]) (fun _=>[]) (fun k=>k≤l.length∧(l.take k).any q=false) (fun k=>l.length-k) 0 ?_ ?_ ?_
 ·simp
 ·exact sub_same (by simp)
 rintro k ⟨k1,k2⟩;simp only[zP,Nat.reduceEqDiff,reduceIte];refine aS fun K hK=>?_;simp -dsimp;apply hK;clear hK K;refine awp_seq_k fun K2 hK2=>?_;refine awp_cond rfl (fun hc0=>?_) (fun hc0=>?_)
 ·skip
  try simp at hc0
  obtain⟨x,hx⟩:∃x,l[k]?=some x:=⟨_,List.getElem?_eq_getElem hc0⟩;have wk:=zW k (by omega);refine awp_skip ?_;simp only[zT,reduceIte,Nat.reduceEqDiff];refine hK2 _ _ ?_;refine awp_prune [0,1,7,8] ?_;simp only[zP,Nat.reduceEqDiff,reduceIte];refine awp_seq_k fun K3 hK3=>?_;refine awp_block ?_;refine aS fun K hK=>?_;simp -dsimp;apply hK;clear hK K;refine aS fun K hK=>?_;simp -dsimp [hx];refine callK_intro _ (h x (List.mem_of_getElem? hx)) (by simp) ?_;simp -dsimp [hx];apply hK;clear hK K;refine awp_cond rfl (fun hc1=>?_) (fun hc1=>?_)
  ·skip
   try simp at hc1
   refine aS fun K hK=>?_;simp -dsimp;apply hK;clear hK K;exact awp_ret (by simp[firstI_hit hx hc1 k2])
  ·skip
   try simp at hc1
   refine awp_skip ?_;simp only[zT,reduceIte,Nat.reduceEqDiff];refine hK3 _ _ ?_;refine awp_prune [0,1,7,8] ?_;simp only[zP,Nat.reduceEqDiff,reduceIte];refine aR fun K hK=>?_;simp -dsimp [wk];apply hK;clear hK K;simp only[zT,reduceIte,Nat.reduceEqDiff];exact⟨k+1,⟨by omega,by rw[any_take hx,k2,hc1];rfl⟩,by omega,sub_same (by simp)⟩
 ·skip
  try simp at hc0
  have hall:=any_of_take (by omega) k2;refine awp_exit ?_;simp only[zT,reduceIte,Nat.reduceEqDiff];refine hK1 _ _ ?_;refine awp_prune [] ?_;simp only[zP,Nat.reduceEqDiff,reduceIte];refine aS fun K hK=>?_;simp -dsimp;apply hK;clear hK K;exact awp_ret (by simp[firstI_none hall])
theorem c_Cont_Spot (l:List Spot) (f:FuncId) (cl:List (List AV)) (q:Spot→Bool) (h:∀x∈l,PureCall Tryz.prog f (.agg x.cells::ipts cl) (Bo (q x))) (hn:l.length≤100000):
  PureCall Tryz.prog 328 [.lst 2 (l.map Spot.cells), .clo f (ipts cl)] (Bo (l.any q)):=by
 refine PureCall.of_body Tryz.func328 rfl (by decide) (by simp[Tryz.ntmps328]) ?_;simp only[Tryz.ntmps328,Tryz.results328];refine aS fun K hK=>?_;simp -dsimp;apply hK;clear hK K;refine aS fun K hK=>?_;simp -dsimp;refine callK_intro _ (c_Index_Spot l f cl q h hn) (by simp) ?_;simp -dsimp;apply hK;clear hK K;exact awp_ret (by simp[firstI_nn])
theorem c_Index_Profile (l:List Profile) (f:FuncId) (cl:List (List AV)) (q:Profile→Bool) (h:∀x∈l,PureCall Tryz.prog f (.agg x.cells::ipts cl) (Bo (q x))) (hn:l.length≤100000):
  PureCall Tryz.prog 277 [.lst 2 (l.map Profile.cells), .clo f (ipts cl)] (I (firstI l q)):=by
 refine PureCall.of_body Tryz.func277 rfl (by decide) (by simp[Tryz.ntmps277]) ?_;simp only[Tryz.ntmps277,Tryz.results277];refine aS fun K hK=>?_;simp -dsimp;apply hK;clear hK K;refine awp_seq_k fun K1 hK1=>?_;refine aS fun K hK=>?_;simp -dsimp;apply hK;clear hK K;refine awp_block ?_;refine awp_prune [0,1,7,8] ?_;simp only[zP,Nat.reduceEqDiff,reduceIte];refine awp_loop_l [0,1,7] (α:=Nat) (fun k=>[(8,I k)]) (fun _=>[]) (fun k=>k≤l.length∧(l.take k).any q=false) (fun k=>l.length-k) 0 ?_ ?_ ?_
 ·simp
 ·exact sub_same (by simp)
 rintro k ⟨k1,k2⟩;simp only[zP,Nat.reduceEqDiff,reduceIte];refine aS fun K hK=>?_;simp -dsimp;apply hK;clear hK K;refine awp_seq_k fun K2 hK2=>?_;refine awp_cond rfl (fun hc0=>?_) (fun hc0=>?_)
 ·skip
  try simp at hc0
  obtain⟨x,hx⟩:∃x,l[k]?=some x:=⟨_,List.getElem?_eq_getElem hc0⟩;have wk:=zW k (by omega);refine awp_skip ?_;simp only[zT,reduceIte,Nat.reduceEqDiff];refine hK2 _ _ ?_;refine awp_prune [0,1,7,8] ?_;simp only[zP,Nat.reduceEqDiff,reduceIte];refine awp_seq_k fun K3 hK3=>?_;refine awp_block ?_;refine aS fun K hK=>?_;simp -dsimp;apply hK;clear hK K;refine aS fun K hK=>?_;simp -dsimp [hx];refine callK_intro _ (h x (List.mem_of_getElem? hx)) (by simp) ?_;simp -dsimp [hx];apply hK;clear hK K;refine awp_cond rfl (fun hc1=>?_) (fun hc1=>?_)
  ·skip
   try simp at hc1
   refine aS fun K hK=>?_;simp -dsimp;apply hK;clear hK K;exact awp_ret (by simp[firstI_hit hx hc1 k2])
  ·skip
   try simp at hc1
   refine awp_skip ?_;simp only[zT,reduceIte,Nat.reduceEqDiff];refine hK3 _ _ ?_;refine awp_prune [0,1,7,8] ?_;simp only[zP,Nat.reduceEqDiff,reduceIte];refine aR fun K hK=>?_;simp -dsimp [wk];apply hK;clear hK K;simp only[zT,reduceIte,Nat.reduceEqDiff];exact⟨k+1,⟨by omega,by rw[any_take hx,k2,hc1];rfl⟩,by omega,sub_same (by simp)⟩
 ·skip
  try simp at hc0
  have hall:=any_of_take (by omega) k2;refine awp_exit ?_;simp only[zT,reduceIte,Nat.reduceEqDiff];refine hK1 _ _ ?_;refine awp_prune [] ?_;simp only[zP,Nat.reduceEqDiff,reduceIte];refine aS fun K hK=>?_;simp -dsimp;apply hK;clear hK K;exact awp_ret (by simp[firstI_none hall])
theorem c_Cont_Profile (l:List Profile) (f:FuncId) (cl:List (List AV)) (q:Profile→Bool) (h:∀x∈l,PureCall Tryz.prog f (.agg x.cells::ipts cl) (Bo (q x))) (hn:l.length≤100000):
  PureCall Tryz.prog 209 [.lst 2 (l.map Profile.cells), .clo f (ipts cl)] (Bo (l.any q)):=by
 refine PureCall.of_body Tryz.func209 rfl (by decide) (by simp[Tryz.ntmps209]) ?_;simp only[Tryz.ntmps209,Tryz.results209];refine aS fun K hK=>?_;simp -dsimp;apply hK;clear hK K;refine aS fun K hK=>?_;simp -dsimp;refine callK_intro _ (c_Index_Profile l f cl q h hn) (by simp) ?_;simp -dsimp;apply hK;clear hK K;exact awp_ret (by simp[firstI_nn])
theorem c_Check1 (n:Node):PureCall Tryz.prog 237 [.agg n.cells] (Bo (!nodeB n)):=by
 refine PureCall.of_body Tryz.func237 rfl (by decide) (by simp[Tryz.ntmps237]) ?_;simp only[Tryz.ntmps237,Tryz.results237];refine aS fun K hK=>?_;simp -dsimp;apply hK;clear hK K;refine aS fun K hK=>?_;simp -dsimp;refine callK_intro _ (c_tnode n) (by simp) ?_;simp -dsimp;apply hK;clear hK K;exact awp_ret (by simp)
theorem c_Check2 (p:Plan) (r:Rail) (hA:p.Nodes.all nodeB=true) (hN:p.Nodes.length≤300):PureCall Tryz.prog 240 [.agg r.cells, .iptr p.cells] (Bo (!railB p r)):=by
 refine PureCall.of_body Tryz.func240 rfl (by decide) (by simp[Tryz.ntmps240]) ?_;simp only[Tryz.ntmps240,Tryz.results240];refine aS fun K hK=>?_;simp -dsimp;apply hK;clear hK K;refine aS fun K hK=>?_;simp -dsimp;refine callK_intro _ (c_trail p r hA hN) (by simp) ?_;simp -dsimp;apply hK;clear hK K;exact awp_ret (by simp)
end Go.Tram
end
section
namespace Go.Tram
open Go.AM Go.Proofs
def keyOf (e:REnd):List KC:=[.i .i64 e.Rail, .b e.Last]
theorem keyOf_inj {a b:REnd}:keyOf a=keyOf b↔a=b:=by
 cases a;cases b;simp[keyOf]
def seenK (l:List (Nat×REnd)):List (List KC×Value):=l.map fun x=>(keyOf x.2,Value.bool true)
theorem kvGet_seen (e:REnd):∀l:List (Nat×REnd),kvGet (seenK l) [.i .i64 e.Rail, .b e.Last]=if e∈l.map (·.2)then some (.bool true)else none
 |[]=>by simp[seenK,kvGet]
 |x::l=>by
  have ih:=kvGet_seen e l;have hk:([.i .i64 e.Rail, .b e.Last]:List KC)=keyOf x.2↔e=x.2:=keyOf_inj (a:=e);simp only[seenK,List.map_cons,kvGet,List.mem_cons]at ih ⊢
  by_cases h:e=x.2
  ·rw[if_pos (hk.2 h),if_pos (Or.inl h)]
  ·rw[if_neg (fun q=>h (hk.1 q)),ih];simp only[h,false_or]
theorem kvSet_seen {e:REnd} {i:Nat}:∀{l:List (Nat×REnd)},e∉l.map (·.2)→kvSet (seenK l) [.i .i64 e.Rail, .b e.Last] (.bool true)=seenK (l++[(i,e)])
 |[],_=>by simp[seenK,kvSet,keyOf]
 |x::l,h=>by
  simp only[List.map_cons,List.mem_cons,not_or]at h;have ih:=kvSet_seen (i:=i) h.2;have hk:([.i .i64 e.Rail, .b e.Last]:List KC)=keyOf x.2↔e=x.2:=keyOf_inj (a:=e);simp only[seenK,List.map_cons,kvSet,List.cons_append]at ih ⊢;rw[if_neg (fun q=>h.1 (hk.1 q)),ih]
theorem c_Check (p:Plan):PureCall Tryz.prog 146 [p.av] (I (if validB p then 0 else 2)):=by
 refine PureCall.of_body Tryz.func146 rfl (by decide) (by simp[Tryz.ntmps146]) ?_;simp only[Tryz.ntmps146,Tryz.results146];refine aS fun K hK=>?_;simp -dsimp;apply hK;clear hK K;refine awp_seq_k fun K1 hK1=>?_;refine aS fun K hK=>?_;simp -dsimp;refine callK_intro _ (c_within _ _ _) (by simp) ?_;simp -dsimp;refine callK_may _ (fun hm=>c_within _ _ _) (by simp) ?_;simp -dsimp;apply hK;clear hK K;refine awp_cond rfl (fun hc0=>?_) (fun hc0=>?_)
 ·skip
  try simp at hc0
  have hv:validB p=false:=by simp[validB,validA];intro h1 h2;simp_all
  refine aS fun K hK=>?_;simp -dsimp;apply hK;clear hK K;exact awp_ret (by simp[hv])
 ·skip
  try simp at hc0
  have hN:=inr_iff.1 hc0.1;have hR:=inr_iff.1 hc0.2;refine awp_skip ?_;simp only[zT,reduceIte,Nat.reduceEqDiff];refine hK1 _ _ ?_;refine awp_prune [1] ?_;simp only[zP,Nat.reduceEqDiff,reduceIte];refine awp_seq_k fun K2 hK2=>?_;refine aS fun K hK=>?_;simp -dsimp;refine callK_intro _ (c_Cont_Node p.Nodes 237 [] (fun n=> !nodeB n) (fun n _=>c_Check1 n) (by omega)) (by simp) ?_;simp -dsimp;refine callK_may _ (fun hm=>c_Cont_Rail p.Rails 240 [p.cells] (fun r=> !railB p r) (fun r _=>c_Check2 p r (by simp at hm;exact List.all_eq_true.2 hm) (by omega)) (by omega)) (by simp) ?_;simp -dsimp;apply hK;clear hK K;refine awp_cond rfl (fun hc1=>?_) (fun hc1=>?_)
  ·have hv:validB p=false:=by
    cases hq:validB p with
    |false=>rfl
    |true=>
     obtain⟨_,_,hA,hB,_⟩:=valid_parts hq;rw[List.all_eq_true]at hA hB;have e1:(p.Nodes.any fun n=> !nodeB n)=false:=by rw[List.any_eq_false];intro x hx;simp[hA x hx]
     have e2:(p.Rails.any fun r=> !railB p r)=false:=by rw[List.any_eq_false];intro x hx;simp[hB x hx]
     simp[e1,e2]at hc1
   refine aS fun K hK=>?_;simp -dsimp;apply hK;clear hK K;exact awp_ret (by simp[hv])
  ·have hA:p.Nodes.all nodeB=true:=by simp at hc1;exact List.all_eq_true.2 hc1.1
   have hB:p.Rails.all (railB p)=true:=by simp at hc1;exact List.all_eq_true.2 hc1.2
   refine awp_skip ?_;simp only[zT,reduceIte,Nat.reduceEqDiff];refine hK2 _ _ ?_;refine awp_prune [1] ?_;simp only[zP,Nat.reduceEqDiff,reduceIte];refine aS fun K hK=>?_;simp -dsimp;apply hK;clear hK K;refine awp_seq_k fun K3 hK3=>?_;refine aS fun K hK=>?_;simp -dsimp;apply hK;clear hK K;refine awp_block ?_;refine awp_prune [1,3,31,32,33] ?_;simp only[zP,Nat.reduceEqDiff,reduceIte];refine awp_loop_l [1,3,31,32] (α:=Nat) (fun i=>[(33,I i)]) (fun i=>[some (.els 2 [p.cells]),some (.map true [.i .i64, .b] (seenK (endsOf p i)))]) (fun i=>i≤p.Nodes.length∧(endsOf p i).all (endB p)=true∧((endsOf p i).map (·.2)).Nodup) (fun i=>p.Nodes.length-i) 0 ?_ ?_ ?_
   ·simp[endsOf]
   ·exact sub_same (by simp[endsOf,seenK])
   rintro i ⟨i1,i2,i3⟩;simp only[zP,Nat.reduceEqDiff,reduceIte];refine aS fun K hK=>?_;simp -dsimp;apply hK;clear hK K;refine awp_seq_k fun K4 hK4=>?_;refine awp_cond rfl (fun hc2=>?_) (fun hc2=>?_)
   ·skip
    try simp at hc2
    have n0:=p.node_get (i:=(i:Int)) (by omega) (by omega);simp only[Int.toNat_natCast]at n0;have wi:=zW i (by omega);have wr:IntKind.i64.wrap ((p.Rails.length:Int)-1)=(p.Rails.length:Int)-1:=wrap_in (by omega) (by omega);have hle:=nodeB_len (node_ends hA (i:=(i:Int)) (by omega) (by omega));refine awp_skip ?_;simp only[zT,reduceIte,Nat.reduceEqDiff];refine hK4 _ _ ?_;refine awp_prune [1,3,31,32,33] ?_;simp only[zP,Nat.reduceEqDiff,reduceIte];refine awp_seq_k fun K5 hK5=>?_;refine awp_block ?_;refine aS fun K hK=>?_;simp -dsimp [n0];apply hK;clear hK K;refine aS fun K hK=>?_;simp -dsimp;apply hK;clear hK K;refine awp_block ?_;refine awp_prune [1,3,4,31,32,33,39,40,41] ?_;simp only[zP,Nat.reduceEqDiff,reduceIte];refine awp_loop_l [1,3,4,31,32,33,39,40] (α:=Nat) (fun j=>[(41,I j)]) (fun j=>[some (.els 2 [p.cells]),some (.map true [.i .i64, .b] (seenK (curE p i j)))]) (fun j=>j≤(p.node i).Ends.length∧(curE p i j).all (endB p)=true∧((curE p i j).map (·.2)).Nodup) (fun j=>(p.node i).Ends.length-j) 0 ?_ ?_ ?_
    ·rw[curE_zero];exact⟨by omega,i2,i3⟩
    ·simp only[curE_zero];exact sub_rb [some 0,some 1] rfl (by simp) (by simp)
    rintro j ⟨j1,j2,j3⟩;simp only[zP,Nat.reduceEqDiff,reduceIte];refine aS fun K hK=>?_;simp -dsimp;apply hK;clear hK K;refine awp_seq_k fun K6 hK6=>?_;refine awp_cond rfl (fun hc3=>?_) (fun hc3=>?_)
    ·skip
     try simp at hc3
     obtain⟨e,he⟩:∃e,(p.node i).Ends[j]?=some e:=⟨_,List.getElem?_eq_getElem hc3⟩;have wj:=zW j (by omega);refine awp_skip ?_;simp only[zT,reduceIte,Nat.reduceEqDiff];refine hK6 _ _ ?_;refine awp_prune [1,3,4,31,32,33,39,40,41] ?_;simp only[zP,Nat.reduceEqDiff,reduceIte];refine awp_seq_k fun K7 hK7=>?_;refine awp_block ?_;refine aS fun K hK=>?_;simp -dsimp [he];apply hK;clear hK K;refine awp_seq_k fun K8 hK8=>?_;refine aS fun K hK=>?_;simp -dsimp [wr];refine callK_intro _ (c_within _ _ _) (by simp) ?_;simp -dsimp [wr];refine valK_intro (Bo (decide (e∈(curE p i j).map (·.2)))) (fun hm=>by rw[kvGet_seen];split<;>simp_all) ?_
     simp -dsimp [wr];refine callK_may _ (fun hm=>c_ending p e (by simp[inr_iff]at hm;omega) (by simp[inr_iff]at hm;omega)) (by simp) ?_;simp -dsimp [wr];apply hK;clear hK K;refine awp_cond rfl (fun hc4=>?_) (fun hc4=>?_)
     ·have hv:validB p=false:=by
       by_cases hb:endB p (i,e)=true
       ·have hb':=hb;simp only[endB,Bool.and_eq_true,decide_eq_true_eq]at hb';simp[hb'.1,hb'.2]at hc4;obtain⟨a,ha⟩:=hc4;obtain⟨m,hm⟩:=List.getElem?_of_mem ha;exact valid_ff_dup hc2 he hm rfl
       ·exact valid_ff_end hc2 he (by simpa using hb)
      refine aS fun K hK=>?_;simp -dsimp;apply hK;clear hK K;exact awp_ret (by simp[hv])
     ·have hc4':inr e.Rail 0 (p.Rails.length-1)=true∧e∉ (curE p i j).map (·.2)∧p.at e=(i:Int):=by simp at hc4;simp;grind
      obtain⟨q1,q2,q3⟩:=hc4';have hset:=kvSet_seen (i:=i) q2;refine awp_skip ?_;simp only[zT,reduceIte,Nat.reduceEqDiff];refine hK8 _ _ ?_;refine awp_prune [1,3,4,7,31,32,33,39,40,41] ?_;simp only[zP,Nat.reduceEqDiff,reduceIte];refine aR fun K hK=>?_;simp -dsimp [hset];apply hK;clear hK K;simp only[zT,reduceIte,Nat.reduceEqDiff];refine hK7 _ _ ?_;refine awp_prune [1,3,4,31,32,33,39,40,41] ?_;simp only[zP,Nat.reduceEqDiff,reduceIte];refine aR fun K hK=>?_;simp -dsimp [wj];apply hK;clear hK K;simp only[zT,reduceIte,Nat.reduceEqDiff];refine⟨j+1,⟨by omega,?_,?_⟩,by omega,sub_rb [some 0,some 1] rfl (by simp) (by simp[curE_succ he])⟩
      ·rw[curE_succ he,List.all_append,j2];simp[endB,q1,q3]
      ·rw[curE_succ he,List.map_append,List.nodup_append];refine⟨j3,by simp,?_⟩;intro a ha b hb;simp only[List.map_cons,List.map_nil,List.mem_singleton]at hb;subst hb;intro hab;exact q2 (hab▸ha)
    ·skip
     try simp at hc3
     have hce:=curE_all (p:=p) (i:=i) (j:=j) (by omega);refine awp_exit ?_;simp only[zT,reduceIte,Nat.reduceEqDiff];refine hK5 _ _ ?_;refine awp_prune [1,3,31,32,33] ?_;simp only[zP,Nat.reduceEqDiff,reduceIte];refine aR fun K hK=>?_;simp -dsimp [wi];apply hK;clear hK K;simp only[zT,reduceIte,Nat.reduceEqDiff];exact⟨i+1,⟨by omega,by rw[←hce];exact j2,by rw[←hce];exact j3⟩,by omega,by simp only[←hce];exact sub_same (by simp)⟩
   ·skip
    try simp at hc2
    have hii:i=p.Nodes.length:=by omega
    subst hii;have hle:=endsOf_len hA p.Nodes.length (Nat.le_refl _);have w2:IntKind.i64.wrap (2*(p.Rails.length:Int))=2*(p.Rails.length:Int):=wrap_in (by omega) (by omega);have hsl:(seenK (endsOf p p.Nodes.length)).length=(endsOf p p.Nodes.length).length:=by simp[seenK]
    refine awp_exit ?_;simp only[zT,reduceIte,Nat.reduceEqDiff];refine hK3 _ _ ?_;refine awp_prune [1,3] ?_;simp only[zP,Nat.reduceEqDiff,reduceIte];refine awp_seq_k fun K9 hK9=>?_;refine aS fun K hK=>?_;simp -dsimp [w2,hsl];apply hK;clear hK K;refine awp_cond rfl (fun hc5=>?_) (fun hc5=>?_)
    ·have hv:validB p=decide ((endsOf p p.Nodes.length).length=2*p.Rails.length):=by simp[validB,validA,validE,hc0,hA,hB,i2,i3]
     try simp at hc5
     refine aS fun K hK=>?_;simp -dsimp;apply hK;clear hK K;exact awp_ret (by simp[hv];omega)
    ·have hv:validB p=decide ((endsOf p p.Nodes.length).length=2*p.Rails.length):=by simp[validB,validA,validE,hc0,hA,hB,i2,i3]
     try simp at hc5
     refine awp_skip ?_;simp only[zT,reduceIte,Nat.reduceEqDiff];refine hK9 _ _ ?_;refine awp_prune [] ?_;simp only[zP,Nat.reduceEqDiff,reduceIte];refine aS fun K hK=>?_;simp -dsimp;apply hK;clear hK K;exact awp_ret (by simp[hv];omega)
end Go.Tram
end
section
namespace Go.Tram
open Go.AM Go.Proofs
def putE (kvs:List (List KC×Value)) (es:List REnd):Nat→List (List KC×Value)
 |0=>kvs
 |j+1=>kvSet (putE kvs es j) (keyOf (es[j]?.getD default)) (.int .i64 j)
def placesK (p:Plan):Nat→List (List KC×Value)
 |0=>[]
 |i+1=>putE (placesK p i) (p.node i).Ends (p.node i).Ends.length
def lensA (p:Plan) (n:Nat):List (List AV):=(List.range n).map fun(r:Nat)=>[I (p.len r)]
def net (p:Plan):List AV:=p.cells++[.lst 1 (lensA p p.Rails.length), .mpc true [.i .i64, .b] (placesK p p.Nodes.length)]
theorem lensA_len (p:Plan) (n:Nat):(lensA p n).length=n:=by simp[lensA]
theorem lensA_succ (p:Plan) (n:Nat):lensA p (n+1)=lensA p n++[[I (p.len n)]]:=by simp[lensA,List.range_succ]
theorem lensA_ren (p:Plan) (n:Nat) (g:List (Option Nat)):(lensA p n).map (fun e=>e.map (renAV g 3))=lensA p n:=by unfold lensA;rw[List.map_map];exact List.map_congr_left fun s _=>rfl
theorem lensA_frz (p:Plan) (n m:Nat) (H:Hp):(lensA p n).map (fun e=>e.map (frzP H (m+1)))=lensA p n:=by unfold lensA;rw[List.map_map];exact List.map_congr_left fun s _=>rfl
theorem c_rline (p:Plan) (r:Int) (ro:RailOk p r):PureCall Tryz.prog 213 [p.av,(p.rail r).av] (.lst 2 ((p.line r).map Spot.cells)):=
 c_tline p (p.rail r) ro.f ro.t (by have:=ro.s;omega)
theorem c_open_t (p:Plan) (h:validB p=true):PureCall Tryz.prog 131 [p.av] (.tup [.iptr (net p),Bo true]):=by
 have hck:=c_Check p;rw[h]at hck;obtain⟨hN,hR,hA,hB,_⟩:=valid_parts h;refine PureCall.of_body Tryz.func131 rfl (by decide) (by simp[Tryz.ntmps131]) ?_;simp only[Tryz.ntmps131,Tryz.results131];refine aS fun K hK=>?_;simp -dsimp;apply hK;clear hK K;refine awp_seq_k fun K1 hK1=>?_;refine aS fun K hK=>?_;simp -dsimp;refine callK_intro _ (hck) (by simp) ?_;simp -dsimp;apply hK;clear hK K;refine awp_cond rfl (fun hc0=>?_) (fun hc0=>?_)
 ·simp at hc0
 ·refine awp_skip ?_;simp only[zT,reduceIte,Nat.reduceEqDiff];refine hK1 _ _ ?_;refine awp_prune [1] ?_;simp only[zP,Nat.reduceEqDiff,reduceIte];refine aS fun K hK=>?_;simp -dsimp;apply hK;clear hK K;refine awp_seq_k fun K2 hK2=>?_;refine aS fun K hK=>?_;simp -dsimp;apply hK;clear hK K;refine awp_block ?_;refine awp_prune [1,4,22,23,24] ?_;simp only[zP,Nat.reduceEqDiff,reduceIte];refine awp_loop_l [1,4,22,23] (α:=Nat) (fun k=>[(24,I k)]) (fun k=>[some (.els 2 [p.cells]),some (.map true [.i .i64, .b] []),some (.els 4 [p.cells++[.row 3 0 (lensA p k).length, .mp 1]]),some (.els 1 (lensA p k))]) (fun k=>k≤p.Rails.length) (fun k=>p.Rails.length-k) 0 ?_ ?_ ?_
  ·simp
  ·exact(sub_nilc 2 0 2 1 (es:=[p.cells++[.v (.slice none 0 0), .mp 1]]) (e:=p.cells++[.v (.slice none 0 0), .mp 1]) (by simp) (by simp) (by simp)).trans (sub_same (by simp[lensA]))
  rintro k k1;simp only[zP,Nat.reduceEqDiff,reduceIte];refine aS fun K hK=>?_;simp -dsimp;apply hK;clear hK K;refine awp_seq_k fun K3 hK3=>?_;refine awp_cond rfl (fun hc1=>?_) (fun hc1=>?_)
  ·skip
   try simp at hc1
   have g0:=p.rail_get (i:=(k:Int)) (by omega) (by omega);simp only[Int.toNat_natCast]at g0;have ro:=rail_ok h (r:=(k:Int)) (by omega) (by omega);have hl:=ro.len;have hs30:=ro.s;have wk:=zW k (by omega);have f1:Fits (k+1) 9:=fits_of (by omega) (by omega);have hll:=lensA_len p k;have htk:(lensA p k).take k=lensA p k:=List.take_of_length_le (by omega);refine awp_skip ?_;simp only[zT,reduceIte,Nat.reduceEqDiff];refine hK3 _ _ ?_;refine awp_prune [1,4,22,23,24] ?_;simp only[zP,Nat.reduceEqDiff,reduceIte];refine awp_seq_k fun K4 hK4=>?_;refine awp_block ?_;refine aS fun K hK=>?_;simp -dsimp [g0];apply hK;clear hK K;refine aS fun K hK=>?_;simp -dsimp;refine callK_intro _ (c_rline p k ro) (by simp) ?_;simp -dsimp;apply hK;clear hK K;refine aS fun K hK=>?_;simp -dsimp;apply hK;clear hK K;refine awp_seq_k fun K5 hK5=>?_;refine aS fun K hK=>?_;simp -dsimp;apply hK;clear hK K;refine awp_block ?_;refine awp_prune [1,4,7,8,9,22,23,24] ?_;simp only[zP,Nat.reduceEqDiff,reduceIte];refine awp_loop_l [1,4,7,22,23,24] (α:=Nat) (fun i=>[(8,I (sumTo (p.line k) (i-1))),(9,I i)]) (fun _=>[some (.els 2 [p.cells]),some (.map true [.i .i64, .b] []),some (.els 4 [p.cells++[.row 3 0 (lensA p k).length, .mp 1]]),some (.els 1 (lensA p k))]) (fun i=>1≤i∧i≤(p.line k).length) (fun i=>(p.line k).length-i) 1 ?_ ?_ ?_
   ·omega
   ·exact sub_rb [some 0,some 1,some 2,some 3] rfl (by simp[sumTo]) (by simp[lensA_ren])
   rintro i ⟨j1,j2⟩;simp only[zP,Nat.reduceEqDiff,reduceIte];refine awp_seq_k fun K6 hK6=>?_;refine aS fun K hK=>?_;simp -dsimp;apply hK;clear hK K;refine awp_cond rfl (fun hc2=>?_) (fun hc2=>?_)
   ·skip
    try simp at hc2
    have wi:IntKind.i64.wrap ((i:Int)-1)=((i-1:Nat):Int):=by rw[wrap_in (by omega) (by omega)];omega
    have wj:=zW i (by omega);have g1:=nth_get (l:=p.line k) (k:=i-1) (by omega);have g2:=nth_get (l:=p.line k) (k:=i) (by omega);have q1:=sumTo_bd ro (i-1) (by omega);have q2:=far_bd (ro.spot (i-1) (by omega)) (ro.spot i (by omega));have wa:IntKind.i64.wrap (sumTo (p.line k) (i-1)+far (nth (p.line k) (i-1)) (nth (p.line k) i))=sumTo (p.line k) (i-1)+far (nth (p.line k) (i-1)) (nth (p.line k) i):=wrap_in (by omega) (by omega);refine awp_skip ?_;simp only[zT,reduceIte,Nat.reduceEqDiff];refine hK6 _ _ ?_;refine awp_prune [1,4,7,8,9,22,23,24] ?_;simp only[zP,Nat.reduceEqDiff,reduceIte];refine awp_seq_k fun K7 hK7=>?_;refine awp_block ?_;refine awp_draw mixed rfl fun K hK=>?_;simp -dsimp [wi,g1,g2,wa];refine callK_intro _ (c_span (nth (p.line k) (i-1)) (nth (p.line k) i) (ro.spot _ (by omega)) (ro.spot _ (by omega))) (by simp) ?_;simp -dsimp [wi,g1,g2,wa];refine hK _ _ _ (by decide+kernel) ?_;clear hK K;simp only[zT,reduceIte,Nat.reduceEqDiff];refine hK7 _ _ ?_;refine awp_prune [1,4,7,8,9,22,23,24] ?_;simp only[zP,Nat.reduceEqDiff,reduceIte];refine aR fun K hK=>?_;simp -dsimp [wj];apply hK;clear hK K;simp only[zT,reduceIte,Nat.reduceEqDiff];obtain⟨j,rfl⟩:∃j,i=j+1:=⟨i-1,by omega⟩;exact⟨j+2,⟨by omega,by omega⟩,by omega,sub_same (by simp[sumTo,segLen]<;>omega)⟩
   ·skip
    try simp at hc2
    have hlen:sumTo (p.line k) (i-1)=p.len k:=by unfold Plan.len;congr 1;omega
    refine awp_exit ?_;simp only[zT,reduceIte,Nat.reduceEqDiff];refine hK5 _ _ ?_;refine awp_prune [1,4,8,22,23,24] ?_;simp only[zP,Nat.reduceEqDiff,reduceIte];refine aR fun K hK=>?_;simp -dsimp [hlen,hll,f1];apply hK;clear hK K;simp only[zT,reduceIte,Nat.reduceEqDiff];refine hK4 _ _ ?_;refine awp_prune [1,4,22,23,24] ?_;simp only[zP,Nat.reduceEqDiff,reduceIte];refine aR fun K hK=>?_;simp -dsimp [wk];apply hK;clear hK K;simp only[zT,reduceIte,Nat.reduceEqDiff];exact⟨k+1,by omega,by omega,sub_rb [some 0,some 1,some 2,some 4] rfl (by simp) (by simp[lensA_succ,lensA_ren,hll,htk])⟩
  ·skip
   try simp at hc1
   have hk:k=p.Rails.length:=by omega
   subst hk;refine awp_exit ?_;simp only[zT,reduceIte,Nat.reduceEqDiff];refine hK2 _ _ ?_;refine awp_prune [1,4] ?_;simp only[zP,Nat.reduceEqDiff,reduceIte];refine awp_seq_k fun K8 hK8=>?_;refine aS fun K hK=>?_;simp -dsimp;apply hK;clear hK K;refine awp_block ?_;refine awp_prune [4,61,62,63] ?_;simp only[zP,Nat.reduceEqDiff,reduceIte];refine awp_loop_l [4,61,62] (α:=Nat) (fun i=>[(63,I i)]) (fun i=>[some (.els 2 [p.cells]),some (.map true [.i .i64, .b] (placesK p i)),some (.els 4 [p.cells++[.row 3 0 (lensA p p.Rails.length).length, .mp 1]]),some (.els 1 (lensA p p.Rails.length))]) (fun i=>i≤p.Nodes.length) (fun i=>p.Nodes.length-i) 0 ?_ ?_ ?_
   ·simp
   ·exact sub_same (by simp)
   rintro i i1;simp only[zP,Nat.reduceEqDiff,reduceIte];refine aS fun K hK=>?_;simp -dsimp;apply hK;clear hK K;refine awp_seq_k fun K9 hK9=>?_;refine awp_cond rfl (fun hc3=>?_) (fun hc3=>?_)
   ·skip
    try simp at hc3
    have n0:=p.node_get (i:=(i:Int)) (by omega) (by omega);simp only[Int.toNat_natCast]at n0;have wi:=zW i (by omega);have hle:=nodeB_len (node_ends hA (i:=(i:Int)) (by omega) (by omega));refine awp_skip ?_;simp only[zT,reduceIte,Nat.reduceEqDiff];refine hK9 _ _ ?_;refine awp_prune [4,61,62,63] ?_;simp only[zP,Nat.reduceEqDiff,reduceIte];refine awp_seq_k fun K10 hK10=>?_;refine awp_block ?_;refine aS fun K hK=>?_;simp -dsimp [n0];apply hK;clear hK K;refine aS fun K hK=>?_;simp -dsimp;apply hK;clear hK K;refine awp_block ?_;refine awp_prune [4,61,62,63,68,69,70] ?_;simp only[zP,Nat.reduceEqDiff,reduceIte];refine awp_loop_l [4,61,62,63,68,69] (α:=Nat) (fun j=>[(70,I j)]) (fun j=>[some (.els 2 [p.cells]),some (.map true [.i .i64, .b] (putE (placesK p i) (p.node i).Ends j)),some (.els 4 [p.cells++[.row 3 0 (lensA p p.Rails.length).length, .mp 1]]),some (.els 1 (lensA p p.Rails.length))]) (fun j=>j≤(p.node i).Ends.length) (fun j=>(p.node i).Ends.length-j) 0 ?_ ?_ ?_
    ·simp
    ·exact sub_rb [some 0,some 1,some 2,some 3] rfl (by simp) (by simp[putE,lensA_ren])
    rintro j j1;simp only[zP,Nat.reduceEqDiff,reduceIte];refine aS fun K hK=>?_;simp -dsimp;apply hK;clear hK K;refine awp_seq_k fun K11 hK11=>?_;refine awp_cond rfl (fun hc4=>?_) (fun hc4=>?_)
    ·skip
     try simp at hc4
     obtain⟨e,he⟩:∃e,(p.node i).Ends[j]?=some e:=⟨_,List.getElem?_eq_getElem hc4⟩;have wj:=zW j (by omega);refine awp_skip ?_;simp only[zT,reduceIte,Nat.reduceEqDiff];refine hK11 _ _ ?_;refine awp_prune [4,61,62,63,68,69,70] ?_;simp only[zP,Nat.reduceEqDiff,reduceIte];refine awp_seq_k fun K12 hK12=>?_;refine awp_block ?_;refine aS fun K hK=>?_;simp -dsimp [he];apply hK;clear hK K;refine awp_draw mixed rfl fun K hK=>?_;simp -dsimp;refine hK _ _ _ (by decide+kernel) ?_;clear hK K;simp only[zT,reduceIte,Nat.reduceEqDiff];refine hK12 _ _ ?_;refine awp_prune [4,61,62,63,68,69,70] ?_;simp only[zP,Nat.reduceEqDiff,reduceIte];refine aR fun K hK=>?_;simp -dsimp [wj];apply hK;clear hK K;simp only[zT,reduceIte,Nat.reduceEqDiff];exact⟨j+1,by omega,by omega,sub_rb [some 0,some 1,some 2,some 3] rfl (by simp) (by simp[putE,he,keyOf,lensA_ren])⟩
    ·skip
     try simp at hc4
     have hj:j=(p.node i).Ends.length:=by omega
     subst hj;refine awp_exit ?_;simp only[zT,reduceIte,Nat.reduceEqDiff];refine hK10 _ _ ?_;refine awp_prune [4,61,62,63] ?_;simp only[zP,Nat.reduceEqDiff,reduceIte];refine aR fun K hK=>?_;simp -dsimp [wi];apply hK;clear hK K;simp only[zT,reduceIte,Nat.reduceEqDiff];exact⟨i+1,by omega,by omega,sub_same (by simp[placesK])⟩
   ·skip
    try simp at hc3
    have hi:i=p.Nodes.length:=by omega
    subst hi;refine awp_exit ?_;simp only[zT,reduceIte,Nat.reduceEqDiff];refine hK8 _ _ ?_;refine awp_prune [4] ?_;simp only[zP,Nat.reduceEqDiff,reduceIte];refine aS fun K hK=>?_;simp -dsimp;apply hK;clear hK K;exact awp_ret (by simp[net,lensA_frz])
theorem c_nhas (p:Plan) (r:Int) (b:Bool) (h:validB p=true):PureCall Tryz.prog 132 [.iptr (net p), .agg [I r,Bo b]] (Bo (inr r 0 (p.Rails.length-1))):=by
 obtain⟨hN,hR,_⟩:=valid_parts h;have w:IntKind.i64.wrap ((p.Rails.length:Int)-1)=(p.Rails.length:Int)-1:=wrap_in (by omega) (by omega);unfold net;refine PureCall.of_body Tryz.func132 rfl (by decide) (by simp[Tryz.ntmps132]) ?_;simp only[Tryz.ntmps132,Tryz.results132];refine aS fun K hK=>?_;simp -dsimp;apply hK;clear hK K;refine awp_sd mixed rfl fun K hK=>?_;simp -dsimp [w];refine callK_intro _ (c_within _ _ _) (by simp) ?_;simp -dsimp [w];refine hK _ _ _ (by decide+kernel) ?_;clear hK K;exact awp_ret (by simp)
theorem c_tLine (p:Plan) (r:Int) (h:validB p=true) (h0:0≤r) (h1:r<p.Rails.length):PureCall Tryz.prog 203 [p.av,I r] (.tup [.lst 2 ((p.line r).map Spot.cells),I 0]):=by
 have ro:=rail_ok h h0 h1;have g0:=p.rail_get h0 h1;have hin:inr r 0 (p.Rails.length-1)=true:=inr_iff.2 (by omega);refine PureCall.of_body Tryz.func203 rfl (by decide) (by simp[Tryz.ntmps203]) ?_;simp only[Tryz.ntmps203,Tryz.results203];refine aS fun K hK=>?_;simp -dsimp;apply hK;clear hK K;refine aS fun K hK=>?_;simp -dsimp;refine callK_intro _ (c_open_t p h) (by simp) ?_;simp -dsimp;apply hK;clear hK K;refine awp_seq_k fun K1 hK1=>?_;refine aS fun K hK=>?_;simp -dsimp;refine callK_may _ (fun hm=>c_nhas p r false h) (by simp) ?_;simp -dsimp;apply hK;clear hK K;refine awp_cond rfl (fun hc0=>?_) (fun hc0=>?_)
 ·simp[hin]at hc0
 ·refine awp_skip ?_;simp only[zT,reduceIte,Nat.reduceEqDiff];refine hK1 _ _ ?_;refine awp_prune [1,2] ?_;simp only[zP,Nat.reduceEqDiff,reduceIte];refine awp_sd mixed rfl fun K hK=>?_;simp -dsimp [g0,h0];refine callK_intro _ (c_rline p r ro) (by simp) ?_;simp -dsimp [g0,h0];refine hK _ _ _ (by decide+kernel) ?_;clear hK K;exact awp_ret (by simp)
end Go.Tram
end
section
namespace Go.Tram
open Go.AM Go.Proofs
@[simp] def vec (a b:Spot):AV:= .agg [I (b.X-a.X),I (b.Y-a.Y)]
theorem spot_diff {a b:Spot} (ha:spotB a=true) (hb:spotB b=true):(-20000000≤b.X-a.X∧b.X-a.X≤20000000)∧(-20000000≤b.Y-a.Y∧b.Y-a.Y≤20000000):=by
 rw[spotB_iff]at ha hb;omega
theorem c_from (a b:Spot) (ha:spotB a=true) (hb:spotB b=true):PureCall Tryz.prog 206 [a.av,b.av] (vec a b):=by
 have hd:=spot_diff ha hb;have w1:IntKind.i64.wrap (b.X-a.X)=b.X-a.X:=wrap_in (by omega) (by omega);have w2:IntKind.i64.wrap (b.Y-a.Y)=b.Y-a.Y:=wrap_in (by omega) (by omega);refine PureCall.of_body Tryz.func206 rfl (by decide) (by simp[Tryz.ntmps206]) ?_;simp only[Tryz.ntmps206,Tryz.results206];refine aS fun K hK=>?_;simp -dsimp;apply hK;clear hK K;refine aS fun K hK=>?_;simp -dsimp [w1,w2];apply hK;clear hK K;exact awp_ret (by simp)
theorem c_dot (a b c d:Spot) (ha:spotB a=true) (hb:spotB b=true) (hc:spotB c=true) (hd:spotB d=true):PureCall Tryz.prog 208 [vec a b,vec c d] (I (dotS a b c d)):=by
 have h1:=spot_diff ha hb;have h2:=spot_diff hc hd;have m1:=mul_bd (a:=b.X-a.X) (b:=d.X-c.X) (A:=20000000) (B:=20000000) (by omega) (by omega) (by omega) (by omega);have m2:=mul_bd (a:=b.Y-a.Y) (b:=d.Y-c.Y) (A:=20000000) (B:=20000000) (by omega) (by omega) (by omega) (by omega);have w1:IntKind.i64.wrap ((b.X-a.X)*(d.X-c.X))=(b.X-a.X)*(d.X-c.X):=wrap_in (by omega) (by omega);have w2:IntKind.i64.wrap ((b.Y-a.Y)*(d.Y-c.Y))=(b.Y-a.Y)*(d.Y-c.Y):=wrap_in (by omega) (by omega);have w3:IntKind.i64.wrap ((b.X-a.X)*(d.X-c.X)+(b.Y-a.Y)*(d.Y-c.Y))=dotS a b c d:=wrap_in (by omega) (by omega);refine PureCall.of_body Tryz.func208 rfl (by decide) (by simp[Tryz.ntmps208]) ?_;simp only[Tryz.ntmps208,Tryz.results208];refine aS fun K hK=>?_;simp -dsimp;apply hK;clear hK K;refine aS fun K hK=>?_;simp -dsimp [w1,w2,w3];apply hK;clear hK K;exact awp_ret (by simp)
theorem c_cross (a b c d:Spot) (ha:spotB a=true) (hb:spotB b=true) (hc:spotB c=true) (hd:spotB d=true):PureCall Tryz.prog 274 [vec a b,vec c d] (I (crossS a b c d)):=by
 have h1:=spot_diff ha hb;have h2:=spot_diff hc hd;have m1:=mul_bd (a:=b.X-a.X) (b:=d.Y-c.Y) (A:=20000000) (B:=20000000) (by omega) (by omega) (by omega) (by omega);have m2:=mul_bd (a:=b.Y-a.Y) (b:=d.X-c.X) (A:=20000000) (B:=20000000) (by omega) (by omega) (by omega) (by omega);have w1:IntKind.i64.wrap ((b.X-a.X)*(d.Y-c.Y))=(b.X-a.X)*(d.Y-c.Y):=wrap_in (by omega) (by omega);have w2:IntKind.i64.wrap ((b.Y-a.Y)*(d.X-c.X))=(b.Y-a.Y)*(d.X-c.X):=wrap_in (by omega) (by omega);have w3:IntKind.i64.wrap ((b.X-a.X)*(d.Y-c.Y)-(b.Y-a.Y)*(d.X-c.X))=crossS a b c d:=wrap_in (by omega) (by omega);refine PureCall.of_body Tryz.func274 rfl (by decide) (by simp[Tryz.ntmps274]) ?_;simp only[Tryz.ntmps274,Tryz.results274];refine aS fun K hK=>?_;simp -dsimp;apply hK;clear hK K;refine aS fun K hK=>?_;simp -dsimp [w1,w2,w3];apply hK;clear hK K;exact awp_ret (by simp)
theorem c_straight (a b c d:Spot) (ha:spotB a=true) (hb:spotB b=true) (hc:spotB c=true) (hd:spotB d=true):PureCall Tryz.prog 205 [vec a b,vec c d] (Bo (decide (crossS a b c d=0)&&decide (0<dotS a b c d))):=by
 refine PureCall.of_body Tryz.func205 rfl (by decide) (by simp[Tryz.ntmps205]) ?_;simp only[Tryz.ntmps205,Tryz.results205];refine aS fun K hK=>?_;simp -dsimp;apply hK;clear hK K;refine aS fun K hK=>?_;simp -dsimp;refine callK_intro _ (c_cross a b c d ha hb hc hd) (by simp) ?_;simp -dsimp;refine callK_may _ (fun hm=>c_dot a b c d ha hb hc hd) (by simp) ?_;simp -dsimp;apply hK;clear hK K;exact awp_ret (by simp;rfl)
theorem c_greatest (B:Int) (f:FuncId) (cl:List (List AV)) (q:Int→Bool) (hB:0≤B) (hB':B≤1000000000) (h:∀x,0≤x→x≤B→PureCall Tryz.prog f (I x::ipts cl) (Bo (q x))):
  PureCall Tryz.prog 275 [I B, .clo f (ipts cl)] (I (bis q (B+1).toNat 0 (B+1))):=by
 have w0:IntKind.i64.wrap (B+1)=B+1:=wrap_in (by omega) (by omega);refine PureCall.of_body Tryz.func275 rfl (by decide) (by simp[Tryz.ntmps275]) ?_;simp only[Tryz.ntmps275,Tryz.results275];refine aS fun K hK=>?_;simp -dsimp;apply hK;clear hK K;refine aS fun K hK=>?_;simp -dsimp [w0];apply hK;clear hK K;refine awp_seq_k fun K1 hK1=>?_;refine awp_block ?_;refine awp_prune [1,5,6] ?_;simp only[zP,Nat.reduceEqDiff,reduceIte];refine awp_loop_l [1] (α:=Int×Int) (fun x=>[(5,I x.1),(6,I x.2)]) (fun x=>[]) (fun x=>0≤x.1∧x.1<x.2∧x.2≤B+1∧bis q (B+1).toNat 0 (B+1)=bis q (B+1).toNat x.1 x.2) (fun x=>(x.2-x.1).toNat) (0,B+1) ?_ ?_ ?_
 ·simp;omega
 ·exact sub_same (by simp)
 rintro⟨lo,hi⟩ ⟨i1,i2,i3,i4⟩;simp only[]at i1 i2 i3 i4;have w1:IntKind.i64.wrap (hi-lo)=hi-lo:=wrap_in (by omega) (by omega);have w2:IntKind.i64.wrap (lo+hi)=lo+hi:=wrap_in (by omega) (by omega);have w3:(lo+hi).tdiv 2=(lo+hi)/2:=Int.tdiv_eq_ediv_of_nonneg (by omega);have w4:IntKind.i64.wrap ((lo+hi)/2)=(lo+hi)/2:=wrap_in (by omega) (by omega);simp only[zP,Nat.reduceEqDiff,reduceIte];refine awp_seq_k fun K2 hK2=>?_;refine aS fun K hK=>?_;simp -dsimp [w1];apply hK;clear hK K;refine awp_cond rfl (fun hc0=>?_) (fun hc0=>?_)
 ·skip
  try simp at hc0
  have hstep:bis q (B+1).toNat lo hi=if q ((lo+hi)/2)then bis q (B+1).toNat ((lo+hi)/2) hi else bis q (B+1).toNat lo ((lo+hi)/2):=by
   rw[bis_more (B+1).toNat ((B+1).toNat+1) lo hi (by omega) (by omega)]
   conv=>lhs;unfold bis
   rw[if_pos (by omega)]
  refine awp_skip ?_;simp only[zT,reduceIte,Nat.reduceEqDiff];refine hK2 _ _ ?_;refine awp_prune [1,5,6] ?_;simp only[zP,Nat.reduceEqDiff,reduceIte];refine awp_block ?_;refine aS fun K hK=>?_;simp -dsimp [w2,w3,w4];apply hK;clear hK K;refine aS fun K hK=>?_;simp -dsimp;refine callK_intro _ (h ((lo+hi)/2) (by omega) (by omega)) (by simp) ?_;simp -dsimp;apply hK;clear hK K;refine awp_cond rfl (fun hc1=>?_) (fun hc1=>?_)
  ·skip
   try simp at hc1
   have hs2:bis q (B+1).toNat 0 (B+1)=bis q (B+1).toNat ((lo+hi)/2) hi:=by rw[i4,hstep,if_pos hc1]
   refine aR fun K hK=>?_;simp -dsimp;apply hK;clear hK K;simp only[zT,reduceIte,Nat.reduceEqDiff];exact⟨((lo+hi)/2,hi),⟨by simp only[];omega,by simp only[];omega,by simp only[];omega,hs2⟩,by simp only[];omega,sub_same (by simp)⟩
  ·skip
   try simp at hc1
   have hs3:bis q (B+1).toNat 0 (B+1)=bis q (B+1).toNat lo ((lo+hi)/2):=by rw[i4,hstep,if_neg (by rw[hc1];simp)]
   refine aR fun K hK=>?_;simp -dsimp;apply hK;clear hK K;simp only[zT,reduceIte,Nat.reduceEqDiff];exact⟨(lo,(lo+hi)/2),⟨by simp only[];omega,by simp only[];omega,by simp only[];omega,hs3⟩,by simp only[];omega,sub_same (by simp)⟩
 ·skip
  try simp at hc0
  refine awp_exit ?_;simp only[zT,reduceIte,Nat.reduceEqDiff];refine hK1 _ _ ?_;refine awp_prune [5] ?_;simp only[zP,Nat.reduceEqDiff,reduceIte];refine aS fun K hK=>?_;simp -dsimp;apply hK;clear hK K;refine awp_ret ?_;have hb:bis q (B+1).toNat 0 (B+1)=lo:=by rw[i4,bis_stop (by omega)]
  simp[hb]
theorem c_root1 (x n:Int) (h0:0≤x) (h1:x≤30000000):PureCall Tryz.prog 276 [I x, .iptr [I n]] (Bo (decide (x*x≤n))):=by
 have b1:=mul_bd (a:=x) (b:=x) (A:=30000000) (B:=30000000) (by omega) (by omega) (by omega) (by omega);have w1:IntKind.i64.wrap (x*x)=x*x:=wrap_in (by omega) (by omega);refine PureCall.of_body Tryz.func276 rfl (by decide) (by simp[Tryz.ntmps276]) ?_;simp only[Tryz.ntmps276,Tryz.results276];refine aS fun K hK=>?_;simp -dsimp;apply hK;clear hK K;refine aS fun K hK=>?_;simp -dsimp [w1];apply hK;clear hK K;exact awp_ret (by simp)
theorem c_sroot (n:Int) (h0:0≤n) (h1:n<900000000000000):PureCall Tryz.prog 207 [I n] (I (isq n)):=by
 have hq:bis (fun x=>decide (x*x≤n)) (30000000+1:Int).toNat 0 (30000000+1)=isq n:=by
  obtain⟨k1,k2,k3,k4⟩:=bis_spec (f:=fun x=>decide (x*x≤n)) (30000000+1:Int).toNat 0 (30000000+1) (by omega) (by omega);generalize bis (fun x=>decide (x*x≤n)) (30000000+1:Int).toNat 0 (30000000+1)=r at*
  refine(isq_of ⟨k1,?_,?_⟩).symm
  ·rcases k3 with rfl|k3
   ·omega
   ·simpa using k3
  ·rcases k4 with k4|k4
   ·rw[k4];omega
   ·simpa using k4
 refine PureCall.of_body Tryz.func207 rfl (by decide) (by simp[Tryz.ntmps207]) ?_;simp only[Tryz.ntmps207,Tryz.results207];refine aS fun K hK=>?_;simp -dsimp;apply hK;clear hK K;refine aS fun K hK=>?_;simp -dsimp;refine callK_intro _ (c_greatest 30000000 276 [[I n]] (fun x=>decide (x*x≤n)) (by omega) (by omega) (fun x h0 h1=>c_root1 x n h0 h1)) (by simp) ?_;simp -dsimp;apply hK;clear hK K;have hq':=hq;simp at hq';exact awp_ret (by simp[hq'])
abbrev U (n:Int):AV:= .v (.int .u64 n)
theorem u64_in {n:Int} (h0:0≤n) (h1:n<18446744073709551616):IntKind.u64.wrap n=n:=by rw[IntKind.wrap_u64];omega
theorem c_Mul64 (x y:Int) (hx:0≤x) (hx':x<18446744073709551616) (hy:0≤y) (hy':y<18446744073709551616):
  PureCall Tryz.prog 375 [U x,U y] (.tup [U (x*y/18446744073709551616),U (x*y % 18446744073709551616)]):=by
 have hi:=mul_hi hx hx' hy hy';have hxy:=mul_range hx hx' hy hy';have a1:=mul_range (a:=x/4294967296) (b:=y/4294967296) (A:=4294967296) (B:=4294967296) (by omega) (by omega) (by omega) (by omega);have a2:=mul_range (a:=x/4294967296) (b:=y % 4294967296) (A:=4294967296) (B:=4294967296) (by omega) (by omega) (by omega) (by omega);have a3:=mul_range (a:=x % 4294967296) (b:=y/4294967296) (A:=4294967296) (B:=4294967296) (by omega) (by omega) (by omega) (by omega);have a4:=mul_range (a:=x % 4294967296) (b:=y % 4294967296) (A:=4294967296) (B:=4294967296) (by omega) (by omega) (by omega) (by omega);have m1:=mask32 hx hx';have m2:=mask32 hy hy';have wlo:IntKind.u64.wrap (x*y)=x*y % 18446744073709551616:=by rw[IntKind.wrap_u64]
 generalize hp:(x/4294967296)*(y/4294967296)=p at*
 generalize hq:(x/4294967296)*(y % 4294967296)=q at*
 generalize hr:(x % 4294967296)*(y/4294967296)=r at*
 generalize hs:(x % 4294967296)*(y % 4294967296)=s at*
 have w1:IntKind.u64.wrap s=s:=u64_in (by omega) (by omega);have w2:IntKind.u64.wrap q=q:=u64_in (by omega) (by omega);have w3:IntKind.u64.wrap r=r:=u64_in (by omega) (by omega);have w4:IntKind.u64.wrap p=p:=u64_in (by omega) (by omega);have w5:IntKind.u64.wrap (q+s/4294967296)=q+s/4294967296:=u64_in (by omega) (by omega);have m3:=mask32 (m:=q+s/4294967296) (by omega) (by omega);have w6:IntKind.u64.wrap ((q+s/4294967296) % 4294967296+r)=(q+s/4294967296) % 4294967296+r:=u64_in (by omega) (by omega);have w7:IntKind.u64.wrap (p+(q+s/4294967296)/4294967296)=p+(q+s/4294967296)/4294967296:=u64_in (by omega) (by omega);have w8:IntKind.u64.wrap (p+(q+s/4294967296)/4294967296+((q+s/4294967296) % 4294967296+r)/4294967296)=x*y/18446744073709551616:=by rw[hi];exact u64_in (by omega) (by omega)
 have sh:(2:Int)^(Int.toNat 32)=4294967296:=by decide
 refine PureCall.of_body Tryz.func375 rfl (by decide) (by simp[Tryz.ntmps375]) ?_;simp only[Tryz.ntmps375,Tryz.results375];refine aS fun K hK=>?_;simp -dsimp [m1,m2,m3,hp,hq,hr,hs,w1,w2,w3,w4,w5,w6,w7,w8,wlo,IntKind.bits];apply hK;clear hK K;refine aS fun K hK=>?_;simp -dsimp [m1,m2,m3,hp,hq,hr,hs,w1,w2,w3,w4,w5,w6,w7,w8,wlo,IntKind.bits];apply hK;clear hK K;refine aS fun K hK=>?_;simp -dsimp [m1,m2,m3,hp,hq,hr,hs,w1,w2,w3,w4,w5,w6,w7,w8,wlo,IntKind.bits];apply hK;clear hK K;refine aS fun K hK=>?_;simp -dsimp [m1,m2,m3,hp,hq,hr,hs,w1,w2,w3,w4,w5,w6,w7,w8,wlo,IntKind.bits];apply hK;clear hK K;refine aS fun K hK=>?_;simp -dsimp [m1,m2,m3,hp,hq,hr,hs,w1,w2,w3,w4,w5,w6,w7,w8,wlo,IntKind.bits];apply hK;clear hK K;refine aS fun K hK=>?_;simp -dsimp [m1,m2,m3,hp,hq,hr,hs,w1,w2,w3,w4,w5,w6,w7,w8,wlo,IntKind.bits];apply hK;clear hK K;refine aS fun K hK=>?_;simp -dsimp [m1,m2,m3,hp,hq,hr,hs,w1,w2,w3,w4,w5,w6,w7,w8,wlo,IntKind.bits];apply hK;clear hK K;refine aS fun K hK=>?_;simp -dsimp [m1,m2,m3,hp,hq,hr,hs,w1,w2,w3,w4,w5,w6,w7,w8,wlo,IntKind.bits];apply hK;clear hK K;refine aS fun K hK=>?_;simp -dsimp [m1,m2,m3,hp,hq,hr,hs,w1,w2,w3,w4,w5,w6,w7,w8,wlo,IntKind.bits];apply hK;clear hK K;refine aS fun K hK=>?_;simp -dsimp [m1,m2,m3,hp,hq,hr,hs,w1,w2,w3,w4,w5,w6,w7,w8,wlo,IntKind.bits];apply hK;clear hK K;refine aS fun K hK=>?_;simp -dsimp [m1,m2,m3,hp,hq,hr,hs,w1,w2,w3,w4,w5,w6,w7,w8,wlo,IntKind.bits];apply hK;clear hK K;refine aS fun K hK=>?_;simp -dsimp [m1,m2,m3,hp,hq,hr,hs,w1,w2,w3,w4,w5,w6,w7,w8,wlo,IntKind.bits];apply hK;clear hK K;exact awp_ret (by simp)
end Go.Tram
end
section
namespace Go.Tram
open Go.AM Go.Proofs
attribute [-simp] minI maxI
theorem minI_eq (a b:Int):minI a b=min a b:=by unfold minI;split<;>omega
theorem maxI_eq (a b:Int):maxI a b=max a b:=by unfold maxI;split<;>omega
def orI:List Int→Int
 |[]=>0
 |x::r=>if x≠0 then x else orI r
theorem orI_hit:∀{l:List Int} {k:Nat} {x:Int},l[k]?=some x→x≠0→(l.take k).all (· ==0)=true→orI l=x
 |[],k,x,h,_,_=>by simp at h
 |y::l,0,x,h,hx,_=>by simp at h;subst h;simp[orI,hx]
 |y::l,k+1,x,h,hx,ha=>by
  simp at h ha;unfold orI;rw[if_neg (by simp[ha.1])];exact orI_hit h hx (by simpa using ha.2)
theorem orI_none:∀{l:List Int},l.all (· ==0)=true→orI l=0
 |[],_=>rfl
 |y::l,ha=>by
  simp at ha;unfold orI;rw[if_neg (by simp[ha.1])];exact orI_none (by simpa using ha.2)
theorem c_Or (l:List Int) (hn:l.length≤1000):PureCall Tryz.prog 376 [.full 1 (l.map fun x=>[I x])] (I (orI l)):=by
 refine PureCall.of_body Tryz.func376 rfl (by decide) (by simp[Tryz.ntmps376]) ?_;simp only[Tryz.ntmps376,Tryz.results376];refine aS fun K hK=>?_;simp -dsimp;apply hK;clear hK K;refine aS fun K hK=>?_;simp -dsimp;apply hK;clear hK K;refine awp_seq_k fun K1 hK1=>?_;refine aS fun K hK=>?_;simp -dsimp;apply hK;clear hK K;refine awp_block ?_;refine awp_prune [3,6,7,8] ?_;simp only[zP,Nat.reduceEqDiff,reduceIte];refine awp_loop_l [3,6,7] (α:=Nat) (fun k=>[(8,I k)]) (fun _=>[]) (fun k=>k≤l.length∧(l.take k).all (· ==0)=true) (fun k=>l.length-k) 0 ?_ ?_ ?_
 ·simp
 ·exact sub_same (by simp)
 rintro k ⟨k1,k2⟩;simp only[zP,Nat.reduceEqDiff,reduceIte];refine aS fun K hK=>?_;simp -dsimp;apply hK;clear hK K;refine awp_seq_k fun K2 hK2=>?_;refine awp_cond rfl (fun hc0=>?_) (fun hc0=>?_)
 ·skip
  try simp at hc0
  obtain⟨x,hx⟩:∃x,l[k]?=some x:=⟨_,List.getElem?_eq_getElem hc0⟩;have wk:=zW k (by omega);refine awp_skip ?_;simp only[zT,reduceIte,Nat.reduceEqDiff];refine hK2 _ _ ?_;refine awp_prune [3,6,7,8] ?_;simp only[zP,Nat.reduceEqDiff,reduceIte];refine awp_seq_k fun K3 hK3=>?_;refine awp_block ?_;refine aS fun K hK=>?_;simp -dsimp [hx];apply hK;clear hK K;refine aS fun K hK=>?_;simp -dsimp;apply hK;clear hK K;refine awp_cond rfl (fun hc1=>?_) (fun hc1=>?_)
  ·skip
   try simp at hc1
   have ho:=orI_hit hx hc1 k2;refine aS fun K hK=>?_;simp -dsimp;apply hK;clear hK K;exact awp_ret (by simp[ho])
  ·skip
   try simp at hc1
   refine awp_skip ?_;simp only[zT,reduceIte,Nat.reduceEqDiff];refine hK3 _ _ ?_;refine awp_prune [3,6,7,8] ?_;simp only[zP,Nat.reduceEqDiff,reduceIte];refine aR fun K hK=>?_;simp -dsimp [wk];apply hK;clear hK K;simp only[zT,reduceIte,Nat.reduceEqDiff];exact⟨k+1,⟨by omega,by rw[take_all' hx,k2];simp[hc1]⟩,by omega,sub_same (by simp)⟩
 ·skip
  try simp at hc0
  have ho:=orI_none (all_of_take (by omega) k2);refine awp_exit ?_;simp only[zT,reduceIte,Nat.reduceEqDiff];refine hK1 _ _ ?_;refine awp_prune [3] ?_;simp only[zP,Nat.reduceEqDiff,reduceIte];refine aS fun K hK=>?_;simp -dsimp;apply hK;clear hK K;exact awp_ret (by simp[ho])
theorem und_u64:(Tryz.prog).underlying 490=some (.int .u64):=by kernel_rfl
theorem conv_iu (n:Int) (w:World):(convert 3 490 (.int .i64 n)).run Tryz.prog w= .ok (.int .u64 (IntKind.u64.wrap n)) w:=by
 simp[convert,run_underlying und_int,run_underlying und_u64,Conv.intToInt]
theorem c_product (a b:Int) (ha:0≤a) (ha':a<9223372036854775808) (hb:0≤b) (hb':b<9223372036854775808):
  PureCall Tryz.prog 358 [I a,I b] (.agg [U (a*b/18446744073709551616),U (a*b % 18446744073709551616)]):=by
 have wa:IntKind.u64.wrap a=a:=u64_in (by omega) (by omega);have wb:IntKind.u64.wrap b=b:=u64_in (by omega) (by omega);refine PureCall.of_body Tryz.func358 rfl (by decide) (by simp[Tryz.ntmps358]) ?_;simp only[Tryz.ntmps358,Tryz.results358];refine aS fun K hK=>?_;simp -dsimp;apply hK;clear hK K;refine aS fun K hK=>?_;simp -dsimp;refine⟨_,conv_iu a,?_⟩;simp -dsimp [wa];refine⟨_,conv_iu b,?_⟩;simp -dsimp [wb];refine callK_intro _ (c_Mul64 a b ha (by omega) hb (by omega)) (by simp) ?_;simp -dsimp;apply hK;clear hK K;refine aS fun K hK=>?_;simp -dsimp;apply hK;clear hK K;exact awp_ret (by simp)
theorem c_wcompare (p q:Int):PureCall Tryz.prog 359 [.agg [U (p/18446744073709551616),U (p % 18446744073709551616)], .agg [U (q/18446744073709551616),U (q % 18446744073709551616)]] (I (cmpI p q)):=by
 have ho:orI [cmpI (p/18446744073709551616) (q/18446744073709551616),cmpI (p % 18446744073709551616) (q % 18446744073709551616)]=cmpI p q:=by
  rw[←cmp_words (p:=p) (q:=q) 18446744073709551616 (by omega)];simp only[orI]
  split
  ·rfl
  ·split
   ·rfl
   ·rename_i h;simp at h;exact h.symm
 have hc:=c_Or [cmpI (p/18446744073709551616) (q/18446744073709551616),cmpI (p % 18446744073709551616) (q % 18446744073709551616)] (by simp);rw[ho]at hc;refine PureCall.of_body Tryz.func359 rfl (by decide) (by simp[Tryz.ntmps359]) ?_;simp only[Tryz.ntmps359,Tryz.results359];refine aS fun K hK=>?_;simp -dsimp;apply hK;clear hK K;refine awp_sd mixed rfl fun K hK=>?_;simp -dsimp;refine callK_intro _ (c_Compareu _ _) (by simp) ?_;simp -dsimp;refine callK_intro _ (c_Compareu _ _) (by simp) ?_;simp -dsimp;refine callK_intro _ (hc) (by simp) ?_;simp -dsimp;refine hK _ _ _ (by decide+kernel) ?_;clear hK K;exact awp_ret (by simp)
@[simp] def segC (a b:Spot):List AV:=[I a.X,I a.Y,I b.X,I b.Y]
abbrev seg (a b:Spot):AV:= .agg (segC a b)
theorem c_side (a b p:Spot) (ha:spotB a=true) (hb:spotB b=true) (hp:spotB p=true):PureCall Tryz.prog 374 [seg a b,p.av] (I (sideS a b p)):=by
 refine PureCall.of_body Tryz.func374 rfl (by decide) (by simp[Tryz.ntmps374]) ?_;simp only[Tryz.ntmps374,Tryz.results374];refine aS fun K hK=>?_;simp -dsimp;apply hK;clear hK K;refine awp_sd mixed rfl fun K hK=>?_;simp -dsimp;refine callK_intro _ (c_from a b ha hb) (by simp) ?_;simp -dsimp;refine callK_intro _ (c_from a p ha hp) (by simp) ?_;simp -dsimp;refine callK_intro _ (c_cross a b a p ha hb ha hp) (by simp) ?_;simp -dsimp;refine callK_intro _ (c_Compare _ _) (by simp) ?_;simp -dsimp;refine hK _ _ _ (by decide+kernel) ?_;clear hK K;exact awp_ret (by simp[sideS])
theorem c_crosses (a b c d:Spot) (ha:spotB a=true) (hb:spotB b=true) (hc:spotB c=true) (hd:spotB d=true):PureCall Tryz.prog 355 [seg a b,seg c d] (Bo (crossing a b c d)):=by
 have w:∀{x y:Int},-1≤x∧x≤1→ -1≤y∧y≤1→IntKind.i64.wrap (x*y)=x*y:=by
  intro x y hx hy;have:=mul_bd (a:=x) (b:=y) (A:=1) (B:=1) hx.1 hx.2 hy.1 hy.2;exact wrap_in (by omega) (by omega)
 have w1:IntKind.i64.wrap (sideS a b c*sideS a b d)=sideS a b c*sideS a b d:=w cmpI_bd cmpI_bd;have w2:IntKind.i64.wrap (sideS c d a*sideS c d b)=sideS c d a*sideS c d b:=w cmpI_bd cmpI_bd;refine PureCall.of_body Tryz.func355 rfl (by decide) (by simp[Tryz.ntmps355]) ?_;simp only[Tryz.ntmps355,Tryz.results355];refine aS fun K hK=>?_;simp -dsimp;apply hK;clear hK K;refine awp_sd mixed rfl fun K hK=>?_;simp -dsimp [w1,w2];refine callK_intro _ (c_side a b c ha hb hc) (by simp) ?_;simp -dsimp [w1,w2];refine callK_intro _ (c_side a b d ha hb hd) (by simp) ?_;simp -dsimp [w1,w2];refine callK_may _ (fun hm=>c_side c d a hc hd ha) (by simp) ?_;simp -dsimp [w1,w2];refine callK_may _ (fun hm=>c_side c d b hc hd hb) (by simp) ?_;simp -dsimp [w1,w2];refine hK _ _ _ (by decide+kernel) ?_;clear hK K;exact awp_ret (by simp[crossing])
theorem c_spotted (a b p:Spot) (d:Int) (ha:spotB a=true) (hb:spotB b=true) (hp:spotB p=true) (h0:0≤d) (h1:d≤1000000):PureCall Tryz.prog 330 [seg a b,p.av,I d] (I (spotted a b p d)):=by
 have m1:=mul_bd (a:=d) (b:=d) (A:=1000000) (B:=1000000) (by omega) (by omega) (by omega) (by omega);have hdd:=sq_nn d;have w1:IntKind.i64.wrap (d*d)=d*d:=wrap_in (by omega) (by omega);have hl:=dotS_bd ha hb ha hb;have hl0:=dotS_nn a b;have hc:=crossS_bd ha hb ha hp;have w2:IntKind.i64.wrap (0-crossS a b a p)=-crossS a b a p:=by rw[wrap_in (by omega) (by omega)];omega
 have w2':IntKind.i64.wrap (-crossS a b a p)=-crossS a b a p:=wrap_in (by omega) (by omega);have hm:max (crossS a b a p) (-crossS a b a p)*max (crossS a b a p) (-crossS a b a p)=crossS a b a p*crossS a b a p:=by
  rcases Int.le_total (crossS a b a p) (-crossS a b a p)with h|h
  ·rw[Int.max_eq_right h,Int.neg_mul_neg]
  ·rw[Int.max_eq_left h]
 refine PureCall.of_body Tryz.func330 rfl (by decide) (by simp[Tryz.ntmps330]) ?_;simp only[Tryz.ntmps330,Tryz.results330];refine aS fun K hK=>?_;simp -dsimp;apply hK;clear hK K;refine awp_sd mixed rfl fun K hK=>?_;simp -dsimp;refine callK_intro _ (c_from a b ha hb) (by simp) ?_;simp -dsimp;refine callK_intro _ (c_from a p ha hp) (by simp) ?_;simp -dsimp;refine hK _ _ _ (by decide+kernel) ?_;clear hK K;refine aS fun K hK=>?_;simp -dsimp;refine callK_intro _ (c_dot a b a p ha hb ha hp) (by simp) ?_;simp -dsimp;apply hK;clear hK K;refine awp_seq_k fun K1 hK1=>?_;refine awp_block ?_;refine aS fun K hK=>?_;simp -dsimp;apply hK;clear hK K;refine awp_cond rfl (fun hc0=>?_) (fun hc0=>?_)
 ·skip
  try simp at hc0
  refine aS fun K hK=>?_;simp -dsimp [w1];refine callK_intro _ (c_dot a p a p ha hp ha hp) (by simp) ?_;simp -dsimp [w1];refine callK_intro _ (c_Compare _ _) (by simp) ?_;simp -dsimp [w1];apply hK;clear hK K;exact awp_ret (by simp[spotted,hc0])
 ·skip
  try simp at hc0
  have hc0':¬dotS a b a p≤0:=by omega
  refine aS fun K hK=>?_;simp -dsimp;refine callK_intro _ (c_dot a b a b ha hb ha hb) (by simp) ?_;simp -dsimp;apply hK;clear hK K;refine awp_cond rfl (fun hc1=>?_) (fun hc1=>?_)
  ·skip
   try simp at hc1
   refine aS fun K hK=>?_;simp -dsimp;refine callK_intro _ (c_from b p hb hp) (by simp) ?_;simp -dsimp;apply hK;clear hK K;refine aS fun K hK=>?_;simp -dsimp [w1];refine callK_intro _ (c_dot b p b p hb hp hb hp) (by simp) ?_;simp -dsimp [w1];refine callK_intro _ (c_Compare _ _) (by simp) ?_;simp -dsimp [w1];apply hK;clear hK K;exact awp_ret (by simp[spotted,hc0',hc1])
  ·skip
   try simp at hc1
   have hc1':¬dotS a b a b≤dotS a b a p:=by omega
   refine awp_skip ?_;simp only[zT,reduceIte,Nat.reduceEqDiff];refine hK1 _ _ ?_;refine awp_prune [2,7,8] ?_;simp only[zP,Nat.reduceEqDiff,reduceIte];refine aS fun K hK=>?_;simp -dsimp;refine callK_intro _ (c_cross a b a p ha hb ha hp) (by simp) ?_;simp -dsimp;apply hK;clear hK K;refine aS fun K hK=>?_;simp -dsimp [w2,w2',maxI_eq];apply hK;clear hK K;refine awp_sd mixed rfl fun K hK=>?_;simp -dsimp [w1];refine callK_intro _ (c_product (max (crossS a b a p) (-crossS a b a p)) (max (crossS a b a p) (-crossS a b a p)) (by omega) (by omega) (by omega) (by omega)) (by simp) ?_;simp -dsimp [w1];refine callK_intro _ (c_dot a b a b ha hb ha hb) (by simp) ?_;simp -dsimp [w1];refine callK_intro _ (c_product (d*d) (dotS a b a b) hdd (by omega) hl0 (by omega)) (by simp) ?_;simp -dsimp [w1];refine callK_intro _ (c_wcompare _ _) (by simp) ?_;simp -dsimp [w1];refine hK _ _ _ (by decide+kernel) ?_;clear hK K;exact awp_ret (by simp[spotted,hc0',hc1',hm])
theorem c_apart (a b c d:Spot) (r:Int) (ha:spotB a=true) (hb:spotB b=true) (hc:spotB c=true) (hd:spotB d=true) (h0:0≤r) (h1:r≤1000000):PureCall Tryz.prog 327 [seg a b,seg c d,I r] (I (apart a b c d r)):=by
 refine PureCall.of_body Tryz.func327 rfl (by decide) (by simp[Tryz.ntmps327]) ?_;simp only[Tryz.ntmps327,Tryz.results327];refine aS fun K hK=>?_;simp -dsimp;apply hK;clear hK K;refine awp_seq_k fun K1 hK1=>?_;refine aS fun K hK=>?_;simp -dsimp;refine callK_intro _ (c_crosses a b c d ha hb hc hd) (by simp) ?_;simp -dsimp;apply hK;clear hK K;refine awp_cond rfl (fun hc0=>?_) (fun hc0=>?_)
 ·skip
  try simp at hc0
  refine aS fun K hK=>?_;simp -dsimp;refine callK_intro _ (c_Compare _ _) (by simp) ?_;simp -dsimp;apply hK;clear hK K;exact awp_ret (by simp[apart,hc0])
 ·skip
  try simp at hc0
  refine awp_skip ?_;simp only[zT,reduceIte,Nat.reduceEqDiff];refine hK1 _ _ ?_;refine awp_prune [2,3,4] ?_;simp only[zP,Nat.reduceEqDiff,reduceIte];refine awp_sd mixed rfl fun K hK=>?_;simp -dsimp [minI_eq];refine callK_intro _ (c_spotted a b c r ha hb hc h0 h1) (by simp) ?_;simp -dsimp [minI_eq];refine callK_intro _ (c_spotted a b d r ha hb hd h0 h1) (by simp) ?_;simp -dsimp [minI_eq];refine callK_intro _ (c_spotted c d a r hc hd ha h0 h1) (by simp) ?_;simp -dsimp [minI_eq];refine callK_intro _ (c_spotted c d b r hc hd hb h0 h1) (by simp) ?_;simp -dsimp [minI_eq];refine hK _ _ _ (by decide+kernel) ?_;clear hK K;exact awp_ret (by simp[apart,hc0,min4])
end Go.Tram
end
section
namespace Go.Tram
open Go.AM Go.Proofs
theorem sub_rfM {nt:Nat} {T:Tm} {H:Hp} (g:List (Option Nat)) (hn:nodupB g=true):Go.AM.Sub nt T H (T.map fun p=>(p.1,renF (hget H) g 3 (Go.AM.look T p.1))) (renHF H g):=by
 refine sub_rf g hn ?_ rfl;have gen:∀l:Tm,subTF H g T (l.map fun p=>(p.1,renF (hget H) g 3 (Go.AM.look T p.1))):=by
  intro l
  induction l with
  |nil=>trivial
  |cons x l ih=>exact⟨Or.inr rfl,ih⟩
 exact gen T
def flatC:AV→Bool
 | .v _=>true
 | .lst _ _=>true
 | .full _ _=>true
 | .iptr _=>true
 |_=>false
theorem flatC_ren {x:AV} (h:flatC x=true) (g:List (Option Nat)) (n:Nat):renAV g n x=x:=by cases x<;>first|(cases n<;>rfl)|cases h
theorem flatC_renF {x:AV} (h:flatC x=true) (H:Nat→Option ARow) (g:List (Option Nat)) (n:Nat):renF H g n x=x:=by cases x<;>first|(cases n<;>rfl)|cases h
theorem flatC_frzP {x:AV} (h:flatC x=true) (H:Hp) (n:Nat):frzP H n x=x:=by cases x<;>first|(cases n<;>rfl)|cases h
theorem map_flatC {f:AV→AV} (hf:∀x,flatC x=true→f x=x) {es:List (List AV)} (h:es.all (fun e=>e.all flatC)=true):es.map (fun e=>e.map f)=es:=by
 have:es.map (fun e=>e.map f)=es.map id:=by
  refine List.map_congr_left fun e he=>?_;have he':=List.all_eq_true.1 h e he;have:e.map f=e.map id:=List.map_congr_left fun x hx=>hf x (List.all_eq_true.1 he' x hx);simpa using this
 simpa using this
theorem flat_spots (l:List Spot):(l.map Spot.cells).all (fun e=>e.all flatC)=true:=by simp[flatC]
theorem flat_ss (l:List SS):(l.map SS.cells).all (fun e=>e.all flatC)=true:=by simp[flatC]
theorem flat_sheet (p:Plan) (n:Nat):(sheetRows p n).all (fun e=>e.all flatC)=true:=by simp[sheetRows,flatC]
@[simp high] theorem flat_spots_ren (l:List Spot) (g:List (Option Nat)) (n:Nat):(l.map Spot.cells).map (fun e=>e.map (renAV g n))=l.map Spot.cells:=map_flatC (fun x h=>flatC_ren h g n) (flat_spots l)
@[simp high] theorem flat_spots_frzP (l:List Spot) (H:Hp) (n:Nat):(l.map Spot.cells).map (fun e=>e.map (frzP H n))=l.map Spot.cells:=map_flatC (fun x h=>flatC_frzP h H n) (flat_spots l)
@[simp high] theorem flat_ss_ren (l:List SS) (g:List (Option Nat)) (n:Nat):(l.map SS.cells).map (fun e=>e.map (renAV g n))=l.map SS.cells:=map_flatC (fun x h=>flatC_ren h g n) (flat_ss l)
@[simp high] theorem flat_ss_renF (l:List SS) (H:Nat→Option ARow) (g:List (Option Nat)) (n:Nat):(l.map SS.cells).map (fun e=>e.map (renF H g n))=l.map SS.cells:=map_flatC (fun x h=>flatC_renF h H g n) (flat_ss l)
@[simp high] theorem sheet_ren (p:Plan) (k:Nat) (g:List (Option Nat)) (n:Nat):(sheetRows p k).map (fun e=>e.map (renAV g n))=sheetRows p k:=map_flatC (fun x h=>flatC_ren h g n) (flat_sheet p k)
@[simp high] theorem sheet_renF (p:Plan) (k:Nat) (H:Nat→Option ARow) (g:List (Option Nat)) (n:Nat):(sheetRows p k).map (fun e=>e.map (renF H g n))=sheetRows p k:=map_flatC (fun x h=>flatC_renF h H g n) (flat_sheet p k)
@[simp high] theorem sheet_frzP (p:Plan) (k:Nat) (H:Hp) (n:Nat):(sheetRows p k).map (fun e=>e.map (frzP H n))=sheetRows p k:=map_flatC (fun x h=>flatC_frzP h H n) (flat_sheet p k)
theorem sheetRows_len (p:Plan) (n:Nat):(sheetRows p n).length=n:=by simp[sheetRows]
theorem sheetRows_succ (p:Plan) (n:Nat):sheetRows p (n+1)=sheetRows p n++[[.lst 9 ((p.strips (n:Int)).map SS.cells)]]:=by simp[sheetRows,List.range_succ]
theorem sheetRows_get {p:Plan} {n k:Nat} (h:k<n):(sheetRows p n)[k]?=some [.lst 9 ((p.strips (k:Int)).map SS.cells)]:=by simp[sheetRows,h]
theorem stripsTo_len (l:List Spot) (r:Int) (n:Nat):(stripsTo l r n).length=n:=by simp[stripsTo]
theorem stripsTo_succ (l:List Spot) (r:Int) (n:Nat):stripsTo l r (n+1)=stripsTo l r n++[stripOf l r n]:=by simp[stripsTo,List.range_succ]
def bendTo (l:List Spot) (j m:Nat):List Spot:=(List.range m).flatMap fun i=>bendL l (j+i)
theorem bendTo_succ (l:List Spot) (j m:Nat):bendTo l j (m+1)=bendTo l j m++bendL l (j+m):=by simp[bendTo,List.range_succ]
theorem bendTo_len (l:List Spot) (j:Nat):∀m,(bendTo l j m).length≤m
 |0=>by simp[bendTo]
 |m+1=>by
  have h1:=bendTo_len l j m;have h2:=bendL_len l (j+m);rw[bendTo_succ,List.length_append];omega
theorem bendTo_take (l:List Spot) (j m:Nat):((bendTo l j m).map Spot.cells).take (bendTo l j m).length=(bendTo l j m).map Spot.cells:=List.take_of_length_le (by simp)
theorem stripsTo_take (l:List Spot) (r:Int) (n:Nat):((stripsTo l r n).map SS.cells).take n=(stripsTo l r n).map SS.cells:=List.take_of_length_le (by simp[stripsTo])
theorem bendTo_two (l:List Spot) (j:Nat):bendTo l j 2=bendL l j++bendL l (j+1):=by simp[bendTo,List.range_succ]
theorem c_bend (l:List Spot) (k:Nat) (hk:k<l.length) (hl:l.length≤1000) (hs:l.all spotB=true):PureCall Tryz.prog 204 [I k, .iptr [.lst 2 (l.map Spot.cells)]] (Bo (bendB l k)):=by
 have hb:∀i,i<l.length→spotB (nth l i)=true:=fun i hi=>List.all_eq_true.1 hs _ (List.mem_of_getElem? (nth_get hi));have w1:IntKind.i64.wrap ((l.length:Int)-1)=(l.length:Int)-1:=wrap_in (by omega) (by omega);have w2:0<k→IntKind.i64.wrap ((k:Int)-1)=((k-1:Nat):Int):=fun h=>by rw[wrap_in (by omega) (by omega)];omega
 have w3:IntKind.i64.wrap ((k:Int)+1)=((k+1:Nat):Int):=by rw[wrap_in (by omega) (by omega)];omega
 have g0:(l.map Spot.cells)[k-1]?=some (nth l (k-1)).cells:=by rw[List.getElem?_map,nth_get (by omega)];rfl
 have g1:(l.map Spot.cells)[k]?=some (nth l k).cells:=by rw[List.getElem?_map,nth_get hk];rfl
 have g2:k+1<l.length→(l.map Spot.cells)[k+1]?=some (nth l (k+1)).cells:=fun h=>by rw[List.getElem?_map,nth_get h];rfl
 refine PureCall.of_body Tryz.func204 rfl (by decide) (by simp[Tryz.ntmps204]) ?_;simp only[Tryz.ntmps204,Tryz.results204];refine aS fun K hK=>?_;simp -dsimp;apply hK;clear hK K;refine awp_sd mixed rfl fun K hK=>?_;simp -dsimp [w1,w3];refine⟨by intros;rw[w2 (by omega)];omega,idxK_intro (nth l (k-1)).cells (fun hm=>by simp at hm;rw[w2 hm.1];exact g0) ?_⟩;simp -dsimp [w3];refine idxK_intro (nth l k).cells (fun _=>g1) ?_;simp -dsimp [w1,w3];refine callK_may _ (fun hm=>c_from (nth l (k-1)) (nth l k) (hb _ (by omega)) (hb _ (by omega))) (by simp) ?_;simp -dsimp [w1,w3];refine idxK_intro (nth l k).cells (fun _=>g1) ?_;simp -dsimp [w1,w3];refine⟨by intros;omega,idxK_intro (nth l (k+1)).cells (fun hm=>by simp at hm;exact g2 (by omega)) ?_⟩;simp -dsimp;refine callK_may _ (fun hm=>c_from (nth l k) (nth l (k+1)) (hb _ (by omega)) (hb _ (by simp at hm;omega))) (by simp) ?_;simp -dsimp [w1,w3];refine callK_may _ (fun hm=>c_straight (nth l (k-1)) (nth l k) (nth l k) (nth l (k+1)) (hb _ (by omega)) (hb _ (by omega)) (hb _ (by omega)) (hb _ (by simp at hm;omega))) (by simp) ?_;simp -dsimp [w1,w3];refine hK _ _ _ (by decide+kernel) ?_;clear hK K;have hdec:decide ((k:Int)<(l.length:Int)-1)=decide (k+1<l.length):=decide_eq_decide.2 (by omega);refine awp_ret ?_;simp[bendB,straightB,hdec,Bool.and_assoc]
theorem c_begin (p:Plan) (h:validB p=true):PureCall Tryz.prog 127 [p.av] (.tup [.iptr (sheet p),Bo true]):=by
 have hck:=c_Check p;rw[h]at hck;obtain⟨hN,hR,hA,hB,_⟩:=valid_parts h;refine PureCall.of_body Tryz.func127 rfl (by decide) (by simp[Tryz.ntmps127]) ?_;simp only[Tryz.ntmps127,Tryz.results127];refine aS fun K hK=>?_;simp -dsimp;apply hK;clear hK K;refine awp_seq_k fun K1 hK1=>?_;refine aS fun K hK=>?_;simp -dsimp;refine callK_intro _ (hck) (by simp) ?_;simp -dsimp;apply hK;clear hK K;refine awp_cond rfl (fun hc0=>?_) (fun hc0=>?_)
 ·simp at hc0
 ·refine awp_skip ?_;simp only[zT,reduceIte,Nat.reduceEqDiff];refine hK1 _ _ ?_;refine awp_prune [1] ?_;simp only[zP,Nat.reduceEqDiff,reduceIte];refine aS fun K hK=>?_;simp -dsimp;apply hK;clear hK K;refine awp_seq_k fun K2 hK2=>?_;refine aS fun K hK=>?_;simp -dsimp;apply hK;clear hK K;refine awp_block ?_;refine awp_prune [1,4,24,25] ?_;simp only[zP,Nat.reduceEqDiff,reduceIte];refine awp_loop_l [1,4,24] (α:=Nat) (fun k=>[(25,I k)]) (fun k=>[some (.els 2 [p.cells]),some (.els 3 [p.cells++[.row 2 0 (sheetRows p k).length]]),some (.els 1 (sheetRows p k))]) (fun k=>k≤p.Rails.length) (fun k=>p.Rails.length-k) 0 ?_ ?_ ?_
  ·simp
  ·exact(sub_nilc 1 0 2 1 (es:=[p.cells++[.v (.slice none 0 0)]]) (e:=p.cells++[.v (.slice none 0 0)]) (by simp) (by simp) (by simp)).trans (sub_same (by simp[sheetRows]))
  rintro k k1;simp only[zP,Nat.reduceEqDiff,reduceIte];refine aS fun K hK=>?_;simp -dsimp;apply hK;clear hK K;refine awp_seq_k fun K3 hK3=>?_;refine awp_cond rfl (fun hc1=>?_) (fun hc1=>?_)
  ·skip
   try simp at hc1
   have ro:=rail_ok h (r:=(k:Int)) (by omega) (by omega);have hl:=ro.len;have hs30:=ro.s;have wk:=zW k (by omega);have f1:Fits (k+1) 25:=fits_of (by omega) (by omega);have hll:=sheetRows_len p k;have htk:(sheetRows p k).take k=sheetRows p k:=List.take_of_length_le (by omega);refine awp_skip ?_;simp only[zT,reduceIte,Nat.reduceEqDiff];refine hK3 _ _ ?_;refine awp_prune [1,4,24,25] ?_;simp only[zP,Nat.reduceEqDiff,reduceIte];refine awp_seq_k fun K4 hK4=>?_;refine awp_block ?_;refine aS fun K hK=>?_;simp -dsimp;apply hK;clear hK K;refine aS fun K hK=>?_;simp -dsimp;refine callK_intro _ (c_tLine p k h (by omega) (by omega)) (by simp) ?_;simp -dsimp;apply hK;clear hK K;refine awp_seq_k fun K5 hK5=>?_;refine aS fun K hK=>?_;simp -dsimp;apply hK;clear hK K;refine awp_cond rfl (fun hc2=>?_) (fun hc2=>?_)
   ·simp at hc2
   ·have wl:IntKind.i64.wrap (((p.line k).length:Int)-1)=(((p.rail k).Shape.length+1:Nat):Int):=by rw[wrap_in (by omega) (by omega)];omega
    refine awp_skip ?_;simp only[zT,reduceIte,Nat.reduceEqDiff];refine hK5 _ _ ?_;refine awp_prune [1,4,5,6,24,25] ?_;simp only[zP,Nat.reduceEqDiff,reduceIte];refine aS fun K hK=>?_;simp -dsimp;apply hK;clear hK K;refine aS fun K hK=>?_;simp -dsimp;apply hK;clear hK K;refine aS fun K hK=>?_;simp -dsimp;apply hK;clear hK K;refine awp_seq_k fun K6 hK6=>?_;refine aS fun K hK=>?_;simp -dsimp [wl];apply hK;clear hK K;refine awp_block ?_;refine awp_prune [1,4,5,6,8,9,10,24,25,39,40] ?_;simp only[zP,Nat.reduceEqDiff,reduceIte];refine awp_loop_l [1,4,5,6,8,24,25,39] (α:=Nat) (fun j=>[(9, .row 4 0 j),(10,I (sumTo (p.line k) j)),(40,I j)]) (fun j=>[some (.els 2 [p.cells]),some (.els 3 [p.cells++[.row 2 0 (sheetRows p k).length]]),some (.els 1 (sheetRows p k)),some (.els 1 [[.lst 2 ((p.line k).map Spot.cells)]]),some (.els 9 ((stripsTo (p.line k) k j).map SS.cells))]) (fun j=>j≤(p.rail k).Shape.length+1) (fun j=>(p.rail k).Shape.length+1-j) 0 ?_ ?_ ?_
    ·simp
    ·exact(sub_nil 9 9 (by simp)).trans (sub_same (by simp[stripsTo,sumTo]))
    rintro j j1;simp only[zP,Nat.reduceEqDiff,reduceIte];refine aS fun K hK=>?_;simp -dsimp;apply hK;clear hK K;refine awp_seq_k fun K7 hK7=>?_;refine awp_cond rfl (fun hc3=>?_) (fun hc3=>?_)
    ·skip
     try simp at hc3
     have g1:=nth_get (l:=p.line k) (k:=j) (by omega);have g2:=nth_get (l:=p.line k) (k:=j+1) (by omega);have wj:=zW j (by omega);have sa:=ro.spot j (by omega);have sb:=ro.spot (j+1) (by omega);have hd:=dotS_bd sa sb sa sb;have hd0:=dotS_nn (nth (p.line k) j) (nth (p.line k) (j+1));have hsb:=sumTo_bd ro j (by omega);have hsb1:=sumTo_bd ro (j+1) (by omega);have hseg:isq (dotS (nth (p.line k) j) (nth (p.line k) (j+1)) (nth (p.line k) j) (nth (p.line k) (j+1)))=segLen (p.line k) j:=by rw[dotS_self];unfold segLen far;rfl
     have wsum:IntKind.i64.wrap (sumTo (p.line k) j+isq (dotS (nth (p.line k) j) (nth (p.line k) (j+1)) (nth (p.line k) j) (nth (p.line k) (j+1))))=sumTo (p.line k) (j+1):=by rw[hseg];exact wrap_in (by simp only[sumTo]at hsb1;omega) (by simp only[sumTo]at hsb1;omega)
     have f2:Fits (j+1) 89:=fits_of (by omega) (by omega);have hsl:=stripsTo_len (p.line k) k j;refine awp_skip ?_;simp only[zT,reduceIte,Nat.reduceEqDiff];refine hK7 _ _ ?_;refine awp_prune [1,4,5,6,8,9,10,24,25,39,40] ?_;simp only[zP,Nat.reduceEqDiff,reduceIte];refine awp_seq_k fun K8 hK8=>?_;refine awp_block ?_;refine aS fun K hK=>?_;simp -dsimp;apply hK;clear hK K;refine awp_sd mixed rfl fun K hK=>?_;simp -dsimp [wj,g1,g2];refine⟨by omega,?_⟩;refine hK _ _ _ (by decide+kernel) ?_;clear hK K;refine aS fun K hK=>?_;simp -dsimp;refine callK_intro _ (c_from _ _ sa sb) (by simp) ?_;simp -dsimp;apply hK;clear hK K;refine aS fun K hK=>?_;simp -dsimp [wsum];refine callK_intro _ (c_dot _ _ _ _ sa sb sa sb) (by simp) ?_;simp -dsimp [wsum];refine callK_intro _ (c_sroot _ hd0 (by omega)) (by simp) ?_;simp -dsimp [wsum];apply hK;clear hK K;refine aS fun K hK=>?_;simp -dsimp;apply hK;clear hK K;refine awp_seq_k fun K9 hK9=>?_;refine aS fun K hK=>?_;simp -dsimp [wj];apply hK;clear hK K;refine awp_block ?_;refine awp_prune [1,4,5,6,8,9,10,12,24,25,39,40,76,77,78] ?_;simp only[zP,Nat.reduceEqDiff,reduceIte];refine awp_loop_l [1,4,5,6,8,9,10,12,24,25,39,40,76,77] (α:=Nat) (fun m=>[(78,I m)]) (fun m=>[some (.els 2 [p.cells]),some (.els 3 [p.cells++[.row 2 0 (sheetRows p k).length]]),some (.els 1 (sheetRows p k)),some (.els 1 [[.lst 2 ((p.line k).map Spot.cells)]]),some (.els 9 ((stripsTo (p.line k) k j).map SS.cells)),some (.els 9 [[I k,I j,I (nth (p.line k) j).X,I (nth (p.line k) j).Y,I (nth (p.line k) (j+1)).X,I (nth (p.line k) (j+1)).Y, .row 6 0 (bendTo (p.line k) j m).length,I (sumTo (p.line k) j),I (sumTo (p.line k) (j+1))]]),some (.els 2 ((bendTo (p.line k) j m).map Spot.cells))]) (fun m=>m≤2) (fun m=>2-m) 0 ?_ ?_ ?_
     ·simp
     ·refine(sub_nilc 5 0 6 2 (sz0:=9) (by simp;rfl) (by simp;rfl) (by simp)).trans ?_;exact sub_rb [some 0,some 1,some 2,some 3,some 4,some 5,some 7] rfl (by simp) (by simp[bendTo])
     rintro m m1;simp only[zP,Nat.reduceEqDiff,reduceIte];refine aS fun K hK=>?_;simp -dsimp;apply hK;clear hK K;refine awp_seq_k fun K10 hK10=>?_;refine awp_cond rfl (fun hc4=>?_) (fun hc4=>?_)
     ·skip
      try simp at hc4
      have hx:([[I (j:Int)],[I ((j:Int)+1)]]:List (List AV))[m]?=some [I ((j:Int)+(m:Int))]:=by
       have:m=0∨m=1:=by omega
       rcases this with rfl|rfl<;>simp
      have gm:=nth_get (l:=p.line k) (k:=j+m) (by omega);have wm:=zW m (by omega);have hbl:=bendL_len (p.line k) j;have hbtl:=bendTo_len (p.line k) j m;have hbt:=bendTo_take (p.line k) j m;have f3:Fits ((bendTo (p.line k) j m).length+1) 17:=fits_of (by omega) (by omega);have hcb:=c_bend (p.line k) (j+m) (by omega) (by omega) ro.spots;rw[Int.natCast_add]at hcb;have htn:((j:Int)+(m:Int)).toNat=j+m:=by omega
      refine awp_skip ?_;simp only[zT,reduceIte,Nat.reduceEqDiff];refine hK10 _ _ ?_;refine awp_prune [1,4,5,6,8,9,10,12,24,25,39,40,76,77,78] ?_;simp only[zP,Nat.reduceEqDiff,reduceIte];refine awp_seq_k fun K11 hK11=>?_;refine awp_block ?_;refine aS fun K hK=>?_;simp -dsimp [hx];apply hK;clear hK K;refine aS fun K hK=>?_;simp -dsimp;refine callK_intro _ (hcb) (by simp) ?_;simp -dsimp;apply hK;clear hK K;refine awp_cond rfl (fun hc5=>?_) (fun hc5=>?_)
      ·skip
       try simp at hc5
       refine awp_draw mixed rfl fun K hK=>?_;simp -dsimp [gm,f3,htn];refine⟨by omega,?_⟩;refine hK _ _ _ (by decide+kernel) ?_;clear hK K;simp only[zT,reduceIte,Nat.reduceEqDiff];refine hK11 _ _ ?_;refine awp_prune [1,4,5,6,8,9,10,12,24,25,39,40,76,77,78] ?_;simp only[zP,Nat.reduceEqDiff,reduceIte];refine aR fun K hK=>?_;simp -dsimp [wm];apply hK;clear hK K;simp only[zT,reduceIte,Nat.reduceEqDiff];exact⟨m+1,by omega,by omega,sub_rb [some 0,some 1,some 2,some 3,some 4,some 5,some 7] rfl (by simp) (by simp[bendTo_succ,bendL,hc5,hbt])⟩
      ·skip
       try simp at hc5
       refine awp_skip ?_;simp only[zT,reduceIte,Nat.reduceEqDiff];refine hK11 _ _ ?_;refine awp_prune [1,4,5,6,8,9,10,12,24,25,39,40,76,77,78] ?_;simp only[zP,Nat.reduceEqDiff,reduceIte];refine aR fun K hK=>?_;simp -dsimp [wm];apply hK;clear hK K;simp only[zT,reduceIte,Nat.reduceEqDiff];exact⟨m+1,by omega,by omega,sub_rb [some 0,some 1,some 2,some 3,some 4,some 5,some 6] rfl (by simp) (by simp[bendTo_succ,bendL,hc5])⟩
     ·skip
      try simp at hc4
      have hm2:m=2:=by omega
      subst hm2;refine awp_weak (sub_rfM [some 0,some 1,some 2,some 3,some 4,some 5] rfl) ?_;simp[bendTo_take];refine awp_exit ?_;simp only[zT,reduceIte,Nat.reduceEqDiff];refine hK9 _ _ ?_;refine awp_prune [1,4,5,6,8,9,10,12,24,25,39,40] ?_;simp only[zP,Nat.reduceEqDiff,reduceIte];refine aR fun K hK=>?_;simp -dsimp [hsl,f2];apply hK;clear hK K;simp only[zT,reduceIte,Nat.reduceEqDiff];refine hK8 _ _ ?_;refine awp_prune [1,4,5,6,8,9,10,24,25,39,40] ?_;simp only[zP,Nat.reduceEqDiff,reduceIte];refine aR fun K hK=>?_;simp -dsimp [wj];apply hK;clear hK K;simp only[zT,reduceIte,Nat.reduceEqDiff];have hso:stripOf (p.line k) k j=⟨k,j,nth (p.line k) j,nth (p.line k) (j+1),bendTo (p.line k) j 2,sumTo (p.line k) j,sumTo (p.line k) (j+1)⟩:=by simp[stripOf,bendTo_two]
      exact⟨j+1,by omega,by omega,sub_rb [some 0,some 1,some 2,some 3,some 6] rfl (by simp) (by simp[stripsTo_succ,hso,stripsTo_take])⟩
    ·skip
     try simp at hc3
     have hjj:j=(p.rail k).Shape.length+1:=by omega
     subst hjj;refine awp_weak (sub_rfM [some 0,some 1,some 2,some 3] rfl) ?_;simp[stripsTo_take,stripsTo_len];refine awp_exit ?_;simp only[zT,reduceIte,Nat.reduceEqDiff];refine hK6 _ _ ?_;refine awp_prune [1,4,9,24,25] ?_;simp only[zP,Nat.reduceEqDiff,reduceIte];refine aR fun K hK=>?_;simp -dsimp [hll,f1];apply hK;clear hK K;simp only[zT,reduceIte,Nat.reduceEqDiff];refine hK4 _ _ ?_;refine awp_prune [1,4,24,25] ?_;simp only[zP,Nat.reduceEqDiff,reduceIte];refine aR fun K hK=>?_;simp -dsimp [wk];apply hK;clear hK K;simp only[zT,reduceIte,Nat.reduceEqDiff];exact⟨k+1,by omega,by omega,sub_rb [some 0,some 1,some 4] rfl (by simp) (by simp[sheetRows_succ,htk,hll,Plan.strips])⟩
  ·skip
   try simp at hc1
   have hk:k=p.Rails.length:=by omega
   subst hk;have htk:(sheetRows p p.Rails.length).take (sheetRows p p.Rails.length).length=sheetRows p p.Rails.length:=List.take_of_length_le (Nat.le_refl _);refine awp_exit ?_;simp only[zT,reduceIte,Nat.reduceEqDiff];refine hK2 _ _ ?_;refine awp_prune [4] ?_;simp only[zP,Nat.reduceEqDiff,reduceIte];refine aS fun K hK=>?_;simp -dsimp;apply hK;clear hK K;exact awp_ret (by simp[sheet,htk])
end Go.Tram
end
section
namespace Go.Tram
open Go.AM Go.Proofs
def ins (x:Int):List Int→List Int
 |[]=>[x]
 |y::l=>if x<y then x::y::l else y::ins x l
def srt (l:List Int):List Int:=l.foldl (fun s x=>ins x s) []
theorem ins_len (x:Int):∀l,(ins x l).length=l.length+1
 |[]=>rfl
 |y::l=>by
  simp only[ins]
  split
  ·rfl
  ·simp[ins_len x l]
theorem ins_mem (x z:Int):∀l,z∈ins x l↔z=x∨z∈l
 |[]=>by simp[ins]
 | y::l=>by
  simp only[ins]
  split
  ·simp
  ·simp only[List.mem_cons,ins_mem x z l];constructor
   ·rintro(h|h|h)<;>simp[h]
   ·rintro(h|h|h)<;>simp[h]
theorem ins_sorted (x:Int):∀l:List Int,l.Pairwise (· ≤ ·)→(ins x l).Pairwise (· ≤ ·)
 |[],_=>by simp[ins]
 | y::l,h=>by
  rw[List.pairwise_cons]at h;simp only[ins]
  split
  ·rename_i hx;rw[List.pairwise_cons,List.pairwise_cons];refine⟨fun z hz=>?_,h⟩
   rcases List.mem_cons.1 hz with rfl|hz
   ·omega
   ·have:=h.1 z hz;omega
  ·rename_i hx;rw[List.pairwise_cons];refine⟨fun z hz=>?_,ins_sorted x l h.2⟩
   rcases(ins_mem x z l).1 hz with rfl|hz
   ·omega
   ·exact h.1 z hz
theorem ins_split (x:Int) (B:List Int) (hB:∀y∈B,x<y):∀A:List Int,(∀y∈A,y≤x)→ins x (A++B)=A++x::B
 |[],_=>by
  cases B with
  |nil=>rfl
  |cons y B=>simp only[List.nil_append,ins];rw[if_pos (hB y (by simp))]
 |a::A,h=>by
  simp only[List.cons_append,ins];rw[if_neg (by have:=h a (by simp);omega),ins_split x B hB A fun y hy=>h y (by simp[hy])]
theorem srt_take {l:List Int} {i:Nat} {x:Int} (h:l[i]?=some x):srt (l.take (i+1))=ins x (srt (l.take i)):=by
 rw[List.take_add_one,h];simp[srt]
theorem srt_len (l:List Int):(srt l).length=l.length:=by
 have gen:∀(l s:List Int),(l.foldl (fun s x=>ins x s) s).length=s.length+l.length:=by
  intro l
  induction l with
  |nil=>simp
  |cons x l ih=>intro s;rw[List.foldl_cons,ih,ins_len];simp;omega
 have:=gen l [];simpa [srt]using this
theorem srt_sorted (l:List Int):(srt l).Pairwise (· ≤ ·):=by
 have gen:∀(l s:List Int),s.Pairwise (· ≤ ·)→(l.foldl (fun s x=>ins x s) s).Pairwise (· ≤ ·):=by
  intro l
  induction l with
  |nil=>intro s h;exact h
  |cons x l ih=>intro s h;exact ih _ (ins_sorted x s h)
 exact gen l [] List.Pairwise.nil
theorem srt_le {L:List Int} (h:L.Pairwise (· ≤ ·)) {j:Nat} {y:Int} (hy:L[j]?=some y):∀a∈L.take (j+1),a≤y:=by
 intro a ha;obtain⟨hj,he⟩:=List.getElem?_eq_some_iff.1 hy;rw[List.take_add_one,hy]at ha
 rcases List.mem_append.1 ha with ha|ha
 ·have hs:L=L.take j++y::L.drop (j+1):=by rw[←he,List.getElem_cons_drop,List.take_append_drop]
  rw[hs,List.pairwise_append]at h;exact h.2.2 a ha y (by simp)
 ·simp at ha;omega
def wayL (L:List Int) (x:Int) (R:List Int) (j:Nat):List Int:=L.take j++x::(L.drop j++R)
theorem wayL_at {L:List Int} {x:Int} {R:List Int} {j:Nat} (h:j≤L.length):(wayL L x R j)[j]?=some x:=by
 unfold wayL;rw[List.getElem?_append_right (by simp;omega)];simp[Nat.min_eq_left h]
theorem wayL_before {L:List Int} {x y:Int} {R:List Int} {j:Nat} (h:L[j]?=some y):(wayL L x R (j+1))[j]?=some y:=by
 have hj:=(List.getElem?_eq_some_iff.1 h).1;unfold wayL;rw[List.getElem?_append_left (by simp;omega),List.getElem?_take];simp[h]
theorem wayL_swap {L:List Int} {x y:Int} {R:List Int} {j:Nat} (h:L[j]?=some y):((wayL L x R (j+1)).set (j+1) y).set j x=wayL L x R j:=by
 obtain⟨hj,hy⟩:=List.getElem?_eq_some_iff.1 h;have h1:L.take (j+1)=L.take j++[y]:=by rw[List.take_add_one,h];rfl
 have h2:L.drop j=y::L.drop (j+1):=by rw[List.drop_eq_getElem_cons hj,hy]
 have hl:(L.take j).length=j:=by rw[List.length_take];omega
 unfold wayL;rw[h1,h2,List.append_assoc,List.set_append,if_neg (by omega),List.set_append,if_neg (by omega),hl];simp
@[simp] def nCell (n:Int):List AV:=[I n]
theorem flat_n (l:List Int):(l.map nCell).all (fun e=>e.all flatC)=true:=by simp[flatC]
@[simp high] theorem flat_n_ren (l:List Int) (g:List (Option Nat)) (n:Nat):(l.map nCell).map (fun e=>e.map (renAV g n))=l.map nCell:=map_flatC (fun x h=>flatC_ren h g n) (flat_n l)
@[simp high] theorem flat_n_renF (l:List Int) (H:Nat→Option ARow) (g:List (Option Nat)) (n:Nat):(l.map nCell).map (fun e=>e.map (renF H g n))=l.map nCell:=map_flatC (fun x h=>flatC_renF h H g n) (flat_n l)
theorem c_Less (a b:Int):PureCall Tryz.prog 264 [I a,I b] (Bo (decide (a<b))):=by
 refine PureCall.of_body Tryz.func264 rfl (by decide) (by simp[Tryz.ntmps264]) ?_;simp only[Tryz.ntmps264,Tryz.results264];refine aS fun K hK=>?_;simp -dsimp;apply hK;clear hK K;refine aS fun K hK=>?_;simp -dsimp;refine callK_intro _ (c_isNaN a) (by simp) ?_;simp -dsimp;refine callK_may _ (fun hm=>c_isNaN b) (by simp) ?_;simp -dsimp;apply hK;clear hK K;exact awp_ret (by simp)
theorem m_isort (xs:List Int) (h1:1≤xs.length) (hn:xs.length≤1000):MutCall Tryz.prog 333 [.row 0 0 xs.length,I 0,I xs.length] [some (.els 1 (xs.map nCell))] [] (.tup []) [some (.els 1 ((srt xs).map nCell))] []:=by
 have w01:IntKind.i64.wrap 1=1:=wrap_in (by omega) (by omega);have wm1:IntKind.i64.wrap (-1)=-1:=wrap_in (by omega) (by omega);refine MutCall.of_bodyG [0] Tryz.func333 rfl (by decide) (by simp[Tryz.ntmps333]) rfl rfl ?_;intro J hJ;simp only[Tryz.ntmps333,Tryz.results333];refine gS fun K hK=>?_;simp -dsimp [w01];apply hK;clear hK K;refine gwp_block ?_;refine gwp_prune [0,1,2,6] (Or.inr (by simp)) ?_;simp only[zP,Nat.reduceEqDiff,reduceIte];refine gwp_loop_l [0,1,2] (α:=Nat) (fun i=>[(6,I i)]) (fun i=>[some (.els 1 ((srt (xs.take i)++xs.drop i).map nCell))]) (fun i=>1≤i∧i≤xs.length) (fun i=>xs.length-i) 1 ?_ ?_ ?_
 ·exact⟨Nat.le_refl _,h1⟩
 ·refine gsub (sub_rb [some 0] rfl (by simp) ?_) (by simp);obtain⟨x,l,rfl⟩:∃x l,xs=x::l:=by cases xs with|nil=>simp at h1|cons x l=>exact⟨x,l,rfl⟩
  simp[srt,ins]
 rintro i ⟨i1,i2⟩;simp only[zP,Nat.reduceEqDiff,reduceIte];refine gwp_seq_k fun K1 hK1=>?_;refine gS fun K hK=>?_;simp -dsimp;apply hK;clear hK K;refine gwp_cond rfl (fun hc0=>?_) (fun hc0=>?_)
 ·skip
  try simp at hc0
  have wi:=zW i (by omega);obtain⟨x,hx⟩:∃x,xs[i]?=some x:=⟨_,List.getElem?_eq_getElem hc0⟩;obtain⟨hxi,hxe⟩:=List.getElem?_eq_some_iff.1 hx;have hdr:xs.drop i=x::xs.drop (i+1):=by rw[List.drop_eq_getElem_cons hxi,hxe]
  have hdm:(xs.map nCell).drop i=[I x]::(xs.drop (i+1)).map nCell:=by rw[←List.map_drop,hdr];rfl
  have hst:=srt_take hx;have hsl:(srt (xs.take i)).length=i:=by rw[srt_len,List.length_take];omega
  have hso:=srt_sorted (xs.take i);generalize srt (xs.take i)=L at hst hsl hso ⊢;generalize hR:xs.drop (i+1)=R at hdr hdm ⊢;have hRl:R.length=xs.length-(i+1):=by rw[←hR,List.length_drop]
  refine gwp_skip ?_;simp only[zT,reduceIte,Nat.reduceEqDiff];refine hK1 _ _ ?_;refine gwp_prune [0,1,2,6] (Or.inr (by simp)) ?_;simp only[zP,Nat.reduceEqDiff,reduceIte];refine gwp_seq_k fun K2 hK2=>?_;refine gwp_block ?_;refine gS fun K hK=>?_;simp -dsimp;apply hK;clear hK K;refine gwp_block ?_;refine gwp_prune [0,1,2,6,7] (Or.inr (by simp)) ?_;simp only[zP,Nat.reduceEqDiff,reduceIte];refine gwp_loop_l [0,1,2,6] (α:=Nat) (fun j=>[(7,I j)]) (fun j=>[some (.els 1 ((wayL L x R j).map nCell))]) (fun j=>j≤i∧∀y∈L.drop j,x<y) (fun j=>j) i ?_ ?_ ?_
  ·exact⟨Nat.le_refl _,by rw[List.drop_of_length_le (by omega)];simp⟩
  ·refine gsub (sub_rb [some 0] rfl (by simp) ?_) (by simp);simp[wayL,hdm,List.take_of_length_le (show L.length≤i by omega),List.drop_of_length_le (show L.length≤i by omega)]
  rintro j ⟨j1,j2⟩
  rcases j with _|j
  rotate_left
  obtain⟨y,hy⟩:∃y,L[j]?=some y:=⟨_,List.getElem?_eq_getElem (by omega)⟩;have gj:=wayL_at (L:=L) (x:=x) (R:=R) (j:=j+1) (by omega);have gb:=wayL_before (x:=x) (R:=R) hy;have wj:IntKind.i64.wrap (j:Int)=j:=wrap_in (by omega) (by omega);have hj1:j+1<xs.length:=by omega
  have hj0:j<xs.length:=by omega
  have hdj:L.drop j=y::L.drop (j+1):=by obtain⟨hh,he⟩:=List.getElem?_eq_some_iff.1 hy;rw[List.drop_eq_getElem_cons hh,he]
  rotate_left
  ·simp only[zP,Nat.reduceEqDiff,reduceIte];refine gwp_seq_k fun K3 hK3=>?_;refine gwp_sd mixed rfl (by decide) rfl rfl fun K hK=>?_;simp -dsimp [wayL_at (L:=L) (x:=x) (R:=R) (Nat.zero_le _),wm1];refine callK_may _ (fun hm=>c_Less x x) (by simp) ?_;simp -dsimp [wayL_at (L:=L) (x:=x) (R:=R) (Nat.zero_le _),wm1];refine hK _ _ _ (by decide+kernel) ?_;clear hK K;refine gwp_cond rfl (fun hc1=>?_) (fun hc1=>?_)
   ·simp at hc1
   ·have hfin:ins x L=x::L:=by have:=ins_split x L (by simpa using j2) [] (by simp);simpa using this
    have he:srt (xs.take (i+1))++xs.drop (i+1)=wayL L x R 0:=by rw[hst,hR,hfin];simp[wayL]
    refine gwp_exit ?_;simp only[zT,reduceIte,Nat.reduceEqDiff];refine hK2 _ _ ?_;refine gwp_prune [0,1,2,6] (Or.inr (by simp)) ?_;simp only[zP,Nat.reduceEqDiff,reduceIte];refine gR fun K hK=>?_;simp -dsimp [wi];apply hK;clear hK K;simp only[zT,reduceIte,Nat.reduceEqDiff];exact⟨i+1,⟨by omega,by omega⟩,by omega,gsub (sub_rb [some 0] rfl (by simp) (by simp only[he];simp)) (by simp)⟩
  ·simp only[zP,Nat.reduceEqDiff,reduceIte];refine gwp_seq_k fun K4 hK4=>?_;refine gwp_sd mixed rfl (by decide) rfl rfl fun K hK=>?_;simp -dsimp [gj,gb,wj,hj1,hj0];refine⟨by omega,?_⟩
   try simp -dsimp [gj,gb,wj,hj1,hj0]
   refine callK_may _ (fun hm=>c_Less x y) (by simp) ?_;simp -dsimp [gj,gb,wj,hj1,hj0];refine hK _ _ _ (by decide+kernel) ?_;clear hK K;refine gwp_cond rfl (fun hc1=>?_) (fun hc1=>?_)
   ·skip
    try simp at hc1
    refine gwp_skip ?_;simp only[zT,reduceIte,Nat.reduceEqDiff];refine hK4 _ _ ?_;refine gwp_prune [0,1,2,6,7] (Or.inr (by simp)) ?_;simp only[zP,Nat.reduceEqDiff,reduceIte];refine gwp_seq_k fun K5 hK5=>?_;refine gwp_block ?_;refine gwp_draw mixed rfl (by decide) rfl rfl fun K hK=>?_;simp -dsimp [gj,gb,wj,hj1,hj0]
    repeat (refine⟨by omega,?_⟩;try simp -dsimp [gj,gb,wj,hj1,hj0])
    refine hK _ _ _ (by decide+kernel) ?_;clear hK K;simp only[zT,reduceIte,Nat.reduceEqDiff];refine hK5 _ _ ?_;refine gwp_prune [0,1,2,6,7] (Or.inr (by simp)) ?_;simp only[zP,Nat.reduceEqDiff,reduceIte];refine gR fun K hK=>?_;simp -dsimp [wj];apply hK;clear hK K;simp only[zT,reduceIte,Nat.reduceEqDiff];have hsw:(((wayL L x R (j+1)).map nCell).set (j+1) [I y]).set j [I x]=(wayL L x R j).map nCell:=by rw[←wayL_swap hy,List.map_set,List.map_set];rfl
    exact⟨j,⟨by omega,by intro z hz;rw[hdj]at hz;rcases List.mem_cons.1 hz with rfl|hz;exact hc1;exact j2 z hz⟩,by omega,gsub (sub_rb [some 0] rfl (by simp) (by simp[hsw])) (by simp)⟩
   ·skip
    try simp at hc1
    have hfin:ins x L=L.take (j+1)++x::L.drop (j+1):=by have:=ins_split x (L.drop (j+1)) j2 (L.take (j+1)) (fun a ha=>Int.le_trans (srt_le hso hy a ha) hc1);rwa [List.take_append_drop]at this
    have he:srt (xs.take (i+1))++xs.drop (i+1)=wayL L x R (j+1):=by rw[hst,hR,hfin];simp[wayL]
    refine gwp_exit ?_;simp only[zT,reduceIte,Nat.reduceEqDiff];refine hK2 _ _ ?_;refine gwp_prune [0,1,2,6] (Or.inr (by simp)) ?_;simp only[zP,Nat.reduceEqDiff,reduceIte];refine gR fun K hK=>?_;simp -dsimp [wi];apply hK;clear hK K;simp only[zT,reduceIte,Nat.reduceEqDiff];exact⟨i+1,⟨by omega,by omega⟩,by omega,gsub (sub_rb [some 0] rfl (by simp) (by simp only[he];simp)) (by simp)⟩
 ·skip
  try simp at hc0
  have hie:i=xs.length:=by omega
  subst hie;refine gwp_exit ?_
  try simp only[zT,reduceIte,Nat.reduceEqDiff]
  exact⟨[some 0],rfl,by simp,by simp,by simp[h1],by simp[resP,tupOf]⟩
theorem und_str:(Tryz.prog).underlying 9=some .string:=by kernel_rfl
theorem und_u8:(Tryz.prog).underlying 5=some (.int .u8):=by kernel_rfl
theorem und_uint:(Tryz.prog).underlying 420=some (.int .u64):=by kernel_rfl
theorem str_index (s:ByteArray) (n:Int) (h0:0≤n) (h1:n.toNat<s.size) (w:World):(Instr.index 9 (.string s) (.int .u8 n)).run Tryz.prog w= .ok (.int .u8 (s[n.toNat]).toNat) w:=by
 have hs:s[n.toNat]?=some s[n.toNat]:=getElem?_pos s n.toNat h1;simp[Instr.index,asIntOf,run_underlying und_str,h0,hs]
theorem conv_in (n:Int) (w:World):(convert 3 420 (.int .i64 n)).run Tryz.prog w= .ok (.int .u64 (IntKind.u64.wrap n)) w:=by
 simp[convert,run_underlying und_int,run_underlying und_uint,Conv.intToInt]
theorem conv_u8 (n:Int) (w:World):(convert 490 5 (.int .u64 n)).run Tryz.prog w= .ok (.int .u8 (IntKind.u8.wrap n)) w:=by
 simp[convert,run_underlying und_u64,run_underlying und_u8,Conv.intToInt]
theorem conv_8i (n:Int) (w:World):(convert 5 3 (.int .u8 n)).run Tryz.prog w= .ok (.int .i64 (IntKind.i64.wrap n)) w:=by
 simp[convert,run_underlying und_int,run_underlying und_u8,Conv.intToInt]
theorem c_Len64 (n:Int) (h0:0≤n) (h1:n≤200):∃k,PureCall Tryz.prog 342 [U n] (I k):=by
 have w8:IntKind.u8.wrap n=n:=by rw[IntKind.wrap_u8];omega
 have h2:¬4294967296≤n:=by omega
 have h3:¬65536≤n:=by omega
 have h4:¬256≤n:=by omega
 apply Exists.intro;refine PureCall.of_body Tryz.func342 rfl (by decide) (by simp[Tryz.ntmps342]) ?_;simp only[Tryz.ntmps342,Tryz.results342];refine aS fun K hK=>?_;simp -dsimp;apply hK;clear hK K;refine awp_seq_k fun K1 hK1=>?_;refine aS fun K hK=>?_;simp -dsimp;apply hK;clear hK K;refine awp_cond rfl (fun hc0=>?_) (fun hc0=>?_)
 ·skip
  try simp at hc0
  omega
 ·skip
  try simp at hc0
  refine awp_skip ?_;simp only[zT,reduceIte,Nat.reduceEqDiff];refine hK1 _ _ ?_;refine awp_prune [0,2] ?_;simp only[zP,Nat.reduceEqDiff,reduceIte];refine awp_seq_k fun K2 hK2=>?_;refine aS fun K hK=>?_;simp -dsimp;apply hK;clear hK K;refine awp_cond rfl (fun hc1=>?_) (fun hc1=>?_)
  ·skip
   try simp at hc1
   omega
  ·skip
   try simp at hc1
   refine awp_skip ?_;simp only[zT,reduceIte,Nat.reduceEqDiff];refine hK2 _ _ ?_;refine awp_prune [0,2] ?_;simp only[zP,Nat.reduceEqDiff,reduceIte];refine awp_seq_k fun K3 hK3=>?_;refine aS fun K hK=>?_;simp -dsimp;apply hK;clear hK K;refine awp_cond rfl (fun hc2=>?_) (fun hc2=>?_)
   ·skip
    try simp at hc2
    omega
   ·skip
    try simp at hc2
    refine awp_skip ?_;simp only[zT,reduceIte,Nat.reduceEqDiff];refine hK3 _ _ ?_;refine awp_prune [0,2] ?_;simp only[zP,Nat.reduceEqDiff,reduceIte];refine aS fun K hK=>?_;simp -dsimp;refine⟨_,conv_u8 n,?_⟩
    try simp -dsimp [w8]
    refine⟨_,str_index _ n h0 (Nat.lt_of_lt_of_le (show n.toNat<256 by omega) (by decide+kernel)),?_⟩
    try simp -dsimp
    refine⟨_,conv_8i _,?_⟩
    try simp -dsimp
    apply hK;clear hK K;exact awp_ret rfl
theorem c_Len (n:Int) (h0:0≤n) (h1:n≤200):∃k,PureCall Tryz.prog 293 [U n] (I k):=by
 obtain⟨k,hk⟩:=c_Len64 n h0 h1;refine⟨k,?_⟩;refine PureCall.of_body Tryz.func293 rfl (by decide) (by simp[Tryz.ntmps293]) ?_;simp only[Tryz.ntmps293,Tryz.results293];refine aS fun K hK=>?_;simp -dsimp;apply hK;clear hK K;refine awp_seq_k fun K1 hK1=>?_;refine awp_cond rfl (fun hc0=>?_) (fun hc0=>?_)
 ·simp at hc0
 ·refine awp_skip ?_;simp only[zT,reduceIte,Nat.reduceEqDiff];refine hK1 _ _ ?_;refine awp_prune [0] ?_;simp only[zP,Nat.reduceEqDiff,reduceIte];refine aS fun K hK=>?_;simp -dsimp;refine callK_intro _ (hk) (by simp) ?_;simp -dsimp;apply hK;clear hK K;exact awp_ret (by simp)
theorem m_pdq (xs:List Int) (k:Int) (h1:1≤xs.length) (hn:xs.length≤12):MutCall Tryz.prog 292 [.row 0 0 xs.length,I 0,I xs.length,I k] [some (.els 1 (xs.map nCell))] [] (.tup []) [some (.els 1 ((srt xs).map nCell))] []:=by
 have hs:=m_isort xs h1 (by omega);have wl:IntKind.i64.wrap (xs.length:Int)=xs.length:=wrap_in (by omega) (by omega);refine MutCall.of_bodyG [0] Tryz.func292 rfl (by decide) (by simp[Tryz.ntmps292]) rfl rfl ?_;intro J hJ;simp only[Tryz.ntmps292,Tryz.results292];refine gS fun K hK=>?_;simp -dsimp;apply hK;clear hK K;refine gS fun K hK=>?_;simp -dsimp;apply hK;clear hK K;refine gwp_block ?_;refine gwp_prune [0,1,2,3,8,9] (Or.inr (by simp)) ?_;simp only[zP,Nat.reduceEqDiff,reduceIte];refine gwp_loop_l [0] (α:=Unit) (fun _=>[(1,I 0),(2,I xs.length),(3,I k),(8,Bo true),(9,Bo true)]) (fun _=>[some (.els 1 (xs.map nCell))]) (fun _=>True) (fun _=>0) () ?_ ?_ ?_
 ·simp
 ·exact gsub (sub_same (by simp)) (by simp)
 rintro u-;simp only[zP,Nat.reduceEqDiff,reduceIte];refine gwp_block ?_;refine gS fun K hK=>?_;simp -dsimp [wl];apply hK;clear hK K;refine gwp_seq_k fun K1 hK1=>?_;refine gS fun K hK=>?_;simp -dsimp;apply hK;clear hK K;refine gwp_cond rfl (fun hc0=>?_) (fun hc0=>?_)
 ·skip
  try simp at hc0
  refine gS fun K hK=>?_;simp -dsimp;refine callK_mut [0] [] [some 0] (hs) (by decide) rfl (by simp) (by simp) rfl (by simp) ?_;simp -dsimp;apply hK;clear hK K;exact gwp_ret ⟨[some 0],rfl,by simp,by simp,by simp[h1],by simp[resP,tupOf]⟩
 ·skip
  try simp at hc0
  omega
theorem m_Sort (xs:List Int) (h1:1≤xs.length) (hn:xs.length≤12):MutCall Tryz.prog 222 [.row 0 0 xs.length] [some (.els 1 (xs.map nCell))] [] (.tup []) [some (.els 1 ((srt xs).map nCell))] []:=by
 obtain⟨k,hk⟩:=c_Len xs.length (by omega) (by omega);have hs:=m_pdq xs k h1 hn;have wu:IntKind.u64.wrap (xs.length:Int)=xs.length:=u64_in (by omega) (by omega);refine MutCall.of_bodyG [0] Tryz.func222 rfl (by decide) (by simp[Tryz.ntmps222]) rfl rfl ?_;intro J hJ;simp only[Tryz.ntmps222,Tryz.results222];refine gS fun K hK=>?_;simp -dsimp;apply hK;clear hK K;refine gR fun K hK=>?_;simp -dsimp;refine⟨_,conv_in _,?_⟩;simp -dsimp [wu];refine callK_intro _ (hk) (by simp) ?_;simp -dsimp;refine callK_mut [0] [] [some 0] (hs) (by decide) rfl (by simp) (by simp) rfl (by simp) ?_;simp -dsimp;apply hK;clear hK K
 try simp only[zT,reduceIte,Nat.reduceEqDiff]
 exact⟨[some 0],rfl,by simp,by simp,by simp[h1],by simp[resP,tupOf]⟩
end Go.Tram
end
section
namespace Go.Tram
open Go.AM Go.Proofs
structure Move where
 Rail:Int
 Back:Bool
 deriving DecidableEq,Inhabited
@[simp] def Move.cells (m:Move):List AV:=[I m.Rail,Bo m.Back]
abbrev Move.av (m:Move):AV:= .agg m.cells
def arrE (m:Move):REnd:=⟨m.Rail, !m.Back⟩
def numM (m:Move):Int:=if m.Back then 2*m.Rail+1 else 2*m.Rail
def moveM (k:Int):Move:=⟨k/2,decide (k % 2=1)⟩
def movB (p:Plan) (m:Move):Bool:=inr m.Rail 0 (p.Rails.length-1)
theorem kvGet_set (q k:List KC) (u:Value):∀kvs:List (List KC×Value),kvGet (kvSet kvs k u) q=if q=k then some u else kvGet kvs q
 |[]=>by simp[kvSet,kvGet]
 | (k0,v0)::r=>by
  simp only[kvSet]
  split
  ·rename_i e;subst e;simp only[kvGet]
   split<;>rfl
  ·rename_i e;simp only[kvGet]
   split
   ·rename_i e2;subst e2;rw[if_neg (fun h=>e h.symm)]
   ·exact kvGet_set q k u r
def plcV (p:Plan) (e:REnd):Value:=(kvGet (placesK p p.Nodes.length) [.i .i64 e.Rail, .b e.Last]).getD (.int .i64 0)
def plc (p:Plan) (e:REnd):Int:=match plcV p e with| .int _ n=>n|_=>0
theorem node_kind {n:Node} (h:nodeB n=true):(1≤n.Kind∧n.Kind≤6)∧n.Ends.length≤4∧(0≤n.Normal∧n.Normal≤2):=by
 simp only[nodeB,Bool.and_eq_true,decide_eq_true_eq]at h;obtain⟨h1,_,h2,h3⟩:=h;unfold endsN at h2 h3;refine⟨by omega,by omega,?_⟩
 split at h1
 ·have:=inr_iff.1 h1;omega
 ·simp only[decide_eq_true_eq]at h1;omega
def letsB (n:Node) (f t:Int):Bool:=
 if n.Kind=1 then false else if n.Kind=2 then decide (f≠t)else if n.Kind=3 then decide (f≠t)&&decide ((f+t) % 2=0)
 else if n.Kind=4 then decide (f≠t)&&(decide (f=0)||decide (t=0))else if n.Kind=5 then(decide (f≠0)&&decide (t=0))||(decide (f=0)&&decide (t=n.Normal))
 else(decide (f=0)&&decide (t=n.Normal))||(decide (f=n.Normal)&&decide (t=0))
end Go.Tram
end
section
namespace Go.Tram
open Go.AM Go.Proofs
structure Fnd where
 Move:Int
 Len:Int
 Mv:Int
 deriving DecidableEq,Inhabited
@[simp] def Fnd.cells (x:Fnd):List AV:=[I x.Move,I x.Len,I x.Mv]
abbrev Fnd.av (x:Fnd):AV:= .agg x.cells
section
variable {α:Type} [Inhabited α] (lt:α→α→Bool)
def gd (l:List α) (i:Nat):α:=l.getD i default
end
abbrev qAV:AV:= .ifc 363 (.ptr 0 0 0)
end Go.Tram
end
section
namespace Go.Tram
open Go.AM Go.Proofs
abbrev hrow (r n:Nat):Option ARow:=some (.els 1 [[.row r 0 n]])
end Go.Tram
end
