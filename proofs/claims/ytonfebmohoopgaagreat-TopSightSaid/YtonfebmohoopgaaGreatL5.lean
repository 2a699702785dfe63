import Derived.Test.YtonfebmohoopgaaGreatL4
import Derived.Test.YtonfebmohoopgaaGreatProg
set_option maxRecDepth 100000
set_option maxHeartbeats 8000000
set_option linter.unusedVariables false
set_option linter.unusedSimpArgs false
section
namespace Go.Tram
open Go.AM Go.Proofs
def nodeAt (p:Plan) (m:Move):Node:=p.node (p.at (arrE m))
def nxK (p:Plan) (m:Move) (k:Nat):List Int:=match (nodeAt p m).Ends[k]? with
 |some e=>if letsB (nodeAt p m) (plc p (arrE m)) k then [numM ⟨e.Rail,e.Last⟩]else []
 |none=>[]
def nxTo (p:Plan) (m:Move) (j:Nat):List Int:=(List.range j).flatMap (nxK p m)
def nextL (p:Plan) (m:Move):List Move:=(srt (nxTo p m (nodeAt p m).Ends.length)).map moveM
theorem nxTo_succ (p:Plan) (m:Move) (j:Nat):nxTo p m (j+1)=nxTo p m j++nxK p m j:=by
 simp only[nxTo,List.range_succ,List.flatMap_append,List.flatMap_cons,List.flatMap_nil,List.append_nil]
theorem nxTo_len (p:Plan) (m:Move) (j:Nat):(nxTo p m j).length≤j:=by
 induction j with
 |zero=>simp[nxTo]
 |succ j ih=>
  rw[nxTo_succ,List.length_append];have:(nxK p m j).length≤1:=by unfold nxK;split<;>(try split)<;>simp
  omega
theorem ends_rail {p:Plan} (hv:validB p=true) {i:Nat} (hi:i<p.Nodes.length) {j:Nat} {e:REnd} (he:(p.node i).Ends[j]?=some e):(0≤e.Rail∧e.Rail<p.Rails.length)∧p.at e=i:=by
 obtain⟨r,hr⟩:=E_prefix hi he;have hE:=(valid_parts hv).2.2.2.2;simp only[validE,Bool.and_eq_true,List.all_eq_true]at hE;have:=hE.1 (i,e) (by rw[hr];simp);simp only[endB,Bool.and_eq_true,decide_eq_true_eq,inr_iff]at this;exact⟨by omega,this.2⟩
theorem at_in {p:Plan} (hv:validB p=true) {e:REnd} (h0:0≤e.Rail) (h1:e.Rail<p.Rails.length):0≤p.at e∧p.at e<p.Nodes.length:=by
 have ro:=rail_ok hv h0 h1;unfold Plan.at
 split
 ·exact ro.t
 ·exact ro.f
theorem movB_iff {p:Plan} {m:Move}:movB p m=true↔0≤m.Rail∧m.Rail<p.Rails.length:=by
 unfold movB;rw[inr_iff];omega
theorem nx_bound {p:Plan} (hv:validB p=true) {m:Move} (hm:movB p m=true):∀j,∀k∈nxTo p m j,0≤k∧k≤100000∧movB p (moveM k)=true:=by
 have hm':=movB_iff.1 hm;have ha:=at_in hv (e:=arrE m) hm'.1 hm'.2;have hR:=(valid_parts hv).2.1;intro j k hk;simp only[nxTo,List.mem_flatMap,List.mem_range]at hk;obtain⟨i,hi,hk⟩:=hk;unfold nxK at hk
 split at hk
 ·rename_i e he
  split at hk
  ·obtain rfl:k=numM ⟨e.Rail,e.Last⟩:=by simpa using hk
   have hn:nodeAt p m=p.node ((p.at (arrE m)).toNat:Nat):=by unfold nodeAt;rw[show(((p.at (arrE m)).toNat:Nat):Int)=p.at (arrE m)by omega]
   rw[hn]at he;have:=ends_rail hv (i:=(p.at (arrE m)).toNat) (by omega) he;rw[movB_iff];simp only[numM,moveM]
   split<;>omega
  ·simp at hk
 ·simp at hk
theorem ins_mem' {l:List Int}:∀{z:Int},z∈srt l↔z∈l:=by
 have gen:∀(l s:List Int) (z:Int),z∈l.foldl (fun s x=>ins x s) s↔z∈s∨z∈l:=by
  intro l
  induction l with
  |nil=>simp
  |cons x l ih=>
   intro s z;rw[List.foldl_cons,ih,ins_mem];simp only[List.mem_cons];constructor
   ·rintro((h|h)|h)<;>simp[h]
   ·rintro(h|h|h)<;>simp[h]
 intro z;have:=gen l [] z;simpa [srt]using this
theorem c_next1 (p:Plan) (m:Move) (hv:validB p=true) (hm:movB p m=true):IterCall Tryz.prog 107 [.iptr [.iptr (net p)], .iptr m.cells] ((nextL p m).map fun k=>[k.av]):=by
 have hm':=movB_iff.1 hm;have ha:=at_in hv (e:=arrE m) hm'.1 hm'.2;have hnode:=p.node_get ha.1 ha.2;have hnf:=node_kind (node_fine hv ha.1 ha.2);have hb:=nx_bound hv hm;have hplc:=plc_val hv (arrE m);have hcar:=c_arrives m;have hce:=c_ending p (arrE m) hm'.1 hm'.2;have hna:p.node (p.at (arrE m))=nodeAt p m:=rfl;have hno:∀(j:Nat) (e:REnd),(nodeAt p m).Ends[j]?=some e→(0≤e.Rail∧e.Rail<p.Rails.length):=by
  intro j e he;have hn:nodeAt p m=p.node ((p.at (arrE m)).toNat:Nat):=by unfold nodeAt;rw[show(((p.at (arrE m)).toNat:Nat):Int)=p.at (arrE m)by omega]
  rw[hn]at he;exact(ends_rail hv (i:=(p.at (arrE m)).toNat) (by omega) he).1
 have hR:=(valid_parts hv).2.1;have hxk:∀(j:Nat) (e:REnd),(nodeAt p m).Ends[j]?=some e→nxK p m j=if letsB (nodeAt p m) (plc p (arrE m)) j then [numM ⟨e.Rail,e.Last⟩]else []:=by intro j e he;unfold nxK;rw[he]
 have hnl:nextL p m=(srt (nxTo p m (nodeAt p m).Ends.length)).map moveM:=rfl;rw[hna]at hnode hnf;generalize nodeAt p m=n at hnode hnf hno hxk hnl;unfold net;refine IterCallW.of_body Tryz.func107 rfl (by decide) (by simp[Tryz.ntmps107]) (by simp[Tryz.ntmps107]) (by simp[Tryz.results107]) ?_;intro J l hmk hY;simp only[Tryz.ntmps107,Tryz.results107];refine gwp_sd mixed rfl (by decide) rfl rfl fun K hK=>?_;simp -dsimp [hnode,ha.1];refine callK_intro _ (hcar) (by simp) ?_;simp -dsimp [hnode,ha.1];refine callK_intro _ (hce) (by simp) ?_;simp -dsimp [hnode,ha.1];refine hK _ _ _ (by decide+kernel) ?_;clear hK K;refine gS fun K hK=>?_;simp -dsimp;apply hK;clear hK K;refine gwp_seq_k fun K1 hK1=>?_;refine gS fun K hK=>?_;simp -dsimp;apply hK;clear hK K;refine gwp_block ?_;refine gwp_prune [0,1,2,4,5,25,26,27,999999] (Or.inl (by decide)) ?_;simp only[zP,Nat.reduceEqDiff,reduceIte];refine gwp_loop_l [0,1,2,4,25,26] (α:=Nat) (fun j=>[(27,I j),(5, .row 1 0 (nxTo p m j).length),(999999,cntV 0)]) (fun j=>[some (.els 5 [n.cells]),some (.els 1 ((nxTo p m j).map nCell))]) (fun j=>j≤n.Ends.length) (fun j=>n.Ends.length-j) 0 ?_ ?_ ?_
 ·simp
 ·exact gsub ((sub_nil 5 1 (by simp)).trans (sub_rb [some 0,some 1] rfl (by simp[nxTo]) (by simp[nxTo]))) (by simp)
 rintro j j1;have hsu:=nxTo_succ p m j;have hlj:=nxTo_len p m j;have hbj:=hb j;simp only[zP,Nat.reduceEqDiff,reduceIte];refine gS fun K hK=>?_;simp -dsimp;apply hK;clear hK K;refine gwp_seq_k fun K2 hK2=>?_;refine gwp_cond rfl (fun hc0=>?_) (fun hc0=>?_)
 ·skip
  try simp at hc0
  obtain⟨e,he⟩:∃e,n.Ends[j]?=some e:=⟨_,List.getElem?_eq_getElem hc0⟩;have wj:=zW j (by omega);have her:=hno j e he;rw[hxk j e he]at hsu;generalize hA:nxTo p m j=A at hsu hlj hbj ⊢;have f1:Fits (A.length+1) 9:=fits_of (by omega) (by omega);have hot:(A.map nCell).take A.length=A.map nCell:=List.take_of_length_le (by simp);refine gwp_skip ?_;simp only[zT,reduceIte,Nat.reduceEqDiff];refine hK2 _ _ ?_;refine gwp_prune [0,1,2,4,5,25,26,27,999999] (Or.inl (by decide)) ?_;simp only[zP,Nat.reduceEqDiff,reduceIte];refine gwp_seq_k fun K3 hK3=>?_;refine gwp_block ?_;refine gS fun K hK=>?_;simp -dsimp [he];apply hK;clear hK K;refine gwp_sd mixed rfl (by decide) rfl rfl fun K hK=>?_;simp -dsimp;refine callK_intro _ (hcar) (by simp) ?_;simp -dsimp;refine valK_intro (I (plc p (arrE m))) (fun hm=>congrArg AV.v hplc.1) ?_;simp -dsimp;refine callK_intro _ (c_lets n (plc p (arrE m)) j ⟨hplc.2.1,hplc.2.2⟩ ⟨by omega,by omega⟩ hnf.1) (by simp) ?_;simp -dsimp;refine hK _ _ _ (by decide+kernel) ?_;clear hK K;refine gwp_cond rfl (fun hc1=>?_) (fun hc1=>?_)
  ·rw[hc1,if_pos rfl]at hsu;refine gR fun K hK=>?_;simp -dsimp [f1];refine callK_intro _ (c_number ⟨e.Rail,e.Last⟩ her.1 (by have:=her.2;show e.Rail≤100000;omega)) (by simp) ?_;simp -dsimp [f1];apply hK;clear hK K;simp only[zT,reduceIte,Nat.reduceEqDiff];refine hK3 _ _ ?_;refine gwp_prune [0,1,2,4,5,25,26,27,999999] (Or.inl (by decide)) ?_;simp only[zP,Nat.reduceEqDiff,reduceIte];refine gR fun K hK=>?_;simp -dsimp [wj];apply hK;clear hK K;simp only[zT,reduceIte,Nat.reduceEqDiff];exact⟨j+1,by omega,by omega,gsub (sub_rb [some 0,some 3] rfl (by simp[hsu]) (by simp[hsu,hot])) (by simp)⟩
  ·rw[hc1,if_neg (by simp)]at hsu;refine gwp_skip ?_;simp only[zT,reduceIte,Nat.reduceEqDiff];refine hK3 _ _ ?_;refine gwp_prune [0,1,2,4,5,25,26,27,999999] (Or.inl (by decide)) ?_;simp only[zP,Nat.reduceEqDiff,reduceIte];refine gR fun K hK=>?_;simp -dsimp [wj];apply hK;clear hK K;simp only[zT,reduceIte,Nat.reduceEqDiff];exact⟨j+1,by omega,by omega,gsub (sub_rb [some 0,some 1] rfl (by simp[hsu]) (by simp[hsu])) (by simp)⟩
 ·skip
  try simp at hc0
  have hje:j=n.Ends.length:=by omega
  subst hje;generalize hA:nxTo p m n.Ends.length=A at hlj hbj hnl ⊢;refine gwp_exit ?_;simp only[zT,reduceIte,Nat.reduceEqDiff];refine hK1 _ _ ?_;refine gwp_prune [0,5,999999] (Or.inl (by decide)) ?_;simp only[zP,Nat.reduceEqDiff,reduceIte]
  rcases Decidable.em (A=[])with rfl|hA0
  ·refine gS fun K hK=>?_;simp -dsimp;refine callK_intro _ (c_Sort0) (by simp) ?_;simp -dsimp;apply hK;clear hK K;refine gS fun K hK=>?_;simp -dsimp;apply hK;clear hK K;refine gwp_block ?_;refine gwp_prune [0,55,56,57,999999] (Or.inl (by decide)) ?_;simp only[zP,Nat.reduceEqDiff,reduceIte];refine gwp_loop_l [0,55,56] (α:=Nat) (fun i=>[(57,I i),(999999,cntV i)]) (fun i=>[some (.els 5 [n.cells]),some (.els 1 [])]) (fun i=>i≤0) (fun i=>0) 0 ?_ ?_ ?_
   ·simp
   ·exact gsub (sub_same (by simp)) (by simp)
   rintro i i1;simp only[zP,Nat.reduceEqDiff,reduceIte];refine gS fun K hK=>?_;simp -dsimp;apply hK;clear hK K;refine gwp_seq_k fun K4 hK4=>?_;refine gwp_cond rfl (fun hc2=>?_) (fun hc2=>?_)
   ·simp at hc2;omega
   ·refine gwp_exit ?_
    try simp only[zT,reduceIte,Nat.reduceEqDiff]
    have hi0:i=0:=by omega
    simp[hnl,srt,hi0]
  ·refine gS fun K hK=>?_;simp -dsimp;refine callK_mut [1] [] [none,some 0] (m_Sort A (List.length_pos_iff.2 hA0) (by omega)) (by decide) rfl (by simp) (by simp) rfl (by simp) ?_;simp -dsimp;apply hK;clear hK K;refine gS fun K hK=>?_;simp -dsimp;apply hK;clear hK K;refine gwp_block ?_;refine gwp_prune [0,55,56,57,999999] (Or.inl (by decide)) ?_;simp only[zP,Nat.reduceEqDiff,reduceIte];refine gwp_loop_l [0,55,56] (α:=Nat) (fun i=>[(57,I i),(999999,cntV i)]) (fun i=>[some (.els 5 [n.cells]),some (.els 1 ((srt A).map nCell))]) (fun i=>i≤(srt A).length) (fun i=>(srt A).length-i) 0 ?_ ?_ ?_
   ·simp
   ·exact gsub (sub_same (by simp)) (by simp)
   rintro i i1;simp only[zP,Nat.reduceEqDiff,reduceIte];refine gS fun K hK=>?_;simp -dsimp;apply hK;clear hK K;refine gwp_seq_k fun K5 hK5=>?_;refine gwp_cond rfl (fun hc2=>?_) (fun hc2=>?_)
   ·have hsl:=srt_len A;obtain⟨k,hk⟩:∃k,(srt A)[i]?=some k:=⟨_,List.getElem?_eq_getElem (by simpa [hsl]using hc2)⟩;have hkb:=hbj k (ins_mem'.1 (List.mem_of_getElem? hk));have wi:=zW i (by omega);have hiA:i<A.length:=by simpa using hc2
    refine gwp_skip ?_;simp only[zT,reduceIte,Nat.reduceEqDiff];refine hK5 _ _ ?_;refine gwp_prune [0,55,56,57,999999] (Or.inl (by decide)) ?_;simp only[zP,Nat.reduceEqDiff,reduceIte];refine gwp_seq_k fun K6 hK6=>?_;refine gwp_block ?_;refine gS fun K hK=>?_;simp -dsimp [hk];refine⟨hiA,?_⟩;apply hK;clear hK K;refine gwp_sy hmk hY rfl (by decide) rfl rfl fun K hK=>?_;simp -dsimp;refine callK_intro _ (c_move k hkb.1 (by omega)) (by simp) ?_;simp -dsimp;refine yK_intro (by rw[hnl,List.getElem?_map,List.getElem?_map,hk];rfl) ?_ ?_
    ·apply hK;clear hK K;refine gwp_cond rfl (fun hc3=>?_) (fun hc3=>?_)
     ·simp at hc3
     ·refine gwp_skip ?_;simp only[zT,reduceIte,Nat.reduceEqDiff];refine hK6 _ _ ?_;refine gwp_prune [0,55,56,57,999999] (Or.inl (by decide)) ?_;simp only[zP,Nat.reduceEqDiff,reduceIte];refine gR fun K hK=>?_;simp -dsimp [wi];apply hK;clear hK K;simp only[zT,reduceIte,Nat.reduceEqDiff];exact⟨i+1,by omega,by omega,gsub (sub_rb [some 0,some 1] rfl (by simp) (by simp)) (by simp)⟩
    ·apply hK;clear hK K;refine gwp_cond rfl (fun hc3=>?_) (fun hc3=>?_)
     ·exact gwp_ret (by simp)
     ·simp at hc3
   ·refine gwp_exit ?_
    try simp only[zT,reduceIte,Nat.reduceEqDiff]
    have hie:i=A.length:=by have:=srt_len A;simp at hc2;omega
    simp[hnl,srt_len,hie]
def follB (p:Plan) (m k:Move):Bool:=(nextL p m).any fun x=>decide (x=k)
theorem c_follows (p:Plan) (m k:Move) (hv:validB p=true) (hm:movB p m=true):PureCall Tryz.prog 57 [.iptr (net p),m.av,k.av] (Bo (follB p m k)):=by
 have hit:=c_next1 p m hv hm;have hnx:=c_tnext p m;generalize net p=sh at hit hnx;refine PureCall.of_bodyG Tryz.func57 rfl (by decide) (by simp[Tryz.ntmps57]) ?_;intro J hJ;simp only[Tryz.ntmps57,Tryz.results57];refine gS fun K hK=>?_;simp -dsimp;apply hK;clear hK K;refine gwp_seq_k fun K1 hK1=>?_;refine gS fun K hK=>?_;simp -dsimp;refine callK_intro _ (hnx) (by simp) ?_;simp -dsimp;apply hK;clear hK K;refine gwp_block ?_;refine gwp_prune [5,6,10] (Or.inr (by simp)) ?_;simp only[zP,Nat.reduceEqDiff,reduceIte];refine gwp_range_s hJ [5,6,10] (fun _=>[some (.els 2 [m.cells]),some (.els 2 [k.cells]),some (.els 1 [[Bo false]])]) (fun n=>((nextL p m).take n).any (fun x=>decide (x=k))=false) rfl (hit) rfl (by simp) (by decide) (by decide) (by decide) (by intro z hz;obtain⟨q,_,rfl⟩:=List.mem_map.1 hz;rfl) ?_ ?_ ?_ ?_
 ·trivial
 ·exact sub_same (by simp)
 ·intro n xv hxn hi l1 J1 hJ1;obtain⟨q,hq,rfl⟩:∃q,(nextL p m)[n]?=some q∧[q.av]=xv:=by simpa using hxn
  simp only[List.zip_cons_cons,List.zip_nil_left,List.zip_nil_right,List.cons_append,List.nil_append];refine gR fun K hK=>?_;simp -dsimp;apply hK;clear hK K;simp only[onlyN];intro J2 hJ2;refine gwp_prune [5,6,7,10] (Or.inr (by simp)) ?_;simp only[zP,Nat.reduceEqDiff,reduceIte];refine gwp_block ?_;refine gS fun K hK=>?_;simp -dsimp;apply hK;clear hK K;refine gwp_cond rfl (fun hc0=>?_) (fun hc0=>?_)
  ·have hqe:q=k:=by simp at hc0;cases q;cases k;simp_all
   have hany:(nextL p m).any (fun x=>decide (x=k))=true:=List.any_eq_true.2 ⟨q,List.mem_of_getElem? hq,by simpa using hqe⟩;refine gS fun K hK=>?_;simp -dsimp;apply hK;clear hK K;exact gwp_ret ⟨[some (.els 2 [m.cells]),some (.els 2 [k.cells]),some (.els 1 [[Bo true]])],sub_rb [some 0,some 1,some 2] rfl (by simp) (by simp),by simp[follB,hany]⟩
  ·have hne:decide (q=k)=false:=by rw[decide_eq_false_iff_not];rintro rfl;simp at hc0
   refine gwp_skip ?_;simp only[thenA,inBlockA,roundQ,reduceIte,Nat.reduceEqDiff,eq_self];refine⟨?_,sub_rb [some 0,some 1,some 2] rfl (by simp) (by simp)⟩;rw[List.take_add_one,List.any_append,hi,hq];simp[hne]
 ·intro hdone;simp only[zT,reduceIte,Nat.reduceEqDiff];refine hK1 _ _ ?_;refine gwp_prune [6] (Or.inr (by simp)) ?_;simp only[zP,Nat.reduceEqDiff,reduceIte];refine gS fun K hK=>?_;simp -dsimp;apply hK;clear hK K;refine gwp_ret ?_;rw[List.take_of_length_le (by simp)]at hdone;simp[follB,hdone]
def stepB (p:Plan) (l:List Move) (i:Nat):Bool:=movB p (l[i]?.getD default)&&(decide (i=0)||follB p (l[i-1]?.getD default) (l[i]?.getD default))
def wayB (p:Plan) (l:List Move):Bool:=(List.range l.length).all (stepB p l)&&inr l.length 1 2000
theorem allR_succ (f:Nat→Bool) (n:Nat):(List.range (n+1)).all f=((List.range n).all f&&f n):=by
 rw[List.range_succ,List.all_append];simp
theorem allR_at {f:Nat→Bool} {n k:Nat} (h:(List.range n).all f=true) (hk:k<n):f k=true:=List.all_eq_true.1 h k (List.mem_range.2 hk)
theorem step_neg (a f:Bool) (i:Nat):(!a||(decide (0<i)&& !f))= !(a&&(decide (i=0)||f)):=by cases a<;>cases f<;>by_cases h:i=0<;>simp[h]<;>omega
theorem c_way (p:Plan) (l:List Move) (hv:validB p=true) (hn:l.length≤100000):PureCall Tryz.prog 29 [.iptr (net p), .lst 2 (l.map Move.cells)] (Bo (wayB p l)):=by
 have hhas:=fun r b=>c_nhas p r b hv;have hfol:=fun m k=>c_follows p m k hv;generalize net p=sh at hhas hfol;refine PureCall.of_body Tryz.func29 rfl (by decide) (by simp[Tryz.ntmps29]) ?_;simp only[Tryz.ntmps29,Tryz.results29];refine aS fun K hK=>?_;simp -dsimp;apply hK;clear hK K;refine awp_seq_k fun K1 hK1=>?_;refine aS fun K hK=>?_;simp -dsimp;apply hK;clear hK K;refine awp_block ?_;refine awp_prune [0,1,7,8,9] ?_;simp only[zP,Nat.reduceEqDiff,reduceIte];refine awp_loop_l [0,1,7,8] (α:=Nat) (fun i=>[(9,I i)]) (fun i=>[]) (fun i=>i≤l.length∧(List.range i).all (stepB p l)=true) (fun i=>l.length-i) 0 ?_ ?_ ?_
 ·simp
 ·exact sub_same (by simp)
 rintro i ⟨i1,i2⟩;simp only[zP,Nat.reduceEqDiff,reduceIte];refine aS fun K hK=>?_;simp -dsimp;apply hK;clear hK K;refine awp_seq_k fun K2 hK2=>?_;refine awp_cond rfl (fun hc0=>?_) (fun hc0=>?_)
 ·skip
  try simp at hc0
  obtain⟨m,hgm⟩:∃m,l[i]?=some m:=⟨_,List.getElem?_eq_getElem hc0⟩;have wi:=zW i (by omega);have w1:IntKind.i64.wrap ((i:Int)-1)=(i:Int)-1:=wrap_in (by omega) (by omega);have hprev:0<i→l[i-1]?=some (l[i-1]?.getD default):=fun h=>by rw[List.getElem?_eq_getElem (by omega)];rfl
  have hpm:0<i→movB p (l[i-1]?.getD default)=true:=fun h=>(Bool.and_eq_true_iff.1 (allR_at i2 (show i-1<i by omega))).1;have hst:stepB p l i=(movB p m&&(decide (i=0)||follB p (l[i-1]?.getD default) m)):=by unfold stepB;rw[hgm];rfl
  generalize l[i-1]?.getD default=m' at hprev hpm hst;have hmv:movB p m=inr m.Rail 0 (p.Rails.length-1):=rfl;refine awp_skip ?_;simp only[zT,reduceIte,Nat.reduceEqDiff];refine hK2 _ _ ?_;refine awp_prune [0,1,7,8,9] ?_;simp only[zP,Nat.reduceEqDiff,reduceIte];refine awp_seq_k fun K3 hK3=>?_;refine awp_block ?_;refine aS fun K hK=>?_;simp -dsimp [hgm];apply hK;clear hK K;refine awp_sd mixed rfl fun K hK=>?_;simp -dsimp [w1];refine callK_intro _ (hhas m.Rail m.Back) (by simp) ?_;simp -dsimp [w1];refine⟨fun _ h=>by omega,?_⟩
  try simp -dsimp
  refine idxK_intro m'.cells (fun hq=>by simp at hq;rw[List.getElem?_map,hprev hq.2];rfl) ?_;simp -dsimp [w1];refine callK_may _ (fun hm=>(hfol m' m (hpm (by simp at hm;exact hm.2)))) (by simp) ?_;simp -dsimp [w1];refine hK _ _ _ (by decide+kernel) ?_;clear hK K;refine awp_cond rfl (fun hc1=>?_) (fun hc1=>?_)
  ·rw[step_neg,←hmv,←hst]at hc1;have hsf:stepB p l i=false:=by simpa using hc1
   have hb:wayB p l=false:=by unfold wayB;rw[show(List.range l.length).all (stepB p l)=false from by rw[List.all_eq_false];exact⟨i,List.mem_range.2 hc0,by simp[hsf]⟩];rfl
   refine aS fun K hK=>?_;simp -dsimp;apply hK;clear hK K;exact awp_ret (by simp[hb])
  ·rw[step_neg,←hmv,←hst]at hc1;have hst1:stepB p l i=true:=by simpa using hc1
   refine awp_skip ?_;simp only[zT,reduceIte,Nat.reduceEqDiff];refine hK3 _ _ ?_;refine awp_prune [0,1,7,8,9] ?_;simp only[zP,Nat.reduceEqDiff,reduceIte];refine aR fun K hK=>?_;simp -dsimp [wi];apply hK;clear hK K;simp only[zT,reduceIte,Nat.reduceEqDiff];exact⟨i+1,⟨by omega,by rw[allR_succ,i2,hst1];rfl⟩,by omega,sub_rb [] rfl (by simp) (by simp)⟩
 ·skip
  try simp at hc0
  have hie:i=l.length:=by omega
  subst hie;refine awp_exit ?_;simp only[zT,reduceIte,Nat.reduceEqDiff];refine hK1 _ _ ?_;refine awp_prune [1] ?_;simp only[zP,Nat.reduceEqDiff,reduceIte];refine aS fun K hK=>?_;simp -dsimp;refine callK_intro _ (c_within l.length 1 2000) (by simp) ?_;simp -dsimp;apply hK;clear hK K;exact awp_ret (by simp[wayB,i2])
end Go.Tram
end
section
namespace Go.Tram
open Go.AM Go.Proofs
def mvAt (l:List Move) (i:Nat):Move:=l[i]?.getD default
def begTo (p:Plan) (l:List Move):Nat→Int
 |0=>0
 |i+1=>begTo p l i+p.len (mvAt l i).Rail
def cvF (front long beg:Int):Int:=if front-long-beg<0 then 0 else front-long-beg
def cvT (front beg L:Int):Int:=if L<front-beg then L else front-beg
def cvStep (p:Plan) (front long beg:Int) (m:Move):List Cover:=
 if cvT front beg (p.len m.Rail)≤cvF front long beg then []
 else if m.Back then [⟨m.Rail,p.len m.Rail-cvT front beg (p.len m.Rail),p.len m.Rail-cvF front long beg⟩]else [⟨m.Rail,cvF front long beg,cvT front beg (p.len m.Rail)⟩]
def cvTo (p:Plan) (l:List Move) (front long:Int) (n:Nat):List Cover:=(List.range n).flatMap fun i=>cvStep p front long (begTo p l i) (mvAt l i)
theorem cvTo_succ (p:Plan) (l:List Move) (front long:Int) (n:Nat):cvTo p l front long (n+1)=cvTo p l front long n++cvStep p front long (begTo p l n) (mvAt l n):=by
 simp only[cvTo,List.range_succ,List.flatMap_append,List.flatMap_cons,List.flatMap_nil,List.append_nil]
theorem cvTo_len (p:Plan) (l:List Move) (front long:Int) (n:Nat):(cvTo p l front long n).length≤n:=by
 induction n with
 |zero=>simp[cvTo]
 |succ n ih=>
  rw[cvTo_succ,List.length_append];have:(cvStep p front long (begTo p l n) (mvAt l n)).length≤1:=by unfold cvStep;split<;>(try split)<;>simp
  omega
theorem len_bd {p:Plan} (hv:validB p=true) {r:Int} (h0:0≤r) (h1:r<p.Rails.length):1≤p.len r∧p.len r≤31000000:=by
 have ro:=rail_ok hv h0 h1;have hl:=ro.len;have hs:=ro.s;have h:=sumTo_bd ro ((p.rail r).Shape.length+1) (by omega);unfold Plan.len;omega
theorem way_mov {p:Plan} {l:List Move} (h:wayB p l=true):∀i,i<l.length→movB p (mvAt l i)=true:=by
 intro i hi;have:=(Bool.and_eq_true_iff.1 h).1;exact(Bool.and_eq_true_iff.1 (allR_at this hi)).1
theorem way_len {p:Plan} {l:List Move} (h:wayB p l=true):1≤l.length∧l.length≤2000:=by
 have:=inr_iff.1 (Bool.and_eq_true_iff.1 h).2;omega
theorem begTo_bd {p:Plan} {l:List Move} (hv:validB p=true) (h:wayB p l=true):∀i,i≤l.length→0≤begTo p l i∧begTo p l i≤31000000*i
 |0,_=>by simp[begTo]
 |i+1,hi=>by
  have h1:=begTo_bd hv h i (by omega);have h2:=movB_iff.1 (way_mov h i (by omega));have h3:=len_bd hv h2.1 h2.2;simp only[begTo];omega
theorem c_wayLength (p:Plan) (l:List Move) (hv:validB p=true) (hw:wayB p l=true):PureCall Tryz.prog 30 [.iptr (net p), .lst 2 (l.map Move.cells)] (I (begTo p l l.length)):=by
 have hl:=way_len hw;unfold net;refine PureCall.of_body Tryz.func30 rfl (by decide) (by simp[Tryz.ntmps30]) ?_;simp only[Tryz.ntmps30,Tryz.results30];refine aS fun K hK=>?_;simp -dsimp;apply hK;clear hK K;refine aS fun K hK=>?_;simp -dsimp;apply hK;clear hK K;refine awp_seq_k fun K1 hK1=>?_;refine aS fun K hK=>?_;simp -dsimp;apply hK;clear hK K;refine awp_block ?_;refine awp_prune [0,5,8,9,10] ?_;simp only[zP,Nat.reduceEqDiff,reduceIte];refine awp_loop_l [0,8,9] (α:=Nat) (fun i=>[(10,I i),(5,I (begTo p l i))]) (fun i=>[]) (fun i=>i≤l.length) (fun i=>l.length-i) 0 ?_ ?_ ?_
 ·simp
 ·exact sub_same (by simp[begTo])
 rintro i i1;simp only[zP,Nat.reduceEqDiff,reduceIte];refine aS fun K hK=>?_;simp -dsimp;apply hK;clear hK K;refine awp_seq_k fun K2 hK2=>?_;refine awp_cond rfl (fun hc0=>?_) (fun hc0=>?_)
 ·skip
  try simp at hc0
  obtain⟨m,hgm⟩:∃m,l[i]?=some m:=⟨_,List.getElem?_eq_getElem hc0⟩;have wi:=zW i (by omega);have hma:mvAt l i=m:=by simp[mvAt,hgm]
  have hmv:=way_mov hw i hc0;have hb1:=begTo_bd hv hw (i+1) (by omega);have hbs:begTo p l (i+1)=begTo p l i+p.len m.Rail:=by simp only[begTo];rw[hma]
  rw[hma]at hmv;have hmr:=movB_iff.1 hmv;have hlg:(lensA p p.Rails.length)[m.Rail.toNat]?=some [I (p.len m.Rail)]:=by rw[lensA_get (by omega),show((m.Rail.toNat:Nat):Int)=m.Rail by omega]
  have ws:IntKind.i64.wrap (begTo p l i+p.len m.Rail)=begTo p l (i+1):=by rw[←hbs];exact wrap_in (by omega) (by omega)
  refine awp_skip ?_;simp only[zT,reduceIte,Nat.reduceEqDiff];refine hK2 _ _ ?_;refine awp_prune [0,5,8,9,10] ?_;simp only[zP,Nat.reduceEqDiff,reduceIte];refine awp_seq_k fun K3 hK3=>?_;refine awp_block ?_;refine aS fun K hK=>?_;simp -dsimp [hgm];apply hK;clear hK K;refine awp_draw mixed rfl fun K hK=>?_;simp -dsimp [hlg,ws,hmr.1];refine hK _ _ _ (by decide+kernel) ?_;clear hK K;simp only[zT,reduceIte,Nat.reduceEqDiff];refine hK3 _ _ ?_;refine awp_prune [0,5,8,9,10] ?_;simp only[zP,Nat.reduceEqDiff,reduceIte];refine aR fun K hK=>?_;simp -dsimp [wi];apply hK;clear hK K;simp only[zT,reduceIte,Nat.reduceEqDiff];exact⟨i+1,by omega,by omega,sub_rb [] rfl (by simp) (by simp)⟩
 ·skip
  try simp at hc0
  have hie:i=l.length:=by omega
  subst hie;refine awp_exit ?_;simp only[zT,reduceIte,Nat.reduceEqDiff];refine hK1 _ _ ?_;refine awp_prune [5] ?_;simp only[zP,Nat.reduceEqDiff,reduceIte];refine aS fun K hK=>?_;simp -dsimp;apply hK;clear hK K;exact awp_ret (by simp)
theorem c_tCovers_f (p:Plan) (l:List Move) (front long:Int) (hv:validB p=true) (hn:l.length≤100000) (h:(wayB p l&&(decide (1≤long)&&(decide (long≤front)&&decide (front≤begTo p l l.length))))=false):
  PureCall Tryz.prog 10 [p.av, .lst 2 (l.map Move.cells),I front,I long] (.tup [.v (.slice none 0 0),I 2]):=by
 have hop:=c_open_t p hv;have hw:=c_way p l hv hn;have hwl:=c_wayLength p l hv;generalize net p=sh at hop hw hwl;refine PureCall.of_body Tryz.func10 rfl (by decide) (by simp[Tryz.ntmps10]) ?_;simp only[Tryz.ntmps10,Tryz.results10];refine aS fun K hK=>?_;simp -dsimp;apply hK;clear hK K;refine aS fun K hK=>?_;simp -dsimp;refine callK_intro _ (hop) (by simp) ?_;simp -dsimp;apply hK;clear hK K;refine awp_seq_k fun K1 hK1=>?_;refine aS fun K hK=>?_;simp -dsimp;refine callK_may _ (fun hm=>hw) (by simp) ?_;simp -dsimp;refine callK_may _ (fun hm=>(hwl (by simp at hm;exact hm.1.1))) (by simp) ?_;simp -dsimp;apply hK;clear hK K;refine awp_cond rfl (fun hc0=>?_) (fun hc0=>?_)
 ·refine aS fun K hK=>?_;simp -dsimp;apply hK;clear hK K;exact awp_ret (by simp)
 ·exfalso;simp at hc0;simp[hc0]at h
theorem c_tCovers_t (p:Plan) (l:List Move) (front long:Int) (hv:validB p=true) (hw:wayB p l=true) (h1:1≤long) (h2:long≤front) (h3:front≤begTo p l l.length):
  PureCall Tryz.prog 10 [p.av, .lst 2 (l.map Move.cells),I front,I long] (.tup [.lst 3 ((cvTo p l front long l.length).map Cover.cells),I 0]):=by
 have hl:=way_len hw;have hop:=c_open_t p hv;have hwy:=c_way p l hv (by omega);have hwl:=c_wayLength p l hv hw;rw[hw]at hwy;have hbl:=begTo_bd hv hw l.length (Nat.le_refl _);unfold net at hop hwy hwl;refine PureCall.of_body Tryz.func10 rfl (by decide) (by simp[Tryz.ntmps10]) ?_;simp only[Tryz.ntmps10,Tryz.results10];refine aS fun K hK=>?_;simp -dsimp;apply hK;clear hK K;refine aS fun K hK=>?_;simp -dsimp;refine callK_intro _ (hop) (by simp) ?_;simp -dsimp;apply hK;clear hK K;refine awp_seq_k fun K1 hK1=>?_;refine aS fun K hK=>?_;simp -dsimp;refine callK_may _ (fun hm=>hwy) (by simp) ?_;simp -dsimp;refine callK_may _ (fun hm=>hwl) (by simp) ?_;simp -dsimp;apply hK;clear hK K;refine awp_cond rfl (fun hc0=>?_) (fun hc0=>?_)
 ·simp at hc0;omega
 ·refine awp_skip ?_;simp only[zT,reduceIte,Nat.reduceEqDiff];refine hK1 _ _ ?_;refine awp_prune [1,2,3,10] ?_;simp only[zP,Nat.reduceEqDiff,reduceIte];refine aS fun K hK=>?_;simp -dsimp;apply hK;clear hK K;refine aS fun K hK=>?_;simp -dsimp;apply hK;clear hK K;refine awp_seq_k fun K2 hK2=>?_;refine aS fun K hK=>?_;simp -dsimp;apply hK;clear hK K;refine awp_block ?_;refine awp_prune [2,3,10,12,13,48,49,50] ?_;simp only[zP,Nat.reduceEqDiff,reduceIte];refine awp_loop_l [2,3,10,48,49] (α:=Nat) (fun i=>[(50,I i),(13,I (begTo p l i)),(12, .row 1 0 (cvTo p l front long i).length)]) (fun i=>[some (.els 2 [p.cells]),some (.els 3 ((cvTo p l front long i).map Cover.cells))]) (fun i=>i≤l.length) (fun i=>l.length-i) 0 ?_ ?_ ?_
  ·simp
  ·exact(sub_nil 12 3 (by simp)).trans (sub_rb [some 0,some 1] rfl (by simp[cvTo,begTo]) (by simp[cvTo]))
  rintro i i1;have hcl:=cvTo_len p l front long i;have hcs:=cvTo_succ p l front long i;simp only[zP,Nat.reduceEqDiff,reduceIte];refine aS fun K hK=>?_;simp -dsimp;apply hK;clear hK K;refine awp_seq_k fun K3 hK3=>?_;refine awp_cond rfl (fun hc1=>?_) (fun hc1=>?_)
  ·skip
   try simp at hc1
   obtain⟨m,hgm⟩:∃m,l[i]?=some m:=⟨_,List.getElem?_eq_getElem hc1⟩;have wi:=zW i (by omega);have hma:mvAt l i=m:=by simp[mvAt,hgm]
   have hmv:=way_mov hw i hc1;have hb0:=begTo_bd hv hw i (by omega);have hb1:=begTo_bd hv hw (i+1) (by omega);have hbs:begTo p l (i+1)=begTo p l i+p.len m.Rail:=by simp only[begTo];rw[hma]
   rw[hma]at hmv hcs;have hmr:=movB_iff.1 hmv;have hlb:=len_bd hv hmr.1 hmr.2;have hlg:(lensA p p.Rails.length)[m.Rail.toNat]?=some [I (p.len m.Rail)]:=by rw[lensA_get (by omega),show((m.Rail.toNat:Nat):Int)=m.Rail by omega]
   generalize hB:begTo p l i=B at hb0 hbs hcs ⊢;have ws:IntKind.i64.wrap (B+p.len m.Rail)=begTo p l (i+1):=by rw[←hbs];exact wrap_in (by omega) (by omega)
   have wa:IntKind.i64.wrap (front-long)=front-long:=wrap_in (by omega) (by omega);have wb:IntKind.i64.wrap (front-long-B)=front-long-B:=wrap_in (by omega) (by omega);have wc:IntKind.i64.wrap (front-B)=front-B:=wrap_in (by omega) (by omega);have hF:(if front-long-B<0 then 0 else front-long-B)=cvF front long B:=rfl;have hT:(if p.len m.Rail<front-B then p.len m.Rail else front-B)=cvT front B (p.len m.Rail):=rfl;have hFb:0≤cvF front long B∧cvF front long B≤100000000000:=by unfold cvF;split<;>omega
   have hTb:-100000000000≤cvT front B (p.len m.Rail)∧cvT front B (p.len m.Rail)≤100000000000:=by unfold cvT;split<;>omega
   generalize hO:cvTo p l front long i=O at hcl hcs ⊢;have f1:Fits (O.length+1) 25:=fits_of (by omega) (by omega);have hot:=cov_take O;unfold cvStep at hcs;generalize cvF front long B=F at hF hFb hcs;generalize cvT front B (p.len m.Rail)=TT at hT hTb hcs;have wd:IntKind.i64.wrap (p.len m.Rail-TT)=p.len m.Rail-TT:=wrap_in (by omega) (by omega);have we:IntKind.i64.wrap (p.len m.Rail-F)=p.len m.Rail-F:=wrap_in (by omega) (by omega);refine awp_skip ?_;simp only[zT,reduceIte,Nat.reduceEqDiff];refine hK3 _ _ ?_;refine awp_prune [2,3,10,12,13,48,49,50] ?_;simp only[zP,Nat.reduceEqDiff,reduceIte];refine awp_seq_k fun K4 hK4=>?_;refine awp_block ?_;refine aS fun K hK=>?_;simp -dsimp [hgm];apply hK;clear hK K;refine awp_sd mixed rfl fun K hK=>?_;simp -dsimp [hlg,hmr.1];refine hK _ _ _ (by decide+kernel) ?_;clear hK K;refine aS fun K hK=>?_;simp -dsimp [wa,wb,wc,hF,hT];apply hK;clear hK K;refine aS fun K hK=>?_;simp -dsimp [ws];apply hK;clear hK K;refine awp_seq_k fun K5 hK5=>?_;refine aS fun K hK=>?_;simp -dsimp;apply hK;clear hK K;refine awp_cond rfl (fun hc2=>?_) (fun hc2=>?_)
   ·skip
    try simp at hc2
    rw[if_pos hc2,List.append_nil]at hcs;refine awp_exit ?_;simp only[zT,reduceIte,Nat.reduceEqDiff];refine hK4 _ _ ?_;refine awp_prune [2,3,10,12,13,48,49,50] ?_;simp only[zP,Nat.reduceEqDiff,reduceIte];refine aR fun K hK=>?_;simp -dsimp [wi];apply hK;clear hK K;simp only[zT,reduceIte,Nat.reduceEqDiff];exact⟨i+1,by omega,by omega,sub_rb [some 0,some 1] rfl (by simp[hcs]) (by simp[hcs])⟩
   ·skip
    try simp at hc2
    rw[if_neg (by omega)]at hcs;refine awp_skip ?_;simp only[zT,reduceIte,Nat.reduceEqDiff];refine hK5 _ _ ?_;refine awp_prune [2,3,10,12,13,15,16,17,18,48,49,50] ?_;simp only[zP,Nat.reduceEqDiff,reduceIte];refine awp_seq_k fun K6 hK6=>?_;refine aS fun K hK=>?_;simp -dsimp;apply hK;clear hK K;refine awp_cond rfl (fun hc3=>?_) (fun hc3=>?_)
    ·skip
     try simp at hc3
     rw[hc3,if_pos rfl]at hcs;refine aR fun K hK=>?_;simp -dsimp [wd,we];apply hK;clear hK K;simp only[zT,reduceIte,Nat.reduceEqDiff];refine hK6 _ _ ?_;refine awp_prune [2,3,10,12,13,15,17,18,48,49,50] ?_;simp only[zP,Nat.reduceEqDiff,reduceIte];refine aR fun K hK=>?_;simp -dsimp [f1];apply hK;clear hK K;simp only[zT,reduceIte,Nat.reduceEqDiff];refine hK4 _ _ ?_;refine awp_prune [2,3,10,12,13,48,49,50] ?_;simp only[zP,Nat.reduceEqDiff,reduceIte];refine aR fun K hK=>?_;simp -dsimp [wi];apply hK;clear hK K;simp only[zT,reduceIte,Nat.reduceEqDiff];exact⟨i+1,by omega,by omega,sub_rb [some 0,some 3] rfl (by simp[hcs]) (by simp[hcs,hot])⟩
    ·skip
     try simp at hc3
     rw[hc3,if_neg (by simp)]at hcs;refine awp_skip ?_;simp only[zT,reduceIte,Nat.reduceEqDiff];refine hK6 _ _ ?_;refine awp_prune [2,3,10,12,13,15,17,18,48,49,50] ?_;simp only[zP,Nat.reduceEqDiff,reduceIte];refine aR fun K hK=>?_;simp -dsimp [f1];apply hK;clear hK K;simp only[zT,reduceIte,Nat.reduceEqDiff];refine hK4 _ _ ?_;refine awp_prune [2,3,10,12,13,48,49,50] ?_;simp only[zP,Nat.reduceEqDiff,reduceIte];refine aR fun K hK=>?_;simp -dsimp [wi];apply hK;clear hK K;simp only[zT,reduceIte,Nat.reduceEqDiff];exact⟨i+1,by omega,by omega,sub_rb [some 0,some 3] rfl (by simp[hcs]) (by simp[hcs,hot])⟩
  ·skip
   try simp at hc1
   have hie:i=l.length:=by omega
   subst hie;refine awp_exit ?_;simp only[zT,reduceIte,Nat.reduceEqDiff];refine hK2 _ _ ?_;refine awp_prune [12] ?_;simp only[zP,Nat.reduceEqDiff,reduceIte];refine aS fun K hK=>?_;simp -dsimp;apply hK;clear hK K;exact awp_ret (by simp[cov_take])
end Go.Tram
end
section
namespace Go.Tram
open Go.AM Go.Proofs
abbrev mLst (l:List Move):AV:= .lst 2 (l.map Move.cells)
end Go.Tram
end
section
namespace Go.Mo
open Go.AM Go.Cur Go.Proofs
open Go.Tram (Plan validB wayB begTo mvAt movB mLst begTo_bd way_mov way_len len_bd movB_iff valid_parts railB railA)
abbrev Mv:=Go.Tram.Move
structure BegOk (p:Plan) (l:List Mv) (t:Tn) (st:Int) (sp:List Int):Prop where
 ok:okT t=true
 s0:0≤st
 s1:st<t.Grip.length
 v:validB p=true
 w:wayB p l=true
 n:2≤sp.length∧sp.length≤100
 a:t.Length≤at0 sp 0
 z:at0 sp (sp.length-1)≤begTo p l l.length
 up:∀i:Nat,i+1<sp.length→at0 sp i<at0 sp (i+1:Nat)
theorem BegOk.mono {p :Plan} {l:List Mv} {t:Tn} {st:Int} {sp:List Int} (h:BegOk p l t st sp):∀(j i:Nat),i≤j→j<sp.length→at0 sp i≤at0 sp j
  | 0, i, hi, _ => by obtain rfl:i=0:=by omega
                      exact Int.le_refl _
  | j +1,i,hi,hj=>by
    rcases Nat.lt_or_ge i (j+1)with h1|h1
    · have:=h.mono j i (by omega) (by omega)
      have:=h.up j hj;omega
    · obtain rfl:i=j+1:=by omega
      exact Int.le_refl _
theorem BegOk.bd {p:Plan} {l:List Mv} {t:Tn} {st:Int} {sp:List Int} (h:BegOk p l t st sp) {i:Nat} (hi:i<sp.length):t.Length≤at0 sp i∧at0 sp i≤62000000000:=by
 have h1:=h.mono i 0 (by omega) hi;have h2:=h.mono (sp.length-1) i (by omega) (by have:=h.n;omega);have h3:=h.a;have h4:=h.z;have h5:=(begTo_bd h.v h.w l.length (Nat.le_refl _)).2;have h6:=(way_len h.w).2;have e:((sp.length-1:Nat):Int)=(sp.length:Int)-1:=by have:=h.n;omega
 rw[e]at h2;have e0:((0:Nat):Int)=0:=rfl;rw[e0]at h1;exact⟨Int.le_trans h3 h1,by omega⟩
end Go.Mo
end
section
namespace Go.Mo
open Go.AM Go.Cur Go.Proofs
open Go.Tram (Plan validB wayB begTo mvAt movB mLst begTo_bd way_mov way_len len_bd movB_iff)
def Rn.x0 (r:Rn):Ms:=⟨0,10*r.t.Mass*at0 r.stops 0⟩
end Go.Mo
end
section
namespace Go.Mo
open Go.AM Go.Cur Go.Proofs
abbrev z0:Ms→Int:=fun _=>0
def lastK (t:Tn) (st:Int) (k:Nat) (x:Ms):Ms:=(stopN t st z0 k x).getLastD x
theorem lastK_zero (t:Tn) (st:Int) (x:Ms):lastK t st 0 x=x:=rfl
theorem getLastD_cons {α:Type} (y:α) (L:List α) (x:α):(y::L).getLastD x=L.getLastD y:=by cases L<;>rfl
theorem lastK_succ (t:Tn) (st:Int) (k:Nat) (x:Ms):lastK t st (k+1) x=if x.P=0 then x else if nextP t st x (-4) 0≤25000*t.Mass then lastK t st k (afterX t st x (-4) 0)else x:=by
 unfold lastK;rw[stopN]
 split
 ·rfl
 ·split
  ·rw[getLastD_cons]
  ·rfl
def brkS (t:Tn) (st:Int):Int:=brakeF t st 0 (-4)+t.Resist
theorem next_flat {t:Tn} {st:Int} (hr:t.Rise=0) {x:Ms} (hp:0<x.P):nextP t st x (-4) 0=if x.P-100*brkS t st<0 then 0 else x.P-100*brkS t st:=by
 have e1:pullF t st (spd t x) (-4)=0:=by unfold pullF;rw[if_pos (by omega)]
 have e2:dragF t (spd t x)=t.Resist:=by unfold dragF;rw[hr];simp
 have e3:hillF t 0=0:=by unfold hillF;simp
 have e4:brakeF t st (spd t x) (-4)=brakeF t st 0 (-4):=rfl;have hs:sumF t st x (-4) 0=-brkS t st:=by unfold sumF brkS;rw[e1,e2,e3,e4];omega
 have hst:stops t st x (-4) 0=decide (x.P-100*brkS t st<0):=by
  unfold stops;rw[hs,decide_eq_false (show¬x.P=0 by omega),Bool.false_and,Bool.or_false];exact decide_eq_decide.2 (by omega)
 unfold nextP;rw[hst,hs]
 by_cases h:x.P-100*brkS t st<0
 ·rw[if_pos h,if_pos (decide_eq_true h)]
 ·rw[if_neg h,if_neg (by simpa using h)];omega
theorem brkS_nn {t:Tn} {st:Int} (hb:TnB t st):0≤brkS t st:=by
 have h1:=brake_bd (v:=0) (d:=-4) hb (by omega) (by omega);have h2:=hb.re;unfold brkS;omega
theorem lastK_up {t:Tn} {st:Int} (hb:TnB t st):∀(k:Nat) (x:Ms) (B:Int),MsB t x→x.W≤B→B+k*2100000000≤900000000000000000→x.W≤(lastK t st k x).W:=by
 intro k
 induction k with
 |zero=>intro x B _ _ _;exact Int.le_refl _
 | succ k ih=>
  intro x B hx hw hB;rw[lastK_succ]
  split
  ·exact Int.le_refl _
  ·split
   ·rename_i hq;have ha:Ask t st x (-4) 0:=⟨hb,hx,by omega,by omega⟩;have hn:=next_bd ha;have e:(afterX t st x (-4) 0).W=x.W+nextP t st x (-4) 0:=rfl;have:=ih _ (B+2100000000) (step_ok ha (by omega) hq) (by rw[e];omega) (by omega);rw[e]at this;omega
   ·exact Int.le_refl _
theorem lastK_mono {t:Tn} {st:Int} (hb:TnB t st) (hr:t.Rise=0):∀(k:Nat) (x1 x2:Ms) (B:Int),MsB t x1→MsB t x2→x1.P≤x2.P→x1.W≤x2.W→x2.W≤B→B+k*2100000000≤900000000000000000→(lastK t st k x2).P=0→
  (lastK t st k x1).P=0∧(lastK t st k x1).W≤(lastK t st k x2).W:=by
 intro k
 induction k with
 |zero=>
  intro x1 x2 B h1 h2 hp hw _ _ h0;rw[lastK_zero]at h0 ⊢;have:=h1.p;exact⟨by omega,hw⟩
 | succ k ih=>
  intro x1 x2 B h1 h2 hp hw hW hB h0;have hs:=brkS_nn hb;have up2:=lastK_up hb (k+1) x2 B h2 hW hB
  by_cases hz:x1.P=0
  ·have e1:lastK t st (k+1) x1=x1:=by rw[lastK_succ,if_pos hz]
   rw[e1];exact⟨hz,by omega⟩
  ·have p1:=h1.p;have p2:=h2.p;have n1:=next_flat (st:=st) hr (x:=x1) (by omega);have n2:=next_flat (st:=st) hr (x:=x2) (by omega);have q1:nextP t st x1 (-4) 0≤25000*t.Mass:=by rw[n1];split<;>omega
   have q2:nextP t st x2 (-4) 0≤25000*t.Mass:=by rw[n2];split<;>omega
   have a1:Ask t st x1 (-4) 0:=⟨hb,h1,by omega,by omega⟩;have a2:Ask t st x2 (-4) 0:=⟨hb,h2,by omega,by omega⟩;have b2:=next_bd a2;have e1:lastK t st (k+1) x1=lastK t st k (afterX t st x1 (-4) 0):=by rw[lastK_succ,if_neg hz,if_pos q1]
   have e2:lastK t st (k+1) x2=lastK t st k (afterX t st x2 (-4) 0):=by rw[lastK_succ,if_neg (by omega),if_pos q2]
   rw[e2]at h0;rw[e1,e2];refine ih _ _ (B+2100000000) (step_ok a1 (by omega) q1) (step_ok a2 (by omega) q2) ?_ ?_ ?_ (by omega) h0
   ·show nextP t st x1 (-4) 0≤nextP t st x2 (-4) 0;rw[n1,n2];split<;>split<;>omega
   ·show x1.W+nextP t st x1 (-4) 0≤x2.W+nextP t st x2 (-4) 0;rw[n1,n2];split<;>split<;>omega
   ·show x2.W+nextP t st x2 (-4) 0≤_;omega
def okV (t:Tn) (st dist:Int) (v:Nat):Bool:=decide ((lastX t st z0 ⟨v*t.Mass,0⟩).P=0)&&decide (brkF t st ⟨v*t.Mass,0⟩ 0≤dist)
def sgtF (t:Tn) (st dist:Int):Nat→Nat
 |0=>0
 |n+1=>if okV t st dist (n+1)=true then n+1 else sgtF t st dist n
theorem sgt_ok (t:Tn) (st dist:Int):∀n,sgtF t st dist n≤n∧(sgtF t st dist n=0∨okV t st dist (sgtF t st dist n)=true)
 |0=>⟨Nat.le_refl _,Or.inl rfl⟩
 |n+1=>by
  rw[sgtF]
  split
  ·rename_i h;exact⟨Nat.le_refl _,Or.inr h⟩
  ·have:=sgt_ok t st dist n;exact⟨by omega,this.2⟩
theorem msb_v {t:Tn} {st:Int} (hb:TnB t st) {v:Int} (h0:0≤v) (h1:v≤25000):MsB t ⟨v*t.Mass,0⟩:=by
 have hm:=hb.ma;have a:=Int.mul_nonneg h0 (show 0≤t.Mass by omega);have b:=Int.mul_le_mul_of_nonneg_right h1 (show 0≤t.Mass by omega);exact⟨⟨a,b⟩,⟨Int.le_refl _,by show(0:Int)≤_;omega⟩⟩
theorem c_Sight (t:Tn) (st dist:Int) (h:okT t=true) (h0:0≤st) (h1:st<t.Grip.length) (hd:0≤dist∧dist≤1000000):PureCall Tryz.prog 11 [t.av,I 0,I st,I dist] (.tup [I (sgtF t st dist t.Speed.toNat:Nat),I 0]):=by
 have hb:=okT_b h h0 h1;have ha:askB t ⟨0,0⟩ 0 0=true:=by
  have hm:=hb.ma;simp only[askB,Bool.and_eq_true,inr_iff];omega
 have hm:=c_asked_m t st ⟨0,0⟩ 0 0 h h0 h1;rw[ha]at hm;have hw:=c_within dist 0 1000000;have hwt:inr dist 0 1000000=true:=by rw[inr_iff];omega
 rw[hwt]at hw;have hsp:1≤t.Speed∧t.Speed≤25000:=by simp only[okT,Bool.and_eq_true,inr_iff]at h;omega
 have hts:((t.Speed.toNat:Nat):Int)=t.Speed:=Int.toNat_of_nonneg (by omega);generalize hR:sgtF t st dist t.Speed.toNat=R;have hma:=hb.ma;refine PureCall.of_body Tryz.func11 rfl (by decide) (by simp[Tryz.ntmps11]) ?_;simp only[Tryz.ntmps11,Tryz.results11];refine aS fun K hK=>?_;simp -dsimp;apply hK;clear hK K;refine aS fun K hK=>?_;simp -dsimp;refine callK_intro _ (hm) (by simp) ?_;simp -dsimp;apply hK;clear hK K;refine awp_seq_k fun K1 hK1=>?_;refine aS fun K hK=>?_;simp -dsimp;refine callK_may _ (fun hm=>hw) (by simp) ?_;simp -dsimp;apply hK;clear hK K;refine awp_cond rfl (fun hc0=>?_) (fun hc0=>?_)
 ·simp at hc0
 ·refine awp_skip ?_;simp only[zT,reduceIte,Nat.reduceEqDiff];refine hK1 _ _ ?_;refine awp_prune [1,3,4,10] ?_;simp only[zP,Nat.reduceEqDiff,reduceIte];refine awp_seq_k fun K2 hK2=>?_;refine aS fun K hK=>?_;simp -dsimp;apply hK;clear hK K;refine awp_block ?_;refine awp_prune [1,3,4,10,12] ?_;simp only[zP,Nat.reduceEqDiff,reduceIte];refine awp_loop_l [1,3,4,10] (α:=Nat) (fun k=>[(12,I k)]) (fun _=>[some (.els 10 [t.cells])]) (fun k=>(k:Int)≤t.Speed∧sgtF t st dist k=R) (fun k=>k) t.Speed.toNat ?_ ?_ ?_
  ·exact⟨by omega,hR⟩
  ·exact sub_rb [some 0] rfl (by simp[hts]) (by simp)
  rintro k ⟨k1,k2⟩;simp only[zP,Nat.reduceEqDiff,reduceIte];refine awp_seq_k fun K3 hK3=>?_;refine aS fun K hK=>?_;simp -dsimp;apply hK;clear hK K;refine awp_cond rfl (fun hc1=>?_) (fun hc1=>?_)
  ·have hk0:0<k:=by simpa using hc1
   obtain⟨n,rfl⟩:∃n,k=n+1:=⟨k-1,by omega⟩;have hmb:=msb_v hb (v:=((n+1:Nat):Int)) (by omega) (by omega);have hbr:=c_braking t st ⟨((n+1:Nat):Int)*t.Mass,0⟩ 0 hb hmb (by show(0:Int)≤_;omega) (by omega);have hvm:=hmb.p;simp only at hvm;have wv:IntKind.i64.wrap (((n+1:Nat):Int)*t.Mass)=((n+1:Nat):Int)*t.Mass:=wrap_in (by omega) (by omega);have wk:IntKind.i64.wrap (((n+1:Nat):Int)-1)=n:=by rw[wrap_in (by omega) (by omega)];omega
   rw[sgtF]at k2;have hov:okV t st dist (n+1)=(decide ((lastX t st z0 ⟨((n+1:Nat):Int)*t.Mass,0⟩).P=0)&&decide (brkF t st ⟨((n+1:Nat):Int)*t.Mass,0⟩ 0≤dist)):=rfl;obtain⟨v,hv⟩:∃v:Int,v=((n+1:Nat):Int):=⟨_,rfl⟩;rw[←hv]at hbr wv wk hov ⊢;refine awp_skip ?_;simp only[zT,reduceIte,Nat.reduceEqDiff];refine hK3 _ _ ?_;refine awp_prune [1,3,4,10,12] ?_;simp only[zP,Nat.reduceEqDiff,reduceIte];refine awp_seq_k fun K4 hK4=>?_;refine awp_block ?_;refine aS fun K hK=>?_;simp -dsimp [wv];refine callK_intro _ (hbr) (by simp) ?_;simp -dsimp [wv];apply hK;clear hK K;refine aS fun K hK=>?_;simp -dsimp;apply hK;clear hK K;refine awp_cond rfl (fun hc2=>?_) (fun hc2=>?_)
   ·have hok:okV t st dist (n+1)=true:=by rw[hov];simpa using hc2
    rw[if_pos hok]at k2;refine aS fun K hK=>?_;simp -dsimp;apply hK;clear hK K;exact awp_ret (by simp[←k2,hv])
   ·have hok:¬okV t st dist (n+1)=true:=by rw[hov];simpa using hc2
    rw[if_neg hok]at k2;refine awp_skip ?_;simp only[zT,reduceIte,Nat.reduceEqDiff];refine hK4 _ _ ?_;refine awp_prune [1,3,4,10,12] ?_;simp only[zP,Nat.reduceEqDiff,reduceIte];refine aR fun K hK=>?_;simp -dsimp [wk];apply hK;clear hK K;simp only[zT,reduceIte,Nat.reduceEqDiff];exact⟨n,⟨by omega,k2⟩,by omega,sub_rb [some 0] rfl (by simp) (by simp)⟩
  ·have hk0:k=0:=by have:¬0<k:=(by simpa using hc1);omega
   subst hk0;rw[sgtF]at k2;refine awp_exit ?_;simp only[zT,reduceIte,Nat.reduceEqDiff];refine hK2 _ _ ?_;refine awp_prune [] ?_;simp only[zP,Nat.reduceEqDiff,reduceIte];refine aS fun K hK=>?_;simp -dsimp;apply hK;clear hK K;exact awp_ret (by simp[←k2])
theorem sight_brk {t:Tn} {st dist sl:Int} (h:okT t=true) (h0:0≤st) (h1:st<t.Grip.length) (hd:0≤dist) (hs:0≤sl) (hr:sl=0∨t.Rise=0) {n:Nat} (hn:(n:Int)≤25000) {v:Nat} (hv:v=sgtF t st dist n) {q:Int} (hq:q=if (v:Int)-sl<0 then 0 else(v:Int)-sl):
  MsB t ⟨q*t.Mass,0⟩∧(lastX t st z0 ⟨q*t.Mass,0⟩).P=0∧0≤brkF t st ⟨q*t.Mass,0⟩ 0∧brkF t st ⟨q*t.Mass,0⟩ 0≤dist:=by
 have hb:=okT_b h h0 h1;have hma:=hb.ma;obtain⟨g1,g2⟩:=sgt_ok t st dist n;rw[←hv]at g1 g2;have hq0:0≤q∧q≤v:=by rw[hq];split<;>omega
 have hmq:=msb_v hb hq0.1 (show q≤25000 by omega);have hmv:=msb_v hb (v:=(v:Int)) (by omega) (by omega);have key:(lastX t st z0 ⟨q*t.Mass,0⟩).P=0∧(lastX t st z0 ⟨q*t.Mass,0⟩).W≤(lastX t st z0 ⟨(v:Int)*t.Mass,0⟩).W∧brkF t st ⟨(v:Int)*t.Mass,0⟩ 0≤dist:=by
  rcases g2 with g2|g2
  ·have e:(v:Int)=0:=by omega
   have eq0:q=0:=by omega
   have el:∀y:Ms,y.P=0→lastX t st z0 y=y:=fun y hy=>by show lastK t st 36000 y=y;rw[lastK_succ,if_pos hy]
   rw[e,eq0,el _ (by simp)];refine⟨by simp,Int.le_refl _,?_⟩;unfold brkF;rw[el _ (by simp)];omega
  ·unfold okV at g2;simp only[Bool.and_eq_true,decide_eq_true_eq]at g2
   rcases hr with hr|hr
   ·have e:q=v:=by rw[hq,hr];split<;>omega
    rw[e];exact⟨g2.1,Int.le_refl _,g2.2⟩
   ·have hle:q*t.Mass≤(v:Int)*t.Mass:=Int.mul_le_mul_of_nonneg_right hq0.2 (by omega);have:=lastK_mono hb hr 36000 ⟨q*t.Mass,0⟩ ⟨(v:Int)*t.Mass,0⟩ 0 hmq hmv hle (Int.le_refl _) (Int.le_refl _) (by omega) g2.1;exact⟨this.1,this.2,g2.2⟩
 have hu:=lastK_up hb 36000 ⟨q*t.Mass,0⟩ 0 hmq (Int.le_refl _) (by omega);refine⟨hmq,key.1,?_,Int.le_trans ?_ key.2.2⟩
 ·unfold brkF plF;have hlw:0≤(lastX t st z0 ⟨q*t.Mass,0⟩).W:=hu;rw[Int.tdiv_eq_ediv_of_nonneg hlw];have:=Int.ediv_nonneg hlw (show 0≤10*t.Mass by omega);simp;omega
 ·unfold brkF plF;have hlw:0≤(lastX t st z0 ⟨q*t.Mass,0⟩).W:=hu;rw[Int.tdiv_eq_ediv_of_nonneg hlw,Int.tdiv_eq_ediv_of_nonneg (Int.le_trans hlw key.2.1)];have:=Int.ediv_le_ediv (c:=10*t.Mass) (by omega) key.2.1;simp only[Int.zero_tdiv];omega
end Go.Mo
end
section
namespace Go.Tram
open Go.AM Go.Proofs
theorem sub_full {α:Type} [DecidableEq α]:∀(l u:List α),l.Nodup→(∀x∈l,x∈u)→u.length≤l.length→∀x∈u,x∈l
 |[],u,_,_,h,x,hx=>by
  have:u=[]:=List.length_eq_zero_iff.1 (by simpa using h);rw[this]at hx;cases hx
 | a::l,u,hn,hs,h,x,hx=>by
  rw[List.nodup_cons]at hn
  by_cases e:x=a
  ·simp[e]
  ·have ha:a∈u:=hs a (by simp);have hlen:=List.length_erase_of_mem ha;have hup:0<u.length:=List.length_pos_of_mem ha;refine List.mem_cons_of_mem _ (sub_full l (u.erase a) hn.2 (fun y hy=>?_) (by simp at h;omega) x ((List.mem_erase_of_ne e).2 hx));have hya:y≠a:=by rintro rfl;exact hn.1 hy
   exact(List.mem_erase_of_ne hya).2 (hs y (by simp[hy]))
theorem endsOf_mem {p:Plan}:∀{n:Nat} {x:Nat×REnd},x∈endsOf p n→x.1<n∧∃j:Nat,(p.node x.1).Ends[j]?=some x.2
 |0,x,h=>by simp[endsOf]at h
 |n+1,x,h=>by
  simp only[endsOf,List.mem_append,List.mem_map]at h
  rcases h with h|⟨e,he,rfl⟩
  ·obtain⟨h1,h2⟩:=endsOf_mem h;exact⟨by omega,h2⟩
  ·obtain⟨j,hj⟩:=List.getElem?_of_mem he;exact⟨by simp,j,hj⟩
theorem validE_of {p:Plan} (hv:validB p=true):(∀x∈endsOf p p.Nodes.length,endB p x=true)∧((endsOf p p.Nodes.length).map (·.2)).Nodup∧(endsOf p p.Nodes.length).length=2*p.Rails.length:=by
 have h:=(valid_parts hv).2.2.2.2;simp only[validE,Bool.and_eq_true,List.all_eq_true,decide_eq_true_eq]at h;exact⟨h.1,h.2.1,h.2.2⟩
theorem end_there {p:Plan} (hv:validB p=true) {e:REnd} (h0:0≤e.Rail) (h1:e.Rail<p.Rails.length):∃i:Nat,i<p.Nodes.length∧p.at e=i∧∃j:Nat,(p.node i).Ends[j]?=some e:=by
 obtain⟨hall,hnd,hlen⟩:=validE_of hv;have hfull:=sub_full ((endsOf p p.Nodes.length).map (·.2)) ((List.range p.Rails.length).flatMap fun(r:Nat)=>[(⟨r,false⟩:REnd),⟨r,true⟩]) hnd (fun x hx=>by
  obtain⟨y,hy,rfl⟩:=List.mem_map.1 hx;have:=hall y hy;simp only[endB,Bool.and_eq_true,decide_eq_true_eq,inr_iff]at this;rw[List.mem_flatMap];refine⟨y.2.Rail.toNat,List.mem_range.2 (by omega),?_⟩;obtain⟨y1,⟨r,b⟩⟩:=y;simp only at this ⊢;rw[show((r.toNat:Nat):Int)=r by omega]
  cases b<;>simp) (by
   have gen:∀n:Nat,((List.range n).flatMap fun(r:Nat)=>[(⟨r,false⟩:REnd),⟨r,true⟩]).length=2*n:=by
    intro n
    induction n with
    |zero=>rfl
    |succ n ih=>rw[List.range_succ,List.flatMap_append,List.length_append,ih];simp;omega
   rw[gen,List.length_map,hlen];exact Nat.le_refl _) e (by
  rw[List.mem_flatMap];refine⟨e.Rail.toNat,List.mem_range.2 (by omega),?_⟩;obtain⟨r,b⟩:=e;simp only at h0 h1 ⊢;rw[show((r.toNat:Nat):Int)=r by omega]
  cases b<;>simp)
 obtain⟨x,hx,rfl⟩:=List.mem_map.1 hfull;obtain⟨h2,j,hj⟩:=endsOf_mem hx;exact⟨x.1,h2,(ends_rail hv h2 hj).2,j,hj⟩
theorem end_uniq {p:Plan} (hv:validB p=true) {i:Nat} (hi:i<p.Nodes.length) {j j':Nat} {e:REnd} (h:(p.node i).Ends[j]?=some e) (h':(p.node i).Ends[j']?=some e):j=j':=by
 have key:∀{j j':Nat},(p.node i).Ends[j]?=some e→(p.node i).Ends[j']?=some e→¬j'<j:=by
  intro j j' h h' hlt;have hm:(i,e)∈curE p i j:=by
   unfold curE;rw[List.mem_append,List.mem_map];refine Or.inr ⟨e,?_,rfl⟩;have:((p.node i).Ends.take j)[j']?=some e:=by rw[List.getElem?_take,if_pos hlt];exact h'
   exact List.mem_of_getElem? this
  obtain⟨m,hmm⟩:=List.getElem?_of_mem hm;have:=valid_ff_dup hi h hmm rfl;rw[hv]at this;cases this
 have h1:=key h h';have h2:=key h' h;omega
theorem putE_none {kvs:List (List KC×Value)} {es:List REnd} {e:REnd}:∀n,n≤es.length→(∀j:Nat,j<n→es[j]?≠some e)→kvGet (putE kvs es n) (keyOf e)=kvGet kvs (keyOf e)
 |0,_,_=>rfl
 |n+1,hn,h=>by
  simp only[putE];rw[kvGet_set,if_neg,putE_none n (by omega) fun j hj=>h j (by omega)];intro hk;have:=keyOf_inj.1 hk;have h2:=h n (by omega);rw[List.getElem?_eq_getElem (by omega)]at this h2;simp only[Option.getD_some]at this;exact h2 (by rw[this])
theorem putE_some {kvs:List (List KC×Value)} {es:List REnd} {e:REnd} {j:Nat} (hj:es[j]?=some e):∀n,n≤es.length→j<n→(∀j':Nat,es[j']?=some e→j'=j)→kvGet (putE kvs es n) (keyOf e)=some (.int .i64 j)
 |0,_,h,_=>by omega
 |n+1,hn,h,hu=>by
  simp only[putE];rw[kvGet_set]
  by_cases e1:n=j
  ·subst e1;rw[hj];exact if_pos rfl
  ·rw[if_neg,putE_some hj n (by omega) (by omega) hu];intro hk;have:=keyOf_inj.1 hk;rw[List.getElem?_eq_getElem (by omega)]at this;simp only[Option.getD_some]at this;exact e1 (hu n (by rw[List.getElem?_eq_getElem (by omega),this]))
theorem place_at {p:Plan} (hv:validB p=true) {i:Nat} (hi:i<p.Nodes.length) {j:Nat} {e:REnd} (h:(p.node i).Ends[j]?=some e):plc p e=j:=by
 have hat:=(ends_rail hv hi h).2;have gen:∀k,k≤p.Nodes.length→i<k→kvGet (placesK p k) (keyOf e)=some (.int .i64 j):=by
  intro k
  induction k with
  |zero=>intro _ h;omega
  |succ k ih=>
   intro hk hik;simp only[placesK]
   by_cases e1:k=i
   ·subst e1;exact putE_some h _ (Nat.le_refl _) (List.getElem?_eq_some_iff.1 h).1 fun j' hj'=>end_uniq hv hi hj' h
   ·rw[putE_none _ (Nat.le_refl _),ih (by omega) (by omega)];intro j' _ hj';have:=(ends_rail hv (i:=k) (by omega) hj').2;omega
 have hg:=gen p.Nodes.length (Nat.le_refl _) hi;have hp:plcV p e= .int .i64 j:=by
  unfold plcV;have:kvGet (placesK p p.Nodes.length) [.i .i64 e.Rail, .b e.Last]=some (.int .i64 j):=hg;rw[this];rfl
 unfold plc;rw[hp]
def idxTo (e:REnd):List REnd→Int→Int
 |[],_=>-1
 |x::l,i=>if x=e then i else idxTo e l (i+1)
def idxE (n:Node) (e:REnd):Int:=idxTo e n.Ends 0
theorem idxTo_some {e:REnd}:∀(l:List REnd) (i:Int) (j:Nat),l[j]?=some e→(∀j':Nat,l[j']?=some e→j'=j)→idxTo e l i=i+j
 |[],i,j,h,_=>by simp at h
 | x::l,i,j,h,hu=>by
  simp only[idxTo]
  split
  ·rename_i hx;have:=hu 0 (by simp[hx]);omega
  ·rename_i hx
   cases j with
   |zero=>simp at h;exact absurd h hx
   |succ j=>
    rw[idxTo_some l (i+1) j (by simpa using h) fun j' hj'=>by have:=hu (j'+1) (by simpa using hj');omega];omega
theorem idxTo_none {e:REnd}:∀(l:List REnd) (i:Int),(∀j:Nat,l[j]?≠some e)→idxTo e l i=-1
 |[],i,_=>rfl
 |x::l,i,h=>by
  simp only[idxTo];rw[if_neg (by rintro rfl;exact h 0 (by simp))];exact idxTo_none l _ fun j=>by have:=h (j+1);simpa using this
theorem idxE_some {p:Plan} (hv:validB p=true) {i:Nat} (hi:i<p.Nodes.length) {j:Nat} {e:REnd} (h:(p.node i).Ends[j]?=some e):idxE (p.node i) e=j:=by
 unfold idxE;rw[idxTo_some _ 0 j h fun j' hj'=>end_uniq hv hi hj' h];omega
def rFoll (p:Plan) (m k:Move):Bool:=decide (0≤idxE (nodeAt p m) (arrE m))&&(decide (0≤idxE (nodeAt p m) (leaE k))&&letsB (nodeAt p m) (idxE (nodeAt p m) (arrE m)) (idxE (nodeAt p m) (leaE k)))
theorem node_of {p:Plan} (hv:validB p=true) {m:Move} (hm:movB p m=true):∃i:Nat,i<p.Nodes.length∧p.at (arrE m)=i∧nodeAt p m=p.node i∧∃j:Nat,(p.node i).Ends[j]?=some (arrE m)∧plc p (arrE m)=j∧idxE (p.node i) (arrE m)=j:=by
 have hm':=movB_iff.1 hm;obtain⟨i,hi,ha,j,hj⟩:=end_there hv (e:=arrE m) hm'.1 hm'.2;exact⟨i,hi,ha,by unfold nodeAt;rw[ha],j,hj,place_at hv hi hj,idxE_some hv hi hj⟩
theorem moveM_numM {m:Move} (h:0≤m.Rail):moveM (numM m)=m:=by
 obtain⟨r,b⟩:=m;simp only at h
 cases b
 ·simp only[numM,moveM,Bool.false_eq_true,if_false];rw[show 2*r/2=r by omega,decide_eq_false (by omega)]
 ·simp only[numM,moveM,if_true];rw[show(2*r+1)/2=r by omega,decide_eq_true (by omega)]
theorem numM_moveM {k:Int} (h:0≤k):numM (moveM k)=k:=by
 simp only[numM,moveM,decide_eq_true_eq]
 split<;>omega
theorem nx_mem {p:Plan} (hv:validB p=true) {m:Move} (hm:movB p m=true) {k:Int}:k∈nxTo p m (nodeAt p m).Ends.length↔0≤k∧k<2*p.Rails.length∧rFoll p m (moveM k)=true:=by
 obtain⟨i,hi,ha,hn,j,hj,hp,hx⟩:=node_of hv hm;simp only[nxTo,List.mem_flatMap,List.mem_range];constructor
 ·rintro⟨t,ht,hk⟩;unfold nxK at hk;rw[hn]at hk ht;rw[List.getElem?_eq_getElem ht]at hk;simp only at hk
  split at hk
  ·rename_i hl;simp only[List.mem_singleton]at hk;have hte:=List.getElem?_eq_getElem ht;generalize (p.node i).Ends[t]=e at hk hte;have her:=(ends_rail hv hi hte).1;have hb:0≤numM ⟨e.Rail,e.Last⟩∧numM ⟨e.Rail,e.Last⟩<2*p.Rails.length:=by simp only[numM];split<;>omega
   subst hk;refine⟨hb.1,hb.2,?_⟩;rw[moveM_numM her.1];have hle:leaE ⟨e.Rail,e.Last⟩=e:=rfl;simp only[rFoll,hn,hle,hx,idxE_some hv hi hte,Bool.and_eq_true,decide_eq_true_eq];rw[hp]at hl;exact⟨by omega,by omega,hl⟩
  ·simp at hk
 ·rintro⟨h0,h1,hf⟩;simp only[rFoll,hn,Bool.and_eq_true,decide_eq_true_eq]at hf;obtain⟨_,hb,hl⟩:=hf;have:∃t:Nat,(p.node i).Ends[t]?=some (leaE (moveM k)):=by
   by_cases h:∃t:Nat,(p.node i).Ends[t]?=some (leaE (moveM k))
   ·exact h
   ·have:=idxTo_none (e:=leaE (moveM k)) (p.node i).Ends 0 fun j hj=>h ⟨j,hj⟩;unfold idxE at hb;omega
  obtain⟨t,ht⟩:=this;rw[hx,idxE_some hv hi ht]at hl;refine⟨t,by rw[hn];exact(List.getElem?_eq_some_iff.1 ht).1,?_⟩;unfold nxK;rw[hn,ht,hp];simp only;rw[if_pos hl,List.mem_singleton];show k=numM (moveM k);rw[numM_moveM h0]
theorem foll_eq {p:Plan} (hv:validB p=true) {m k:Move} (hm:movB p m=true) (hk:movB p k=true):follB p m k=rFoll p m k:=by
 have hk':=movB_iff.1 hk;have hnb:0≤numM k∧numM k<2*p.Rails.length:=by unfold numM;split<;>omega
 rw[Bool.eq_iff_iff];unfold follB nextL;rw[List.any_eq_true];constructor
 ·rintro⟨x,hx,hxk⟩;simp only[decide_eq_true_eq]at hxk;subst hxk;obtain⟨q,hq,rfl⟩:=List.mem_map.1 hx;exact((nx_mem hv hm).1 (ins_mem'.1 hq)).2.2
 ·intro h;refine⟨k,List.mem_map.2 ⟨numM k,ins_mem'.2 ((nx_mem hv hm).2 ⟨hnb.1,hnb.2,?_⟩),moveM_numM hk'.1⟩,by simp⟩;rw[moveM_numM hk'.1];exact h
end Go.Tram
end
section
namespace Go.Tram
open Go.AM Go.Proofs
theorem c_Valid (p:Plan):PureCall Tryz.prog 19 [p.av] (Bo (validB p)):=by
 refine PureCall.of_body Tryz.func19 rfl (by decide) (by simp[Tryz.ntmps19]) ?_;simp only[Tryz.ntmps19,Tryz.results19];refine aS fun K hK=>?_;simp -dsimp;apply hK;clear hK K;refine awp_seq_k fun K1 hK1=>?_;refine aS fun K hK=>?_;simp -dsimp;refine callK_intro _ (c_in _ _ _) (by simp) ?_;simp -dsimp;refine callK_may _ (fun hm=>c_in _ _ _) (by simp) ?_;simp -dsimp;apply hK;clear hK K;refine awp_cond rfl (fun hc0=>?_) (fun hc0=>?_)
 ·skip
  try simp at hc0
  refine aS fun K hK=>?_;simp -dsimp;apply hK;clear hK K;refine awp_ret ?_;have:validB p=false:=by simp[validB,validA];intro h1 h2;rcases hc0 with hc0|hc0<;>simp_all
  simp[this]
 ·skip
  try simp at hc0
  have hN:=inr_iff.1 hc0.1;have hR:=inr_iff.1 hc0.2;refine awp_skip ?_;simp only[zT,reduceIte,Nat.reduceEqDiff];refine hK1 _ _ ?_;refine awp_prune [1] ?_;simp only[zP,Nat.reduceEqDiff,reduceIte];refine awp_seq_k fun K2 hK2=>?_;refine aS fun K hK=>?_;simp -dsimp;apply hK;clear hK K;refine awp_block ?_;refine awp_prune [1,3] ?_;simp only[zP,Nat.reduceEqDiff,reduceIte];refine awp_loop_l [1] (α:=Nat) (fun k=>[(3,I k)]) (fun _=>[some (.els 2 [p.cells])]) (fun k=>k≤p.Nodes.length∧(p.Nodes.take k).all nodeB=true) (fun k=>p.Nodes.length-k) 0 ?_ ?_ ?_
  ·simp
  ·exact sub_same (by simp)
  rintro k ⟨k1,k2⟩;simp only[zP,Nat.reduceEqDiff,reduceIte];refine awp_seq_k fun K3 hK3=>?_;refine aS fun K hK=>?_;simp -dsimp;apply hK;clear hK K;refine awp_cond rfl (fun hc1=>?_) (fun hc1=>?_)
  ·skip
   try simp at hc1
   have g0:=p.node_get (i:=(k:Int)) (by omega) (by omega);simp only[Int.toNat_natCast]at g0;have wi:=zW k (by omega);refine awp_skip ?_;simp only[zT,reduceIte,Nat.reduceEqDiff];refine hK3 _ _ ?_;refine awp_prune [1,3] ?_;simp only[zP,Nat.reduceEqDiff,reduceIte];refine awp_seq_k fun K4 hK4=>?_;refine awp_block ?_;refine aS fun K hK=>?_;simp -dsimp [g0];apply hK;clear hK K;refine aS fun K hK=>?_;simp -dsimp;apply hK;clear hK K;refine awp_seq_k fun K5 hK5=>?_;refine aS fun K hK=>?_;simp -dsimp;apply hK;clear hK K;refine awp_cond rfl (fun hc2=>?_) (fun hc2=>?_)
   ·skip
    try simp at hc2
    refine aR fun K hK=>?_;simp -dsimp;refine callK_intro _ (c_in _ _ _) (by simp) ?_;simp -dsimp;apply hK;clear hK K;simp only[zT,reduceIte,Nat.reduceEqDiff];refine hK5 _ _ ?_;refine awp_prune [1,3,4,5] ?_;simp only[zP,Nat.reduceEqDiff,reduceIte];refine awp_sd mixed rfl fun K hK=>?_;simp -dsimp;refine callK_intro _ (c_spot (p.node k).Spot) (by simp) ?_;simp -dsimp;refine callK_may _ (fun hm=>c_ends (p.node k).Kind) (by simp) ?_;simp -dsimp;refine callK_may _ (fun hm=>c_ends (p.node k).Kind) (by simp) ?_;simp -dsimp;refine hK _ _ _ (by decide+kernel) ?_;clear hK K;refine awp_cond rfl (fun hc3=>?_) (fun hc3=>?_)
    ·skip
     try simp at hc3
     refine aS fun K hK=>?_;simp -dsimp;apply hK;clear hK K;refine awp_ret ?_;have:nodeB (p.node k)=false:=by simp[nodeB,hc2];intro h1 h2 h3;simp_all
     simp[valid_ff_node g0 this]
    ·skip
     try simp at hc3
     refine awp_skip ?_;simp only[zT,reduceIte,Nat.reduceEqDiff];refine hK4 _ _ ?_;refine awp_prune [1,3] ?_;simp only[zP,Nat.reduceEqDiff,reduceIte];refine aR fun K hK=>?_;simp -dsimp [wi];apply hK;clear hK K;simp only[zT,reduceIte,Nat.reduceEqDiff];refine⟨k+1,⟨by omega,?_⟩,by omega,sub_rb [some 0] rfl (by simp) (by simp)⟩;rw[take_all' g0,k2];simp[nodeB,hc2,hc3]
   ·skip
    try simp at hc2
    refine awp_skip ?_;simp only[zT,reduceIte,Nat.reduceEqDiff];refine hK5 _ _ ?_;refine awp_prune [1,3,4,5] ?_;simp only[zP,Nat.reduceEqDiff,reduceIte];refine awp_sd mixed rfl fun K hK=>?_;simp -dsimp;refine callK_intro _ (c_spot (p.node k).Spot) (by simp) ?_;simp -dsimp;refine callK_may _ (fun hm=>c_ends (p.node k).Kind) (by simp) ?_;simp -dsimp;refine callK_may _ (fun hm=>c_ends (p.node k).Kind) (by simp) ?_;simp -dsimp;refine hK _ _ _ (by decide+kernel) ?_;clear hK K;refine awp_cond rfl (fun hc3=>?_) (fun hc3=>?_)
    ·skip
     try simp at hc3
     refine aS fun K hK=>?_;simp -dsimp;apply hK;clear hK K;refine awp_ret ?_;have:nodeB (p.node k)=false:=by simp[nodeB,hc2];intro h1 h2 h3;simp_all
     simp[valid_ff_node g0 this]
    ·skip
     try simp at hc3
     refine awp_skip ?_;simp only[zT,reduceIte,Nat.reduceEqDiff];refine hK4 _ _ ?_;refine awp_prune [1,3] ?_;simp only[zP,Nat.reduceEqDiff,reduceIte];refine aR fun K hK=>?_;simp -dsimp [wi];apply hK;clear hK K;simp only[zT,reduceIte,Nat.reduceEqDiff];refine⟨k+1,⟨by omega,?_⟩,by omega,sub_rb [some 0] rfl (by simp) (by simp)⟩;rw[take_all' g0,k2];simp[nodeB,hc2,hc3]
  ·skip
   try simp at hc1
   have hA:=all_of_take (by omega) k2;refine awp_exit ?_;simp only[zT,reduceIte,Nat.reduceEqDiff];refine hK2 _ _ ?_;refine awp_prune [1] ?_;simp only[zP,Nat.reduceEqDiff,reduceIte];refine awp_seq_k fun K6 hK6=>?_;refine aS fun K hK=>?_;simp -dsimp;apply hK;clear hK K;refine awp_block ?_;refine awp_prune [1,6] ?_;simp only[zP,Nat.reduceEqDiff,reduceIte];refine awp_loop_l [1] (α:=Nat) (fun k=>[(6,I k)]) (fun _=>[some (.els 2 [p.cells])]) (fun k=>k≤p.Rails.length∧(p.Rails.take k).all (railB p)=true) (fun k=>p.Rails.length-k) 0 ?_ ?_ ?_
   ·simp
   ·exact sub_same (by simp)
   rintro u ⟨u1,u2⟩;simp only[zP,Nat.reduceEqDiff,reduceIte];refine awp_seq_k fun K7 hK7=>?_;refine aS fun K hK=>?_;simp -dsimp;apply hK;clear hK K;refine awp_cond rfl (fun hc4=>?_) (fun hc4=>?_)
   ·skip
    try simp at hc4
    have r0:=p.rail_get (i:=(u:Int)) (by omega) (by omega);simp only[Int.toNat_natCast]at r0;have wu:=zW u (by omega);have wn:IntKind.i64.wrap ((p.Nodes.length:Int)-1)=(p.Nodes.length:Int)-1:=wrap_in (by omega) (by omega);refine awp_skip ?_;simp only[zT,reduceIte,Nat.reduceEqDiff];refine hK7 _ _ ?_;refine awp_prune [1,6] ?_;simp only[zP,Nat.reduceEqDiff,reduceIte];refine awp_seq_k fun K8 hK8=>?_;refine awp_block ?_;refine aS fun K hK=>?_;simp -dsimp [r0];apply hK;clear hK K;refine awp_seq_k fun K9 hK9=>?_;refine aS fun K hK=>?_;simp -dsimp [wn];refine callK_intro _ (c_in _ _ _) (by simp) ?_;simp -dsimp [wn];refine callK_may _ (fun hm=>c_in _ _ _) (by simp) ?_;simp -dsimp [wn];refine callK_may _ (fun hm=>c_in _ _ _) (by simp) ?_;simp -dsimp [wn];refine callK_may _ (fun hm=>c_in _ _ _) (by simp) ?_;simp -dsimp [wn];apply hK;clear hK K;refine awp_cond rfl (fun hc5=>?_) (fun hc5=>?_)
    ·skip
     try simp at hc5
     have hra:railA p (p.rail u)=false:=by
      cases hq:railA p (p.rail u)with
      |false=>rfl
      |true=>simp[railA]at hq;simp[hq]at hc5;omega
     refine aS fun K hK=>?_;simp -dsimp;apply hK;clear hK K;exact awp_ret (by simp[valid_ff_rail r0 (by simp[railB,hra]:railB p (p.rail u)=false)])
    ·skip
     try simp at hc5
     have hra:railA p (p.rail u)=true:=by simp[railA,hc5];omega
     have hF:=inr_iff.1 hc5.1.1.1.1;have hT:=inr_iff.1 hc5.1.1.1.2;have hlen:(p.rail u).Shape.length≤30:=by omega
     have sF:=nodeB_spot (node_ends hA (i:=(p.rail u).From) (by omega) (by omega));have sT:=nodeB_spot (node_ends hA (i:=(p.rail u).To) (by omega) (by omega));refine awp_skip ?_;simp only[zT,reduceIte,Nat.reduceEqDiff];refine hK9 _ _ ?_;refine awp_prune [1,6,7] ?_;simp only[zP,Nat.reduceEqDiff,reduceIte];refine awp_seq_k fun K10 hK10=>?_;refine aS fun K hK=>?_;simp -dsimp;apply hK;clear hK K;refine awp_block ?_;refine awp_prune [1,6,7,8] ?_;simp only[zP,Nat.reduceEqDiff,reduceIte];refine awp_loop_l [1,6,7] (α:=Nat) (fun j=>[(8,I j)]) (fun _=>[some (.els 2 [p.cells]),some (.els 5 [(p.rail u).cells])]) (fun j=>j≤(p.rail u).Shape.length∧((p.rail u).Shape.take j).all spotB=true) (fun j=>(p.rail u).Shape.length-j) 0 ?_ ?_ ?_
     ·simp
     ·exact sub_same (by simp)
     rintro j ⟨j1,j2⟩;simp only[zP,Nat.reduceEqDiff,reduceIte];refine awp_seq_k fun K11 hK11=>?_;refine aS fun K hK=>?_;simp -dsimp;apply hK;clear hK K;refine awp_cond rfl (fun hc6=>?_) (fun hc6=>?_)
     ·skip
      try simp at hc6
      have s0:(p.rail u).Shape[j]?=some (nth (p.rail u).Shape j):=nth_get hc6;have wj:=zW j (by omega);refine awp_skip ?_;simp only[zT,reduceIte,Nat.reduceEqDiff];refine hK11 _ _ ?_;refine awp_prune [1,6,7,8] ?_;simp only[zP,Nat.reduceEqDiff,reduceIte];refine awp_seq_k fun K12 hK12=>?_;refine awp_block ?_;refine aS fun K hK=>?_;simp -dsimp [s0];refine callK_intro _ (c_spot (nth (p.rail u).Shape j)) (by simp) ?_;simp -dsimp [s0];apply hK;clear hK K;refine awp_cond rfl (fun hc7=>?_) (fun hc7=>?_)
      ·skip
       try simp at hc7
       refine aS fun K hK=>?_;simp -dsimp;apply hK;clear hK K;exact awp_ret (by simp[valid_ff_rail r0 (by simp[railB,all_ff s0 hc7]:railB p (p.rail u)=false)])
      ·skip
       try simp at hc7
       refine awp_skip ?_;simp only[zT,reduceIte,Nat.reduceEqDiff];refine hK12 _ _ ?_;refine awp_prune [1,6,7,8] ?_;simp only[zP,Nat.reduceEqDiff,reduceIte];refine aR fun K hK=>?_;simp -dsimp [wj];apply hK;clear hK K;simp only[zT,reduceIte,Nat.reduceEqDiff];refine⟨j+1,⟨by omega,?_⟩,by omega,sub_same (by simp)⟩;rw[take_all' s0,j2];simp[hc7]
     ·skip
      try simp at hc6
      have hS:=all_of_take (by omega) j2;have hls:(p.line u).all spotB=true:=line_spots sF sT hS;have hll:=line_len p u;have hb:∀m,m<(p.line u).length→spotB (nth (p.line u) m)=true:=fun m hm=>List.all_eq_true.1 hls _ (List.mem_of_getElem? (nth_get hm));refine awp_exit ?_;simp only[zT,reduceIte,Nat.reduceEqDiff];refine hK10 _ _ ?_;refine awp_prune [1,6] ?_;simp only[zP,Nat.reduceEqDiff,reduceIte];refine aS fun K hK=>?_;simp -dsimp;refine callK_intro _ (c_Line p u (by omega) (by omega) ⟨by omega,by omega⟩ ⟨by omega,by omega⟩ (by omega)) (by simp) ?_;simp -dsimp;apply hK;clear hK K;refine aS fun K hK=>?_;simp -dsimp;apply hK;clear hK K;refine awp_block ?_;refine awp_prune [1,6,9,10] ?_;simp only[zP,Nat.reduceEqDiff,reduceIte];refine awp_loop_l [1,6,9] (α:=Nat) (fun j=>[(10,I j)]) (fun _=>[some (.els 2 [p.cells]),some (.els 5 [(p.rail u).cells])]) (fun j=>1≤j∧j≤(p.line u).length∧∀m,m+1<j→segB (p.line u) m=true) (fun j=>(p.line u).length-j) 1 ?_ ?_ ?_
      ·refine⟨by omega,by omega,fun m hm=>by omega⟩
      ·exact sub_same (by simp)
      rintro j ⟨j1,j2,j3⟩;simp only[zP,Nat.reduceEqDiff,reduceIte];refine awp_seq_k fun K13 hK13=>?_;refine aS fun K hK=>?_;simp -dsimp;apply hK;clear hK K;refine awp_cond rfl (fun hc8=>?_) (fun hc8=>?_)
      ·skip
       try simp at hc8
       have wk:IntKind.i64.wrap ((j:Int)-1)=((j-1:Nat):Int):=by rw[wrap_in (by omega) (by omega)];omega
       have wj:=zW j (by omega);have l1:=nth_get (l:=p.line u) (k:=j-1) (by omega);have l2:=nth_get (l:=p.line u) (k:=j) (by omega);refine awp_skip ?_;simp only[zT,reduceIte,Nat.reduceEqDiff];refine hK13 _ _ ?_;refine awp_prune [1,6,9,10] ?_;simp only[zP,Nat.reduceEqDiff,reduceIte];refine awp_seq_k fun K14 hK14=>?_;refine awp_block ?_;refine awp_sd mixed rfl fun K hK=>?_;simp -dsimp [wk,l1,l2];refine callK_intro _ (c_Far (nth (p.line u) (j-1)) (nth (p.line u) j) (hb _ (by omega)) (hb _ (by omega))) (by simp) ?_;simp -dsimp [wk,l1,l2];refine callK_intro _ (c_in _ _ _) (by simp) ?_;simp -dsimp [wk,l1,l2];refine hK _ _ _ (by decide+kernel) ?_;clear hK K;refine awp_cond rfl (fun hc9=>?_) (fun hc9=>?_)
       ·simp at hc9;have hseg:segB (p.line u) (j-1)=inr (far (nth (p.line u) (j-1)) (nth (p.line u) j)) 1 1000000:=by simp only[segB,segLen];rw[show j-1+1=j by omega]
        have hfs:railB p (p.rail u)=false:=by
         have:(List.range ((p.rail u).Shape.length+1)).all (segB (lineOf p (p.rail u)))=false:=by rw[List.all_eq_false];exact⟨j-1,by simp;omega,by rw[show lineOf p (p.rail u)=p.line u from rfl,hseg];simp[hc9]⟩
         simp[railB,this]
        refine aS fun K hK=>?_;simp -dsimp;apply hK;clear hK K;exact awp_ret (by simp[valid_ff_rail r0 hfs])
       ·simp at hc9;have hseg:segB (p.line u) (j-1)=inr (far (nth (p.line u) (j-1)) (nth (p.line u) j)) 1 1000000:=by simp only[segB,segLen];rw[show j-1+1=j by omega]
        refine awp_skip ?_;simp only[zT,reduceIte,Nat.reduceEqDiff];refine hK14 _ _ ?_;refine awp_prune [1,6,9,10] ?_;simp only[zP,Nat.reduceEqDiff,reduceIte];refine aR fun K hK=>?_;simp -dsimp [wj];apply hK;clear hK K;simp only[zT,reduceIte,Nat.reduceEqDiff];refine⟨j+1,⟨by omega,by omega,fun m hm=>?_⟩,by omega,sub_same (by simp)⟩
        by_cases hmj:m+1<j
        ·exact j3 m hmj
        ·rw[show m=j-1 by omega,hseg];exact hc9
      ·skip
       try simp at hc8
       refine awp_exit ?_;simp only[zT,reduceIte,Nat.reduceEqDiff];refine hK8 _ _ ?_;refine awp_prune [1,6] ?_;simp only[zP,Nat.reduceEqDiff,reduceIte];refine aR fun K hK=>?_;simp -dsimp [wu];apply hK;clear hK K;simp only[zT,reduceIte,Nat.reduceEqDiff];refine⟨u+1,⟨by omega,?_⟩,by omega,sub_rb [some 0] rfl (by simp) (by simp)⟩;rw[take_all' r0,u2,railB,hra,hS];simp only[Bool.true_and];rw[List.all_eq_true];intro m hm;simp only[List.mem_range]at hm;exact j3 m (by omega)
   ·skip
    try simp at hc4
    have hB:=all_of_take (by omega) u2;refine awp_exit ?_;simp only[zT,reduceIte,Nat.reduceEqDiff];refine hK6 _ _ ?_;refine awp_prune [1] ?_;simp only[zP,Nat.reduceEqDiff,reduceIte];refine aS fun K hK=>?_;simp -dsimp;apply hK;clear hK K;refine awp_seq_k fun K15 hK15=>?_;refine aS fun K hK=>?_;simp -dsimp;apply hK;clear hK K;refine awp_block ?_;refine awp_prune [1,11,12] ?_;simp only[zP,Nat.reduceEqDiff,reduceIte];refine awp_loop_l [1] (α:=Nat) (fun i=>[(11, .row 1 0 (endsOf p i).length),(12,I i)]) (fun i=>[some (.els 2 [p.cells]),some (.els 2 (eCells (endsOf p i)))]) (fun i=>i≤p.Nodes.length∧(endsOf p i).all (endB p)=true∧((endsOf p i).map (·.2)).Nodup) (fun i=>p.Nodes.length-i) 0 ?_ ?_ ?_
    ·simp[endsOf]
    ·exact(sub_nil 11 2 (by simp)).trans (sub_same (by simp[endsOf]))
    rintro i ⟨i1,i2,i3⟩;simp only[zP,Nat.reduceEqDiff,reduceIte];refine awp_seq_k fun K16 hK16=>?_;refine aS fun K hK=>?_;simp -dsimp;apply hK;clear hK K;refine awp_cond rfl (fun hc10=>?_) (fun hc10=>?_)
    ·skip
     try simp at hc10
     have n0:=p.node_get (i:=(i:Int)) (by omega) (by omega);simp only[Int.toNat_natCast]at n0;have wi:=zW i (by omega);have wr:IntKind.i64.wrap ((p.Rails.length:Int)-1)=(p.Rails.length:Int)-1:=wrap_in (by omega) (by omega);have hle:=nodeB_len (node_ends hA (i:=(i:Int)) (by omega) (by omega));refine awp_skip ?_;simp only[zT,reduceIte,Nat.reduceEqDiff];refine hK16 _ _ ?_;refine awp_prune [1,11,12] ?_;simp only[zP,Nat.reduceEqDiff,reduceIte];refine awp_seq_k fun K17 hK17=>?_;refine awp_block ?_;refine aS fun K hK=>?_;simp -dsimp;apply hK;clear hK K;refine awp_block ?_;refine awp_prune [1,11,12,13] ?_;simp only[zP,Nat.reduceEqDiff,reduceIte];refine awp_loop_l [1,12] (α:=Nat) (fun j=>[(11, .row 1 0 (curE p i j).length),(13,I j)]) (fun j=>[some (.els 2 [p.cells]),some (.els 2 (eCells (curE p i j)))]) (fun j=>j≤(p.node i).Ends.length∧(curE p i j).all (endB p)=true∧((curE p i j).map (·.2)).Nodup) (fun j=>(p.node i).Ends.length-j) 0 ?_ ?_ ?_
     ·rw[curE_zero];exact⟨by omega,i2,i3⟩
     ·simp only[curE_zero];exact sub_same (by simp)
     rintro j ⟨j1,j2,j3⟩;simp only[zP,Nat.reduceEqDiff,reduceIte];refine awp_seq_k fun K18 hK18=>?_;refine aS fun K hK=>?_;simp -dsimp [n0];apply hK;clear hK K;refine awp_cond rfl (fun hc11=>?_) (fun hc11=>?_)
     ·skip
      try simp at hc11
      obtain⟨e,he⟩:∃e,(p.node i).Ends[j]?=some e:=⟨_,List.getElem?_eq_getElem hc11⟩;have hcl:=curE_len hA (j:=j) hc10;have wj:=zW j (by omega);have f1:Fits ((curE p i j).length+1) 17:=fits_of (by omega) (by omega);have f2:Fits ((curE p i j).length+1) 25:=fits_of (by omega) (by omega);refine awp_skip ?_;simp only[zT,reduceIte,Nat.reduceEqDiff];refine hK18 _ _ ?_;refine awp_prune [1,11,12,13] ?_;simp only[zP,Nat.reduceEqDiff,reduceIte];refine awp_seq_k fun K19 hK19=>?_;refine awp_block ?_;refine aS fun K hK=>?_;simp -dsimp [n0,he];apply hK;clear hK K;refine awp_seq_k fun K20 hK20=>?_;refine aS fun K hK=>?_;simp -dsimp [wr];refine callK_intro _ (c_in _ _ _) (by simp) ?_;simp -dsimp [wr];refine callK_may _ (fun hm=>c_at p e (by simp[inr_iff]at hm;omega) (by simp[inr_iff]at hm;omega)) (by simp) ?_;simp -dsimp [wr];apply hK;clear hK K;refine awp_cond rfl (fun hc12=>?_) (fun hc12=>?_)
      ·skip
       try simp at hc12
       have hef:endB p (i,e)=false:=by
        cases hq:endB p (i,e)with
        |false=>rfl
        |true=>simp[endB]at hq;simp[hq]at hc12
       refine aS fun K hK=>?_;simp -dsimp;apply hK;clear hK K;exact awp_ret (by simp[valid_ff_end hc10 he hef])
      ·skip
       try simp at hc12
       refine awp_skip ?_;simp only[zT,reduceIte,Nat.reduceEqDiff];refine hK20 _ _ ?_;refine awp_prune [1,11,12,13,14] ?_;simp only[zP,Nat.reduceEqDiff,reduceIte];refine awp_seq_k fun K21 hK21=>?_;refine aS fun K hK=>?_;simp -dsimp;apply hK;clear hK K;refine awp_block ?_;refine awp_prune [1,11,12,13,14,15] ?_;simp only[zP,Nat.reduceEqDiff,reduceIte];refine awp_loop_l [1,11,12,13,14] (α:=Nat) (fun m=>[(15,I m)]) (fun _=>[some (.els 2 [p.cells]),some (.els 2 (eCells (curE p i j))),some (.els 2 [e.cells])]) (fun m=>m≤(curE p i j).length∧∀x∈(curE p i j).take m,x.2≠e) (fun m=>(curE p i j).length-m) 0 ?_ ?_ ?_
       ·simp
       ·exact sub_same (by simp)
       rintro m ⟨m1,m2⟩;simp only[zP,Nat.reduceEqDiff,reduceIte];refine awp_seq_k fun K22 hK22=>?_;refine aS fun K hK=>?_;simp -dsimp;apply hK;clear hK K;refine awp_cond rfl (fun hc13=>?_) (fun hc13=>?_)
       ·skip
        try simp at hc13
        obtain⟨x,hx⟩:∃x,(curE p i j)[m]?=some x:=⟨_,List.getElem?_eq_getElem hc13⟩;have wm:=zW m (by omega);refine awp_skip ?_;simp only[zT,reduceIte,Nat.reduceEqDiff];refine hK22 _ _ ?_;refine awp_prune [1,11,12,13,14,15] ?_;simp only[zP,Nat.reduceEqDiff,reduceIte];refine awp_seq_k fun K23 hK23=>?_;refine awp_block ?_;refine awp_sd mixed rfl fun K hK=>?_;simp -dsimp [hx,hc13];refine hK _ _ _ (by decide+kernel) ?_;clear hK K;refine awp_cond rfl (fun hc14=>?_) (fun hc14=>?_)
        ·skip
         try simp at hc14
         refine aS fun K hK=>?_;simp -dsimp;apply hK;clear hK K;have hxe:x.2=e:=by cases hxx:x.2;cases e;simp_all
         exact awp_ret (by simp[valid_ff_dup hc10 he hx hxe])
        ·skip
         try simp at hc14
         refine awp_skip ?_;simp only[zT,reduceIte,Nat.reduceEqDiff];refine hK23 _ _ ?_;refine awp_prune [1,11,12,13,14,15] ?_;simp only[zP,Nat.reduceEqDiff,reduceIte];refine aR fun K hK=>?_;simp -dsimp [wm];apply hK;clear hK K;simp only[zT,reduceIte,Nat.reduceEqDiff];refine⟨m+1,⟨by omega,?_⟩,by omega,sub_same (by simp)⟩;intro y hy;rw[List.take_add_one,hx]at hy
         rcases List.mem_append.1 hy with hy|hy
         ·exact m2 y hy
         ·simp only[Option.toList_some,List.mem_singleton]at hy;subst hy;intro hh;rw[←hh]at hc14;have hxm:(curE p i j)[m]=y:=(List.getElem?_eq_some_iff.1 hx).2;simp[hxm]at hc14
       ·skip
        try simp at hc13
        have hne:∀x∈curE p i j,x.2≠e:=by intro x hx;exact m2 x (by rw[List.take_of_length_le (by omega)];exact hx)
        refine awp_exit ?_;simp only[zT,reduceIte,Nat.reduceEqDiff];refine hK21 _ _ ?_;refine awp_prune [1,11,12,13,14] ?_;simp only[zP,Nat.reduceEqDiff,reduceIte];refine aR fun K hK=>?_;simp -dsimp [f1,f2];apply hK;clear hK K;simp only[zT,reduceIte,Nat.reduceEqDiff];refine hK19 _ _ ?_;refine awp_prune [1,11,12,13] ?_;simp only[zP,Nat.reduceEqDiff,reduceIte];refine aR fun K hK=>?_;simp -dsimp [wj];apply hK;clear hK K;simp only[zT,reduceIte,Nat.reduceEqDiff];refine⟨j+1,⟨by omega,?_,?_⟩,by omega,sub_rb [some 0,some 3] rfl (by simp[curE_succ he]) (by simp[curE_succ he,Function.comp_def,List.take_of_length_le])⟩
        ·rw[curE_succ he,List.all_append,j2];simp[endB,hc12]
        ·rw[curE_succ he,List.map_append,List.nodup_append];refine⟨j3,by simp,?_⟩;intro a ha b hb;simp only[List.map_cons,List.map_nil,List.mem_singleton]at hb;subst hb;obtain⟨y,hy,rfl⟩:=List.mem_map.1 ha;exact hne y hy
     ·skip
      try simp at hc11
      have hce:=curE_all (p:=p) (i:=i) (j:=j) (by omega);refine awp_exit ?_;simp only[zT,reduceIte,Nat.reduceEqDiff];refine hK17 _ _ ?_;refine awp_prune [1,11,12] ?_;simp only[zP,Nat.reduceEqDiff,reduceIte];refine aR fun K hK=>?_;simp -dsimp [wi];apply hK;clear hK K;simp only[zT,reduceIte,Nat.reduceEqDiff];exact⟨i+1,⟨by omega,by rw[←hce];exact j2,by rw[←hce];exact j3⟩,by omega,by simp only[←hce];exact sub_same (by simp)⟩
    ·skip
     try simp at hc10
     have hii:i=p.Nodes.length:=by omega
     subst hii;have hle:=endsOf_len hA p.Nodes.length (Nat.le_refl _);have w2:IntKind.i64.wrap (2*(p.Rails.length:Int))=2*(p.Rails.length:Int):=wrap_in (by omega) (by omega);refine awp_exit ?_;simp only[zT,reduceIte,Nat.reduceEqDiff];refine hK15 _ _ ?_;refine awp_prune [1,11] ?_;simp only[zP,Nat.reduceEqDiff,reduceIte];refine aS fun K hK=>?_;simp -dsimp [w2];apply hK;clear hK K;refine awp_ret ?_;have hv:validB p=decide ((endsOf p p.Nodes.length).length=2*p.Rails.length):=by simp[validB,validA,validE,hc0,hA,hB,i2,i3]
     simp only[hv];simp;exact Bool.eq_iff_iff.2 (by simp;omega)
end Go.Tram
end
section
namespace Go.Tram
open Go.AM Go.Proofs
theorem c_rarr (m:Move):PureCall Tryz.prog 41 [m.av] (.agg [I m.Rail,Bo (!m.Back)]):=by
 refine PureCall.of_body Tryz.func41 rfl (by decide) (by simp[Tryz.ntmps41]) ?_;simp only[Tryz.ntmps41,Tryz.results41];refine aS fun K hK=>?_;simp -dsimp;apply hK;clear hK K;refine aS fun K hK=>?_;simp -dsimp;apply hK;clear hK K;exact awp_ret (by simp)
theorem c_rlea (m:Move):PureCall Tryz.prog 43 [m.av] (.agg [I m.Rail,Bo m.Back]):=by
 refine PureCall.of_body Tryz.func43 rfl (by decide) (by simp[Tryz.ntmps43]) ?_;simp only[Tryz.ntmps43,Tryz.results43];refine aS fun K hK=>?_;simp -dsimp;apply hK;clear hK K;refine aS fun K hK=>?_;simp -dsimp;apply hK;clear hK K;exact awp_ret (by simp)
theorem c_rMove (p:Plan) (m:Move) (hR:p.Rails.length≤100000):PureCall Tryz.prog 20 [p.av,m.av] (Bo (movB p m)):=by
 have w:IntKind.i64.wrap ((p.Rails.length:Int)-1)=(p.Rails.length:Int)-1:=wrap_in (by omega) (by omega);refine PureCall.of_body Tryz.func20 rfl (by decide) (by simp[Tryz.ntmps20]) ?_;simp only[Tryz.ntmps20,Tryz.results20];refine aS fun K hK=>?_;simp -dsimp;apply hK;clear hK K;refine aS fun K hK=>?_;simp -dsimp [w];refine callK_intro _ (c_in m.Rail 0 _) (by simp) ?_;simp -dsimp [w];apply hK;clear hK K;exact awp_ret (by simp[movB])
theorem c_index (n:Node) (e:REnd) (hn:n.Ends.length≤1000):PureCall Tryz.prog 42 [n.av,e.av] (I (idxE n e)):=by
 refine PureCall.of_body Tryz.func42 rfl (by decide) (by simp[Tryz.ntmps42]) ?_;simp only[Tryz.ntmps42,Tryz.results42];refine aS fun K hK=>?_;simp -dsimp;apply hK;clear hK K;refine awp_seq_k fun K1 hK1=>?_;refine aS fun K hK=>?_;simp -dsimp;apply hK;clear hK K;refine awp_block ?_;refine awp_prune [2,3,5] ?_;simp only[zP,Nat.reduceEqDiff,reduceIte];refine awp_loop_l [2,3] (α:=Nat) (fun k=>[(5,I k)]) (fun _=>[some (.els 5 [n.cells]),some (.els 2 [e.cells])]) (fun k=>k≤n.Ends.length∧idxTo e (n.Ends.drop k) k=idxE n e) (fun k=>n.Ends.length-k) 0 ?_ ?_ ?_
 ·exact⟨Nat.zero_le _,rfl⟩
 ·exact sub_same (by simp)
 rintro k ⟨k1,k2⟩;simp only[zP,Nat.reduceEqDiff,reduceIte];refine awp_seq_k fun K2 hK2=>?_;refine aS fun K hK=>?_;simp -dsimp;apply hK;clear hK K;refine awp_cond rfl (fun hc0=>?_) (fun hc0=>?_)
 ·skip
  try simp at hc0
  obtain⟨x,hx⟩:∃x,n.Ends[k]?=some x:=⟨_,List.getElem?_eq_getElem (by simpa using hc0)⟩;obtain⟨hxl,hxe⟩:=List.getElem?_eq_some_iff.1 hx;have wk:=zW k (by omega);rw[List.drop_eq_getElem_cons hxl,hxe]at k2;simp only[idxTo]at k2;refine awp_skip ?_;simp only[zT,reduceIte,Nat.reduceEqDiff];refine hK2 _ _ ?_;refine awp_prune [2,3,5] ?_;simp only[zP,Nat.reduceEqDiff,reduceIte];refine awp_seq_k fun K3 hK3=>?_;refine awp_block ?_;refine awp_sd mixed rfl fun K hK=>?_;simp -dsimp [hx];refine hK _ _ _ (by decide+kernel) ?_;clear hK K;refine awp_cond rfl (fun hc1=>?_) (fun hc1=>?_)
  ·have hxe2:x=e:=by obtain⟨a,b⟩:=x;obtain⟨c,d⟩:=e;simpa using hc1
   rw[if_pos hxe2]at k2;refine aS fun K hK=>?_;simp -dsimp;apply hK;clear hK K;exact awp_ret (by simp[←k2])
  ·have hxe2:x≠e:=by rintro rfl;simp at hc1
   rw[if_neg hxe2]at k2;refine awp_skip ?_;simp only[zT,reduceIte,Nat.reduceEqDiff];refine hK3 _ _ ?_;refine awp_prune [2,3,5] ?_;simp only[zP,Nat.reduceEqDiff,reduceIte];refine aR fun K hK=>?_;simp -dsimp [wk];apply hK;clear hK K;simp only[zT,reduceIte,Nat.reduceEqDiff];exact⟨k+1,⟨by omega,by rw[←k2];rfl⟩,by omega,sub_same (by simp)⟩
 ·skip
  try simp at hc0
  have hke:k=n.Ends.length:=by have:¬k<n.Ends.length:=(by simpa using hc0);omega
  subst hke;rw[List.drop_length]at k2;refine awp_exit ?_;simp only[zT,reduceIte,Nat.reduceEqDiff];refine hK1 _ _ ?_;refine awp_prune [] ?_;simp only[zP,Nat.reduceEqDiff,reduceIte];refine aS fun K hK=>?_;simp -dsimp;apply hK;clear hK K;exact awp_ret (by simp[←k2,idxTo])
theorem c_rlets1 (n:Node) (a b:Int) (ha:0≤a∧a≤1000) (hb:0≤b∧b≤1000) (hk:n.Kind=1):PureCall Tryz.prog 44 [n.av,I a,I b] (Bo (letsB n a b)):=by
 have w:IntKind.i64.wrap (a+b)=a+b:=wrap_in (by omega) (by omega);have w2:(a+b).tmod 2=(a+b) % 2:=Int.tmod_eq_emod_of_nonneg (by omega);unfold letsB;simp only[Node.av,Node.cells,hk,Int.reduceEq,if_false,if_true,reduceIte];refine PureCall.of_body Tryz.func44 rfl (by decide) (by simp[Tryz.ntmps44]) ?_;simp only[Tryz.ntmps44,Tryz.results44];refine aS fun K hK=>?_;simp -dsimp [w,w2];apply hK;clear hK K;refine awp_seq_k fun K1 hK1=>?_;refine aS fun K hK=>?_;simp -dsimp [w,w2];apply hK;clear hK K;refine awp_block ?_;refine aS fun K hK=>?_;simp -dsimp [w,w2];apply hK;clear hK K;refine awp_cond rfl (fun hc0=>?_) (fun hc0=>?_)
 ·refine aS fun K hK=>?_;simp -dsimp [w,w2];apply hK;clear hK K
  first|(exfalso;simp at hc0;done)|(exfalso;simp at hc1;done)|(exfalso;simp at hc2;done)|(exfalso;simp at hc3;done)|(exfalso;simp at hc4;done)|(refine awp_ret ?_;simp;done)|(refine awp_ret ?_;simp;exact Bool.eq_iff_iff.2 (by simp;try omega))
 ·refine aS fun K hK=>?_;simp -dsimp [w,w2];apply hK;clear hK K;refine awp_cond rfl (fun hc1=>?_) (fun hc1=>?_)
  ·refine aS fun K hK=>?_;simp -dsimp [w,w2];apply hK;clear hK K
   first|(exfalso;simp at hc0;done)|(exfalso;simp at hc1;done)|(exfalso;simp at hc2;done)|(exfalso;simp at hc3;done)|(exfalso;simp at hc4;done)|(refine awp_ret ?_;simp;done)|(refine awp_ret ?_;simp;exact Bool.eq_iff_iff.2 (by simp;try omega))
  ·refine aS fun K hK=>?_;simp -dsimp [w,w2];apply hK;clear hK K;refine awp_cond rfl (fun hc2=>?_) (fun hc2=>?_)
   ·refine aS fun K hK=>?_;simp -dsimp [w,w2];apply hK;clear hK K
    first|(exfalso;simp at hc0;done)|(exfalso;simp at hc1;done)|(exfalso;simp at hc2;done)|(exfalso;simp at hc3;done)|(exfalso;simp at hc4;done)|(refine awp_ret ?_;simp;done)|(refine awp_ret ?_;simp;exact Bool.eq_iff_iff.2 (by simp;try omega))
   ·refine aS fun K hK=>?_;simp -dsimp [w,w2];apply hK;clear hK K;refine awp_cond rfl (fun hc3=>?_) (fun hc3=>?_)
    ·refine aS fun K hK=>?_;simp -dsimp [w,w2];apply hK;clear hK K
     first|(exfalso;simp at hc0;done)|(exfalso;simp at hc1;done)|(exfalso;simp at hc2;done)|(exfalso;simp at hc3;done)|(exfalso;simp at hc4;done)|(refine awp_ret ?_;simp;done)|(refine awp_ret ?_;simp;exact Bool.eq_iff_iff.2 (by simp;try omega))
    ·refine aS fun K hK=>?_;simp -dsimp [w,w2];apply hK;clear hK K;refine awp_cond rfl (fun hc4=>?_) (fun hc4=>?_)
     ·refine aS fun K hK=>?_;simp -dsimp [w,w2];apply hK;clear hK K
      first|(exfalso;simp at hc0;done)|(exfalso;simp at hc1;done)|(exfalso;simp at hc2;done)|(exfalso;simp at hc3;done)|(exfalso;simp at hc4;done)|(refine awp_ret ?_;simp;done)|(refine awp_ret ?_;simp;exact Bool.eq_iff_iff.2 (by simp;try omega))
     ·refine awp_skip ?_;simp only[zT,reduceIte,Nat.reduceEqDiff];refine hK1 _ _ ?_;refine awp_prune [] ?_;simp only[zP,Nat.reduceEqDiff,reduceIte];refine aS fun K hK=>?_;simp -dsimp [w,w2];apply hK;clear hK K
      first|(exfalso;simp at hc0;done)|(exfalso;simp at hc1;done)|(exfalso;simp at hc2;done)|(exfalso;simp at hc3;done)|(exfalso;simp at hc4;done)|(refine awp_ret ?_;simp;done)|(refine awp_ret ?_;simp;exact Bool.eq_iff_iff.2 (by simp;try omega))
theorem c_rlets2 (n:Node) (a b:Int) (ha:0≤a∧a≤1000) (hb:0≤b∧b≤1000) (hk:n.Kind=2):PureCall Tryz.prog 44 [n.av,I a,I b] (Bo (letsB n a b)):=by
 have w:IntKind.i64.wrap (a+b)=a+b:=wrap_in (by omega) (by omega);have w2:(a+b).tmod 2=(a+b) % 2:=Int.tmod_eq_emod_of_nonneg (by omega);unfold letsB;simp only[Node.av,Node.cells,hk,Int.reduceEq,if_false,if_true,reduceIte];refine PureCall.of_body Tryz.func44 rfl (by decide) (by simp[Tryz.ntmps44]) ?_;simp only[Tryz.ntmps44,Tryz.results44];refine aS fun K hK=>?_;simp -dsimp [w,w2];apply hK;clear hK K;refine awp_seq_k fun K1 hK1=>?_;refine aS fun K hK=>?_;simp -dsimp [w,w2];apply hK;clear hK K;refine awp_block ?_;refine aS fun K hK=>?_;simp -dsimp [w,w2];apply hK;clear hK K;refine awp_cond rfl (fun hc0=>?_) (fun hc0=>?_)
 ·refine aS fun K hK=>?_;simp -dsimp [w,w2];apply hK;clear hK K
  first|(exfalso;simp at hc0;done)|(exfalso;simp at hc1;done)|(exfalso;simp at hc2;done)|(exfalso;simp at hc3;done)|(exfalso;simp at hc4;done)|(refine awp_ret ?_;simp;done)|(refine awp_ret ?_;simp;exact Bool.eq_iff_iff.2 (by simp;try omega))
 ·refine aS fun K hK=>?_;simp -dsimp [w,w2];apply hK;clear hK K;refine awp_cond rfl (fun hc1=>?_) (fun hc1=>?_)
  ·refine aS fun K hK=>?_;simp -dsimp [w,w2];apply hK;clear hK K
   first|(exfalso;simp at hc0;done)|(exfalso;simp at hc1;done)|(exfalso;simp at hc2;done)|(exfalso;simp at hc3;done)|(exfalso;simp at hc4;done)|(refine awp_ret ?_;simp;done)|(refine awp_ret ?_;simp;exact Bool.eq_iff_iff.2 (by simp;try omega))
  ·refine aS fun K hK=>?_;simp -dsimp [w,w2];apply hK;clear hK K;refine awp_cond rfl (fun hc2=>?_) (fun hc2=>?_)
   ·refine aS fun K hK=>?_;simp -dsimp [w,w2];apply hK;clear hK K
    first|(exfalso;simp at hc0;done)|(exfalso;simp at hc1;done)|(exfalso;simp at hc2;done)|(exfalso;simp at hc3;done)|(exfalso;simp at hc4;done)|(refine awp_ret ?_;simp;done)|(refine awp_ret ?_;simp;exact Bool.eq_iff_iff.2 (by simp;try omega))
   ·refine aS fun K hK=>?_;simp -dsimp [w,w2];apply hK;clear hK K;refine awp_cond rfl (fun hc3=>?_) (fun hc3=>?_)
    ·refine aS fun K hK=>?_;simp -dsimp [w,w2];apply hK;clear hK K
     first|(exfalso;simp at hc0;done)|(exfalso;simp at hc1;done)|(exfalso;simp at hc2;done)|(exfalso;simp at hc3;done)|(exfalso;simp at hc4;done)|(refine awp_ret ?_;simp;done)|(refine awp_ret ?_;simp;exact Bool.eq_iff_iff.2 (by simp;try omega))
    ·refine aS fun K hK=>?_;simp -dsimp [w,w2];apply hK;clear hK K;refine awp_cond rfl (fun hc4=>?_) (fun hc4=>?_)
     ·refine aS fun K hK=>?_;simp -dsimp [w,w2];apply hK;clear hK K
      first|(exfalso;simp at hc0;done)|(exfalso;simp at hc1;done)|(exfalso;simp at hc2;done)|(exfalso;simp at hc3;done)|(exfalso;simp at hc4;done)|(refine awp_ret ?_;simp;done)|(refine awp_ret ?_;simp;exact Bool.eq_iff_iff.2 (by simp;try omega))
     ·refine awp_skip ?_;simp only[zT,reduceIte,Nat.reduceEqDiff];refine hK1 _ _ ?_;refine awp_prune [] ?_;simp only[zP,Nat.reduceEqDiff,reduceIte];refine aS fun K hK=>?_;simp -dsimp [w,w2];apply hK;clear hK K
      first|(exfalso;simp at hc0;done)|(exfalso;simp at hc1;done)|(exfalso;simp at hc2;done)|(exfalso;simp at hc3;done)|(exfalso;simp at hc4;done)|(refine awp_ret ?_;simp;done)|(refine awp_ret ?_;simp;exact Bool.eq_iff_iff.2 (by simp;try omega))
theorem c_rlets3 (n:Node) (a b:Int) (ha:0≤a∧a≤1000) (hb:0≤b∧b≤1000) (hk:n.Kind=3):PureCall Tryz.prog 44 [n.av,I a,I b] (Bo (letsB n a b)):=by
 have w:IntKind.i64.wrap (a+b)=a+b:=wrap_in (by omega) (by omega);have w2:(a+b).tmod 2=(a+b) % 2:=Int.tmod_eq_emod_of_nonneg (by omega);unfold letsB;simp only[Node.av,Node.cells,hk,Int.reduceEq,if_false,if_true,reduceIte];refine PureCall.of_body Tryz.func44 rfl (by decide) (by simp[Tryz.ntmps44]) ?_;simp only[Tryz.ntmps44,Tryz.results44];refine aS fun K hK=>?_;simp -dsimp [w,w2];apply hK;clear hK K;refine awp_seq_k fun K1 hK1=>?_;refine aS fun K hK=>?_;simp -dsimp [w,w2];apply hK;clear hK K;refine awp_block ?_;refine aS fun K hK=>?_;simp -dsimp [w,w2];apply hK;clear hK K;refine awp_cond rfl (fun hc0=>?_) (fun hc0=>?_)
 ·refine aS fun K hK=>?_;simp -dsimp [w,w2];apply hK;clear hK K
  first|(exfalso;simp at hc0;done)|(exfalso;simp at hc1;done)|(exfalso;simp at hc2;done)|(exfalso;simp at hc3;done)|(exfalso;simp at hc4;done)|(refine awp_ret ?_;simp;done)|(refine awp_ret ?_;simp;exact Bool.eq_iff_iff.2 (by simp;try omega))
 ·refine aS fun K hK=>?_;simp -dsimp [w,w2];apply hK;clear hK K;refine awp_cond rfl (fun hc1=>?_) (fun hc1=>?_)
  ·refine aS fun K hK=>?_;simp -dsimp [w,w2];apply hK;clear hK K
   first|(exfalso;simp at hc0;done)|(exfalso;simp at hc1;done)|(exfalso;simp at hc2;done)|(exfalso;simp at hc3;done)|(exfalso;simp at hc4;done)|(refine awp_ret ?_;simp;done)|(refine awp_ret ?_;simp;exact Bool.eq_iff_iff.2 (by simp;try omega))
  ·refine aS fun K hK=>?_;simp -dsimp [w,w2];apply hK;clear hK K;refine awp_cond rfl (fun hc2=>?_) (fun hc2=>?_)
   ·refine aS fun K hK=>?_;simp -dsimp [w,w2];apply hK;clear hK K
    first|(exfalso;simp at hc0;done)|(exfalso;simp at hc1;done)|(exfalso;simp at hc2;done)|(exfalso;simp at hc3;done)|(exfalso;simp at hc4;done)|(refine awp_ret ?_;simp;done)|(refine awp_ret ?_;simp;exact Bool.eq_iff_iff.2 (by simp;try omega))
   ·refine aS fun K hK=>?_;simp -dsimp [w,w2];apply hK;clear hK K;refine awp_cond rfl (fun hc3=>?_) (fun hc3=>?_)
    ·refine aS fun K hK=>?_;simp -dsimp [w,w2];apply hK;clear hK K
     first|(exfalso;simp at hc0;done)|(exfalso;simp at hc1;done)|(exfalso;simp at hc2;done)|(exfalso;simp at hc3;done)|(exfalso;simp at hc4;done)|(refine awp_ret ?_;simp;done)|(refine awp_ret ?_;simp;exact Bool.eq_iff_iff.2 (by simp;try omega))
    ·refine aS fun K hK=>?_;simp -dsimp [w,w2];apply hK;clear hK K;refine awp_cond rfl (fun hc4=>?_) (fun hc4=>?_)
     ·refine aS fun K hK=>?_;simp -dsimp [w,w2];apply hK;clear hK K
      first|(exfalso;simp at hc0;done)|(exfalso;simp at hc1;done)|(exfalso;simp at hc2;done)|(exfalso;simp at hc3;done)|(exfalso;simp at hc4;done)|(refine awp_ret ?_;simp;done)|(refine awp_ret ?_;simp;exact Bool.eq_iff_iff.2 (by simp;try omega))
     ·refine awp_skip ?_;simp only[zT,reduceIte,Nat.reduceEqDiff];refine hK1 _ _ ?_;refine awp_prune [] ?_;simp only[zP,Nat.reduceEqDiff,reduceIte];refine aS fun K hK=>?_;simp -dsimp [w,w2];apply hK;clear hK K
      first|(exfalso;simp at hc0;done)|(exfalso;simp at hc1;done)|(exfalso;simp at hc2;done)|(exfalso;simp at hc3;done)|(exfalso;simp at hc4;done)|(refine awp_ret ?_;simp;done)|(refine awp_ret ?_;simp;exact Bool.eq_iff_iff.2 (by simp;try omega))
theorem c_rlets4 (n:Node) (a b:Int) (ha:0≤a∧a≤1000) (hb:0≤b∧b≤1000) (hk:n.Kind=4):PureCall Tryz.prog 44 [n.av,I a,I b] (Bo (letsB n a b)):=by
 have w:IntKind.i64.wrap (a+b)=a+b:=wrap_in (by omega) (by omega);have w2:(a+b).tmod 2=(a+b) % 2:=Int.tmod_eq_emod_of_nonneg (by omega);unfold letsB;simp only[Node.av,Node.cells,hk,Int.reduceEq,if_false,if_true,reduceIte];refine PureCall.of_body Tryz.func44 rfl (by decide) (by simp[Tryz.ntmps44]) ?_;simp only[Tryz.ntmps44,Tryz.results44];refine aS fun K hK=>?_;simp -dsimp [w,w2];apply hK;clear hK K;refine awp_seq_k fun K1 hK1=>?_;refine aS fun K hK=>?_;simp -dsimp [w,w2];apply hK;clear hK K;refine awp_block ?_;refine aS fun K hK=>?_;simp -dsimp [w,w2];apply hK;clear hK K;refine awp_cond rfl (fun hc0=>?_) (fun hc0=>?_)
 ·refine aS fun K hK=>?_;simp -dsimp [w,w2];apply hK;clear hK K
  first|(exfalso;simp at hc0;done)|(exfalso;simp at hc1;done)|(exfalso;simp at hc2;done)|(exfalso;simp at hc3;done)|(exfalso;simp at hc4;done)|(refine awp_ret ?_;simp;done)|(refine awp_ret ?_;simp;exact Bool.eq_iff_iff.2 (by simp;try omega))
 ·refine aS fun K hK=>?_;simp -dsimp [w,w2];apply hK;clear hK K;refine awp_cond rfl (fun hc1=>?_) (fun hc1=>?_)
  ·refine aS fun K hK=>?_;simp -dsimp [w,w2];apply hK;clear hK K
   first|(exfalso;simp at hc0;done)|(exfalso;simp at hc1;done)|(exfalso;simp at hc2;done)|(exfalso;simp at hc3;done)|(exfalso;simp at hc4;done)|(refine awp_ret ?_;simp;done)|(refine awp_ret ?_;simp;exact Bool.eq_iff_iff.2 (by simp;try omega))
  ·refine aS fun K hK=>?_;simp -dsimp [w,w2];apply hK;clear hK K;refine awp_cond rfl (fun hc2=>?_) (fun hc2=>?_)
   ·refine aS fun K hK=>?_;simp -dsimp [w,w2];apply hK;clear hK K
    first|(exfalso;simp at hc0;done)|(exfalso;simp at hc1;done)|(exfalso;simp at hc2;done)|(exfalso;simp at hc3;done)|(exfalso;simp at hc4;done)|(refine awp_ret ?_;simp;done)|(refine awp_ret ?_;simp;exact Bool.eq_iff_iff.2 (by simp;try omega))
   ·refine aS fun K hK=>?_;simp -dsimp [w,w2];apply hK;clear hK K;refine awp_cond rfl (fun hc3=>?_) (fun hc3=>?_)
    ·refine aS fun K hK=>?_;simp -dsimp [w,w2];apply hK;clear hK K
     first|(exfalso;simp at hc0;done)|(exfalso;simp at hc1;done)|(exfalso;simp at hc2;done)|(exfalso;simp at hc3;done)|(exfalso;simp at hc4;done)|(refine awp_ret ?_;simp;done)|(refine awp_ret ?_;simp;exact Bool.eq_iff_iff.2 (by simp;try omega))
    ·refine aS fun K hK=>?_;simp -dsimp [w,w2];apply hK;clear hK K;refine awp_cond rfl (fun hc4=>?_) (fun hc4=>?_)
     ·refine aS fun K hK=>?_;simp -dsimp [w,w2];apply hK;clear hK K
      first|(exfalso;simp at hc0;done)|(exfalso;simp at hc1;done)|(exfalso;simp at hc2;done)|(exfalso;simp at hc3;done)|(exfalso;simp at hc4;done)|(refine awp_ret ?_;simp;done)|(refine awp_ret ?_;simp;exact Bool.eq_iff_iff.2 (by simp;try omega))
     ·refine awp_skip ?_;simp only[zT,reduceIte,Nat.reduceEqDiff];refine hK1 _ _ ?_;refine awp_prune [] ?_;simp only[zP,Nat.reduceEqDiff,reduceIte];refine aS fun K hK=>?_;simp -dsimp [w,w2];apply hK;clear hK K
      first|(exfalso;simp at hc0;done)|(exfalso;simp at hc1;done)|(exfalso;simp at hc2;done)|(exfalso;simp at hc3;done)|(exfalso;simp at hc4;done)|(refine awp_ret ?_;simp;done)|(refine awp_ret ?_;simp;exact Bool.eq_iff_iff.2 (by simp;try omega))
theorem c_rlets5 (n:Node) (a b:Int) (ha:0≤a∧a≤1000) (hb:0≤b∧b≤1000) (hk:n.Kind=5):PureCall Tryz.prog 44 [n.av,I a,I b] (Bo (letsB n a b)):=by
 have w:IntKind.i64.wrap (a+b)=a+b:=wrap_in (by omega) (by omega);have w2:(a+b).tmod 2=(a+b) % 2:=Int.tmod_eq_emod_of_nonneg (by omega);unfold letsB;simp only[Node.av,Node.cells,hk,Int.reduceEq,if_false,if_true,reduceIte];refine PureCall.of_body Tryz.func44 rfl (by decide) (by simp[Tryz.ntmps44]) ?_;simp only[Tryz.ntmps44,Tryz.results44];refine aS fun K hK=>?_;simp -dsimp [w,w2];apply hK;clear hK K;refine awp_seq_k fun K1 hK1=>?_;refine aS fun K hK=>?_;simp -dsimp [w,w2];apply hK;clear hK K;refine awp_block ?_;refine aS fun K hK=>?_;simp -dsimp [w,w2];apply hK;clear hK K;refine awp_cond rfl (fun hc0=>?_) (fun hc0=>?_)
 ·refine aS fun K hK=>?_;simp -dsimp [w,w2];apply hK;clear hK K
  first|(exfalso;simp at hc0;done)|(exfalso;simp at hc1;done)|(exfalso;simp at hc2;done)|(exfalso;simp at hc3;done)|(exfalso;simp at hc4;done)|(refine awp_ret ?_;simp;done)|(refine awp_ret ?_;simp;exact Bool.eq_iff_iff.2 (by simp;try omega))
 ·refine aS fun K hK=>?_;simp -dsimp [w,w2];apply hK;clear hK K;refine awp_cond rfl (fun hc1=>?_) (fun hc1=>?_)
  ·refine aS fun K hK=>?_;simp -dsimp [w,w2];apply hK;clear hK K
   first|(exfalso;simp at hc0;done)|(exfalso;simp at hc1;done)|(exfalso;simp at hc2;done)|(exfalso;simp at hc3;done)|(exfalso;simp at hc4;done)|(refine awp_ret ?_;simp;done)|(refine awp_ret ?_;simp;exact Bool.eq_iff_iff.2 (by simp;try omega))
  ·refine aS fun K hK=>?_;simp -dsimp [w,w2];apply hK;clear hK K;refine awp_cond rfl (fun hc2=>?_) (fun hc2=>?_)
   ·refine aS fun K hK=>?_;simp -dsimp [w,w2];apply hK;clear hK K
    first|(exfalso;simp at hc0;done)|(exfalso;simp at hc1;done)|(exfalso;simp at hc2;done)|(exfalso;simp at hc3;done)|(exfalso;simp at hc4;done)|(refine awp_ret ?_;simp;done)|(refine awp_ret ?_;simp;exact Bool.eq_iff_iff.2 (by simp;try omega))
   ·refine aS fun K hK=>?_;simp -dsimp [w,w2];apply hK;clear hK K;refine awp_cond rfl (fun hc3=>?_) (fun hc3=>?_)
    ·refine aS fun K hK=>?_;simp -dsimp [w,w2];apply hK;clear hK K
     first|(exfalso;simp at hc0;done)|(exfalso;simp at hc1;done)|(exfalso;simp at hc2;done)|(exfalso;simp at hc3;done)|(exfalso;simp at hc4;done)|(refine awp_ret ?_;simp;done)|(refine awp_ret ?_;simp;exact Bool.eq_iff_iff.2 (by simp;try omega))
    ·refine aS fun K hK=>?_;simp -dsimp [w,w2];apply hK;clear hK K;refine awp_cond rfl (fun hc4=>?_) (fun hc4=>?_)
     ·refine aS fun K hK=>?_;simp -dsimp [w,w2];apply hK;clear hK K
      first|(exfalso;simp at hc0;done)|(exfalso;simp at hc1;done)|(exfalso;simp at hc2;done)|(exfalso;simp at hc3;done)|(exfalso;simp at hc4;done)|(refine awp_ret ?_;simp;done)|(refine awp_ret ?_;simp;exact Bool.eq_iff_iff.2 (by simp;try omega))
     ·refine awp_skip ?_;simp only[zT,reduceIte,Nat.reduceEqDiff];refine hK1 _ _ ?_;refine awp_prune [] ?_;simp only[zP,Nat.reduceEqDiff,reduceIte];refine aS fun K hK=>?_;simp -dsimp [w,w2];apply hK;clear hK K
      first|(exfalso;simp at hc0;done)|(exfalso;simp at hc1;done)|(exfalso;simp at hc2;done)|(exfalso;simp at hc3;done)|(exfalso;simp at hc4;done)|(refine awp_ret ?_;simp;done)|(refine awp_ret ?_;simp;exact Bool.eq_iff_iff.2 (by simp;try omega))
theorem c_rlets6 (n:Node) (a b:Int) (ha:0≤a∧a≤1000) (hb:0≤b∧b≤1000) (hk:n.Kind=6):PureCall Tryz.prog 44 [n.av,I a,I b] (Bo (letsB n a b)):=by
 have w:IntKind.i64.wrap (a+b)=a+b:=wrap_in (by omega) (by omega);have w2:(a+b).tmod 2=(a+b) % 2:=Int.tmod_eq_emod_of_nonneg (by omega);unfold letsB;simp only[Node.av,Node.cells,hk,Int.reduceEq,if_false,if_true,reduceIte];refine PureCall.of_body Tryz.func44 rfl (by decide) (by simp[Tryz.ntmps44]) ?_;simp only[Tryz.ntmps44,Tryz.results44];refine aS fun K hK=>?_;simp -dsimp [w,w2];apply hK;clear hK K;refine awp_seq_k fun K1 hK1=>?_;refine aS fun K hK=>?_;simp -dsimp [w,w2];apply hK;clear hK K;refine awp_block ?_;refine aS fun K hK=>?_;simp -dsimp [w,w2];apply hK;clear hK K;refine awp_cond rfl (fun hc0=>?_) (fun hc0=>?_)
 ·refine aS fun K hK=>?_;simp -dsimp [w,w2];apply hK;clear hK K
  first|(exfalso;simp at hc0;done)|(exfalso;simp at hc1;done)|(exfalso;simp at hc2;done)|(exfalso;simp at hc3;done)|(exfalso;simp at hc4;done)|(refine awp_ret ?_;simp;done)|(refine awp_ret ?_;simp;exact Bool.eq_iff_iff.2 (by simp;try omega))
 ·refine aS fun K hK=>?_;simp -dsimp [w,w2];apply hK;clear hK K;refine awp_cond rfl (fun hc1=>?_) (fun hc1=>?_)
  ·refine aS fun K hK=>?_;simp -dsimp [w,w2];apply hK;clear hK K
   first|(exfalso;simp at hc0;done)|(exfalso;simp at hc1;done)|(exfalso;simp at hc2;done)|(exfalso;simp at hc3;done)|(exfalso;simp at hc4;done)|(refine awp_ret ?_;simp;done)|(refine awp_ret ?_;simp;exact Bool.eq_iff_iff.2 (by simp;try omega))
  ·refine aS fun K hK=>?_;simp -dsimp [w,w2];apply hK;clear hK K;refine awp_cond rfl (fun hc2=>?_) (fun hc2=>?_)
   ·refine aS fun K hK=>?_;simp -dsimp [w,w2];apply hK;clear hK K
    first|(exfalso;simp at hc0;done)|(exfalso;simp at hc1;done)|(exfalso;simp at hc2;done)|(exfalso;simp at hc3;done)|(exfalso;simp at hc4;done)|(refine awp_ret ?_;simp;done)|(refine awp_ret ?_;simp;exact Bool.eq_iff_iff.2 (by simp;try omega))
   ·refine aS fun K hK=>?_;simp -dsimp [w,w2];apply hK;clear hK K;refine awp_cond rfl (fun hc3=>?_) (fun hc3=>?_)
    ·refine aS fun K hK=>?_;simp -dsimp [w,w2];apply hK;clear hK K
     first|(exfalso;simp at hc0;done)|(exfalso;simp at hc1;done)|(exfalso;simp at hc2;done)|(exfalso;simp at hc3;done)|(exfalso;simp at hc4;done)|(refine awp_ret ?_;simp;done)|(refine awp_ret ?_;simp;exact Bool.eq_iff_iff.2 (by simp;try omega))
    ·refine aS fun K hK=>?_;simp -dsimp [w,w2];apply hK;clear hK K;refine awp_cond rfl (fun hc4=>?_) (fun hc4=>?_)
     ·refine aS fun K hK=>?_;simp -dsimp [w,w2];apply hK;clear hK K
      first|(exfalso;simp at hc0;done)|(exfalso;simp at hc1;done)|(exfalso;simp at hc2;done)|(exfalso;simp at hc3;done)|(exfalso;simp at hc4;done)|(refine awp_ret ?_;simp;done)|(refine awp_ret ?_;simp;exact Bool.eq_iff_iff.2 (by simp;try omega))
     ·refine awp_skip ?_;simp only[zT,reduceIte,Nat.reduceEqDiff];refine hK1 _ _ ?_;refine awp_prune [] ?_;simp only[zP,Nat.reduceEqDiff,reduceIte];refine aS fun K hK=>?_;simp -dsimp [w,w2];apply hK;clear hK K
      first|(exfalso;simp at hc0;done)|(exfalso;simp at hc1;done)|(exfalso;simp at hc2;done)|(exfalso;simp at hc3;done)|(exfalso;simp at hc4;done)|(refine awp_ret ?_;simp;done)|(refine awp_ret ?_;simp;exact Bool.eq_iff_iff.2 (by simp;try omega))
theorem c_rlets (n:Node) (a b:Int) (ha:0≤a∧a≤1000) (hb:0≤b∧b≤1000) (hk:1≤n.Kind∧n.Kind≤6):PureCall Tryz.prog 44 [n.av,I a,I b] (Bo (letsB n a b)):=by
 have:n.Kind=1∨n.Kind=2∨n.Kind=3∨n.Kind=4∨n.Kind=5∨n.Kind=6:=by omega
 rcases this with h|h|h|h|h|h
 ·exact c_rlets1 n a b ha hb h
 ·exact c_rlets2 n a b ha hb h
 ·exact c_rlets3 n a b ha hb h
 ·exact c_rlets4 n a b ha hb h
 ·exact c_rlets5 n a b ha hb h
 ·exact c_rlets6 n a b ha hb h
theorem idxTo_bd (e:REnd):∀(l:List REnd) (i:Int),0≤i→ -1≤idxTo e l i∧idxTo e l i≤i+l.length
 |[],i,h=>by simp[idxTo];omega
 |x::l,i,h=>by
  have:=idxTo_bd e l (i+1) (by omega);simp only[idxTo]
  split<;>simp<;>omega
theorem idxE_bd (n:Node) (e:REnd):-1≤idxE n e∧idxE n e≤n.Ends.length:=by
 have:=idxTo_bd e n.Ends 0 (by omega);unfold idxE;omega
theorem c_rFollows (p:Plan) (m k:Move) (hv:validB p=true) (hm:movB p m=true):PureCall Tryz.prog 21 [p.av,m.av,k.av] (Bo (rFoll p m k)):=by
 have hm':=movB_iff.1 hm;have ha:=at_in hv (e:=arrE m) hm'.1 hm'.2;have hnode:=p.node_get ha.1 ha.2;have hnf:=node_kind (node_fine hv ha.1 ha.2);have hca:=c_at p (arrE m) hm'.1 hm'.2;have hna:p.node (p.at (arrE m))=nodeAt p m:=rfl;rw[hna]at hnode hnf;have hi1:=c_index (nodeAt p m) (arrE m) (by omega);have hi2:=c_index (nodeAt p m) (leaE k) (by omega);have hb1:=idxE_bd (nodeAt p m) (arrE m);have hb2:=idxE_bd (nodeAt p m) (leaE k);have hlt:=fun h1 h2=>c_rlets (nodeAt p m) (idxE (nodeAt p m) (arrE m)) (idxE (nodeAt p m) (leaE k)) ⟨h1,by omega⟩ ⟨h2,by omega⟩ hnf.1;have hrf:rFoll p m k=(decide (0≤idxE (nodeAt p m) (arrE m))&&(decide (0≤idxE (nodeAt p m) (leaE k))&&letsB (nodeAt p m) (idxE (nodeAt p m) (arrE m)) (idxE (nodeAt p m) (leaE k)))):=rfl;rw[hrf];generalize letsB (nodeAt p m) (idxE (nodeAt p m) (arrE m)) (idxE (nodeAt p m) (leaE k))=lt at hlt ⊢;generalize nodeAt p m=n at*
 refine PureCall.of_body Tryz.func21 rfl (by decide) (by simp[Tryz.ntmps21]) ?_;simp only[Tryz.ntmps21,Tryz.results21];refine aS fun K hK=>?_;simp -dsimp;apply hK;clear hK K;refine awp_sd mixed rfl fun K hK=>?_;simp -dsimp;refine callK_intro _ (c_rarr m) (by simp) ?_;simp -dsimp;refine callK_intro _ (hca) (by simp) ?_;simp -dsimp;refine hK _ _ _ (by decide+kernel) ?_;clear hK K;refine aS fun K hK=>?_;simp -dsimp [hnode,ha.1];apply hK;clear hK K;refine awp_sd mixed rfl fun K hK=>?_;simp -dsimp;refine callK_intro _ (c_rarr m) (by simp) ?_;simp -dsimp;refine callK_intro _ (hi1) (by simp) ?_;simp -dsimp;refine callK_intro _ (c_rlea k) (by simp) ?_;simp -dsimp;refine callK_intro _ (hi2) (by simp) ?_;simp -dsimp;refine hK _ _ _ (by decide+kernel) ?_;clear hK K;refine aS fun K hK=>?_;simp -dsimp;refine callK_may _ (fun hm=>hlt (by simp at hm;exact hm.1) (by simp at hm;exact hm.2)) (by simp) ?_;simp -dsimp;apply hK;clear hK K;exact awp_ret (by simp[Bool.and_assoc])
structure Setg where
 Node:Int
 Leg:Int
 deriving DecidableEq,Inhabited
@[simp] def Setg.cells (s:Setg):List AV:=[I s.Node,I s.Leg]
end Go.Tram
end
section
namespace Go.Tram
open Go.AM Go.Proofs
def smallB (p:Plan):Bool:=(p.Nodes.all (fun n=>decide (n.Ends.length≤8))&&p.Rails.all (fun r=>decide (r.Shape.length≤40)))&&
 !((decide (12<p.Nodes.length)&&decide (p.Nodes.length≤300))||((decide (14<p.Rails.length)&&decide (p.Rails.length≤400))||(decide (400<p.Nodes.length)||decide (500<p.Rails.length))))
def fineB (p:Plan) (m n:Move):Bool:=smallB p&&(validB p&&(movB p m&&movB p n))
end Go.Tram
end
section
namespace Go.Tram
open Go.AM Go.Proofs
theorem c_rWay (p:Plan) (l:List Move) (hv:validB p=true) (hn:l.length≤100000):PureCall Tryz.prog 7 [p.av,mLst l] (Bo (wayB p l)):=by
 have hR:=(valid_parts hv).2.1;have hmo:=fun m=>c_rMove p m (by omega);have hfol:∀m k,movB p m=true→movB p k=true→PureCall Tryz.prog 21 [p.av,m.av,k.av] (Bo (follB p m k)):=fun m k h1 h2=>by rw[foll_eq hv h1 h2];exact c_rFollows p m k hv h1
 refine PureCall.of_body Tryz.func7 rfl (by decide) (by simp[Tryz.ntmps7]) ?_;simp only[Tryz.ntmps7,Tryz.results7];refine aS fun K hK=>?_;simp -dsimp;apply hK;clear hK K;refine awp_seq_k fun K1 hK1=>?_;refine aS fun K hK=>?_;simp -dsimp;apply hK;clear hK K;refine awp_block ?_;refine awp_prune [1,2,5] ?_;simp only[zP,Nat.reduceEqDiff,reduceIte];refine awp_loop_l [1,2] (α:=Nat) (fun i=>[(5,I i)]) (fun i=>[some (.els 2 [p.cells])]) (fun i=>i≤l.length∧(List.range i).all (stepB p l)=true) (fun i=>l.length-i) 0 ?_ ?_ ?_
 ·simp
 ·exact sub_same (by simp)
 rintro i ⟨i1,i2⟩;simp only[zP,Nat.reduceEqDiff,reduceIte];refine awp_seq_k fun K2 hK2=>?_;refine aS fun K hK=>?_;simp -dsimp;apply hK;clear hK K;refine awp_cond rfl (fun hc0=>?_) (fun hc0=>?_)
 ·skip
  try simp at hc0
  obtain⟨m,hgm⟩:∃m,l[i]?=some m:=⟨_,List.getElem?_eq_getElem hc0⟩;have wi:=zW i (by omega);have w1:IntKind.i64.wrap ((i:Int)-1)=(i:Int)-1:=wrap_in (by omega) (by omega);have hprev:0<i→l[i-1]?=some (l[i-1]?.getD default):=fun h=>by rw[List.getElem?_eq_getElem (by omega)];rfl
  have hpm:0<i→movB p (l[i-1]?.getD default)=true:=fun h=>(Bool.and_eq_true_iff.1 (allR_at i2 (show i-1<i by omega))).1;have hst:stepB p l i=(movB p m&&(decide (i=0)||follB p (l[i-1]?.getD default) m)):=by unfold stepB;rw[hgm];rfl
  generalize l[i-1]?.getD default=m' at hprev hpm hst;refine awp_skip ?_;simp only[zT,reduceIte,Nat.reduceEqDiff];refine hK2 _ _ ?_;refine awp_prune [1,2,5] ?_;simp only[zP,Nat.reduceEqDiff,reduceIte];refine awp_seq_k fun K3 hK3=>?_;refine awp_block ?_;refine awp_sd mixed rfl fun K hK=>?_;simp -dsimp [hgm,w1];refine callK_intro _ (hmo m) (by simp) ?_;simp -dsimp [hgm,w1];refine⟨fun _ h=>by omega,?_⟩
  try simp -dsimp
  refine idxK_intro m'.cells (fun hq=>by simp at hq;rw[List.getElem?_map,hprev hq.2];rfl) ?_;simp -dsimp [hgm,w1];refine idxK_intro m.cells (fun _=>by rw[List.getElem?_map,hgm];rfl) ?_;simp -dsimp [hgm,w1];refine callK_may _ (fun hm=>(hfol m' m (hpm (by simp at hm;exact hm.2)) (by simp at hm;exact hm.1))) (by simp) ?_;simp -dsimp [hgm,w1];refine hK _ _ _ (by decide+kernel) ?_;clear hK K;refine awp_cond rfl (fun hc1=>?_) (fun hc1=>?_)
  ·rw[step_neg,←hst]at hc1;have hsf:stepB p l i=false:=by simpa using hc1
   have hb:wayB p l=false:=by unfold wayB;rw[show(List.range l.length).all (stepB p l)=false from by rw[List.all_eq_false];exact⟨i,List.mem_range.2 hc0,by simp[hsf]⟩];rfl
   refine aS fun K hK=>?_;simp -dsimp;apply hK;clear hK K;exact awp_ret (by simp[hb])
  ·rw[step_neg,←hst]at hc1;have hst1:stepB p l i=true:=by simpa using hc1
   refine awp_skip ?_;simp only[zT,reduceIte,Nat.reduceEqDiff];refine hK3 _ _ ?_;refine awp_prune [1,2,5] ?_;simp only[zP,Nat.reduceEqDiff,reduceIte];refine aR fun K hK=>?_;simp -dsimp [wi];apply hK;clear hK K;simp only[zT,reduceIte,Nat.reduceEqDiff];exact⟨i+1,⟨by omega,by rw[allR_succ,i2,hst1];rfl⟩,by omega,sub_rb [some 0] rfl (by simp) (by simp)⟩
 ·skip
  try simp at hc0
  have hie:i=l.length:=by omega
  subst hie;refine awp_exit ?_;simp only[zT,reduceIte,Nat.reduceEqDiff];refine hK1 _ _ ?_;refine awp_prune [1] ?_;simp only[zP,Nat.reduceEqDiff,reduceIte];refine aS fun K hK=>?_;simp -dsimp;refine callK_intro _ (c_in l.length 1 2000) (by simp) ?_;simp -dsimp;apply hK;clear hK K;exact awp_ret (by simp[wayB,i2])
end Go.Tram
end
section
namespace Go.Tram
open Go.AM Go.Proofs
attribute [-simp] minI maxI
end Go.Tram
end
section
namespace Go.Mo
open Go.AM Go.Cur Go.Proofs
open Go.Tram (Plan validB wayB begTo mvAt movB mLst begTo_bd way_mov way_len len_bd movB_iff c_Valid c_rWay valid_parts)
theorem c_in3 (x lo hi:Int):PureCall Tryz.prog 23 [I x,I lo,I hi] (Bo (inr x lo hi)):=by
 refine PureCall.of_body Tryz.func23 rfl (by decide) (by simp[Tryz.ntmps23]) ?_;simp only[Tryz.ntmps23,Tryz.results23];refine aS fun K hK=>?_;simp -dsimp;apply hK;clear hK K;refine aS fun K hK=>?_;simp -dsimp;apply hK;clear hK K;exact awp_ret (by simp[inr])
theorem c_rTrain (t:Tn):PureCall Tryz.prog 8 [t.av] (Bo (okT t)):=by
 refine PureCall.of_body Tryz.func8 rfl (by decide) (by simp[Tryz.ntmps8]) ?_;simp only[Tryz.ntmps8,Tryz.results8];refine aS fun K hK=>?_;simp -dsimp;apply hK;clear hK K;refine awp_seq_k fun K1 hK1=>?_;refine aS fun K hK=>?_;simp -dsimp;refine callK_intro _ (c_in3 t.Mass 1000 80000) (by simp) ?_;simp -dsimp;refine callK_may _ (fun hm=>c_in3 t.Length 1 60000) (by simp) ?_;simp -dsimp;refine callK_may _ (fun hm=>c_in3 t.Speed 1 25000) (by simp) ?_;simp -dsimp;refine callK_may _ (fun hm=>c_in3 t.Effort 1 200000) (by simp) ?_;simp -dsimp;refine callK_may _ (fun hm=>c_in3 t.Brake 1 200000) (by simp) ?_;simp -dsimp;refine callK_may _ (fun hm=>c_in3 t.Power 1 2000000) (by simp) ?_;simp -dsimp;refine callK_may _ (fun hm=>c_in3 t.Resist 0 100000) (by simp) ?_;simp -dsimp;refine callK_may _ (fun hm=>c_in3 t.Rise 0 10000) (by simp) ?_;simp -dsimp;refine callK_may _ (fun hm=>c_in3 t.Back 0 100) (by simp) ?_;simp -dsimp;refine callK_may _ (fun hm=>c_in3 t.Grip.length 1 8) (by simp) ?_;simp -dsimp;apply hK;clear hK K;refine awp_cond rfl (fun hc0=>?_) (fun hc0=>?_)
 ·refine aS fun K hK=>?_;simp -dsimp;apply hK;clear hK K;have h0:okT t=false:=by
   simp only[okT];generalize inr t.Mass 1000 80000=b1 at*
   generalize inr t.Length 1 60000=b2 at*
   generalize inr t.Speed 1 25000=b3 at*
   generalize inr t.Effort 1 200000=b4 at*
   generalize inr t.Brake 1 200000=b5 at*
   generalize inr t.Power 1 2000000=b6 at*
   generalize inr t.Resist 0 100000=b7 at*
   generalize inr t.Rise 0 10000=b8 at*
   generalize inr t.Back 0 100=b9 at*
   generalize inr t.Grip.length 1 8=b10 at*
   revert hc0;cases b1<;>cases b2<;>cases b3<;>cases b4<;>cases b5<;>cases b6<;>cases b7<;>cases b8<;>cases b9<;>cases b10<;>simp
  exact awp_ret (by simp[h0])
 ·have hoh:(okT t=t.Grip.all fun x=>inr x 1 1000)∧inr t.Grip.length 1 8=true:=by
   simp only[okT];generalize inr t.Mass 1000 80000=b1 at*
   generalize inr t.Length 1 60000=b2 at*
   generalize inr t.Speed 1 25000=b3 at*
   generalize inr t.Effort 1 200000=b4 at*
   generalize inr t.Brake 1 200000=b5 at*
   generalize inr t.Power 1 2000000=b6 at*
   generalize inr t.Resist 0 100000=b7 at*
   generalize inr t.Rise 0 10000=b8 at*
   generalize inr t.Back 0 100=b9 at*
   generalize inr t.Grip.length 1 8=b10 at*
   revert hc0;cases b1<;>cases b2<;>cases b3<;>cases b4<;>cases b5<;>cases b6<;>cases b7<;>cases b8<;>cases b9<;>cases b10<;>simp
  obtain⟨ho,hn8⟩:=hoh;have hn:=(inr_iff.1 hn8).2;refine awp_skip ?_;simp only[zT,reduceIte,Nat.reduceEqDiff];refine hK1 _ _ ?_;refine awp_prune [1] ?_;simp only[zP,Nat.reduceEqDiff,reduceIte];refine awp_seq_k fun K2 hK2=>?_;refine aS fun K hK=>?_;simp -dsimp;apply hK;clear hK K;refine awp_block ?_;refine awp_prune [1,3] ?_;simp only[zP,Nat.reduceEqDiff,reduceIte];refine awp_loop_l [1] (α:=Nat) (fun k=>[(3,I k)]) (fun _=>[some (.els 10 [t.cells])]) (fun k=>k≤t.Grip.length∧(t.Grip.take k).all (fun x=>inr x 1 1000)=true) (fun k=>t.Grip.length-k) 0 ?_ ?_ ?_
  ·exact⟨Nat.zero_le _,by simp⟩
  ·exact sub_rb [some 0] rfl (by simp) (by simp)
  rintro k ⟨k1,k2⟩;simp only[zP,Nat.reduceEqDiff,reduceIte];refine awp_seq_k fun K3 hK3=>?_;refine aS fun K hK=>?_;simp -dsimp;apply hK;clear hK K;refine awp_cond rfl (fun hc1=>?_) (fun hc1=>?_)
  ·have hkl:k<t.Grip.length:=by simpa using hc1
   have wk:=zW k (by omega);have gk:=at0_nat hkl;refine awp_skip ?_;simp only[zT,reduceIte,Nat.reduceEqDiff];refine hK3 _ _ ?_;refine awp_prune [1,3] ?_;simp only[zP,Nat.reduceEqDiff,reduceIte];refine awp_seq_k fun K4 hK4=>?_;refine awp_block ?_;refine aS fun K hK=>?_;simp -dsimp [gk];refine callK_intro _ (c_in3 (at0 t.Grip k) 1 1000) (by simp) ?_;simp -dsimp [gk];apply hK;clear hK K;refine awp_cond rfl (fun hc2=>?_) (fun hc2=>?_)
   ·have hb:inr (at0 t.Grip k) 1 1000=false:=by simpa using hc2
    have h0:okT t=false:=by rw[ho,List.all_eq_false];exact⟨_,List.mem_of_getElem? gk,by simp[hb]⟩
    refine aS fun K hK=>?_;simp -dsimp;apply hK;clear hK K;exact awp_ret (by simp[h0])
   ·have hb:inr (at0 t.Grip k) 1 1000=true:=by simpa using hc2
    refine awp_skip ?_;simp only[zT,reduceIte,Nat.reduceEqDiff];refine hK4 _ _ ?_;refine awp_prune [1,3] ?_;simp only[zP,Nat.reduceEqDiff,reduceIte];refine aR fun K hK=>?_;simp -dsimp [wk];apply hK;clear hK K;simp only[zT,reduceIte,Nat.reduceEqDiff];exact⟨k+1,⟨by omega,by rw[List.take_add_one,gk,List.all_append,k2];simp[hb]⟩,by omega,sub_rb [some 0] rfl (by simp) (by simp)⟩
  ·have hkl:¬k<t.Grip.length:=by simpa using hc1
   rw[List.take_of_length_le (by omega)]at k2;refine awp_exit ?_;simp only[zT,reduceIte,Nat.reduceEqDiff];refine hK2 _ _ ?_;refine awp_prune [] ?_;simp only[zP,Nat.reduceEqDiff,reduceIte];refine aS fun K hK=>?_;simp -dsimp;apply hK;clear hK K;exact awp_ret (by simp[ho,k2])
end Go.Mo
end
section
namespace Go.Mo
open Go.AM Go.Cur Go.Proofs
open Go.Tram (Plan validB wayB begTo mvAt movB mLst begTo_bd way_mov way_len len_bd movB_iff c_Valid c_rWay valid_parts)
def brfB (p:Plan):Bool:=decide (p.Rails.length≤12)&&(decide (p.Nodes.length≤16)&&((p.Nodes.all fun n=>decide (n.Ends.length≤10))&&validB p))
theorem c_brief9 (p:Plan):PureCall Tryz.prog 6 [p.av] (Bo (brfB p)):=by
 have hva:=c_Valid p;have e1:decide (p.Rails.length≤12)= !decide ((12:Int)<p.Rails.length):=by rw[←decide_not];exact decide_eq_decide.2 (by omega)
 have e2:decide (p.Nodes.length≤16)= !decide ((16:Int)<p.Nodes.length):=by rw[←decide_not];exact decide_eq_decide.2 (by omega)
 unfold brfB;rw[e1,e2];refine PureCall.of_body Tryz.func6 rfl (by decide) (by simp[Tryz.ntmps6]) ?_;simp only[Tryz.ntmps6,Tryz.results6];refine aS fun K hK=>?_;simp -dsimp;apply hK;clear hK K;refine awp_seq_k fun K1 hK1=>?_;refine aS fun K hK=>?_;simp -dsimp;apply hK;clear hK K;refine awp_cond rfl (fun hc0=>?_) (fun hc0=>?_)
 ·refine aS fun K hK=>?_;simp -dsimp;apply hK;clear hK K;refine awp_ret ?_;generalize decide ((12:Int)<p.Rails.length)=b1 at*
  generalize decide ((16:Int)<p.Nodes.length)=b2 at*
  cases b1<;>cases b2<;>simp at hc0 ⊢
 ·have hcc:decide ((12:Int)<p.Rails.length)=false∧decide ((16:Int)<p.Nodes.length)=false:=by
   generalize decide ((12:Int)<p.Rails.length)=b1 at*
   generalize decide ((16:Int)<p.Nodes.length)=b2 at*
   revert hc0;clear hva;cases b1<;>cases b2<;>simp
  have hN:p.Nodes.length≤16:=by have:=hcc.2;simp at this;omega
  refine awp_skip ?_;simp only[zT,reduceIte,Nat.reduceEqDiff];refine hK1 _ _ ?_;refine awp_prune [1] ?_;simp only[zP,Nat.reduceEqDiff,reduceIte];refine awp_seq_k fun K2 hK2=>?_;refine aS fun K hK=>?_;simp -dsimp;apply hK;clear hK K;refine awp_block ?_;refine awp_prune [1,3] ?_;simp only[zP,Nat.reduceEqDiff,reduceIte];refine awp_loop_l [1] (α:=Nat) (fun k=>[(3,I k)]) (fun _=>[some (.els 2 [p.cells])]) (fun k=>k≤p.Nodes.length∧(p.Nodes.take k).all (fun n=>decide (n.Ends.length≤10))=true) (fun k=>p.Nodes.length-k) 0 ?_ ?_ ?_
  ·exact⟨Nat.zero_le _,by simp⟩
  ·exact sub_rb [some 0] rfl (by simp) (by simp)
  rintro k ⟨k1,k2⟩;simp only[zP,Nat.reduceEqDiff,reduceIte];refine awp_seq_k fun K3 hK3=>?_;refine aS fun K hK=>?_;simp -dsimp;apply hK;clear hK K;refine awp_cond rfl (fun hc1=>?_) (fun hc1=>?_)
  ·have hkl:k<p.Nodes.length:=by simpa using hc1
   have wk:=zW k (by omega);obtain⟨x,gx⟩:∃x,p.Nodes[k]?=some x:=⟨_,List.getElem?_eq_getElem hkl⟩;refine awp_skip ?_;simp only[zT,reduceIte,Nat.reduceEqDiff];refine hK3 _ _ ?_;refine awp_prune [1,3] ?_;simp only[zP,Nat.reduceEqDiff,reduceIte];refine awp_seq_k fun K4 hK4=>?_;refine awp_block ?_;refine aS fun K hK=>?_;simp -dsimp [gx];apply hK;clear hK K;refine awp_cond rfl (fun hc2=>?_) (fun hc2=>?_)
   ·have hx:¬x.Ends.length≤10:=by have h:=(by simpa using hc2:(10:Int)<x.Ends.length);omega
    have hall:(p.Nodes.all fun n=>decide (n.Ends.length≤10))=false:=by rw[List.all_eq_false];exact⟨x,List.mem_of_getElem? gx,by simpa using hx⟩
    refine aS fun K hK=>?_;simp -dsimp;apply hK;clear hK K;exact awp_ret (by simp only[hall];simp)
   ·have hx:x.Ends.length≤10:=by have h:¬(10:Int)<x.Ends.length:=(by simpa using hc2);omega
    refine awp_skip ?_;simp only[zT,reduceIte,Nat.reduceEqDiff];refine hK4 _ _ ?_;refine awp_prune [1,3] ?_;simp only[zP,Nat.reduceEqDiff,reduceIte];refine aR fun K hK=>?_;simp -dsimp [wk];apply hK;clear hK K;simp only[zT,reduceIte,Nat.reduceEqDiff];exact⟨k+1,⟨by omega,by rw[List.take_add_one,gx,List.all_append,k2];simpa using hx⟩,by omega,sub_rb [some 0] rfl (by simp) (by simp)⟩
  ·have hkl:¬k<p.Nodes.length:=by simpa using hc1
   rw[List.take_of_length_le (by omega)]at k2;refine awp_exit ?_;simp only[zT,reduceIte,Nat.reduceEqDiff];refine hK2 _ _ ?_;refine awp_prune [1] ?_;simp only[zP,Nat.reduceEqDiff,reduceIte];refine aS fun K hK=>?_;simp -dsimp;refine callK_intro _ (hva) (by simp) ?_;simp -dsimp;apply hK;clear hK K;exact awp_ret (by rw[hcc.1,hcc.2];simp only[k2];simp)
theorem brfB_ok {p:Plan} (h:brfB p=true):validB p=true∧p.Rails.length≤12:=by
 unfold brfB at h;simp only[Bool.and_eq_true,decide_eq_true_eq]at h;exact⟨h.2.2.2,h.1⟩
end Go.Mo
end
section
namespace Go.Cur
def E {α:Type}:(α→List α→Int)→List α→Int
 |_,[]=>0
 |f,c::cs=>f c cs-E (fun d l=>f d (c::l)) cs
theorem E_congr {α:Type}:∀{cs:List α} {f g:α→List α→Int},(∀c l,c∈cs→l.length+1=cs.length→(∀x∈l,x∈cs)→f c l=g c l)→E f cs=E g cs
 |[],_,_,_=>rfl
 | c::cs,f,g,h=>by
  rw[E,E,h c cs (by simp) (by simp) (fun x hx=>by simp[hx])]
  congr 1
  exact E_congr fun d l hd hl hm=>h d (c::l) (by simp[hd]) (by simp only[List.length_cons];omega) (fun x hx=>by
   rcases List.mem_cons.1 hx with rfl|hx
   ·simp
   ·exact List.mem_cons_of_mem _ (hm x hx))
theorem E_add {α:Type}:∀{cs:List α} {f g:α→List α→Int},E (fun c l=>f c l+g c l) cs=E f cs+E g cs
 |[],_,_=>rfl
 |c::cs,f,g=>by rw[E,E,E,E_add];omega
theorem E_smul {α:Type} (a:Int):∀{cs:List α} {f:α→List α→Int},E (fun c l=>a*f c l) cs=a*E f cs
 |[],_=>by simp[E]
 |c::cs,f=>by rw[E,E,E_smul,Int.mul_sub]
theorem E_neg {α:Type} {cs:List α} {f:α→List α→Int}:E (fun c l=>-f c l) cs=-E f cs:=by
 have:=E_smul (cs:=cs) (f:=f) (-1);simpa using this
theorem E_sub {α:Type} {cs:List α} {f g:α→List α→Int}:E (fun c l=>f c l-g c l) cs=E f cs-E g cs:=by
 have:=E_add (cs:=cs) (f:=f) (g:=fun c l=>-g c l);rw[E_neg]at this;simpa [Int.sub_eq_add_neg]using this
theorem E_zero {α:Type} {cs:List α} {f:α→List α→Int} (h:∀c l,c∈cs→l.length+1=cs.length→(∀x∈l,x∈cs)→f c l=0):E f cs=0:=by
 have:E f cs=E (fun c l=>0*f c l) cs:=E_congr fun c l h1 h2 h3=>by rw[h c l h1 h2 h3];simp
 rw[this,E_smul,Int.zero_mul]
theorem E_swap {α:Type} {a b:α}:∀{pre post:List α} {f:α→List α→Int},(∀c u v,f c (u++a::b::v)=-f c (u++b::a::v))→E f (pre++a::b::post)=-E f (pre++b::a::post)
 | [],post,f,h=>by
  simp only[List.nil_append,E];have:E (fun d l=>f d (a::b::l)) post=-E (fun d l=>f d (b::a::l)) post:=by
   rw[←E_neg];exact E_congr fun d l _ _ _=>h d [] l
  omega
 |x::pre,post,f,h=>by
  simp only[List.cons_append,E];rw[h,E_swap (f:=fun d l=>f d (x::l)) (pre:=pre) (post:=post) fun c u v=>h c (x::u) v];omega
theorem E_lin {α:Type} {a b z:α} {x y:Int}:∀{pre post:List α} {f:α→List α→Int},(∀c u v,f c (u++z::v)=x*f c (u++a::v)+y*f c (u++b::v))→(∀l,f z l=x*f a l+y*f b l)→
  E f (pre++z::post)=x*E f (pre++a::post)+y*E f (pre++b::post)
 | [],post,f,h,hz=>by
  simp only[List.nil_append,E];have:E (fun d l=>f d (z::l)) post=x*E (fun d l=>f d (a::l)) post+y*E (fun d l=>f d (b::l)) post:=by
   rw[←E_smul,←E_smul,←E_add];exact E_congr fun d l _ _ _=>h d [] l
  rw[hz,this,Int.mul_sub,Int.mul_sub];omega
 |w::pre,post,f,h,hz=>by
  simp only[List.cons_append,E];rw[h,E_lin (f:=fun d l=>f d (w::l)) (pre:=pre) (post:=post) (fun c u v=>h c (w::u) v) (fun l=>hz (w::l)),Int.mul_sub,Int.mul_sub];omega
theorem E_two {α:Type}:∀{cs:List α} {h:α→α→List α→Int},E (fun c l=>E (fun d m=>h c d m) l) cs=-E (fun c l=>E (fun d m=>h d c m) l) cs
 |[],_=>rfl
 |x::cs,h=>by
  simp only[E,E_sub];have h1:E (fun c=>E fun d l=>h c d (x::l)) cs=-E (fun c=>E fun d l=>h d c (x::l)) cs:=E_two (cs:=cs) (h:=fun c d m=>h c d (x::m));have h2:E (fun d m=>h d x m) cs=E (fun c=>h c x) cs:=rfl;have h3:E (fun d m=>h x d m) cs=E (h x) cs:=rfl;omega
def det:List Nat→List (Nat→Int)→Int
 |[],[]=>1
 |[],_::_=>0
 |i::is,cs=>E (fun c l=>c i*det is l) cs
def sg:Nat→Int
 |0=>1
 |n+1=>-sg n
theorem sg_sq:∀n,sg n*sg n=1
 |0=>rfl
 |n+1=>by rw[sg,Int.neg_mul_neg,sg_sq n]
theorem det_swap {a b:Nat→Int}:∀{is:List Nat} {pre post:List (Nat→Int)},det is (pre++a::b::post)=-det is (pre++b::a::post)
 |[],pre,post=>by cases pre<;>simp[det]
 |i::is,pre,post=>by
  rw[det,det];exact E_swap fun c u v=>by rw[det_swap (is:=is),Int.mul_neg]
theorem det_lin {a b:Nat→Int} {x y:Int}:∀{is:List Nat} {pre post:List (Nat→Int)},is≠[]→det is (pre++(fun i=>x*a i+y*b i)::post)=x*det is (pre++a::post)+y*det is (pre++b::post)
 |[],pre,post,h=>absurd rfl h
 |[i],pre,post,_=>by
  rw[det,det,det];refine E_lin (fun c u v=>?_) (fun l=>?_)
  ·cases u<;>simp[det]
  ·simp only[Int.add_mul,Int.mul_assoc]
 |i::j::is,pre,post,_=>by
  rw[det,det,det];refine E_lin (fun c u v=>?_) (fun l=>?_)
  ·rw[det_lin (is:=j::is) (by simp),Int.mul_add,Int.mul_left_comm,Int.mul_left_comm (c i) y]
  ·simp only[Int.add_mul,Int.mul_assoc]
theorem det_front {a:Nat→Int} {is:List Nat}:∀{pre mid post:List (Nat→Int)},det is (pre++mid++a::post)=sg mid.length*det is (pre++a::mid++post)
 |pre,[],post=>by simp[sg]
 |pre,m::mid,post=>by
  have h:=det_front (a:=a) (is:=is) (pre:=pre++[m]) (mid:=mid) (post:=post);have h2:=det_swap (a:=m) (b:=a) (is:=is) (pre:=pre) (post:=mid++post);simp only[List.append_assoc,List.cons_append,List.nil_append,List.length_cons,sg]at h h2 ⊢;rw[h,h2,Int.mul_neg,Int.neg_mul]
theorem det_rows {i j:Nat} {is:List Nat} {cs:List (Nat→Int)}:det (i::j::is) cs=-det (j::i::is) cs:=by
 simp only[det];simp only[←E_smul];rw[E_two]
 congr 1
 exact E_congr fun c l _ _ _=>E_congr fun d m _ _ _=>by rw[Int.mul_left_comm]
theorem det_twice {i:Nat}:∀{u v:List Nat} {cs:List (Nat→Int)},det (i::(u++i::v)) cs=0
 |[],v,cs=>by have:=det_rows (i:=i) (j:=i) (is:=v) (cs:=cs);rw[List.nil_append];omega
 |j::u,v,cs=>by
  rw[List.cons_append,det_rows,det];rw[E_zero fun c l _ _ _=>by rw[det_twice,Int.mul_zero]]
  rfl
theorem det_mem {i:Nat} {is:List Nat} {cs:List (Nat→Int)} (h:i∈is):det (i::is) cs=0:=by
 obtain⟨u,v,rfl⟩:=List.append_of_mem h;exact det_twice
theorem det_row_front {r:Nat}:∀{is v:List Nat} {cs:List (Nat→Int)},det (is++r::v) cs=sg is.length*det (r::(is++v)) cs
 |[],v,cs=>by simp[sg]
 | i::is,v,cs=>by
  have:det (i::(is++r::v)) cs=sg is.length*det (i::r::(is++v)) cs:=by
   rw[det,det,←E_smul];exact E_congr fun c l _ _ _=>by rw[det_row_front,Int.mul_left_comm]
  rw[List.cons_append,this,det_rows,List.length_cons,sg,Int.mul_neg,Int.neg_mul];rfl
def rep (i:Nat) (is:List Nat) (b:Nat→Int) (pre:List (Nat→Int)):List (Nat→Int)→Int
 |[]=>0
 |c::post=>c i*det is (pre++b::post)+rep i is b (pre++[c]) post
theorem rep_E {i:Nat} {is:List Nat} {b:Nat→Int}:∀{post pre:List (Nat→Int)},E (fun d l=>d i*det is (b::pre++l)) post=sg pre.length*rep i is b pre post
 |[],pre=>by simp[E,rep]
 |c::post,pre=>by
  have h:=rep_E (i:=i) (is:=is) (b:=b) (post:=post) (pre:=pre++[c]);have h2:=det_front (a:=b) (is:=is) (pre:=[]) (mid:=pre) (post:=post);simp only[List.append_assoc,List.cons_append,List.nil_append,List.length_append,List.length_cons,List.length_nil,sg]at h h2 ⊢;rw[E,rep,h,h2];have hs:=sg_sq pre.length;rw[Int.mul_add,Int.mul_left_comm (sg pre.length) (c i),←Int.mul_assoc (sg pre.length) (sg pre.length),hs,Int.one_mul,Int.neg_mul];omega
theorem cramer {i:Nat} {is:List Nat} {b:Nat→Int} {cs:List (Nat→Int)} (h:i∈is):rep i is b [] cs=det is cs*b i:=by
 have h1:=det_mem (cs:=b::cs) h;have h2:=rep_E (i:=i) (is:=is) (b:=b) (post:=cs) (pre:=[]);rw[det,E]at h1;simp only[List.cons_append,List.nil_append,List.length_nil,sg,Int.one_mul]at h2;rw[h2]at h1;rw[Int.mul_comm];omega
end Go.Cur
end
section
namespace Go.Cur
def sm (f:Nat→Int):List Nat→Int
 |[]=>0
 |i::is=>f i+sm f is
theorem sm_append {f:Nat→Int}:∀{u v:List Nat},sm f (u++v)=sm f u+sm f v
 |[],v=>by simp[sm]
 |i::u,v=>by rw[List.cons_append,sm,sm,sm_append];omega
theorem sm_congr {f g:Nat→Int}:∀{u:List Nat},(∀i∈u,f i=g i)→sm f u=sm g u
 |[],_=>rfl
 |i::u,h=>by rw[sm,sm,h i (by simp),sm_congr fun k hk=>h k (by simp[hk])]
theorem sm_zero {f:Nat→Int}:∀{u:List Nat},(∀i∈u,f i=0)→sm f u=0
 |[],_=>rfl
 |i::u,h=>by rw[sm,h i (by simp),sm_zero fun k hk=>h k (by simp[hk])];rfl
theorem sm_nn {f:Nat→Int}:∀{u:List Nat},(∀i∈u,0≤f i)→0≤sm f u
 |[],_=>by simp[sm]
 |i::u,h=>by
  have h1:=h i (by simp);have h2:=sm_nn (f:=f) (u:=u) fun k hk=>h k (by simp[hk]);rw[sm];omega
theorem sm_le {f g:Nat→Int}:∀{u:List Nat},(∀i∈u,f i≤g i)→sm f u≤sm g u
 |[],_=>by simp[sm]
 |i::u,h=>by
  have h1:=h i (by simp);have h2:=sm_le (f:=f) (g:=g) (u:=u) fun k hk=>h k (by simp[hk]);rw[sm,sm];omega
theorem sm_add {f g:Nat→Int}:∀{u:List Nat},sm (fun i=>f i+g i) u=sm f u+sm g u
 |[]=>rfl
 |i::u=>by rw[sm,sm,sm,sm_add];omega
theorem sm_smul {f:Nat→Int} (a:Int):∀{u:List Nat},sm (fun i=>a*f i) u=a*sm f u
 |[]=>by simp[sm]
 |i::u=>by rw[sm,sm,sm_smul,Int.mul_add]
theorem sm_comm {f:Nat→Nat→Int}:∀{u v:List Nat},sm (fun i=>sm (fun k=>f i k) v) u=sm (fun k=>sm (fun i=>f i k) u) v
 |[],v=>by rw[sm,sm_zero];intro k _;rfl
 |i::u,v=>by
  rw[sm,sm_comm (u:=u),←sm_add];exact sm_congr fun k _=>rfl
theorem sm_split {f:Nat→Int} {u v:List Nat} {k:Nat}:sm f (u++k::v)=f k+sm f (u++v):=by
 rw[sm_append,sm_append,sm];omega
theorem E_map {α β:Type} {g:β→α}:∀{cs:List β} {f:α→List α→Int},E f (cs.map g)=E (fun c l=>f (g c) (l.map g)) cs
 |[],_=>rfl
 |c::cs,f=>by
  rw[List.map_cons,E,E,E_map];rfl
theorem det_map {i:Nat} {is ks:List Nat} {A:Nat→Nat→Int}:det (i::is) (ks.map fun k i=>A i k)=E (fun k l=>A i k*det is (l.map fun k i=>A i k)) ks:=by
 rw[det,E_map]
theorem det_congr:∀{is ks:List Nat} {A B:Nat→Nat→Int},(∀i∈is,∀k∈ks,A i k=B i k)→det is (ks.map fun k i=>A i k)=det is (ks.map fun k i=>B i k)
 |[],ks,A,B,_=>by cases ks<;>rfl
 |i::is,ks,A,B,h=>by
  rw[det_map,det_map];exact E_congr fun k l hk _ hl=>by rw[h i (by simp) k hk,det_congr fun i hi k hk=>h i (by simp[hi]) k (hl k hk)]
theorem det_zero {e:Nat→Int}:∀{is:List Nat} {cs:List (Nat→Int)},(∀i∈is,e i=0)→det is (e::cs)=0
 |[],_,_=>rfl
 |i::is,cs,h=>by
  rw[det,E,h i (by simp),E_zero fun c l _ _ _=>by rw[det_zero fun k hk=>h k (by simp[hk]),Int.mul_zero]];simp
theorem det_sums {i:Nat} {is:List Nat} {cs:List (Nat→Int)} (h:∀c∈cs,sm c (i::is)=0):det (i::is) cs=0:=by
 have hw:∀w:List Nat,(∀k∈w,k∈is)→E (fun c l=>sm c w*det is l) cs=0:=by
  intro w
  induction w with
  |nil=>intro _;exact E_zero fun c l _ _ _=>by rw[sm,Int.zero_mul]
  |cons k w ih=>
   intro hk;have:E (fun c l=>sm c (k::w)*det is l) cs=E (fun c l=>c k*det is l+sm c w*det is l) cs:=E_congr fun c l _ _ _=>by rw[sm,Int.add_mul]
   rw[this,E_add,ih fun k hk'=>hk k (by simp[hk'])];have:=det_mem (cs:=cs) (hk k (by simp));rw[det]at this;omega
 have h1:E (fun c l=>sm c (i::is)*det is l) cs=0:=E_zero fun c l hc _ _=>by rw[h c hc,Int.zero_mul]
 have h2:E (fun c l=>sm c (i::is)*det is l) cs=E (fun c l=>c i*det is l+sm c is*det is l) cs:=E_congr fun c l _ _ _=>by rw[sm,Int.add_mul]
 rw[h2,E_add,hw is fun _ h=>h]at h1;rw[det];omega
def D (A:Nat→Nat→Int) (ns:List Nat):Int:=det ns (ns.map fun k i=>A i k)
def less1 (A:Nat→Nat→Int) (k0:Nat) (s:Int):Nat→Nat→Int:=fun i k=>if i=k0∧k=k0 then A i k-s else A i k
theorem unit_det {k0:Nat} {u v:List Nat} {cu cv:List (Nat→Int)} (hl:cu.length=u.length) (hu:k0∉u) (hv:k0∉v):
  det (u++k0::v) (cu++(fun i=>if i=k0 then 1 else 0)::cv)=det (u++v) (cu++cv):=by
 have h1:=det_front (a:=fun i=>if i=k0 then(1:Int)else 0) (is:=u++k0::v) (pre:=[]) (mid:=cu) (post:=cv);simp only[List.nil_append,List.cons_append]at h1;rw[h1,det_row_front,det,E,E_zero fun c l _ _ _=>?_,hl]
 ·simp only[if_pos,Int.one_mul,Int.sub_zero];rw[←Int.mul_assoc,sg_sq,Int.one_mul]
 ·rw[det_zero fun i hi=>?_,Int.mul_zero];rw[if_neg];rintro rfl
  rcases List.mem_append.1 hi with h|h
  ·exact hu h
  ·exact hv h
theorem D_step {A:Nat→Nat→Int} {u v:List Nat} {k0:Nat} (s:Int) (hu:k0∉u) (hv:k0∉v):D A (u++k0::v)=D (less1 A k0 s) (u++k0::v)+s*D A (u++v):=by
 have hc:∀w:List Nat,k0∉w→(w.map fun k i=>A i k)=w.map fun k i=>less1 A k0 s i k:=fun w hw=>List.map_congr_left fun k hk=>by
  funext i
  unfold less1;rw[if_neg];rintro⟨_,rfl⟩;exact hw hk
 unfold D;simp only[List.map_append,List.map_cons];have he:(fun i=>A i k0)=fun i=>1*less1 A k0 s i k0+s*(if i=k0 then 1 else 0):=by
  funext i
  unfold less1
  by_cases h:i=k0
  ·simp[h]
  ·simp[h]
 rw[he,det_lin (by simp),Int.one_mul,unit_det (by simp) hu hv,←hc u hu,←hc v hv]
def Cond (A:Nat→Nat→Int) (ns:List Nat):Prop:=(∀i∈ns,∀k∈ns,i≠k→A i k≤0)∧∀k∈ns,0≤sm (fun i=>A i k) ns
theorem less1_ne {A:Nat→Nat→Int} {k0 i k:Nat} {s:Int} (h:i≠k∨k≠k0):less1 A k0 s i k=A i k:=by
 unfold less1;rw[if_neg];rintro⟨rfl,rfl⟩
 rcases h with h|h<;>exact h rfl
theorem less1_sum {A:Nat→Nat→Int} {k0:Nat} {s:Int} {u v:List Nat} (hu:k0∉u) (hv:k0∉v):sm (fun i=>less1 A k0 s i k0) (u++k0::v)=sm (fun i=>A i k0) (u++k0::v)-s:=by
 rw[sm_split,sm_split,sm_congr (g:=fun i=>A i k0)]
 ·simp only[less1,and_self,if_true];omega
 ·intro i hi;refine less1_ne (.inl ?_);rintro rfl
  rcases List.mem_append.1 hi with h|h
  ·exact hu h
  ·exact hv h
theorem Cond.minor {A:Nat→Nat→Int} {k0:Nat} {u v:List Nat} (h:Cond A (u++k0::v)) (hu:k0∉u) (hv:k0∉v):Cond A (u++v):=by
 have hm:∀i∈u++v,i∈u++k0::v:=fun i hi=>by
  simp only[List.mem_append,List.mem_cons]at hi ⊢;rcases hi with h|h<;>simp[h]
 refine⟨fun i hi k hk hne=>h.1 i (hm i hi) k (hm k hk) hne,fun k hk=>?_⟩;have h1:=h.2 k (hm k hk);rw[sm_split]at h1;have h2:=h.1 k0 (by simp) k (hm k hk) (by
  rintro rfl
  rcases List.mem_append.1 hk with h|h
  ·exact hu h
  ·exact hv h)
 omega
theorem Cond.less {A:Nat→Nat→Int} {k0:Nat} {u v:List Nat} (h:Cond A (u++k0::v)) (hu:k0∉u) (hv:k0∉v) {s:Int} (hs:s=sm (fun i=>A i k0) (u++k0::v)):
  Cond (less1 A k0 s) (u++k0::v)∧sm (fun i=>less1 A k0 s i k0) (u++k0::v)=0∧∀k,k≠k0→sm (fun i=>less1 A k0 s i k) (u++k0::v)=sm (fun i=>A i k) (u++k0::v):=by
 have h0:=less1_sum (A:=A) (s:=s) hu hv;have h1:∀k,k≠k0→sm (fun i=>less1 A k0 s i k) (u++k0::v)=sm (fun i=>A i k) (u++k0::v):=fun k hk=>sm_congr fun i _=>less1_ne (.inr hk);refine⟨⟨fun i hi k hk hne=>?_,fun k hk=>?_⟩,by omega,h1⟩
 ·rw[less1_ne (.inl hne)];exact h.1 i hi k hk hne
 ·by_cases e:k=k0
  ·subst e;omega
  ·rw[h1 k e];exact h.2 k hk
theorem nodup_split {u v:List Nat} {k:Nat} (h:(u++k::v).Nodup):k∉u∧k∉v∧(u++v).Nodup:=by
 simp only[List.nodup_append,List.nodup_cons,List.mem_cons]at h ⊢;obtain⟨h1,⟨h2,h3⟩,h4⟩:=h;refine⟨fun hk=>h4 k hk k (.inl rfl) rfl,h2,h1,h3,fun a ha b hb=>h4 a ha b (.inr hb)⟩
theorem D_nn:∀(n:Nat) {ns:List Nat} {A:Nat→Nat→Int},ns.length=n→ns.Nodup→Cond A ns→0≤D A ns
 |0,ns,A,hn,_,_=>by
  rw[List.length_eq_zero_iff]at hn;subst hn;simp[D,det]
 | n +1,ns,A,hn,hd,hc=>by
  have key:∀(w:List Nat) (A:Nat→Nat→Int),Cond A ns→(∀k∈ns,k∉w→sm (fun i=>A i k) ns=0)→0≤D A ns:=by
   intro w
   induction w with
   | nil=>
    intro A _ h0
    cases ns with
    |nil=>simp at hn
    | cons i is=>
     have:D A (i::is)=0:=det_sums fun c hc=>by
      obtain⟨k,hk,rfl⟩:=List.mem_map.1 hc;exact h0 k hk (by simp)
     omega
   | cons k0 w ih=>
    intro A hc h0
    by_cases hk0:k0∈ns
    ·obtain⟨u,v,rfl⟩:=List.append_of_mem hk0;obtain⟨hu,hv,hd'⟩:=nodup_split hd;obtain⟨c1,c2,c3⟩:=hc.less hu hv rfl;rw[D_step (sm (fun i=>A i k0) (u++k0::v)) hu hv];have i1:=ih _ c1 fun k hk hkw=>by
      by_cases e:k=k0
      ·subst e;exact c2
      ·rw[c3 k e];exact h0 k hk (by simp[e,hkw])
     have i2:=D_nn n (by simp only[List.length_append,List.length_cons]at hn ⊢;omega) hd' (hc.minor hu hv);have:=Int.mul_nonneg (hc.2 k0 hk0) i2;omega
    ·exact ih A hc fun k hk hkw=>h0 k hk (by
      simp only[List.mem_cons,not_or];exact⟨fun e=>hk0 (e▸hk),hkw⟩)
  exact key ns A hc fun k hk hkn=>absurd hk hkn
def Leads (A:Nat→Nat→Int) (ns:List Nat):Prop:=∀U:List Nat,U.Nodup→U≠[]→(∀k∈U,k∈ns)→∃k∈U,0<sm (fun i=>A i k) U
theorem D_pos:∀(n:Nat) {ns:List Nat} {A:Nat→Nat→Int},ns.length=n→ns.Nodup→Cond A ns→Leads A ns→0<D A ns
 |0,ns,A,hn,_,_,_=>by
  rw[List.length_eq_zero_iff]at hn;subst hn;simp[D,det]
 | n+1,ns,A,hn,hd,hc,hl=>by
  obtain⟨k0,hk0,hs⟩:=hl ns hd (by intro e;rw[e]at hn;simp at hn) fun _ h=>h;obtain⟨u,v,rfl⟩:=List.append_of_mem hk0;obtain⟨hu,hv,hd'⟩:=nodup_split hd;rw[D_step (sm (fun i=>A i k0) (u++k0::v)) hu hv];have i1:=D_nn (n+1) hn hd (hc.less hu hv rfl).1;have i2:=D_pos n (ns:=u++v) (A:=A) (by simp only[List.length_append,List.length_cons]at hn ⊢;omega) hd' (hc.minor hu hv) fun U h1 h2 h3=>hl U h1 h2 fun k hk=>by
   have:=h3 k hk;simp only[List.mem_append,List.mem_cons]at this ⊢
   rcases this with h|h<;>simp[h]
  have:=Int.mul_pos hs i2;omega
end Go.Cur
end
section
namespace Go.Cur
theorem exists_min {x:Nat→Int}:∀{ns:List Nat},ns≠[]→∃k∈ns,∀i∈ns,x k≤x i
 |[],h=>absurd rfl h
 |[a],_=>⟨a,by simp,by simp⟩
 | a::b::l,_=>by
  obtain⟨k,hk,hm⟩:=exists_min (x:=x) (ns:=b::l) (by simp)
  by_cases h:x a≤x k
  ·exact⟨a,by simp,fun i hi=>by
    rcases List.mem_cons.1 hi with rfl|hi
    ·exact Int.le_refl _
    ·have:=hm i hi;omega⟩
  ·exact⟨k,List.mem_cons_of_mem _ hk,fun i hi=>by
    rcases List.mem_cons.1 hi with rfl|hi
    ·omega
    ·exact hm i hi⟩
theorem sm_pos {f:Nat→Int}:∀{u:List Nat},(∀i∈u,0≤f i)→(∃i∈u,0<f i)→0<sm f u
 |[],_,⟨_,h,_⟩=>by simp at h
 |a::u,h,⟨i,hi,hp⟩=>by
  have h1:=h a (by simp);have h2:=sm_nn (f:=f) (u:=u) fun k hk=>h k (by simp[hk]);rw[sm]
  rcases List.mem_cons.1 hi with rfl|hi
  ·omega
  ·have:=sm_pos (f:=f) (u:=u) (fun k hk=>h k (by simp[hk])) ⟨i,hi,hp⟩;omega
theorem sm_filter {f:Nat→Int} {p:Nat→Bool}:∀{u:List Nat},sm f u=sm f (u.filter p)+sm f (u.filter fun k=> !p k)
 |[]=>rfl
 |a::u=>by
  have:=sm_filter (f:=f) (p:=p) (u:=u)
  by_cases h:p a
  ·simp only[List.filter_cons,h,if_true,Bool.not_true,sm];simp only[Bool.false_eq_true,if_false];omega
  ·simp only[List.filter_cons,h,sm];simp only[Bool.false_eq_true,if_false,Bool.not_false,if_true,sm];omega
theorem sm_part {f:Nat→Int} {ns U:List Nat} (hn:ns.Nodup) (hU:U.Nodup) (hs:∀k∈U,k∈ns) (h:∀k∈ns,k∉U→f k≤0):sm f ns≤sm f U:=by
 induction U generalizing ns with
 |nil=>
  rw[sm];have:=sm_nn (f:=fun k=>-f k) (u:=ns) fun k hk=>by have:=h k hk (by simp);omega
  have h2:=sm_smul (f:=f) (-1) (u:=ns);simp only[Int.neg_mul,Int.one_mul]at h2;omega
 | cons a U ih=>
  obtain⟨u,v,rfl⟩:=List.append_of_mem (hs a (by simp));obtain⟨hu,hv,hd⟩:=nodup_split hn;rw[List.nodup_cons]at hU;rw[sm_split,sm];have:=ih hd hU.2 (fun k hk=>by
   have:=hs k (by simp[hk]);simp only[List.mem_append,List.mem_cons]at this ⊢
   rcases this with h|rfl|h
   ·simp[h]
   ·exact absurd hk hU.1
   ·simp[h]) fun k hk hkU=>h k (by
    simp only[List.mem_append,List.mem_cons]at hk ⊢;rcases hk with h|h<;>simp[h]) (by
    simp only[List.mem_cons,not_or];refine⟨?_,hkU⟩;rintro rfl
    rcases List.mem_append.1 hk with h|h
    ·exact hu h
    ·exact hv h)
  omega
theorem min_principle {A:Nat→Nat→Int} {ns:List Nat} {x:Nat→Int} (hd:ns.Nodup) (hoff:∀i∈ns,∀k∈ns,i≠k→A i k≤0) (hrow:∀i∈ns,0≤sm (fun k=>A i k) ns) (hcol:∀k∈ns,0≤sm (fun i=>A i k) ns) (hl:Leads A ns)
  (hx:∀i∈ns,0≤sm (fun k=>A i k*x k) ns):∀k∈ns,0≤x k:=by
 intro k0 hk0;obtain⟨km,hkm,hmin⟩:=exists_min (x:=x) (ns:=ns) (by rintro rfl;simp at hk0)
 suffices h:0≤x km by have:=hmin k0 hk0;omega
 refine Int.not_lt.1 fun hneg=>?_
 let p:Nat→Bool:=fun k=>decide (x k=x km)
 let U:=ns.filter p
 let V:=ns.filter fun k=> !p k
 let sig:Nat→Int:=fun k=>sm (fun i=>A i k) U
 have hU:∀k∈U,k∈ns∧x k=x km:=fun k hk=>by simpa [U,p]using hk
 have hV:∀k∈V,k∈ns∧x km+1≤x k∧∀i∈U,i≠k:=fun k hk=>by
  have:k∈ns∧¬x k=x km:=by simpa [V,p]using hk
  have h2:=hmin k this.1;exact⟨this.1,by omega,fun i hi e=>this.2 (e▸(hU i hi).2)⟩
 have hUd:U.Nodup:=hd.filter _;have hUn:U≠[]:=List.ne_nil_of_mem (a:=km) (by simp[U,p,hkm]);have h1:0≤sm (fun i=>sm (fun k=>A i k*x k) ns) U:=sm_nn fun i hi=>hx i (hU i hi).1;rw[sm_comm]at h1;have h2:sm (fun k=>sm (fun i=>A i k*x k) U) ns=sm (fun k=>x k*sig k) ns:=sm_congr fun k _=>by
  rw[←sm_smul];exact sm_congr fun i _=>Int.mul_comm _ _
 rw[h2,sm_filter (p:=p)]at h1;have h3:sm (fun k=>x k*sig k) U=x km*sm sig U:=by
  rw[←sm_smul];exact sm_congr fun k hk=>by rw[(hU k hk).2]
 have hsV:∀k∈V,sig k≤0:=fun k hk=>by
  have:=sm_nn (f:=fun i=>-A i k) (u:=U) fun i hi=>by
   have:=hoff i (hU i hi).1 k (hV k hk).1 ((hV k hk).2.2 i hi);omega
  have h2:=sm_smul (f:=fun i=>A i k) (-1) (u:=U);simp only[Int.neg_mul,Int.one_mul]at h2;show sm (fun i=>A i k) U≤0;omega
 have h4:sm (fun k=>x k*sig k) V≤sm (fun k=>(x km+1)*sig k) V:=sm_le fun k hk=>by
  have a:=hsV k hk;have b:=(hV k hk).2.1;exact Int.mul_le_mul_of_nonpos_right b a
 rw[sm_smul]at h4;have h5:sm sig U+sm sig V=sm (fun i=>sm (fun k=>A i k) ns) U:=by
  have:=sm_filter (f:=sig) (p:=p) (u:=ns);have h6:=sm_comm (f:=A) (u:=U) (v:=ns);show sm sig (ns.filter p)+sm sig (ns.filter fun k=> !p k)=_;rw[←this,h6]
 have h6:0≤sm (fun i=>sm (fun k=>A i k) ns) U:=sm_nn fun i hi=>hrow i (hU i hi).1;have h7:0<sm sig U:=by
  refine sm_pos (fun k hk=>?_) (hl U hUd hUn fun k hk=>(hU k hk).1);have:=hcol k (hU k hk).1;have h8:=sm_part (f:=fun i=>A i k) hd hUd (fun k hk=>(hU k hk).1) fun i hi hiU=>hoff i hi k (hU k hk).1 (by rintro rfl;exact hiU hk);show 0≤sm (fun i=>A i k) U;omega
 have h8:sm sig V≤0:=by
  have:=sm_le (f:=sig) (g:=fun _=>0) (u:=V) hsV;rw[sm_zero fun _ _=>rfl]at this;exact this
 change 0≤sm (fun k=>x k*sig k) U+sm (fun k=>x k*sig k) V at h1;rw[h3]at h1;have h9:x km*(sm sig U+sm sig V)≤0:=by
  rw[h5];exact Int.mul_nonpos_of_nonpos_of_nonneg (by omega) h6
 rw[Int.mul_add]at h9;rw[Int.add_mul,Int.one_mul]at h4;have h10:sm sig V=0:=by omega
 have h11:x km*(sm sig U+sm sig V)<0:=Int.mul_neg_of_neg_of_pos hneg (by omega);rw[Int.mul_add]at h11;omega
end Go.Cur
end
section
namespace Go.Cur
def num (A:Nat→Nat→Int) (b:Nat→Int) (ns:List Nat) (k:Nat):Int:=det ns (ns.map fun j i=>if j=k then b i else A i j)
theorem rep_map {A:Nat→Nat→Int} {b:Nat→Int} {i:Nat} {is:List Nat}:∀{post pre:List Nat},(pre++post).Nodup→
  rep i is b (pre.map fun k i=>A i k) (post.map fun k i=>A i k)=sm (fun k=>A i k*det is ((pre++post).map fun j i=>if j=k then b i else A i j)) post
 |[],_,_=>rfl
 | k::post,pre,h=>by
  have ih:=rep_map (A:=A) (b:=b) (i:=i) (is:=is) (post:=post) (pre:=pre++[k]) (by simpa using h);obtain⟨h1,h2,_⟩:=nodup_split h;have hc:∀w:List Nat,k∉w→(w.map fun j i=>if j=k then b i else A i j)=w.map fun k i=>A i k:=fun w hw=>List.map_congr_left fun j hj=>by
   funext i
   rw[if_neg];rintro rfl;exact hw hj
  simp only[List.map_append,List.map_cons,List.map_nil,List.append_assoc,List.cons_append,List.nil_append]at ih;rw[List.map_cons,rep,sm,ih];rw[List.map_append,List.map_cons];rw[hc pre h1,hc post h2];simp
theorem cramer_num {A:Nat→Nat→Int} {b:Nat→Int} {ns:List Nat} (hd:ns.Nodup) {i:Nat} (hi:i∈ns):sm (fun k=>A i k*num A b ns k) ns=D A ns*b i:=by
 have h1:=cramer (i:=i) (is:=ns) (b:=b) (cs:=ns.map fun k i=>A i k) hi;have h2:=rep_map (A:=A) (b:=b) (i:=i) (is:=ns) (post:=ns) (pre:=[]) hd;simp only[List.map_nil,List.nil_append]at h2;rw[h2]at h1;exact h1
structure Part where
 ns:List Nat
 L:Nat→Nat→Int
 u:Nat→Int
 fs:List Nat
 p:Nat→Nat
 s:Nat→Int
 V:Nat→Int
def Part.at_ (P:Part) (S:Nat→Bool) (c:Nat→Int) (i:Nat):Int:=sm (fun b=>if S b=true∧P.p b=i then c b else 0) P.fs
def Part.A (P:Part) (S:Nat→Bool):Nat→Nat→Int:=fun i k=>P.L i k+if i=k then P.at_ S P.s i else 0
def Part.b (P:Part) (S:Nat→Bool):Nat→Int:=fun i=>-P.u i+P.at_ S (fun b=>P.s b*P.V b) i
def Part.num (P:Part) (S:Nat→Bool) (k:Nat):Int:=Cur.num (P.A S) (P.b S) P.ns k
def Part.den (P:Part) (S:Nat→Bool):Int:=D (P.A S) P.ns
structure Part.Ok (P:Part):Prop where
 nd:P.ns.Nodup
 off:∀i∈P.ns,∀k∈P.ns,i≠k→P.L i k≤0
 col:∀k∈P.ns,sm (fun i=>P.L i k) P.ns=0
 row:∀i∈P.ns,sm (fun k=>P.L i k) P.ns=0
 lead:∀U:List Nat,U.Nodup→U≠[]→(∀k∈U,k∈P.ns)→(∃k∈P.ns,k∉U)→∃k∈U,0<sm (fun i=>P.L i k) U
 pin:∀b∈P.fs,P.p b∈P.ns
 spos:∀b∈P.fs,0<P.s b
theorem sm_at {P:Part} {S:Nat→Bool} {c:Nat→Int}:∀{U:List Nat},U.Nodup→sm (P.at_ S c) U=sm (fun b=>if S b=true∧P.p b∈U then c b else 0) P.fs:=by
 intro U hU;unfold Part.at_;rw[sm_comm];refine sm_congr fun b _=>?_
 induction U with
 |nil=>simp[sm]
 | cons a U ih=>
  rw[List.nodup_cons]at hU;rw[sm,ih hU.2]
  by_cases hS:S b=true
  ·by_cases ha:P.p b=a
   ·subst ha;simp[hS,hU.1]
   ·simp[hS,ha]
  ·simp[hS]
theorem sm_diag {f:Nat→Int} {g:Nat→Nat→Int} {k:Nat}:∀{U:List Nat},U.Nodup→k∈U→sm (fun i=>g i k+if i=k then f i else 0) U=sm (fun i=>g i k) U+f k
 |[],_,h=>by simp at h
 | a::U,hU,h=>by
  rw[List.nodup_cons]at hU;rw[sm,sm]
  rcases List.mem_cons.1 h with rfl|hm
  ·rw[sm_congr (u:=U) (g:=fun i=>g i k) fun i hi=>by
    rw[if_neg]; · omega
    ·rintro rfl;exact hU.1 hi]
   rw[if_pos rfl];omega
  ·rw[sm_diag hU.2 hm,if_neg]
   ·omega
   ·rintro rfl;exact hU.1 hm
theorem sm_diag' {f:Nat→Int} {g:Nat→Int} {k:Nat}:∀{U:List Nat},U.Nodup→k∈U→sm (fun i=>g i+if k=i then f k else 0) U=sm g U+f k
 |[],_,h=>by simp at h
 | a::U,hU,h=>by
  rw[List.nodup_cons]at hU;rw[sm,sm]
  rcases List.mem_cons.1 h with rfl|hm
  ·rw[sm_congr (u:=U) (g:=g) fun i hi=>by
    rw[if_neg]; · omega
    ·rintro rfl;exact hU.1 hi]
   rw[if_pos rfl];omega
  ·rw[sm_diag' hU.2 hm,if_neg]
   ·omega
   ·rintro rfl;exact hU.1 hm
theorem at_nn {P:Part} (ho:P.Ok) {S:Nat→Bool} {i:Nat}:0≤P.at_ S P.s i:=sm_nn fun b hb=>by
 have:=ho.spos b hb
 split<;>omega
theorem A_off {P:Part} (ho:P.Ok) {S:Nat→Bool}:∀i∈P.ns,∀k∈P.ns,i≠k→P.A S i k≤0:=fun i hi k hk h=>by
 have:=ho.off i hi k hk h;unfold Part.A;rw[if_neg h];omega
theorem A_col {P:Part} (ho:P.Ok) {S:Nat→Bool} {k:Nat} {U:List Nat} (hU:U.Nodup) (hk:k∈U):sm (fun i=>P.A S i k) U=sm (fun i=>P.L i k) U+P.at_ S P.s k:=sm_diag hU hk
theorem A_row {P:Part} (ho:P.Ok) {S:Nat→Bool} {i:Nat} (hi:i∈P.ns):sm (fun k=>P.A S i k) P.ns=P.at_ S P.s i:=by
 have:=sm_diag' (f:=fun i=>P.at_ S P.s i) (g:=fun k=>P.L i k) ho.nd hi;rw[ho.row i hi]at this;unfold Part.A;omega
theorem A_cond {P:Part} (ho:P.Ok) {S:Nat→Bool}:Cond (P.A S) P.ns:=⟨A_off ho,fun k hk=>by
 rw[A_col ho ho.nd hk,ho.col k hk];have:=at_nn ho (S:=S) (i:=k);omega⟩
theorem A_leads {P:Part} (ho:P.Ok) {S:Nat→Bool} (hS:∃b∈P.fs,S b=true):Leads (P.A S) P.ns:=fun U hU hn hs=>by
 by_cases hall:∃k∈P.ns,k∉U
 ·obtain⟨k,hk,h⟩:=ho.lead U hU hn hs hall;refine⟨k,hk,?_⟩;rw[A_col ho hU hk];have:=at_nn ho (S:=S) (i:=k);omega
 ·obtain⟨b,hb,hSb⟩:=hS;have hpU:P.p b∈U:=by
   by_cases h:P.p b∈U
   ·exact h
   ·exact absurd ⟨_,ho.pin b hb,h⟩ hall
  refine⟨P.p b,hpU,?_⟩;rw[A_col ho hU hpU];have h1:sm (fun i=>P.L i (P.p b)) P.ns≤sm (fun i=>P.L i (P.p b)) U:=sm_part ho.nd hU hs fun i hi hiU=>absurd ⟨i,hi,hiU⟩ hall;rw[ho.col _ (ho.pin b hb)]at h1;have h2:0<P.at_ S P.s (P.p b):=sm_pos (fun c hc=>by
   have:=ho.spos c hc
   split<;>omega) ⟨b,hb,by rw[if_pos ⟨hSb,rfl⟩];exact ho.spos b hb⟩
  omega
theorem den_pos {P:Part} (ho:P.Ok) {S:Nat→Bool} (hS:∃b∈P.fs,S b=true):0<P.den S:=D_pos _ rfl ho.nd (A_cond ho) (A_leads ho hS)
theorem solves {P:Part} (ho:P.Ok) {S:Nat→Bool} {i:Nat} (hi:i∈P.ns):sm (fun k=>P.A S i k*P.num S k) P.ns=P.den S*P.b S i:=cramer_num ho.nd hi
end Go.Cur
end
section
namespace Go.Cur
theorem sm_sub {f g:Nat→Int} {u:List Nat}:sm (fun i=>f i-g i) u=sm f u-sm g u:=by
 have h1:=sm_add (f:=f) (g:=fun i=>-1*g i) (u:=u);rw[sm_smul]at h1;rw[show(fun i=>f i-g i)=fun i=>f i+ -1*g i from funext fun i=>by omega,h1];omega
theorem sm_only {f:Nat→Int} {k:Nat}:∀{U:List Nat},U.Nodup→k∈U→sm (fun i=>if k=i then f i else 0) U=f k
 |U,hU,hk=>by
  have:=sm_diag' (f:=f) (g:=fun _=>0) hU hk;rw[sm_zero (f:=fun _=>0) fun _ _=>rfl]at this;rw[sm_congr (g:=fun i=>0+if k=i then f k else 0) fun i _=>by by_cases h:k=i<;>simp[h],this];omega
theorem at_diff {P:Part} {S S':Nat→Bool} (hs:∀b,S' b=true→S b=true) (c:Nat→Int) (i:Nat):P.at_ S c i=P.at_ S' c i+P.at_ (fun b=>S b&& !S' b) c i:=by
 unfold Part.at_;rw[←sm_add];refine sm_congr fun b _=>?_
 by_cases h:S' b=true
 ·simp[h,hs b h]
 ·simp[h]
theorem rise {P:Part} (ho:P.Ok) {S S':Nat→Bool} (hs:∀b,S' b=true→S b=true) (hn:∃b∈P.fs,S' b=true) (hr:∀b∈P.fs,S b=true→S' b=false→P.V b*P.den S≤P.num S (P.p b)):
  ∀k∈P.ns,P.num S k*P.den S'≤P.num S' k*P.den S:=by
 have hn':∃b∈P.fs,S b=true:=by obtain⟨b,hb,h⟩:=hn;exact⟨b,hb,hs b h⟩
 have d1:=den_pos ho hn;have d2:=den_pos ho hn';have key:=min_principle (A:=P.A S') (x:=fun k=>P.num S' k*P.den S-P.num S k*P.den S') ho.nd (A_off ho) (fun i hi=>by rw[A_row ho hi];exact at_nn ho) (A_cond ho).2 (A_leads ho hn) fun i hi=>by
  have e1:sm (fun k=>P.A S' i k*(P.num S' k*P.den S-P.num S k*P.den S')) P.ns=P.den S*sm (fun k=>P.A S' i k*P.num S' k) P.ns-P.den S'*sm (fun k=>P.A S' i k*P.num S k) P.ns:=by
   rw[←sm_smul,←sm_smul,←sm_sub];refine sm_congr fun k _=>?_;rw[Int.mul_sub,Int.mul_comm (P.den S),Int.mul_comm (P.den S'),Int.mul_assoc,Int.mul_assoc]
  have e2:sm (fun k=>P.A S i k*P.num S k) P.ns=sm (fun k=>P.A S' i k*P.num S k) P.ns+P.at_ (fun b=>S b&& !S' b) P.s i*P.num S i:=by
   have e3:=sm_only (f:=fun k=>P.at_ (fun b=>S b&& !S' b) P.s k*P.num S k) ho.nd hi;rw[←e3,←sm_add];refine sm_congr fun k _=>?_;unfold Part.A
   by_cases h:i=k
   ·subst h;simp only[if_true];rw[at_diff hs P.s i,←Int.add_assoc,Int.add_mul]
   ·simp[h]
  rw[solves ho hi]at e2;have e4:P.b S i=P.b S' i+P.at_ (fun b=>S b&& !S' b) (fun b=>P.s b*P.V b) i:=by
   unfold Part.b;rw[at_diff hs (fun b=>P.s b*P.V b) i];omega
  have e5:0≤P.at_ (fun b=>S b&& !S' b) P.s i*P.num S i-P.den S*P.at_ (fun b=>S b&& !S' b) (fun b=>P.s b*P.V b) i:=by
   unfold Part.at_;rw[Int.mul_comm (sm _ _) (P.num S i),←sm_smul,←sm_smul,←sm_sub];refine sm_nn fun b hb=>?_
   by_cases h:(S b&& !S' b)=true∧P.p b=i
   ·rw[if_pos h,if_pos h];simp only[Bool.and_eq_true,Bool.not_eq_true']at h;obtain⟨⟨h1,h2⟩,h3⟩:=h;have:=hr b hb h1 h2;rw[h3]at this;have h4:=Int.mul_le_mul_of_nonneg_left this (Int.le_of_lt (ho.spos b hb));rw[Int.mul_comm (P.num S i),Int.mul_left_comm (P.den S),Int.mul_comm (P.den S)];omega
   ·rw[if_neg h,if_neg h];simp
  rw[e1,solves ho hi];have e6:P.den S*(P.den S'*P.b S' i)-P.den S'*sm (fun k=>P.A S' i k*P.num S k) P.ns=P.den S'*(P.at_ (fun b=>S b&& !S' b) P.s i*P.num S i-P.den S*P.at_ (fun b=>S b&& !S' b) (fun b=>P.s b*P.V b) i):=by
   rw[e4,Int.mul_add]at e2;have:sm (fun k=>P.A S' i k*P.num S k) P.ns=P.den S*P.b S' i+P.den S*P.at_ (fun b=>S b&& !S' b) (fun b=>P.s b*P.V b) i-P.at_ (fun b=>S b&& !S' b) P.s i*P.num S i:=by omega
   rw[this,Int.mul_left_comm (P.den S),←Int.mul_sub]
   congr 1
   omega
  rw[e6];exact Int.mul_nonneg (Int.le_of_lt d1) e5
 intro k hk;have:=key k hk;omega
theorem flow_sum {P:Part} (ho:P.Ok) (S:Nat→Bool):sm (fun b=>if S b=true then P.s b*(P.V b*P.den S-P.num S (P.p b))else 0) P.fs=P.den S*sm P.u P.ns:=by
 have h1:sm (fun i=>sm (fun k=>P.A S i k*P.num S k) P.ns) P.ns=sm (fun i=>P.den S*P.b S i) P.ns:=sm_congr fun i hi=>solves ho hi;rw[sm_comm,sm_smul]at h1;have h2:sm (fun k=>sm (fun i=>P.A S i k*P.num S k) P.ns) P.ns=sm (fun k=>P.at_ S P.s k*P.num S k) P.ns:=sm_congr fun k hk=>by
  have:sm (fun i=>P.A S i k*P.num S k) P.ns=sm (fun i=>P.num S k*P.A S i k) P.ns:=sm_congr fun i _=>Int.mul_comm _ _;rw[this,sm_smul,A_col ho ho.nd hk,ho.col k hk,Int.zero_add,Int.mul_comm]
 have h3:sm (fun k=>P.at_ S P.s k*P.num S k) P.ns=sm (fun b=>if S b=true then P.s b*P.num S (P.p b)else 0) P.fs:=by
  have:sm (fun k=>P.at_ S P.s k*P.num S k) P.ns=sm (fun k=>sm (fun b=>if S b=true∧P.p b=k then P.s b*P.num S k else 0) P.fs) P.ns:=sm_congr fun k _=>by
   unfold Part.at_;rw[Int.mul_comm,←sm_smul];refine sm_congr fun b _=>?_
   by_cases h:S b=true∧P.p b=k
   ·rw[if_pos h,if_pos h,Int.mul_comm]
   ·rw[if_neg h,if_neg h,Int.mul_zero]
  rw[this,sm_comm];refine sm_congr fun b hb=>?_
  by_cases h:S b=true
  ·have:=sm_only (f:=fun k=>P.s b*P.num S k) ho.nd (ho.pin b hb);rw[if_pos h,←this];exact sm_congr fun k _=>by simp[h]
  ·rw[if_neg h];exact sm_zero fun k _=>by simp[h]
 have h4:sm (P.b S) P.ns=-sm P.u P.ns+sm (fun b=>if S b=true then P.s b*P.V b else 0) P.fs:=by
  unfold Part.b;rw[sm_add,sm_at ho.nd]
  congr 1
  ·have:=sm_smul (f:=P.u) (-1) (u:=P.ns);simpa using this
  ·refine sm_congr fun b hb=>?_
   by_cases h:S b=true<;>simp[h,ho.pin b hb]
 rw[h2,h3,h4]at h1;have h5:sm (fun b=>if S b=true then P.s b*(P.V b*P.den S-P.num S (P.p b))else 0) P.fs=P.den S*sm (fun b=>if S b=true then P.s b*P.V b else 0) P.fs-sm (fun b=>if S b=true then P.s b*P.num S (P.p b)else 0) P.fs:=by
  rw[←sm_smul,←sm_sub];refine sm_congr fun b _=>?_
  by_cases h:S b=true
  ·simp only[h,if_true];rw[Int.mul_sub,Int.mul_comm (P.V b),Int.mul_left_comm]
  ·simp[h]
 rw[h5,h1,Int.mul_add,Int.mul_neg];omega
def Fits_ (P:Part) (S:Nat→Bool):Prop:=(∃b∈P.fs,S b=true)∧∀b∈P.fs,(S b=true→P.num S (P.p b)≤P.V b*P.den S)∧(S b=false→P.V b*P.den S≤P.num S (P.p b))
theorem exists_fit {P:Part} (ho:P.Ok) (hsum:0<sm P.u P.ns) (hf:P.fs≠[]):∃S,Fits_ P S:=by
 have go:∀(n:Nat) (S:Nat→Bool),(P.fs.filter S).length≤n→(∃b∈P.fs,S b=true)→(∀b∈P.fs,S b=false→P.V b*P.den S≤P.num S (P.p b))→∃S,Fits_ P S:=by
  intro n
  induction n with
  |zero=>
   intro S h ⟨b,hb,hS⟩ _;have:b∈P.fs.filter S:=List.mem_filter.2 ⟨hb,hS⟩;rw[List.length_eq_zero_iff.1 (Nat.le_zero.1 h)]at this;simp at this
  | succ n ih=>
   intro S h hn hout
   let S':Nat→Bool:=fun b=>S b&&decide (P.num S (P.p b)≤P.V b*P.den S)
   have hs:∀b,S' b=true→S b=true:=fun b hb=>by simp only[S',Bool.and_eq_true]at hb;exact hb.1
   have hd:=den_pos ho hn
   by_cases hall:∀b∈P.fs,S b=true→P.num S (P.p b)≤P.V b*P.den S
   ·exact⟨S,hn,fun b hb=>⟨hall b hb,hout b hb⟩⟩
   ·have hn':∃b∈P.fs,S' b=true:=by
     refine Classical.byContradiction fun hno=>?_;have hneg:∀b∈P.fs,S b=true→P.V b*P.den S-P.num S (P.p b)≤0:=fun b hb hS=>by
      have:¬P.num S (P.p b)≤P.V b*P.den S:=fun hle=>hno ⟨b,hb,by simp[S',hS,hle]⟩;omega
     have h1:=flow_sum ho S;have h2:sm (fun b=>if S b=true then P.s b*(P.V b*P.den S-P.num S (P.p b))else 0) P.fs≤sm (fun _=>0) P.fs:=sm_le fun b hb=>by
      split
      ·exact Int.mul_nonpos_of_nonneg_of_nonpos (Int.le_of_lt (ho.spos b hb)) (hneg b hb (by assumption))
      ·exact Int.le_refl _
     rw[sm_zero (f:=fun _=>0) fun _ _=>rfl,h1]at h2;have:=Int.mul_pos hd hsum;omega
    have hrise:=rise ho hs hn' fun b hb h1 h2=>by
     simp only[S',h1,Bool.true_and,decide_eq_false_iff_not]at h2;omega
    have hd':=den_pos ho hn';refine ih S' ?_ hn' fun b hb hb'=>?_
    ·simp only[Classical.not_forall]at hall;obtain⟨b,hb,hSb,hgt⟩:=hall;have h1:P.fs.filter S'=(P.fs.filter S).filter S':=by
      rw[List.filter_filter];refine List.filter_congr fun a _=>?_;simp only[S']
      cases S a<;>simp
     have h2:((P.fs.filter S).filter S').length<(P.fs.filter S).length:=by
      refine List.length_filter_lt_length_iff_exists.2 ⟨b,List.mem_filter.2 ⟨hb,hSb⟩,?_⟩;simp only[S',hSb,Bool.true_and,decide_eq_true_eq];exact hgt
     rw[h1];omega
    ·have h1:P.V b*P.den S≤P.num S (P.p b):=by
      by_cases hS:S b=true
      ·simp only[S',hS,Bool.true_and,decide_eq_false_iff_not]at hb';omega
      ·exact hout b hb (by simpa using hS)
     have h2:=hrise _ (ho.pin b hb);have h3:=Int.mul_le_mul_of_nonneg_right h1 (Int.le_of_lt hd');have h4:(P.V b*P.den S')*P.den S≤P.num S' (P.p b)*P.den S:=by
      rw[Int.mul_assoc,Int.mul_comm (P.den S'),←Int.mul_assoc];omega
     exact Int.le_of_mul_le_mul_right h4 hd
 refine go _ (fun _=>true) (Nat.le_refl _) ?_ fun b _ h=>by simp at h
 obtain⟨b,l,hl⟩:=List.exists_cons_of_ne_nil hf;exact⟨b,by simp[hl],rfl⟩
end Go.Cur
end
section
namespace Go.Cur
def nmE (f:Nat→Nat) (e:Nat×Nat):Nat→Nat:=fun k=>if k=e.1∨k=e.2 then min (f e.1) (f e.2)else f k
def nmR (E:List (Nat×Nat)) (f:Nat→Nat):Nat→Nat:=E.foldl nmE f
def nmT (E:List (Nat×Nat)):Nat→Nat→Nat
 |0=>id
 |t+1=>nmR E (nmT E t)
def Closed (E:List (Nat×Nat)) (U:Nat→Prop):Prop:=∀e∈E,(U e.1↔U e.2)
theorem nmE_le {f:Nat→Nat} {e:Nat×Nat} {k:Nat}:nmE f e k≤f k:=by
 unfold nmE
 split
 ·rename_i h;rcases h with rfl|rfl
  ·exact Nat.min_le_left _ _
  ·exact Nat.min_le_right _ _
 ·exact Nat.le_refl _
theorem nmR_le:∀{E:List (Nat×Nat)} {f:Nat→Nat} {k:Nat},nmR E f k≤f k
 |[],f,k=>Nat.le_refl _
 |e::E,f,k=>Nat.le_trans (nmR_le (E:=E) (f:=nmE f e)) nmE_le
theorem nmT_le {E:List (Nat×Nat)}:∀{t k:Nat},nmT E t k≤k
 |0,k=>Nat.le_refl _
 |t+1,k=>Nat.le_trans nmR_le (nmT_le (t:=t))
theorem nmR_in {E:List (Nat×Nat)} {U:Nat→Prop}:∀{E':List (Nat×Nat)} {f:Nat→Nat},(∀e∈E',(U e.1↔U e.2))→(∀k,U (f k)↔U k)→∀k,U (nmR E' f k)↔U k
 |[],f,_,h,k=>h k
 | e::E',f,hE,h,k=>nmR_in (E:=E) (E':=E') (f:=nmE f e) (fun e he=>hE e (by simp[he])) (fun k=>by
   have he:=hE e (by simp);unfold nmE
   split
   ·rename_i hk;have hm:min (f e.1) (f e.2)=f e.1∨min (f e.1) (f e.2)=f e.2:=by omega
    have h1:=h e.1;have h2:=h e.2
    rcases hm with hm|hm<;>rw[hm]<;>rcases hk with rfl|rfl
    ·exact h1
    ·exact h1.trans he
    ·exact h2.trans he.symm
    ·exact h2
   ·exact h k) k
theorem nmT_in {E:List (Nat×Nat)} {U:Nat→Prop} (hU:Closed E U):∀{t:Nat} (k:Nat),U (nmT E t k)↔U k
 |0,k=>Iff.rfl
 |t+1,k=>nmR_in (E:=E) hU (nmT_in hU (t:=t)) k
theorem low_keep {m:Nat}:∀{E:List (Nat×Nat)} {f:Nat→Nat},(∀e∈E,(f e.1≤m↔f e.2≤m))→∀k,nmR E f k≤m↔f k≤m
 |[],f,_,k=>Iff.rfl
 | e::E,f,h,k=>by
  have h0:=h e (by simp);have h1:∀k,nmE f e k≤m↔f k≤m:=fun k=>by
   unfold nmE
   split
   ·rename_i hk
    rcases hk with rfl|rfl<;>omega
   ·exact Iff.rfl
  have:=low_keep (m:=m) (E:=E) (f:=nmE f e) (fun e' he=>by rw[h1,h1];exact h e' (by simp[he])) k;exact this.trans (h1 k)
theorem low_more {m:Nat} {E:List (Nat×Nat)} {f:Nat→Nat} {e:Nat×Nat} (he:e∈E) (h:f e.1≤m∨f e.2≤m):nmR E f e.1≤m∧nmR E f e.2≤m:=by
 obtain⟨u,v,rfl⟩:=List.append_of_mem he;have hc:nmR (u++e::v) f=nmR v (nmE (nmR u f) e):=by simp[nmR,List.foldl_append]
 rw[hc];have h1:nmR u f e.1≤f e.1:=nmR_le;have h2:nmR u f e.2≤f e.2:=nmR_le;have h3:nmE (nmR u f) e e.1=min (nmR u f e.1) (nmR u f e.2):=by simp[nmE]
 have h4:nmE (nmR u f) e e.2=min (nmR u f e.1) (nmR u f e.2):=by simp[nmE]
 have h5:=nmR_le (E:=v) (f:=nmE (nmR u f) e) (k:=e.1);have h6:=nmR_le (E:=v) (f:=nmE (nmR u f) e) (k:=e.2);rw[h3]at h5;rw[h4]at h6;omega
def cntL (n m:Nat) (f:Nat→Nat):Nat:=((List.range n).filter fun k=>decide (f k≤m)).length
theorem cntL_mono {n m:Nat} {f g:Nat→Nat} (h:∀k,g k≤f k) {j:Nat} (hj:j<n) (h1:¬f j≤m) (h2:g j≤m):cntL n m f<cntL n m g:=by
 unfold cntL;have:(List.range n).filter (fun k=>decide (f k≤m))=((List.range n).filter fun k=>decide (g k≤m)).filter fun k=>decide (f k≤m):=by
  rw[List.filter_filter];refine List.filter_congr fun k _=>?_;have:=h k
  by_cases hf:f k≤m
  ·have:g k≤m:=by omega
   simp[hf,this]
  ·simp[hf]
 rw[this];exact List.length_filter_lt_length_iff_exists.2 ⟨j,List.mem_filter.2 ⟨List.mem_range.2 hj,by simpa using h2⟩,by simpa using h1⟩
theorem cntL_le {n m:Nat} {f:Nat→Nat}:cntL n m f≤n:=by
 have:=List.length_filter_le (fun k=>decide (f k≤m)) (List.range n);simpa [cntL]using this
theorem low_closed {E:List (Nat×Nat)} {n:Nat} (hE:∀e∈E,e.1<n∧e.2<n) (m:Nat):∀e∈E,(nmT E n e.1≤m↔nmT E n e.2≤m):=by
 have key:∀t,(∀e∈E,(nmT E t e.1≤m↔nmT E t e.2≤m))∨t+1≤cntL n m (nmT E t):=by
  intro t
  induction t with
  | zero=>
   by_cases hn:n=0
   ·left;intro e he;have:=hE e he;omega
   ·right
    have:0∈(List.range n).filter fun k=>decide (nmT E 0 k≤m):=List.mem_filter.2 ⟨List.mem_range.2 (by omega),by simp[nmT]⟩;exact List.length_pos_of_mem this
  | succ t ih=>
   by_cases hc:∀e∈E,(nmT E t e.1≤m↔nmT E t e.2≤m)
   ·left
    intro e he;have:=low_keep (m:=m) (E:=E) (f:=nmT E t) hc;rw[nmT,this,this];exact hc e he
   ·right
    have ih:=ih.resolve_left hc;simp only[Classical.not_forall]at hc;obtain⟨e,he,hne⟩:=hc;have hor:nmT E t e.1≤m∨nmT E t e.2≤m:=by omega
    have hm:=low_more (f:=nmT E t) he hor;have hb:=hE e he;have:cntL n m (nmT E t)<cntL n m (nmT E (t+1)):=by
     rcases(by omega:¬nmT E t e.1≤m∨¬nmT E t e.2≤m)with h|h
     ·exact cntL_mono (fun k=>nmR_le) hb.1 h hm.1
     ·exact cntL_mono (fun k=>nmR_le) hb.2 h hm.2
    omega
 rcases key n with h|h
 ·exact h
 ·have:=cntL_le (n:=n) (m:=m) (f:=nmT E n);omega
def nm (E:List (Nat×Nat)) (n:Nat):Nat→Nat:=nmT E n
section
variable {E:List (Nat×Nat)} {n:Nat}
theorem nm_le {k:Nat}:nm E n k≤k:=nmT_le
theorem nm_eq (hE:∀e∈E,e.1<n∧e.2<n) {e:Nat×Nat} (he:e∈E):nm E n e.1=nm E n e.2:=by
 have h1:=(low_closed hE (nm E n e.1) e he).1 (Nat.le_refl _);have h2:=(low_closed hE (nm E n e.2) e he).2 (Nat.le_refl _);unfold nm at*
 omega
theorem nm_closed (hE:∀e∈E,e.1<n∧e.2<n) (i:Nat):Closed E fun k=>nm E n k=i:=fun e he=>by
 show nm E n e.1=i↔nm E n e.2=i;rw[nm_eq hE he]
theorem nm_nm (hE:∀e∈E,e.1<n∧e.2<n) (k:Nat):nm E n (nm E n k)=nm E n k:=(nmT_in (t:=n) (nm_closed hE (nm E n k)) k).2 rfl
theorem nm_in {U:Nat→Prop} (hU:Closed E U) (k:Nat):U (nm E n k)↔U k:=nmT_in hU k
def cp (E:List (Nat×Nat)) (n i:Nat):List Nat:=(List.range n).filter fun k=>decide (nm E n k=i)
theorem cp_mem {i k:Nat}:k∈cp E n i↔k<n∧nm E n k=i:=by simp[cp]
theorem cp_nodup {i:Nat}:(cp E n i).Nodup:=List.nodup_range.filter _
theorem cp_sorted {i:Nat}:(cp E n i).Pairwise (· < ·):=List.Pairwise.filter _ List.pairwise_lt_range
theorem cp_joined {U:Nat→Prop} (hU:Closed E U) {i k j:Nat} (hk:k∈cp E n i) (h:U k) (hj:j∈cp E n i):U j:=by
 rw[cp_mem]at hk hj;have h1:=(nm_in (n:=n) hU k).2 h;rw[hk.2]at h1;exact(nm_in (n:=n) hU j).1 (by rw[hj.2];exact h1)
theorem cp_out (hE:∀e∈E,e.1<n∧e.2<n) {U:List Nat} {i k j:Nat} (hs:∀x∈U,x∈cp E n i) (hk:k∈U) (hj:j∈cp E n i) (hn:j∉U):∃e∈E,(e.1∈U∧e.2∉U∧e.2∈cp E n i)∨(e.2∈U∧e.1∉U∧e.1∈cp E n i):=by
 by_cases hc:Closed E (fun x=>x∈U)
 ·exact absurd (cp_joined hc (hs k hk) hk hj) hn
 ·simp only[Closed,Classical.not_forall]at hc;obtain⟨e,he,h⟩:=hc;refine⟨e,he,?_⟩;have h1:=nm_eq hE he;have hb:=hE e he
  by_cases h3:e.1∈U
  ·left
   refine⟨h3,fun h4=>h ⟨fun _=>h4,fun _=>h3⟩,?_⟩;have:=cp_mem.1 (hs _ h3);exact cp_mem.2 ⟨hb.2,by rw[←h1];exact this.2⟩
  ·have h4:e.2∈U:=by
    refine Classical.byContradiction fun h4=>h ⟨fun h5=>absurd h5 h3,fun h5=>absurd h5 h4⟩
   right
   refine⟨h4,h3,?_⟩;have:=cp_mem.1 (hs _ h4);exact cp_mem.2 ⟨hb.1,by rw[h1];exact this.2⟩
def heads (E:List (Nat×Nat)) (n:Nat):List Nat:=(List.range n).filter fun i=>decide (nm E n i=i)
def partsN (E:List (Nat×Nat)) (n:Nat):List (List Nat):=(heads E n).map (cp E n)
theorem heads_mem {i:Nat}:i∈heads E n↔i<n∧nm E n i=i:=by simp[heads]
theorem cp_self {i:Nat} (h:i∈heads E n):i∈cp E n i:=by
 rw[heads_mem]at h;exact cp_mem.2 h
theorem nm_head (hE:∀e∈E,e.1<n∧e.2<n) {k:Nat} (hk:k<n):nm E n k∈heads E n:=heads_mem.2 ⟨Nat.lt_of_le_of_lt nm_le hk,nm_nm hE k⟩
theorem cp_whole {i:Nat} {p:List Nat} (hi:i∈heads E n) (h1:i∈p) (hc:Closed E fun x=>x∈p) {j:Nat} (hj:j∈cp E n i):j∈p:=cp_joined hc (cp_self hi) h1 hj
end
end Go.Cur
end
section
namespace Go.Cur
structure Wn where
 a:Nat
 b:Nat
 s:Int
def Wn.e (w:Wn):Nat×Nat:=(w.a,w.b)
def ew (w:Wn) (i:Nat):Int:=(if i=w.a then 1 else 0)-(if i=w.b then 1 else 0)
def lw:List Wn→Nat→Nat→Int
 |[],_,_=>0
 |w::W,i,k=>w.s*(ew w i*ew w k)+lw W i k
def OkW (W:List Wn) (n:Nat):Prop:=∀w∈W,w.a<n∧w.b<n∧w.a≠w.b∧0<w.s
def edges (W:List Wn):List (Nat×Nat):=W.map Wn.e
theorem lw_append {i k:Nat}:∀{u v:List Wn},lw (u++v) i k=lw u i k+lw v i k
 |[],v=>by simp[lw]
 |w::u,v=>by rw[List.cons_append,lw,lw,lw_append];omega
theorem lw_comm {i k:Nat}:∀{W:List Wn},lw W i k=lw W k i
 |[]=>rfl
 |w::W=>by rw[lw,lw,lw_comm,Int.mul_comm (ew w i)]
theorem ew_sum {w:Wn}:∀{U:List Nat},U.Nodup→sm (ew w) U=(if w.a∈U then 1 else 0)-(if w.b∈U then 1 else 0)
 |[],_=>by simp[sm]
 | x::U,h=>by
  rw[List.nodup_cons]at h;rw[sm,ew_sum h.2];unfold ew
  by_cases ha:x=w.a
  ·by_cases hb:x=w.b
   ·have h1:w.a∉U:=ha▸h.1;have h2:w.b∉U:=hb▸h.1;have h3:w.b=w.a:=by omega
    subst ha;simp[h3]
   ·have h1:w.a∉U:=ha▸h.1;have h2:¬w.b=x:=fun e=>hb e.symm;subst ha;simp[h1,hb,h2];omega
  ·have h2:¬w.a=x:=fun e=>ha e.symm
   by_cases hb:x=w.b
   ·have h1:w.b∉U:=hb▸h.1;subst hb;simp[h1,ha,h2];omega
   ·have h3:¬w.b=x:=fun e=>hb e.symm;simp[ha,hb,h2,h3]
def lwU:List Wn→List Nat→Nat→Int
 |[],_,_=>0
 |w::W,U,k=>w.s*(ew w k*((if w.a∈U then 1 else 0)-(if w.b∈U then 1 else 0)))+lwU W U k
theorem lw_sum {k:Nat} {U:List Nat} (hU:U.Nodup):∀{W:List Wn},sm (fun i=>lw W i k) U=lwU W U k
 |[]=>by simp only[lw,lwU];exact sm_zero fun _ _=>rfl
 |w::W=>by
  simp only[lw,lwU];rw[sm_add,lw_sum hU,←ew_sum hU]
  congr 1
  rw[sm_smul]
  congr 1
  rw[←sm_smul];exact sm_congr fun i _=>Int.mul_comm _ _
theorem ew_off {w:Wn} {i k:Nat} (h:i≠k):ew w i*ew w k≤0:=by
 unfold ew
 by_cases h1:i=w.a
 ·have h3:¬k=w.a:=by omega
  by_cases h2:i=w.b
  ·have h4:¬k=w.b:=by omega
   simp[h1,h3,h4]
  ·rw[if_pos h1,if_neg h2,if_neg h3]
   split<;>omega
 ·by_cases h2:i=w.b
  ·have h4:¬k=w.b:=by omega
   rw[if_neg h1,if_pos h2,if_neg h4]
   split<;>omega
  ·rw[if_neg h1,if_neg h2];omega
theorem lw_off {n i k:Nat} (h:i≠k):∀{W:List Wn},OkW W n→lw W i k≤0
 |[],_=>Int.le_refl _
 |w::W,hW=>by
  have h1:=lw_off h (W:=W) fun w hw=>hW w (by simp[hw]);have h2:=ew_off (w:=w) h;have h3:=(hW w (by simp)).2.2.2;have:=Int.mul_nonpos_of_nonneg_of_nonpos (Int.le_of_lt h3) h2;rw[lw];omega
theorem lwU_nn {n k:Nat} {U:List Nat} (hk:k∈U):∀{W:List Wn},OkW W n→0≤lwU W U k
 |[],_=>Int.le_refl _
 | w ::W,hW=>by
  have h1:=lwU_nn hk (W:=W) fun w hw=>hW w (by simp[hw]);have h3:=(hW w (by simp)).2.2.2;have h2:0≤ew w k*((if w.a∈U then 1 else 0)-(if w.b∈U then 1 else 0)):=by
   unfold ew
   by_cases e1:k=w.a
   ·have h5:=(hW w (by simp)).2.2.1;rw[if_pos e1,if_neg (by omega),←e1,if_pos hk]
    split<;>omega
   ·by_cases e2:k=w.b
    ·rw[if_neg e1,if_pos e2,←e2,if_pos hk]
     split<;>omega
    ·rw[if_neg e1,if_neg e2];omega
  have:=Int.mul_nonneg (Int.le_of_lt h3) h2;rw[lwU];omega
theorem lwU_pos {n k:Nat} {U:List Nat} (hk:k∈U):∀{W:List Wn},OkW W n→(∃w∈W,(k=w.a∧w.b∉U)∨(k=w.b∧w.a∉U))→0<lwU W U k
 |[],_,⟨_,h,_⟩=>by simp at h
 | w::W,hW,⟨x,hx,h⟩=>by
  have hW':OkW W n:=fun w hw=>hW w (by simp[hw])
  rcases List.mem_cons.1 hx with rfl|hx
  ·have h1:=lwU_nn hk hW';have h3:=(hW x (by simp)).2.2.2;have h2:ew x k*((if x.a∈U then 1 else 0)-(if x.b∈U then 1 else 0))=1:=by
    have h5:=(hW x (by simp)).2.2.1;unfold ew
    rcases h with⟨e,h⟩|⟨e,h⟩
    ·rw[if_pos e,if_neg (by omega),←e,if_pos hk,if_neg h];rfl
    ·rw[if_neg (by omega),if_pos e,←e,if_pos hk,if_neg h];rfl
   rw[lwU,h2];omega
  ·have h1:=lwU_pos hk hW' ⟨x,hx,h⟩;have h2:=lwU_nn hk (W:=[w]) fun y hy=>hW y (by simp only[List.mem_singleton]at hy;subst hy;simp);simp only[lwU]at h2 ⊢;omega
theorem lwU_cp {n i k:Nat} {E:List (Nat×Nat)} (hE:∀e∈E,e.1<n∧e.2<n):∀{W:List Wn},(∀w∈W,w.e∈E)→lwU W (cp E n i) k=0
 |[],_=>rfl
 | w::W,hW=>by
  have h1:=nm_eq hE (hW w (by simp));have hb:=hE _ (hW w (by simp));have h2:w.a∈cp E n i↔w.b∈cp E n i:=by
   rw[cp_mem,cp_mem];simp only[Wn.e]at h1 hb;rw[h1];exact⟨fun h=>⟨hb.2,h.2⟩,fun h=>⟨hb.1,h.2⟩⟩
  rw[lwU,lwU_cp hE fun w hw=>hW w (by simp[hw])]
  by_cases h:w.a∈cp E n i
  ·rw[if_pos h,if_pos (h2.1 h)];simp
  ·rw[if_neg h,if_neg fun e=>h (h2.2 e)];simp
theorem edges_ok {W:List Wn} {n:Nat} (hW:OkW W n):∀e∈edges W,e.1<n∧e.2<n:=fun e he=>by
 obtain⟨w,hw,rfl⟩:=List.mem_map.1 he;have:=hW w hw;exact⟨this.1,this.2.1⟩
def prt (W:List Wn) (n i:Nat) (u:Nat→Int) (fs:List Nat) (p:Nat→Nat) (s V:Nat→Int):Part:=⟨cp (edges W) n i,lw W,u,fs,p,s,V⟩
theorem prt_ok {W:List Wn} {n i:Nat} {u:Nat→Int} {fs:List Nat} {p:Nat→Nat} {s V:Nat→Int} (hW:OkW W n) (hp:∀b∈fs,p b∈cp (edges W) n i) (hs:∀b∈fs,0<s b):(prt W n i u fs p s V).Ok where
 nd:=cp_nodup
 off:=fun i _ k _ h=>lw_off h hW
 col:=fun k _=>by
  show sm (fun i=>lw W i k) (cp (edges W) n i)=0;rw[lw_sum cp_nodup,lwU_cp (edges_ok hW) fun w hw=>List.mem_map.2 ⟨w,hw,rfl⟩]
 row:=fun k _=>by
  show sm (fun i=>lw W k i) (cp (edges W) n i)=0;rw[sm_congr (g:=fun i=>lw W i k) fun i _=>lw_comm,lw_sum cp_nodup,lwU_cp (edges_ok hW) fun w hw=>List.mem_map.2 ⟨w,hw,rfl⟩]
 lead:=fun U hU hn hs ⟨j,hj,hjU⟩=>by
  obtain⟨k0,hk0⟩:=List.exists_mem_of_ne_nil U hn;obtain⟨e,he,h⟩:=cp_out (edges_ok hW) hs hk0 hj hjU;obtain⟨w,hw,rfl⟩:=List.mem_map.1 he
  rcases h with⟨h1,h2,_⟩|⟨h1,h2,_⟩
  ·refine⟨w.a,h1,?_⟩;show 0<sm (fun i=>lw W i w.a) U;rw[lw_sum hU];exact lwU_pos h1 hW ⟨w,hw, .inl ⟨rfl,h2⟩⟩
  ·refine⟨w.b,h1,?_⟩;show 0<sm (fun i=>lw W i w.b) U;rw[lw_sum hU];exact lwU_pos h1 hW ⟨w,hw, .inr ⟨rfl,h2⟩⟩
 pin:=hp
 spos:=hs
end Go.Cur
end
section
namespace Go.Cur
theorem num_congr {P:Part} {S S':Nat→Bool} (h:∀b∈P.fs,S b=S' b):P.num S=P.num S'∧P.den S=P.den S':=by
 have ha:∀c,P.at_ S c=P.at_ S' c:=fun c=>funext fun i=>sm_congr fun b hb=>by rw[h b hb]
 have hA:P.A S=P.A S':=by funext i k;unfold Part.A;rw[ha]
 have hb:P.b S=P.b S':=by funext i;unfold Part.b;rw[ha]
 refine⟨?_,?_⟩
 ·funext k;unfold Part.num;rw[hA,hb]
 ·unfold Part.den;rw[hA]
end Go.Cur
end
section
namespace Go.Cur
def ps (t:Nat→Int):Nat→Int
 |0=>0
 |j+1=>ps t j+t j
theorem ps_congr {t u:Nat→Int}:∀{n:Nat},(∀j,j<n→t j=u j)→ps t n=ps u n
 |0,_=>rfl
 |n+1,h=>by rw[ps,ps,ps_congr fun j hj=>h j (by omega),h n (by omega)]
theorem ps_front {t:Nat→Int}:∀{n:Nat},ps t (n+1)=t 0+ps (fun j=>t (j+1)) n
 |0=>by simp[ps]
 |n+1=>by rw[ps,ps_front,ps];omega
theorem ps_smul {t:Nat→Int} (a:Int):∀{n:Nat},ps (fun j=>a*t j) n=a*ps t n
 |0=>by simp[ps]
 |n+1=>by rw[ps,ps,ps_smul,Int.mul_add]
theorem ps_neg {t:Nat→Int} {n:Nat}:ps (fun j=>-t j) n=-ps t n:=by
 have:=ps_smul (t:=t) (-1) (n:=n);simpa using this
theorem E_ps {α:Type} [Inhabited α]:∀{cs:List α} {f:α→List α→Int},E f cs=ps (fun j=>sg j*f (cs[j]?.getD default) (cs.eraseIdx j)) cs.length
 |[],_=>rfl
 | c::cs,f=>by
  rw[E,E_ps,List.length_cons,ps_front];have:ps (fun j=>sg (j+1)*f ((c::cs)[j+1]?.getD default) ((c::cs).eraseIdx (j+1))) cs.length=-ps (fun j=>sg j*f (cs[j]?.getD default) (c::cs.eraseIdx j)) cs.length:=by
   rw[←ps_neg];refine ps_congr fun j hj=>?_;simp only[sg,List.getElem?_cons_succ,List.eraseIdx_cons_succ,Int.neg_mul]
  rw[this];simp[sg];omega
def minor (a:Nat→Nat→Int) (rows cols:List Nat):Int:=det rows (cols.map fun k i=>a i k)
theorem minor_cons {a:Nat→Nat→Int} {r:Nat} {rows cols:List Nat}:minor a (r::rows) cols=ps (fun j=>sg j*(a r (cols[j]?.getD 0)*minor a rows (cols.eraseIdx j))) cols.length:=by
 unfold minor;rw[det_map,E_ps]
 rfl
theorem det_names {f:Nat→Nat}:∀{is:List Nat} {cs:List (Nat→Int)},det (is.map f) cs=det is (cs.map fun c i=>c (f i))
 |[],[]=>rfl
 |[],_::_=>rfl
 |i::is,cs=>by
  rw[List.map_cons,det,det,E_map];exact E_congr fun c l _ _ _=>by rw[det_names]
theorem minor_names {a:Nat→Nat→Int} {f g:Nat→Nat} {rows cols:List Nat}:minor a (rows.map f) (cols.map g)=minor (fun i k=>a (f i) (g k)) rows cols:=by
 unfold minor;rw[det_names,List.map_map,List.map_map]
 rfl
theorem minor_congr {a b:Nat→Nat→Int} {rows cols:List Nat} (h:∀i∈rows,∀k∈cols,a i k=b i k):minor a rows cols=minor b rows cols:=det_congr h
theorem list_range {p:List Nat}:p=(List.range p.length).map fun j=>p.getD j 0:=by
 refine List.ext_getElem (by simp) fun j h1 h2=>?_;simp[h1]
theorem D_minor {A:Nat→Nat→Int} {p:List Nat}:D A p=minor (fun i k=>A (p.getD i 0) (p.getD k 0)) (List.range p.length) (List.range p.length):=by
 have h:D A p=minor A p p:=rfl;rw[h]
 conv=>lhs;rw[list_range (p:=p)]
 exact minor_names
theorem getD_inj {p:List Nat} (hp:p.Nodup) {i j:Nat} (hi:i<p.length) (hj:j<p.length) (h:p.getD i 0=p.getD j 0):i=j:=by
 simp only[List.getD_eq_getElem?_getD,List.getElem?_eq_getElem hi,List.getElem?_eq_getElem hj,Option.getD_some]at h;exact(List.getElem_inj hp).1 h
theorem num_minor {A:Nat→Nat→Int} {b:Nat→Int} {p:List Nat} (hp:p.Nodup) {k:Nat} (hk:k<p.length):num A b p (p.getD k 0)=minor (fun i j=>if j=k then b (p.getD i 0)else A (p.getD i 0) (p.getD j 0)) (List.range p.length) (List.range p.length):=by
 have h:num A b p (p.getD k 0)=minor (fun i j=>if j=p.getD k 0 then b i else A i j) p p:=rfl;rw[h]
 conv=>lhs;rw[list_range (p:=p)]
 rw[minor_names];refine minor_congr fun i hi j hj=>?_;rw[List.mem_range]at hi hj;have e:((List.range p.length).map fun j=>p.getD j 0)=p:=list_range.symm;rw[e]
 by_cases h:j=k
 ·subst h;simp
 ·rw[if_neg h,if_neg fun e=>h (getD_inj hp hj hk e)]
def sa (f:Nat→Nat):List Nat→Nat
 |[]=>0
 |i::is=>f i+sa f is
theorem sa_append {f:Nat→Nat}:∀{u v:List Nat},sa f (u++v)=sa f u+sa f v
 |[],v=>by simp[sa]
 |i::u,v=>by rw[List.cons_append,sa,sa,sa_append];omega
theorem sa_le {f g:Nat→Nat}:∀{u:List Nat},(∀i∈u,f i≤g i)→sa f u≤sa g u
 |[],_=>Nat.le_refl _
 |i::u,h=>by
  have h1:=h i (by simp);have h2:=sa_le (f:=f) (g:=g) (u:=u) fun k hk=>h k (by simp[hk]);rw[sa,sa];omega
theorem sa_mul {f:Nat→Nat} (a:Nat):∀{u:List Nat},sa (fun i=>f i*a) u=sa f u*a
 |[]=>by simp[sa]
 |i::u=>by rw[sa,sa,sa_mul,Nat.add_mul]
theorem E_abs:∀{cs:List Nat} {f:Nat→List Nat→Int} {g:Nat→Nat},(∀u c v,cs=u++c::v→(f c (u++v)).natAbs≤g c)→(E f cs).natAbs≤sa g cs
 |[],f,g,_=>by simp[E,sa]
 |c::cs,f,g,h=>by
  have h1:=h [] c cs rfl;have h2:=E_abs (cs:=cs) (f:=fun d l=>f d (c::l)) (g:=g) fun u d v e=>h (c::u) d v (by rw[e];rfl);rw[E,sa];simp only[List.nil_append]at h1;omega
theorem minor_abs {a:Nat→Nat→Int} {R:Nat}:∀{rows cols:List Nat},(∀i∈rows,sa (fun k=>(a i k).natAbs) cols≤R)→(minor a rows cols).natAbs≤R^rows.length
 |[],cols,_=>by
  unfold minor
  cases cols<;>simp[det]
 |i::rows,cols,h=>by
  have hm:minor a (i::rows) cols=E (fun k l=>a i k*minor a rows l) cols:=det_map;rw[hm];refine Nat.le_trans (E_abs (g:=fun k=>(a i k).natAbs*R^rows.length) fun u c v e=>?_) ?_
  ·rw[Int.natAbs_mul];refine Nat.mul_le_mul_left _ (minor_abs fun j hj=>?_);have:=h j (by simp[hj]);rw[e,sa_append,sa]at this;rw[sa_append];omega
  ·rw[sa_mul,List.length_cons,Nat.pow_succ,Nat.mul_comm];exact Nat.mul_le_mul_left _ (h i (by simp))
def bnd (R B:Nat):Nat→Nat
 |0=>0
 |n+1=>B*R^n+R*bnd R B n
theorem sa_split {f:Nat→Nat} {u v:List Nat} {k:Nat}:sa f (u++k::v)=f k+sa f (u++v):=by
 rw[sa_append,sa_append,sa];omega
theorem minor_mark {a:Nat→Nat→Int} {R B k0:Nat}:∀{rows cols:List Nat},cols.Nodup→k0∈cols→(∀i∈rows,(a i k0).natAbs≤B)→(∀i∈rows,sa (fun k=>if k=k0 then 0 else(a i k).natAbs) cols≤R)→(minor a rows cols).natAbs≤bnd R B rows.length
 |[],cols,_,hk,_,_=>by
  unfold minor
  cases cols with
  |nil=>simp at hk
  |cons c cs=>simp[det]
 | i ::rows,cols,hn,hk,hB,hR=>by
  have hm:minor a (i::rows) cols=E (fun k l=>a i k*minor a rows l) cols:=det_map;rw[hm,List.length_cons,bnd];refine Nat.le_trans (E_abs (g:=fun k=>if k=k0 then B*R^rows.length else(a i k).natAbs*bnd R B rows.length) fun u c v e=>?_) ?_
  ·rw[Int.natAbs_mul];subst e;obtain⟨hu,hv,hd⟩:=nodup_split hn
   by_cases hc:c=k0
   ·rw[if_pos hc];subst hc;refine Nat.mul_le_mul (hB i (by simp)) (minor_abs fun j hj=>?_);have:=hR j (by simp[hj]);rw[sa_split,if_pos rfl,Nat.zero_add]at this;refine Nat.le_trans (Nat.le_of_eq ?_) this;have hne:∀x∈u++v,x≠c:=fun x hx=>by
     rintro rfl
     rcases List.mem_append.1 hx with h|h
     ·exact hu h
     ·exact hv h
    refine Nat.le_antisymm (sa_le fun x hx=>by rw[if_neg (hne x hx)];exact Nat.le_refl _) (sa_le fun x hx=>by rw[if_neg (hne x hx)];exact Nat.le_refl _)
   ·rw[if_neg hc];refine Nat.mul_le_mul_left _ (minor_mark hd ?_ (fun j hj=>hB j (by simp[hj])) fun j hj=>?_)
    ·simp only[List.mem_append,List.mem_cons]at hk ⊢
     rcases hk with h|rfl|h
     ·exact .inl h
     ·exact absurd rfl hc
     ·exact .inr h
    ·have:=hR j (by simp[hj]);rw[sa_split]at this;omega
  ·obtain⟨u,v,rfl⟩:=List.append_of_mem hk;obtain⟨hu,hv,hd⟩:=nodup_split hn;have hne:∀x∈u++v,x≠k0:=fun x hx=>by
    rintro rfl
    rcases List.mem_append.1 hx with h|h
    ·exact hu h
    ·exact hv h
   rw[sa_split,if_pos rfl];refine Nat.add_le_add_left ?_ _;have h1:=hR i (by simp);rw[sa_split,if_pos rfl,Nat.zero_add]at h1;refine Nat.le_trans (Nat.le_of_eq (Nat.le_antisymm (sa_le (g:=fun k=>(if k=k0 then 0 else(a i k).natAbs)*bnd R B rows.length) fun x hx=>by rw[if_neg (hne x hx),if_neg (hne x hx)];exact Nat.le_refl _) (sa_le fun x hx=>by rw[if_neg (hne x hx),if_neg (hne x hx)];exact Nat.le_refl _))) ?_;rw[sa_mul];exact Nat.mul_le_mul_right _ h1
end Go.Cur
end
section
namespace Go.Cur
def Part.A0 (P:Part) (i0:Nat):Nat→Nat→Int:=fun i k=>if i=i0 then(if k=i0 then 1 else 0)else P.L i k
def Part.b0 (P:Part) (i0:Nat):Nat→Int:=fun i=>if i=i0 then 0 else-P.u i
def Part.num0 (P:Part) (i0:Nat) (k:Nat):Int:=Cur.num (P.A0 i0) (P.b0 i0) P.ns k
def Part.den0 (P:Part) (i0:Nat):Int:=D (P.A0 i0) P.ns
theorem den0_pos {P:Part} (ho:P.Ok) {i0:Nat} {tl:List Nat} (hn:P.ns=i0::tl):0<P.den0 i0:=by
 have hnd:=ho.nd;rw[hn,List.nodup_cons]at hnd;have h1:P.den0 i0=D P.L tl:=by
  unfold Part.den0 D;rw[hn,det_map,E,E_zero]
  ·have e:(P.A0 i0) i0 i0=1:=by simp[Part.A0]
   rw[e,Int.one_mul,Int.sub_zero];exact det_congr fun i hi k hk=>by
    have:¬i=i0:=by rintro rfl;exact hnd.1 hi
    simp[Part.A0,this]
  ·intro c l hc _ _;have:¬c=i0:=by rintro rfl;exact hnd.1 hc
   simp[Part.A0,this]
 rw[h1];have hmem:∀k∈tl,k∈P.ns:=fun k hk=>by rw[hn];simp[hk]
 refine D_pos _ rfl hnd.2 ?_ ?_
 ·have hc:Cond P.L P.ns:=⟨ho.off,fun k hk=>by rw[ho.col k hk];exact Int.le_refl _⟩;rw[hn]at hc;exact Cond.minor (u:=[]) hc (by simp) hnd.1
 ·intro U hU hne hs;exact ho.lead U hU hne (fun k hk=>hmem k (hs k hk)) ⟨i0,by rw[hn];simp,fun h=>hnd.1 (hs _ h)⟩
def dg (W:List Wn) (i:Nat):Nat:=(W.filter fun w=>decide (w.a=i)||decide (w.b=i)).length
theorem lw_diag {i n:Nat}:∀{W:List Wn},OkW W n→(∀w∈W,w.s≤4)→0≤lw W i i∧lw W i i≤4*dg W i
 |[],_,_=>by simp[lw,dg]
 | w ::W,hW,h4=>by
  have ih:=lw_diag (i:=i) (W:=W) (fun w hw=>hW w (by simp[hw])) fun w hw=>h4 w (by simp[hw]);obtain⟨_,_,hne,hs⟩:=hW w (by simp);have hs4:=h4 w (by simp);rw[lw];unfold dg at ih ⊢;rw[List.filter_cons]
  by_cases ha:w.a=i
  ·have hb:¬w.b=i:=by omega
   have e:ew w i*ew w i=1:=by
    unfold ew;rw[if_pos ha.symm,if_neg fun e=>hb e.symm];rfl
   rw[e,if_pos (by simp[ha]),List.length_cons];omega
  ·by_cases hb:w.b=i
   ·have e:ew w i*ew w i=1:=by
     unfold ew;rw[if_neg fun e=>ha e.symm,if_pos hb.symm];rfl
    rw[e,if_pos (by simp[hb]),List.length_cons];omega
   ·have e:ew w i*ew w i=0:=by
     unfold ew;rw[if_neg fun e=>ha e.symm,if_neg fun e=>hb e.symm];rfl
    rw[e,if_neg (by simp[ha,hb])];omega
theorem sa_sm {f:Nat→Int}:∀{U:List Nat},(∀k∈U,f k≤0)→(sa (fun k=>(f k).natAbs) U:Int)=-sm f U
 |[],_=>rfl
 |k::U,h=>by
  have h1:=h k (by simp);have h2:=sa_sm (f:=f) (U:=U) fun k hk=>h k (by simp[hk]);rw[sa,sm];omega
theorem row_abs {P:Part} (ho:P.Ok) {i:Nat} (hi:i∈P.ns) (h0:0≤P.L i i):(sa (fun k=>(P.L i k).natAbs) P.ns:Int)=2*P.L i i:=by
 obtain⟨u,v,e⟩:=List.append_of_mem hi;have hnd:=ho.nd;have hr:=ho.row i hi;rw[e]at hnd hr ⊢;obtain⟨hu,hv,_⟩:=nodup_split hnd;rw[sa_split];rw[sm_split]at hr;have h1:=sa_sm (f:=fun k=>P.L i k) (U:=u++v) fun k hk=>ho.off i hi k (by
  rw[e];simp only[List.mem_append,List.mem_cons]at hk ⊢;rcases hk with h|h<;>simp[h]) (by
  rintro rfl
  rcases List.mem_append.1 hk with h|h
  ·exact hu h
  ·exact hv h)
 omega
end Go.Cur
end
section
namespace Go.Cur
open Go.AM Go.Proofs
abbrev wr (n:Int):Int:=IntKind.i64.wrap n
theorem wr_def (n:Int):wr n=if n % 18446744073709551616≥9223372036854775808 then n % 18446744073709551616-18446744073709551616 else n % 18446744073709551616:=by
 simp[IntKind.wrap,IntKind.bits,IntKind.signed]
theorem wr_emod (n:Int):wr n % 18446744073709551616=n % 18446744073709551616:=by
 rw[wr_def];split<;>omega
theorem wr_eq {a b:Int} (h:a % 18446744073709551616=b % 18446744073709551616):wr a=wr b:=by rw[wr_def,wr_def,h]
theorem wr_add (a b:Int):wr (wr a+b)=wr (a+b):=wr_eq (by rw[Int.add_emod,wr_emod,←Int.add_emod])
theorem wr_add' (a b:Int):wr (a+wr b)=wr (a+b):=by rw[Int.add_comm,wr_add,Int.add_comm]
theorem wr_mul (a b:Int):wr (wr a*b)=wr (a*b):=wr_eq (by rw[Int.mul_emod,wr_emod,←Int.mul_emod])
theorem wr_mul' (a b:Int):wr (a*wr b)=wr (a*b):=by rw[Int.mul_comm,wr_mul,Int.mul_comm]
theorem wr_id {n:Int} (h1:-9223372036854775808≤n) (h2:n≤9223372036854775807):wr n=n:=wrap_in h1 h2
theorem bits_or (x y:Nat) (hx:x<4294967296) (hy:y<4294967296):bits .or .i64 x y=((x|||y:Nat):Int):=by
 have hb:x|||y<4294967296:=Nat.or_lt_two_pow (n:=32) (by omega) (by omega);show IntKind.i64.wrap ((BitVec.ofInt 64 x|||BitVec.ofInt 64 y).toNat:Int)=_;have h:(BitVec.ofInt 64 x|||BitVec.ofInt 64 y).toNat=x|||y:=by
  simp only[BitVec.toNat_or,BitVec.ofInt_natCast,BitVec.toNat_ofNat];rw[Nat.mod_eq_of_lt (by omega),Nat.mod_eq_of_lt (by omega)]
 rw[h];exact wrap_in (by omega) (by omega)
theorem bits_and1 (x:Nat) (hx:x<4294967296):bits .and .i64 x 1=((x % 2:Nat):Int):=by
 show IntKind.i64.wrap ((BitVec.ofInt 64 x&&&BitVec.ofInt 64 (1:Nat)).toNat:Int)=_;have h:(BitVec.ofInt 64 x&&&BitVec.ofInt 64 (1:Nat)).toNat=x % 2:=by
  simp only[BitVec.toNat_and,BitVec.ofInt_natCast,BitVec.toNat_ofNat];rw[Nat.mod_eq_of_lt (by omega),Nat.mod_eq_of_lt (by omega),Nat.and_one_is_mod]
 rw[h];exact wrap_in (by omega) (by omega)
theorem shr_bit (x k:Nat) (hx:x<4294967296):bits .and .i64 ((x:Int)/2^((k:Int).toNat)) 1=if x.testBit k then 1 else 0:=by
 have e:(x:Int)/2^((k:Int).toNat)=((x/2^k:Nat):Int):=by
  rw[Int.toNat_natCast,Int.natCast_ediv];simp
 rw[e,bits_and1 _ (Nat.lt_of_le_of_lt (Nat.div_le_self _ _) hx)];rw[Nat.testBit_eq_decide_div_mod_eq];have:x/2^k % 2=0∨x/2^k % 2=1:=by omega
 rcases this with h|h<;>simp[h]
theorem shl1 (k:Nat) (hk:k≤20):IntKind.i64.wrap (1*2^((k:Int).toNat))=((2^k:Nat):Int):=by
 have h1:2^k≤2^20:=Nat.pow_le_pow_right (by omega) hk;have e:(1:Int)*2^((k:Int).toNat)=((2^k:Nat):Int):=by rw[Int.toNat_natCast,Int.one_mul];simp
 rw[e];generalize 2^k=m at h1;exact wrap_in (by omega) (by omega)
def unu (n used:Nat):List Nat:=(List.range n).filter fun k=> !used.testBit k
theorem unu_succ (k used:Nat):unu (k+1) used=unu k used++if used.testBit k then []else [k]:=by
 unfold unu;rw[List.range_succ,List.filter_append]
 cases h:used.testBit k<;>simp[h]
theorem unu_mem {n used k:Nat}:k∈unu n used↔k<n∧used.testBit k=false:=by simp[unu]
theorem unu_nodup {n used:Nat}:(unu n used).Nodup:=List.nodup_range.filter _
theorem unu_split {n used k:Nat} (hk:k<n) (h:used.testBit k=false):∃v,unu n used=unu k used++k::v:=by
 have:∀d,∃v,unu (k+1+d) used=unu k used++k::v:=by
  intro d
  induction d with
  |zero=>exact⟨[],by rw[Nat.add_zero,unu_succ,h];simp⟩
  |succ d ih=>
   obtain⟨v,hv⟩:=ih;refine⟨v++if used.testBit (k+1+d)then []else [k+1+d],?_⟩;rw[←Nat.add_assoc,unu_succ,hv,List.append_assoc]
   rfl
 have:=this (n-(k+1))
 rwa [show k+1+(n-(k+1))=n by omega]at this
theorem unu_use {n used k:Nat} (hk:k<n) (h:used.testBit k=false):unu n (used|||2^k)=(unu n used).eraseIdx (unu k used).length:=by
 obtain⟨v,hv⟩:=unu_split hk h;have hnd:=unu_nodup (n:=n) (used:=used);have h1:unu n (used|||2^k)=(unu n used).filter fun x=>decide (x≠k):=by
  unfold unu;rw[List.filter_filter];refine List.filter_congr fun x _=>?_;rw[Nat.testBit_or,Nat.testBit_two_pow]
  by_cases e:x=k
  ·subst e;simp
  ·have e':¬k=x:=fun h=>e h.symm;simp[e,e']
 rw[hv]at hnd;obtain⟨hu,hv',_⟩:=nodup_split hnd;rw[h1,hv,List.eraseIdx_append_of_length_le (Nat.le_refl _),Nat.sub_self,List.eraseIdx_cons_zero,List.filter_append,List.filter_cons,if_neg (by simp)]
 congr 1
 ·refine List.filter_eq_self.2 fun x hx=>?_;have:x≠k:=by rintro rfl;exact hu hx
  simp[this]
 ·refine List.filter_eq_self.2 fun x hx=>?_;have:x≠k:=by rintro rfl;exact hv' hx
  simp[this]
theorem unu_at {n used k:Nat} (hk:k<n) (h:used.testBit k=false):(unu n used)[(unu k used).length]?=some k:=by
 obtain⟨v,hv⟩:=unu_split hk h;rw[hv,List.getElem?_append_right (Nat.le_refl _),Nat.sub_self];rfl
theorem unu_len {n used k:Nat} (hk:k<n) (h:used.testBit k=false):(unu n (used|||2^k)).length+1=(unu n used).length:=by
 have h1:=(List.getElem?_eq_some_iff.1 (unu_at hk h)).1;rw[unu_use hk h,List.length_eraseIdx_of_lt h1];omega
theorem use_lt {n used k:Nat} (hu:used<2^n) (hk:k<n):used|||2^k<2^n:=Nat.or_lt_two_pow hu (Nat.pow_lt_pow_right (by omega) hk)
abbrev Kvs:=List (List KC×Value)
def fromS (call:Nat→Kvs→Int×Kvs) (a:Nat→Nat→Int) (row used:Nat) (st:Int×Int×Kvs) (k:Nat):Int×Int×Kvs:=
 if used.testBit k then st
 else if a row k=0 then(st.1,wr (-st.2.1),st.2.2)
 else(wr (st.1+wr (wr (st.2.1*a row k)*(call (used|||2^k) st.2.2).1)),wr (-st.2.1),(call (used|||2^k) st.2.2).2)
def fromF (a:Nat→Nat→Int) (n:Nat):Nat→Nat→Nat→Kvs→Int×Kvs
 |0,_,used,s=>(igt s used,s)
 | d+1,row,used,s=>
  if (kvGet s (ik used)).isSome then(igt s used,s)
  else(((List.range n).foldl (fromS (fromF a n d (row+1)) a row used) (0,1,s)).1,
   kvSet ((List.range n).foldl (fromS (fromF a n d (row+1)) a row used) (0,1,s)).2.2 (ik used) (.int .i64 ((List.range n).foldl (fromS (fromF a n d (row+1)) a row used) (0,1,s)).1))
def mval (a:Nat→Nat→Int) (n used:Nat):Int:=wr (minor a ((List.range n).drop (n-(unu n used).length)) (unu n used))
structure Kn (a:Nat→Nat→Int) (n:Nat) (s:Kvs):Prop where
 ok:∀(u:Nat) v,kvGet s (ik u)=some v→v= .int .i64 (mval a n u)
 int:IntM s
 full:(kvGet s (ik ((2^n-1:Nat):Int))).isSome
theorem Kn.igt {a:Nat→Nat→Int} {n:Nat} {s:Kvs} (h:Kn a n s) {u:Nat} (hu:(kvGet s (ik u)).isSome):igt s u=mval a n u:=by
 obtain⟨v,hv⟩:=Option.isSome_iff_exists.1 hu;have:=h.ok u v hv;unfold Cur.igt;rw[hv,this]
theorem Kn.set {a:Nat→Nat→Int} {n:Nat} {s:Kvs} (h:Kn a n s) (u:Nat):Kn a n (kvSet s (ik u) (.int .i64 (mval a n u))):=by
 refine⟨fun x v hx=>?_,h.int.set _ _,?_⟩
 ·rw[kv_get]at hx
  split at hx
  ·rename_i e;have:=ik_inj.1 e;have e2:x=u:=by omega
   simp only[Option.some.injEq]at hx;rw[←hx,e2]
  ·exact h.ok x v hx
 ·rw[kv_get]
  split
  ·rfl
  ·exact h.full
theorem full_of {n used:Nat} (hu:used<2^n) (h:unu n used=[]):used=2^n-1:=by
 refine Nat.eq_of_testBit_eq fun k=>?_;rw[Nat.testBit_two_pow_sub_one]
 by_cases hk:k<n
 ·have:¬k∈unu n used:=by rw[h];simp
  rw[unu_mem]at this;have:used.testBit k=true:=by
   cases hb:used.testBit k with
   |true=>rfl
   |false=>exact absurd ⟨hk,hb⟩ this
  simp[this,hk]
 ·have:used.testBit k=false:=Nat.testBit_lt_two_pow (Nat.lt_of_lt_of_le hu (Nat.pow_le_pow_right (by omega) (by omega)));simp[this,hk]
theorem sg_wr (j:Nat):wr (-sg j)=sg (j+1):=by
 have:sg j=1∨sg j=-1:=by
  induction j with
  |zero=>exact Or.inl rfl
  |succ j ih=>rcases ih with h|h<;>simp[sg,h]
 rw[sg]
 rcases this with h|h<;>rw[h]<;>rfl
theorem fromF_ok {a:Nat→Nat→Int} {n:Nat}:∀(d row used:Nat) (s:Kvs),row+d=n→used<2^n→(unu n used).length=d→Kn a n s→(fromF a n d row used s).1=mval a n used∧Kn a n (fromF a n d row used s).2
 |0,row,used,s,hr,hu,hl,hk=>by
  have:=full_of hu (List.length_eq_zero_iff.1 hl);subst this;exact⟨hk.igt hk.full,hk⟩
 | d + 1,row,used,s,hr,hu,hl,hk=>by
  rw[fromF]
  by_cases hs:(kvGet s (ik used)).isSome
  ·rw[if_pos hs];exact⟨hk.igt hs,hk⟩
  ·rw [if_neg hs]
   let t:Nat→Int:=fun j=>sg j*(a row ((unu n used)[j]?.getD 0)*minor a ((List.range n).drop (row+1)) ((unu n used).eraseIdx j))
   have key:∀k,k≤n→((List.range k).foldl (fromS (fromF a n d (row+1)) a row used) (0,1,s)).1=wr (ps t (unu k used).length)∧((List.range k).foldl (fromS (fromF a n d (row+1)) a row used) (0,1,s)).2.1=sg (unu k used).length∧Kn a n ((List.range k).foldl (fromS (fromF a n d (row+1)) a row used) (0,1,s)).2.2:=by
    intro k
    induction k with
    |zero=>intro _;exact⟨rfl,rfl,hk⟩
    | succ k ih=>
     intro hkn;obtain⟨i1,i2,i3⟩:=ih (by omega);rw[List.range_succ,List.foldl_append];simp only[List.foldl_cons,List.foldl_nil];generalize (List.range k).foldl (fromS (fromF a n d (row+1)) a row used) (0,1,s)=st at i1 i2 i3 ⊢;obtain⟨sum,sign,s1⟩:=st;simp only at i1 i2 i3 ⊢;unfold fromS;rw[unu_succ]
     by_cases hb:used.testBit k=true
     ·rw[if_pos hb,if_pos hb,List.append_nil];exact⟨i1,i2,i3⟩
     ·have hb':used.testBit k=false:=by simpa using hb
      rw[if_neg hb,if_neg hb,List.length_append,List.length_singleton];have hat:=unu_at (n:=n) (by omega) hb';have ht:t (unu k used).length=sg (unu k used).length*(a row k*minor a ((List.range n).drop (row+1)) (unu n (used|||2^k))):=by
       show sg _*(a row ((unu n used)[(unu k used).length]?.getD 0)*minor a ((List.range n).drop (row+1)) ((unu n used).eraseIdx (unu k used).length))=_;rw[hat,unu_use (by omega) hb'];rfl
      by_cases h0:a row k=0
      ·rw[if_pos h0,ps,ht,h0,Int.zero_mul,Int.mul_zero,Int.add_zero,i2];exact⟨i1,sg_wr _,i3⟩
      ·rw[if_neg h0];obtain⟨c1,c2⟩:=fromF_ok d (row+1) (used|||2^k) s1 (by omega) (use_lt hu (by omega)) (by have:=unu_len (n:=n) (by omega) hb';omega) i3;refine⟨?_,?_,c2⟩
       ·simp only;rw[c1,i1,i2,ps,ht];have hlen:=unu_len (n:=n) (by omega) hb';have hm:mval a n (used|||2^k)=wr (minor a ((List.range n).drop (row+1)) (unu n (used|||2^k))):=by
         unfold mval;rw[show n-(unu n (used|||2^k)).length=row+1 by omega]
        rw[hm,wr_add,wr_mul,wr_mul',wr_add',Int.mul_assoc]
       ·simp only;rw[i2];exact sg_wr _
   obtain⟨k1,k2,k3⟩:=key n (Nat.le_refl _);have hv:wr (ps t (unu n used).length)=mval a n used:=by
    unfold mval;have hrow:(List.range n).drop (n-(unu n used).length)=row::(List.range n).drop (row+1):=by
     rw[hl,show n-(d+1)=row by omega,List.drop_eq_getElem_cons (by simp;omega)];simp
    rw[hrow,minor_cons]
   rw[hv]at k1;rw[k1];exact⟨rfl,k3.set used⟩
end Go.Cur
end
section
namespace Go.Cur
open Go.AM Go.Proofs
def mAt (m:List (List Int)) (i k:Nat):Int:=at0 (rowAt m i) k
abbrev mL (m:List (List Int)):AV:= .lst 1 (m.map rCell)
structure Sq (m:List (List Int)) (n:Nat):Prop where
 len:m.length=n
 rows:∀r∈m,r.length=n
theorem Sq.row {m:List (List Int)} {n i:Nat} (h:Sq m n) (hi:i<n):m[i]?=some (rowAt m i)∧(rowAt m i).length=n:=by
 have h1:=rowAt_nat (m:=m) (k:=i) (by rw[h.len];exact hi);exact⟨h1,h.rows _ (List.mem_of_getElem? h1)⟩
theorem Sq.get {m:List (List Int)} {n i k:Nat} (h:Sq m n) (hi:i<n) (hk:k<n):(rowAt m i)[k]?=some (mAt m i k):=at0_nat (by rw[(h.row hi).2];exact hk)
def dB (m:List (List Int)):Nat→AV
 |0=> .vptr [.any]
 |d+1=> .vptr [.clo 148 [.ptr 0 0 0, .vptr [mL m],dB m d]]
theorem dB_ren (m:List (List Int)) (G:List (Option Nat)) (h0:newName G 0=some 0):∀d k,2*d+1≤k→renAV G k (dB m d)=dB m d
 |0,k,h=>by
  obtain⟨k,rfl⟩:∃m,k=m+1:=⟨k-1,by omega⟩;show AV.vptr [renAV G k .any]=_
  cases k<;>rfl
 | d+1,k,h=>by
  obtain⟨k,rfl⟩:∃m,k=m+2:=⟨k-2,by omega⟩;have ih:=dB_ren m G h0 d k (by omega);have p0:renAV G k (.ptr 0 0 0)= .ptr 0 0 0:=by
   have e:renAV G k (.ptr 0 0 0)=match newName G 0 with|some q=> .ptr q 0 0|none=> .any:=by cases k<;>rfl
   rw[e,h0]
  have p1:renAV G k (.vptr [mL m])= .vptr [mL m]:=by
   obtain⟨k,rfl⟩:∃m,k=m+1:=⟨k-1,by omega⟩;show AV.vptr [renAV G k (mL m)]=_
   cases k<;>rfl
  show AV.vptr [.clo 148 [renAV G k (.ptr 0 0 0),renAV G k (.vptr [mL m]),renAV G k (dB m d)]]=_;rw[ih,p0,p1];rfl
abbrev dArgs (m:List (List Int)) (row used:Nat) (B:AV):List AV:=[I row,I used, .ptr 0 0 0, .vptr [mL m],B]
abbrev kRow (s:Kvs):Option ARow:=some (.map false [.i .i64] s)
theorem m_found (m:List (List Int)) (row used:Nat) (s:Kvs) (B:AV) (hI:IntM s) (hs:(kvGet s (ik used)).isSome=true):
  MutCall Tryz.prog 148 (dArgs m row used B) [some (.els 1 [[.mp 1]])] [kRow s] (I (igt s used)) [some (.els 1 [[.mp 1]])] [kRow s]:=by
 refine MutCall.of_bodyG [2] Tryz.func148 rfl (by decide) (by simp[Tryz.ntmps148]) rfl rfl ?_;intro J hJ;simp only[Tryz.ntmps148,Tryz.results148];refine gS fun K hK=>?_;simp -dsimp;apply hK;clear hK K;refine gwp_seq_k fun K1 hK1=>?_;refine gS fun K hK=>?_;simp -dsimp [igt_look hI,hs];refine valK_intro (_) (fun hm=>rfl) ?_;simp -dsimp [igt_look hI,hs];apply hK;clear hK K;refine gS fun K hK=>?_;simp -dsimp;apply hK;clear hK K;refine gwp_cond rfl (fun hc0=>?_) (fun hc0=>?_)
 ·refine gS fun K hK=>?_;simp -dsimp;apply hK;clear hK K;exact gwp_ret ⟨[some 0,some 1],rfl,by simp,by simp,by simp,by simp[resP,tupOf]⟩
 ·simp at hc0
theorem m_step (m:List (List Int)) (n d row used:Nat) (s:Kvs) (hq:Sq m n) (hn:n≤10) (hr:row+(d+1)=n) (hu:used<2^n) (hl:(unu n used).length=d+1) (hk:Kn (mAt m) n s) (hs:(kvGet s (ik used)).isSome=false)
  (hb:∀row used s,row+d=n→used<2^n→(unu n used).length=d→Kn (mAt m) n s→MutCall Tryz.prog 148 (dArgs m row used (dB m d)) [some (.els 1 [[.mp 1]])] [kRow s] (I (fromF (mAt m) n d row used s).1) [some (.els 1 [[.mp 1]])] [kRow (fromF (mAt m) n d row used s).2]):
  MutCall Tryz.prog 148 (dArgs m row used (dB m (d+1))) [some (.els 1 [[.mp 1]])] [kRow s] (I (fromF (mAt m) n (d+1) row used s).1) [some (.els 1 [[.mp 1]])] [kRow (fromF (mAt m) n (d+1) row used s).2]:=by
 have hI:=hk.int;have hdn:d≤10:=by omega
 have hB1:∀k,36≤k→renAV [some 0,some 1] k (dB m d)=dB m d:=fun k hk=>dB_ren m _ rfl d k (by omega);have hB2:∀k,36≤k→renAV [some 0,some 2] k (dB m d)=dB m d:=fun k hk=>dB_ren m _ rfl d k (by omega);have hpow:(2:Nat)^n≤2^10:=Nat.pow_le_pow_right (by omega) hn;have hu2:used<4294967296:=by omega
 have hok:=fun s=>fromF_ok (a:=mAt m) (n:=n) d (row+1) s;have e0:fromF (mAt m) n (d+1) row used s=(((List.range n).foldl (fromS (fromF (mAt m) n d (row+1)) (mAt m) row used) (0,1,s)).1,
   kvSet ((List.range n).foldl (fromS (fromF (mAt m) n d (row+1)) (mAt m) row used) (0,1,s)).2.2 (ik used) (.int .i64 ((List.range n).foldl (fromS (fromF (mAt m) n d (row+1)) (mAt m) row used) (0,1,s)).1)):=by
  rw[fromF,if_neg (by simp[hs])]
 rw[e0];have hml:=hq.len;have gr:=(hq.row (i:=row) (by omega)).1;have wrow:IntKind.i64.wrap ((row:Int)+1)=((row+1:Nat):Int):=by rw[wrap_in (by omega) (by omega)];omega
 show MutCall Tryz.prog 148 [I row,I used, .ptr 0 0 0, .vptr [mL m], .vptr [.clo 148 [.ptr 0 0 0, .vptr [mL m],dB m d]]] _ _ _ _ _;generalize dB m d=B at hb hB1 hB2 ⊢;refine MutCall.of_bodyG [2] Tryz.func148 rfl (by decide) (by simp[Tryz.ntmps148]) rfl rfl ?_;intro J hJ;simp only[Tryz.ntmps148,Tryz.results148];refine gS fun K hK=>?_;simp -dsimp;apply hK;clear hK K;refine gwp_seq_k fun K1 hK1=>?_;refine gS fun K hK=>?_;simp -dsimp [igt_look hI,hs];refine valK_intro (_) (fun hm=>rfl) ?_;simp -dsimp [igt_look hI,hs];apply hK;clear hK K;refine gS fun K hK=>?_;simp -dsimp;apply hK;clear hK K;refine gwp_cond rfl (fun hc0=>?_) (fun hc0=>?_)
 ·simp at hc0
 ·refine gwp_skip ?_;simp only[zT,reduceIte,Nat.reduceEqDiff];refine hK1 _ _ ?_;refine gwp_prune [0,1,2,3,4] (Or.inr (by simp)) ?_;simp only[zP,Nat.reduceEqDiff,reduceIte];refine gS fun K hK=>?_;simp -dsimp;apply hK;clear hK K;refine gwp_seq_k fun K2 hK2=>?_;refine gS fun K hK=>?_;simp -dsimp;apply hK;clear hK K;refine gwp_block ?_;refine gwp_prune [0,1,2,3,4,10,11,23,24] (Or.inr (by simp)) ?_;simp only[zP,Nat.reduceEqDiff,reduceIte];refine gwp_loop_l [0,1,2,3,4,23] (α:=Nat×(Int×Int×Kvs)) (fun x=>[(10,I x.2.1),(11,I x.2.2.1),(24,I x.1)]) (fun x=>[some (.els 1 [[.mp 1]]),kRow x.2.2.2]) (fun x=>x.1≤n∧x.2=(List.range x.1).foldl (fromS (fromF (mAt m) n d (row+1)) (mAt m) row used) (0,1,s)∧Kn (mAt m) n x.2.2.2) (fun x=>n-x.1) (0,0,1,s) ?_ ?_ ?_
  ·exact⟨Nat.zero_le _,rfl,hk⟩
  ·exact gsub (sub_rb [some 0,some 1] rfl (by simp[hB1]) (by simp)) (by simp)
  rintro⟨k,sum,sign,s1⟩ ⟨k1,k2,k3⟩;simp only at k1 k2 k3 ⊢;simp only[zP,Nat.reduceEqDiff,reduceIte];refine gS fun K hK=>?_;simp -dsimp;apply hK;clear hK K;refine gwp_seq_k fun K3 hK3=>?_;refine gwp_cond rfl (fun hc1=>?_) (fun hc1=>?_)
  ·have hkn:k<n:=by rw[←hml];simpa using hc1
   have wk:=zW k (by omega);have hbit:bits .and .i64 ((used:Int)/2^k) 1=if used.testBit k then 1 else 0:=by have:=shr_bit used k hu2;rwa [Int.toNat_natCast]at this
   have hb64:k≤IntKind.i64.bits:=Nat.le_trans (show k≤10 by omega) (by decide);have gk:=hq.get (i:=row) (by omega) hkn;have hst:(List.range (k+1)).foldl (fromS (fromF (mAt m) n d (row+1)) (mAt m) row used) (0,1,s)=fromS (fromF (mAt m) n d (row+1)) (mAt m) row used (sum,sign,s1) k:=by rw[List.range_succ,List.foldl_append,←k2];rfl
   refine gwp_skip ?_;simp only[zT,reduceIte,Nat.reduceEqDiff];refine hK3 _ _ ?_;refine gwp_prune [0,1,2,3,4,10,11,23,24] (Or.inr (by simp)) ?_;simp only[zP,Nat.reduceEqDiff,reduceIte];refine gwp_seq_k fun K4 hK4=>?_;refine gwp_block ?_;refine gS fun K hK=>?_;simp -dsimp;apply hK;clear hK K;refine gwp_seq_k fun K5 hK5=>?_;refine gS fun K hK=>?_;simp -dsimp [hbit,hb64];apply hK;clear hK K;refine gwp_cond rfl (fun hc2=>?_) (fun hc2=>?_)
   ·have hbt:used.testBit k=true:=by
     cases h:used.testBit k with
     |true=>rfl
     |false=>rw[h]at hc2;simp at hc2
    refine gwp_exit ?_;simp only[zT,reduceIte,Nat.reduceEqDiff];refine hK4 _ _ ?_;refine gwp_prune [0,1,2,3,4,10,11,23,24] (Or.inr (by simp)) ?_;simp only[zP,Nat.reduceEqDiff,reduceIte];refine gR fun K hK=>?_;simp -dsimp [wk];apply hK;clear hK K;simp only[zT,reduceIte,Nat.reduceEqDiff];have hf:fromS (fromF (mAt m) n d (row+1)) (mAt m) row used (sum,sign,s1) k=(sum,sign,s1):=by unfold fromS;rw[if_pos hbt]
    rw[hf]at hst;exact⟨(k+1,sum,sign,s1),⟨by simp only;omega,hst.symm,k3⟩,by simp only;omega,gsub (sub_rb [some 0,some 1] rfl (by simp[hB1]) (by simp)) (by simp)⟩
   ·have hbt:used.testBit k=false:=by
     cases h:used.testBit k with
     |false=>rfl
     |true=>rw[h]at hc2;simp at hc2
    refine gwp_skip ?_;simp only[zT,reduceIte,Nat.reduceEqDiff];refine hK5 _ _ ?_;refine gwp_prune [0,1,2,3,4,10,11,12,23,24] (Or.inr (by simp)) ?_;simp only[zP,Nat.reduceEqDiff,reduceIte];refine gwp_seq_k fun K6 hK6=>?_;refine gS fun K hK=>?_;simp -dsimp [gr,gk];apply hK;clear hK K;refine gS fun K hK=>?_;simp -dsimp;apply hK;clear hK K;refine gwp_cond rfl (fun hc3=>?_) (fun hc3=>?_)
    ·skip
     try simp at hc3
     have hor:bits .or .i64 (used:Int) (2^k)=((used|||2^k:Nat):Int):=by have:=bits_or used (2^k) hu2 (Nat.lt_of_le_of_lt (Nat.pow_le_pow_right (by omega) (show k≤10 by omega)) (by decide));rwa [Int.natCast_pow]at this
     have hsh:IntKind.i64.wrap (2^k)=2^k:=by have:=shl1 k (by omega);rw[Int.toNat_natCast,Int.one_mul,Int.natCast_pow]at this;exact this
     have hk3:=hok (used|||2^k) s1 (by omega) (use_lt hu hkn) (by have:=unu_len hkn hbt;omega) k3;have hcall:=hb (row+1) (used|||2^k) s1 (by omega) (use_lt hu hkn) (by have:=unu_len hkn hbt;omega) k3;refine gwp_draw mixed rfl (by decide) rfl rfl fun K hK=>?_;simp -dsimp [wrow,hor,hsh,hb64];refine callK_mut [0] [1] [some 0,none,some 1] (hcall) (by decide) rfl (by simp[hB1]) (by simp[hB1]) rfl (by simp) ?_;simp -dsimp [wrow,hor,hsh,hb64];refine hK _ _ _ (by decide+kernel) ?_;clear hK K;simp only[zT,reduceIte,Nat.reduceEqDiff];refine hK6 _ _ ?_;refine gwp_prune [0,1,2,3,4,10,11,23,24] (Or.inr (by simp)) ?_;simp only[zP,Nat.reduceEqDiff,reduceIte];refine gR fun K hK=>?_;simp -dsimp;apply hK;clear hK K;simp only[zT,reduceIte,Nat.reduceEqDiff];refine hK4 _ _ ?_;refine gwp_prune [0,1,2,3,4,10,11,23,24] (Or.inr (by simp)) ?_;simp only[zP,Nat.reduceEqDiff,reduceIte];refine gR fun K hK=>?_;simp -dsimp [wk];apply hK;clear hK K;simp only[zT,reduceIte,Nat.reduceEqDiff];have hf:fromS (fromF (mAt m) n d (row+1)) (mAt m) row used (sum,sign,s1) k=(wr (sum+wr (wr (sign*mAt m row k)*(fromF (mAt m) n d (row+1) (used|||2^k) s1).1)),wr (-sign),(fromF (mAt m) n d (row+1) (used|||2^k) s1).2):=by unfold fromS;rw[if_neg (by simp[hbt]),if_neg hc3]
     rw[hf]at hst;exact⟨(k+1,_),⟨by simp only;omega,hst.symm,hk3.2⟩,by simp only;omega,gsub (sub_rb [some 0,some 2] rfl (by simp[hB2]) (by simp)) (by simp)⟩
    ·skip
     try simp at hc3
     refine gwp_skip ?_;simp only[zT,reduceIte,Nat.reduceEqDiff];refine hK6 _ _ ?_;refine gwp_prune [0,1,2,3,4,10,11,23,24] (Or.inr (by simp)) ?_;simp only[zP,Nat.reduceEqDiff,reduceIte];refine gR fun K hK=>?_;simp -dsimp;apply hK;clear hK K;simp only[zT,reduceIte,Nat.reduceEqDiff];refine hK4 _ _ ?_;refine gwp_prune [0,1,2,3,4,10,11,23,24] (Or.inr (by simp)) ?_;simp only[zP,Nat.reduceEqDiff,reduceIte];refine gR fun K hK=>?_;simp -dsimp [wk];apply hK;clear hK K;simp only[zT,reduceIte,Nat.reduceEqDiff];have hf:fromS (fromF (mAt m) n d (row+1)) (mAt m) row used (sum,sign,s1) k=(sum,wr (-sign),s1):=by unfold fromS;rw[if_neg (by simp[hbt]),if_pos hc3]
     rw[hf]at hst;exact⟨(k+1,_),⟨by simp only;omega,hst.symm,k3⟩,by simp only;omega,gsub (sub_rb [some 0,some 1] rfl (by simp[hB1]) (by simp)) (by simp)⟩
  ·have hkl:¬k<m.length:=by simpa using hc1
   have hkn:k=n:=by omega
   rw[hkn]at k2;refine gwp_exit ?_;simp only[zT,reduceIte,Nat.reduceEqDiff];refine hK2 _ _ ?_;refine gwp_prune [1,2,10] (Or.inr (by simp)) ?_;simp only[zP,Nat.reduceEqDiff,reduceIte];refine gS fun K hK=>?_;simp -dsimp;apply hK;clear hK K;refine gS fun K hK=>?_;simp -dsimp;apply hK;clear hK K;have k4:=k2.symm;exact gwp_ret ⟨[some 0,some 1],rfl,by simp,by simp[k4],by simp,by simp[resP,tupOf,k4]⟩
theorem m_from (m:List (List Int)) (n:Nat) (hq:Sq m n) (hn:n≤10):∀(d row used:Nat) (s:Kvs),row+d=n→used<2^n→(unu n used).length=d→Kn (mAt m) n s→
  MutCall Tryz.prog 148 (dArgs m row used (dB m d)) [some (.els 1 [[.mp 1]])] [kRow s] (I (fromF (mAt m) n d row used s).1) [some (.els 1 [[.mp 1]])] [kRow (fromF (mAt m) n d row used s).2]
 |0,row,used,s,hr,hu,hl,hk=>by
  have:=full_of hu (List.length_eq_zero_iff.1 hl);subst this;exact m_found m row _ s _ hk.int hk.full
 | d+1,row,used,s,hr,hu,hl,hk=>by
  cases hs:(kvGet s (ik used)).isSome with
  |true=>
   rw[fromF,if_pos hs];exact m_found m row used s _ hk.int hs
  |false=>exact m_step m n d row used s hq hn hr hu hl hk hs (m_from m n hq hn d)
abbrev fvRow:Option ARow:=some (.els 1 [[.clo 148 [.ptr 0 0 0, .ptr 3 0 0, .ptr 2 0 0]]])
abbrev mxRow (m:List (List Int)):Option ARow:=some (.els 1 [[mL m]])
theorem renC_mx (m:List (List Int)) (H:Nat→Option ARow) (h3:H 3=mxRow m) (k:Nat):renC H [0,1] (k+1) (.ptr 3 0 0)= .vptr [mL m]:=by
 have e:newName ([0,1].map some) 3=none:=by decide
 have e2:∀k,renC H [0,1] k (mL m)=mL m:=fun k=>by cases k<;>rfl
 simp only[renC,e,h3];simp[e2]
theorem eat_dB (m:List (List Int)) (H:Nat→Option ARow) (h2:H 2=fvRow) (h3:H 3=mxRow m):∀d,renC H [0,1] (2*d+1) (.ptr 2 0 0)=dB m d
 |0=>by
  have e:newName ([0,1].map some) 2=none:=by decide
  simp only[renC,e,h2];rfl
 | d+1=>by
  have e:newName ([0,1].map some) 2=none:=by decide
  have ih:=eat_dB m H h2 h3 d;have e3:=renC_mx m H h3 (2*d);have e0:renC H [0,1] (2*d+1) (.ptr 0 0 0)= .ptr 0 0 0:=rfl;rw[show 2*(d+1)+1=(2*d+1)+1+1 by omega];have:renC H [0,1] (2*d+1+1+1) (.ptr 2 0 0)= .vptr [.clo 148 [renC H [0,1] (2*d+1) (.ptr 0 0 0),renC H [0,1] (2*d+1) (.ptr 3 0 0),renC H [0,1] (2*d+1) (.ptr 2 0 0)]]:=by
   conv=>lhs;simp only[renC,e,h2]
   rfl
  rw[this,ih,e0,e3];rfl
def detL (m:List (List Int)):Int:=minor (mAt m) (List.range m.length) (List.range m.length)
theorem unu_zero (n:Nat):unu n 0=List.range n:=by
 unfold unu;rw[List.filter_eq_self];intro x _;simp
theorem kn_first (a:Nat→Nat→Int) (n:Nat):Kn a n (kvSet [] (ik ((2^n-1:Nat):Int)) (.int .i64 1)):=by
 have hu:unu n (2^n-1)=[]:=by
  unfold unu;rw[List.filter_eq_nil_iff];intro x hx;rw[List.mem_range]at hx;rw[Nat.testBit_two_pow_sub_one];simp[hx]
 have hv:mval a n (2^n-1)=1:=by
  unfold mval;rw[hu];simp only[List.length_nil,Nat.sub_zero];rw[List.drop_of_length_le (by simp)]
  rfl
 refine⟨fun u v h=>?_,IntM.nil.set _ _,by rw[kv_get];simp⟩;rw[kv_get]at h
 split at h
 ·rename_i e;have:=ik_inj.1 e;have e2:u=2^n-1:=by omega
  simp only[Option.some.injEq]at h;rw[←h,e2,hv]
 ·cases h
theorem m_fromA (m:List (List Int)) (n:Nat) (hq:Sq m n) (hn:n≤10) (s:Kvs) (hk:Kn (mAt m) n s):
  MutCall Tryz.prog 148 [I 0,I 0, .ptr 0 0 0, .ptr 3 0 0, .ptr 2 0 0] [some (.els 1 [[.mp 1]])] ([kRow s]++[fvRow,mxRow m]) (I (wr (detL m))) [some (.els 1 [[.mp 1]])] [kRow (fromF (mAt m) n n 0 0 s).2]:=by
 have hl:(unu n 0).length=n:=by rw[unu_zero];simp
 have h:=m_from m n hq hn n 0 0 s (by omega) (Nat.two_pow_pos n) hl hk;have hv:=(fromF_ok (a:=mAt m) (n:=n) n 0 0 s (by omega) (Nat.two_pow_pos n) hl hk).1;have hd:mval (mAt m) n 0=wr (detL m):=by
  unfold mval detL;rw[hl,unu_zero,hq.len,Nat.sub_self,List.drop_zero]
 rw[hv,hd]at h;refine MutCall.eat2 (2*n+1) 2 rfl ?_ ?_ h
 ·simp[List.range,List.range.loop]
 ·have e2:=eat_dB m (hget ([some (.els 1 [[.mp 1]])]++([kRow s]++[fvRow,mxRow m]))) rfl rfl n;have e3:=renC_mx m (hget ([some (.els 1 [[.mp 1]])]++([kRow s]++[fvRow,mxRow m]))) rfl (2*n);show [renC _ [0,1] (2*n+1) (I 0),renC _ [0,1] (2*n+1) (I 0),renC _ [0,1] (2*n+1) (.ptr 0 0 0),renC _ [0,1] (2*n+1) (.ptr 3 0 0),renC _ [0,1] (2*n+1) (.ptr 2 0 0)]=_;rw[e2,e3]
  rfl
theorem c_determinant (m:List (List Int)) (n:Nat) (hq:Sq m n) (hn:n≤10):PureCall Tryz.prog 123 [mL m] (I (wr (detL m))):=by
 have h:=m_fromA m n hq hn _ (kn_first (mAt m) n);have hml:=hq.len;have hb64:n≤IntKind.i64.bits:=Nat.le_trans (show n≤10 by omega) (by decide);have hpow:(1:Nat)≤2^n∧(2:Nat)^n≤2^10:=⟨Nat.one_le_two_pow,Nat.pow_le_pow_right (by omega) hn⟩;have hsh:IntKind.i64.wrap (2^n)=2^n:=by have:=shl1 n (by omega);rw[Int.toNat_natCast,Int.one_mul,Int.natCast_pow]at this;exact this
 have hw1:IntKind.i64.wrap (2^n-1)=((2^n-1:Nat):Int):=by
  have e:((2:Int)^n)=((2^n:Nat):Int):=by simp
  rw[e];generalize 2^n=q at hpow;rw[wrap_in (by omega) (by omega)];omega
 refine PureCall.of_bodyG Tryz.func123 rfl (by decide) (by simp[Tryz.ntmps123]) ?_;intro J hJ;simp only[Tryz.ntmps123,Tryz.results123];refine gS fun K hK=>?_;simp -dsimp;apply hK;clear hK K;refine gS fun K hK=>?_;simp -dsimp [hml,hb64,hsh,hw1];apply hK;clear hK K;refine gS fun K hK=>?_;simp -dsimp;apply hK;clear hK K;refine gS fun K hK=>?_;simp -dsimp;apply hK;clear hK K;refine gS fun K hK=>?_;simp -dsimp;refine callK_mut [2] [1,3,0] [none,none,some 0,none,some 1] (h) (by decide) rfl (by simp) (by simp) rfl (by simp) ?_;simp -dsimp;apply hK;clear hK K;exact gwp_ret (by simp[resP,tupOf])
end Go.Cur
end
section
namespace Go.Cur
open Go.AM Go.Proofs
theorem o_ClI (t:List Int) (hne:t≠[]) (hn:t.length≤1000):OwnCall Tryz.prog 122 [iL t] 0 t.length 1 (t.map nCell):=by
 have f1:Fits t.length 9:=fits_of (by omega) (by omega);refine OwnCall.of_body Tryz.func122 rfl (by decide) (by simp[Tryz.ntmps122]) (by simp) (by simpa using hne) ?_;simp only[Tryz.ntmps122,Tryz.results122];refine aS fun K hK=>?_;simp -dsimp;apply hK;clear hK K;refine awp_seq_k fun K1 hK1=>?_;refine aS fun K hK=>?_;simp -dsimp [hne];apply hK;clear hK K;refine awp_cond rfl (fun hc0=>?_) (fun hc0=>?_)
 ·simp at hc0
 ·refine awp_skip ?_;simp only[zT,reduceIte,Nat.reduceEqDiff];refine hK1 _ _ ?_;refine awp_prune [0] ?_;simp only[zP,Nat.reduceEqDiff,reduceIte];refine aS fun K hK=>?_;simp -dsimp [hne,f1];apply hK;clear hK K;exact awp_ret ⟨2,0,rfl,by simp,by simp⟩
def repl (m:List (List Int)) (b:List Int) (k:Nat):List (List Int):=(List.range m.length).map fun(i:Nat)=>(rowAt m i).set k (at0 b i)
theorem repl_len {m:List (List Int)} {b:List Int} {k:Nat}:(repl m b k).length=m.length:=by simp[repl]
theorem repl_get {m:List (List Int)} {b:List Int} {k i:Nat} (hi:i<m.length):(repl m b k)[i]?=some ((rowAt m i).set k (at0 b i)):=by
 unfold repl;rw[List.getElem?_map,List.getElem?_range hi];rfl
theorem repl_sq {m:List (List Int)} {b:List Int} {n k:Nat} (h:Sq m n):Sq (repl m b k) n:=by
 refine⟨by rw[repl_len];exact h.len,fun r hr=>?_⟩;obtain⟨i,hi⟩:=List.getElem?_of_mem hr;have hl:=(List.getElem?_eq_some_iff.1 hi).1;rw[repl_len]at hl;rw[repl_get hl]at hi;simp only[Option.some.injEq]at hi;rw[←hi,List.length_set];exact(h.row (by rw[←h.len];exact hl)).2
theorem repl_at {m:List (List Int)} {b:List Int} {n k i j:Nat} (h:Sq m n) (hi:i<n) (hj:j<n):mAt (repl m b k) i j=if j=k then at0 b i else mAt m i j:=by
 have h1:rowAt (repl m b k) i=(rowAt m i).set k (at0 b i):=rowAt_of (repl_get (by rw[h.len];exact hi));have hl:=(h.row hi).2;unfold mAt;rw[h1]
 by_cases e:j=k
 ·subst e;rw[if_pos rfl];exact at0_of (by rw[List.getElem?_set_self (by omega)])
 ·rw[if_neg e];have:((rowAt m i).set k (at0 b i))[j]?=some (at0 (rowAt m i) j):=by
   rw[List.getElem?_set_ne (fun h=>e h.symm)];exact at0_nat (by omega)
  exact at0_of this
def solL (m:List (List Int)) (b:List Int):List Int:=(List.range m.length).map fun k=>wr (detL (repl m b k))
theorem m_solved (m:List (List Int)) (b:List Int) (n:Nat) (hq:Sq m n) (h1:1≤n) (hn:n≤10) (hb:b.length=n):MutCall Tryz.prog 100 [mL m,iL b] [] [] (.tup [.row 0 0 n,I (wr (detL m))]) [] [some (.els 1 ((solL m b).map nCell))]:=by
 have hml:=hq.len;have hdet:=c_determinant m n hq hn;refine MutCall.of_bodyG [] Tryz.func100 rfl (by decide) (by simp[Tryz.ntmps100]) rfl rfl ?_;intro J hJ;simp only[Tryz.ntmps100,Tryz.results100];refine gS fun K hK=>?_;simp -dsimp;apply hK;clear hK K;refine gS fun K hK=>?_;simp -dsimp;apply hK;clear hK K;refine gwp_seq_k fun K1 hK1=>?_;refine gS fun K hK=>?_;simp -dsimp;apply hK;clear hK K;refine gwp_block ?_;refine gwp_prune [0,1,6,12,13] (Or.inr (by simp)) ?_;simp only[zP,Nat.reduceEqDiff,reduceIte];refine gwp_loop_l [0,1,12] (α:=Nat) (fun k=>[(6, .row 0 0 k),(13,I k)]) (fun k=>[some (.els 1 (((solL m b).take k).map nCell))]) (fun k=>k≤n) (fun k=>n-k) 0 ?_ ?_ ?_
 ·exact Nat.zero_le _
 ·exact gsub ((sub_nil 6 1 (by simp)).trans (sub_same (by simp))) (by simp)
 rintro k k1;simp only[zP,Nat.reduceEqDiff,reduceIte];refine gS fun K hK=>?_;simp -dsimp;apply hK;clear hK K;refine gwp_seq_k fun K2 hK2=>?_;refine gwp_cond rfl (fun hc0=>?_) (fun hc0=>?_)
 ·have hkn:k<n:=by rw[←hml];simpa using hc0
  have wk:=zW k (by omega);have gsk:(solL m b)[k]?=some (wr (detL (repl m b k))):=by
   unfold solL;rw[List.getElem?_map,List.getElem?_range (by omega)];rfl
  have hsl:min k (solL m b).length=k:=by simp only[solL,List.length_map,List.length_range];omega
  have hdk:=c_determinant (repl m b k) n (repl_sq hq) hn;have hrl:=repl_len (m:=m) (b:=b) (k:=k);have hrg:=fun i (hi:i<n)=>repl_get (m:=m) (b:=b) (k:=k) (i:=i) (by omega);generalize repl m b k=M at gsk hdk hrl hrg;refine gwp_skip ?_;simp only[zT,reduceIte,Nat.reduceEqDiff];refine hK2 _ _ ?_;refine gwp_prune [0,1,6,12,13] (Or.inr (by simp)) ?_;simp only[zP,Nat.reduceEqDiff,reduceIte];refine gwp_seq_k fun K3 hK3=>?_;refine gwp_block ?_;refine gS fun K hK=>?_;simp -dsimp;apply hK;clear hK K;refine gS fun K hK=>?_;simp -dsimp;apply hK;clear hK K;refine gwp_seq_k fun K4 hK4=>?_;refine gS fun K hK=>?_;simp -dsimp;apply hK;clear hK K;refine gwp_block ?_;refine gwp_prune [0,1,6,7,8,12,13,16,17,18] (Or.inr (by simp)) ?_;simp only[zP,Nat.reduceEqDiff,reduceIte];refine gwp_loop_l [0,1,6,7,12,13,16,17] (α:=Nat) (fun i=>[(8, .row 1 0 i),(18,I i)]) (fun i=>[some (.els 1 (((solL m b).take k).map nCell)),some (.els 1 ((M.take i).map rCell))]) (fun i=>i≤n) (fun i=>n-i) 0 ?_ ?_ ?_
  ·exact Nat.zero_le _
  ·exact gsub ((sub_nil 8 1 (by simp)).trans (sub_rb [some 0,some 1] rfl (by simp) (by simp))) (by simp)
  rintro i i1;simp only[zP,Nat.reduceEqDiff,reduceIte];refine gS fun K hK=>?_;simp -dsimp;apply hK;clear hK K;refine gwp_seq_k fun K5 hK5=>?_;refine gwp_cond rfl (fun hc1=>?_) (fun hc1=>?_)
  ·have hin:i<n:=by rw[←hml];simpa using hc1
   have wi:=zW i (by omega);obtain⟨gr,hrn⟩:=hq.row hin;have gb:=at0_nat (l:=b) (k:=i) (by omega);have hgi:=hrg i hin;have hMt:M.take (i+1)=M.take i++[(rowAt m i).set k (at0 b i)]:=by rw[List.take_add_one,hgi];rfl
   have hMl:(M.take i).length=i:=by rw[List.length_take];omega
   have hmin:min i M.length=i:=by omega
   have hne:rowAt m i≠[]:=by intro e;rw[e]at hrn;simp at hrn;omega
   have hcl:=o_ClI (rowAt m i) hne (by omega);generalize rowAt m i=r at gr hrn hMt hcl hgi;have f1:Fits (i+1) 25:=fits_of (by omega) (by omega);have htr:List.take n ((r.map nCell).set k [I (at0 b (i:Int))])=(r.map nCell).set k [I (at0 b (i:Int))]:=List.take_of_length_le (by simp;omega);refine gwp_skip ?_;simp only[zT,reduceIte,Nat.reduceEqDiff];refine hK5 _ _ ?_;refine gwp_prune [0,1,6,7,8,12,13,16,17,18] (Or.inr (by simp)) ?_;simp only[zP,Nat.reduceEqDiff,reduceIte];refine gwp_seq_k fun K6 hK6=>?_;refine gwp_block ?_;refine gS fun K hK=>?_;simp -dsimp [gr];apply hK;clear hK K;refine gS fun K hK=>?_;simp -dsimp;refine callK_own (hcl) ?_;simp -dsimp;apply hK;clear hK K;refine gS fun K hK=>?_;simp -dsimp [gb,hrn,hkn];apply hK;clear hK K;refine gR fun K hK=>?_;simp -dsimp [f1,hmin];apply hK;clear hK K;simp only[zT,reduceIte,Nat.reduceEqDiff];refine hK6 _ _ ?_;refine gwp_prune [0,1,6,7,8,12,13,16,17,18] (Or.inr (by simp)) ?_;simp only[zP,Nat.reduceEqDiff,reduceIte];refine gR fun K hK=>?_;simp -dsimp [wi];apply hK;clear hK K;simp only[zT,reduceIte,Nat.reduceEqDiff];exact⟨i+1,by omega,by omega,gsub (sub_rf [some 0,some 4] rfl (by simp[hmin,hrn]) (by simp[hmin,hrn,List.take_add_one,hgi,List.map_set,htr])) (by simp)⟩
  ·have hil:¬i<m.length:=by simpa using hc1
   have hin:i=n:=by omega
   have htk:List.take i (M.map rCell)=M.map rCell:=List.take_of_length_le (by simp;omega);have hmin:min i M.length=i:=by omega
   have hle:i≤M.length:=by omega
   have f2:Fits (k+1) 9:=fits_of (by omega) (by omega);refine gwp_exit ?_;simp only[zT,reduceIte,Nat.reduceEqDiff];refine hK4 _ _ ?_;refine gwp_prune [0,1,6,8,12,13] (Or.inr (by simp)) ?_;simp only[zP,Nat.reduceEqDiff,reduceIte];refine gR fun K hK=>?_;simp -dsimp [hmin,hle,htk,hsl,f2];refine callK_intro _ (hdk) (by simp) ?_;simp -dsimp [hmin,hle,htk,hsl,f2];apply hK;clear hK K;simp only[zT,reduceIte,Nat.reduceEqDiff];refine hK3 _ _ ?_;refine gwp_prune [0,1,6,12,13] (Or.inr (by simp)) ?_;simp only[zP,Nat.reduceEqDiff,reduceIte];refine gR fun K hK=>?_;simp -dsimp [wk];apply hK;clear hK K;simp only[zT,reduceIte,Nat.reduceEqDiff];exact⟨k+1,by omega,by omega,gsub (sub_rb [some 2] rfl (by simp[hsl]) (by simp[hsl,List.take_add_one,gsk])) (by simp)⟩
 ·have hkl:¬k<m.length:=by simpa using hc0
  have hkn:k=n:=by omega
  refine gwp_exit ?_;simp only[zT,reduceIte,Nat.reduceEqDiff];refine hK1 _ _ ?_;refine gwp_prune [0,6] (Or.inr (by simp)) ?_;simp only[zP,Nat.reduceEqDiff,reduceIte];refine gS fun K hK=>?_;simp -dsimp;refine callK_intro _ (hdet) (by simp) ?_;simp -dsimp;apply hK;clear hK K;have hsn:k=(solL m b).length:=by simp[solL];omega
  have htk:List.take k ((solL m b).map nCell)=(solL m b).map nCell:=List.take_of_length_le (by simp;omega);exact gwp_ret ⟨[some 0],rfl,by simp,by simp[htk],by simp,by simp[resP,tupOf,hkn]⟩
end Go.Cur
end
section
namespace Go.AM
def unordB (l:List Oper):List (Nat×Nat):=(List.range l.length).flatMap fun k=>((List.range k).filter fun j=> !((closL l []).getD k 0).testBit j).map fun j=>(j,k)
theorem draw_pairs {l:List Oper} {tr:List Tr} (ps:List (Nat×Nat)) (hb:backB l 0=true) (hu:unordB l=ps) (hp:∀p∈ps,confl (tr.getD p.1 ([],[])) (tr.getD p.2 ([],[]))=false):drawB l tr=true:=by
 subst hu;unfold drawB;rw[hb,Bool.true_and,List.all_eq_true];intro k hk;rw[List.all_eq_true];intro j hj
 cases hq:((closL l []).getD k 0).testBit j with
 |true=>simp
 | false=>
  have:=hp (j,k) (by
   unfold unordB;rw[List.mem_flatMap];exact⟨k,hk,List.mem_map.2 ⟨j,List.mem_filter.2 ⟨hj,by rw[hq];rfl⟩,rfl⟩⟩)
  simp only at this;rw[this];rfl
def mrow (f:Nat→Nat→Int) (n i:Nat):Option ARow:=some (.els 1 ((List.range n).map fun j=>[I (f i j)]))
def mrows (f:Nat→Nat→Int) (m n:Nat):Hp:=(List.range m).map (mrow f n)
def outs (c m n:Nat):List (List AV):=(List.range m).map fun i=>[.row (i+c) 0 n]
def upd2 (f:Nat→Nat→Int) (i j:Nat) (v:Int):Nat→Nat→Int:=fun i' j'=>if i'=i∧j'=j then v else f i' j'
@[simp] theorem mrows_length (f:Nat→Nat→Int) (m n:Nat):(mrows f m n).length=m:=by simp[mrows]
@[simp] theorem outs_length (c m n:Nat):(outs c m n).length=m:=by simp[outs]
@[simp] theorem outs_take (c m n:Nat):List.take m (outs c m n)=outs c m n:=List.take_of_length_le (by simp)
theorem outs_succ (c m n:Nat):outs c (m+1) n=outs c m n++[[.row (m+c) 0 n]]:=by simp[outs,List.range_succ]
theorem outs_get {c m n i:Nat} (h:i<m):(outs c m n)[i]?=some [.row (i+c) 0 n]:=by
 unfold outs;rw[List.getElem?_map,List.getElem?_range h];rfl
@[simp] theorem outs_getE {c m n i:Nat} (h:i<(outs c m n).length):(outs c m n)[i]=[.row (i+c) 0 n]:=by simp[outs]
theorem mrow_get {f:Nat→Nat→Int} {n i j:Nat} (h:j<n):((List.range n).map fun j=>[I (f i j)])[j]?=some [I (f i j)]:=by
 rw[List.getElem?_map,List.getElem?_range h];rfl
theorem mrows_congr {f g:Nat→Nat→Int} {m n:Nat} (h:∀i,i<m→∀j,j<n→f i j=g i j):mrows f m n=mrows g m n:=by
 unfold mrows mrow;refine List.map_congr_left fun i hi=>?_;rw[List.mem_range]at hi
 congr 2
 refine List.map_congr_left fun j hj=>?_;rw[List.mem_range]at hj;rw[h i hi j hj]
theorem hget_app_l:∀{M X:Hp} {i:Nat},i<M.length→hget (M++X) i=hget M i
 |[],X,i,h=>by simp at h
 |x::M,X,0,h=>rfl
 |x::M,X,i+1,h=>hget_app_l (M:=M) (by simpa using h)
theorem hget_app_r:∀{M X:Hp} {q:Nat},hget (M++X) (M.length+q)=hget X q
 |[],X,q=>by simp
 |x::M,X,q=>by
  rw[List.cons_append,List.length_cons,show M.length+1+q=(M.length+q)+1 by omega];exact hget_app_r (M:=M)
theorem hset_app_l:∀{M X:Hp} {i:Nat} {o:Option ARow},i<M.length→hset (M++X) i o=hset M i o++X
 |[],X,i,o,h=>by simp at h
 |x::M,X,0,o,h=>rfl
 |x::M,X,i+1,o,h=>by
  show x::hset (M++X) i o=x::(hset M i o++X);rw[hset_app_l (M:=M) (by simpa using h)]
theorem hset_app_r:∀{M X:Hp} {q:Nat} {o:Option ARow},hset (M++X) (M.length+q) o=M++hset X q o
 |[],X,q,o=>by simp
 |x::M,X,q,o=>by
  rw[List.cons_append,List.length_cons,show M.length+1+q=(M.length+q)+1 by omega];show x::hset (M++X) (M.length+q) o=_;rw[hset_app_r (M:=M)];rfl
theorem hset_set:∀{M:Hp} {i:Nat} {o:Option ARow},i<M.length→hset M i o=M.set i o
 |[],i,o,h=>by simp at h
 |x::M,0,o,h=>rfl
 |x::M,i+1,o,h=>by
  show x::hset M i o=x::M.set i o;rw[hset_set (M:=M) (by simpa using h)]
theorem hget_mrows' {f:Nat→Nat→Int} {m n i:Nat} (h:i<m):hget (mrows f m n) i=mrow f n i:=by
 unfold mrows;rw[hget_map,List.getElem?_range h]
theorem hget_mrows {f:Nat→Nat→Int} {m n i:Nat} {X:Hp} (h:i<m):hget (mrows f m n++X) i=mrow f n i:=by
 rw[hget_app_l (by simpa using h),hget_mrows' h]
@[simp] theorem hget_mtail {f:Nat→Nat→Int} {m n q:Nat} {X:Hp}:hget (mrows f m n++X) (m+q)=hget X q:=by
 have:=hget_app_r (M:=mrows f m n) (X:=X) (q:=q)
 rwa [mrows_length]at this
@[simp] theorem hget_mtail0 {f:Nat→Nat→Int} {m n:Nat} {X:Hp}:hget (mrows f m n++X) m=hget X 0:=hget_mtail (q:=0)
@[simp] theorem hset_mtail {f:Nat→Nat→Int} {m n q:Nat} {X:Hp} {o:Option ARow}:hset (mrows f m n++X) (m+q) o=mrows f m n++hset X q o:=by
 have:=hset_app_r (M:=mrows f m n) (X:=X) (q:=q) (o:=o)
 rwa [mrows_length]at this
@[simp] theorem hset_mtail0 {f:Nat→Nat→Int} {m n:Nat} {X:Hp} {o:Option ARow}:hset (mrows f m n++X) m o=mrows f m n++hset X 0 o:=hset_mtail (q:=0)
@[simp] theorem hset_mend {f:Nat→Nat→Int} {m n:Nat} {o:Option ARow}:hset (mrows f m n) m o=mrows f m n++[o]:=by
 have:=hset_mtail0 (f:=f) (m:=m) (n:=n) (X:=[]) (o:=o);rw[List.append_nil]at this;exact this
theorem row_set {f:Nat→Int} {n j:Nat} {v:Int}:((List.range n).map fun j=>[I (f j)]).set j [I v]=(List.range n).map fun j'=>[I (if j'=j then v else f j')]:=by
 refine List.ext_getElem? fun j'=>?_
 by_cases hn:j'<n
 ·rw[List.getElem?_map,List.getElem?_range hn]
  by_cases hj:j'=j
  ·subst hj;rw[List.getElem?_set_self (by simpa using hn)];simp
  ·rw[List.getElem?_set_ne (fun e=>hj e.symm),List.getElem?_map,List.getElem?_range hn];simp[hj]
 ·rw[List.getElem?_eq_none (by simp;omega),List.getElem?_eq_none (by simp;omega)]
theorem mrows_set {f:Nat→Nat→Int} {m n i j:Nat} {v:Int} (hi:i<m):(mrows f m n).set i (some (.els 1 (((List.range n).map fun j=>[I (f i j)]).set j [I v])))=mrows (upd2 f i j v) m n:=by
 rw[row_set (f:=f i)];refine List.ext_getElem? fun i'=>?_
 by_cases hm:i'<m
 ·unfold mrows;rw[List.getElem?_map,List.getElem?_range hm]
  by_cases h:i'=i
  ·subst h;rw[List.getElem?_set_self (by simpa using hm)];simp[mrow,upd2]
  ·rw[List.getElem?_set_ne (fun e=>h e.symm),List.getElem?_map,List.getElem?_range hm];simp[mrow,upd2,h]
 ·rw[List.getElem?_eq_none (by simp;omega),List.getElem?_eq_none (by simp;omega)]
theorem hset_mrows' {f:Nat→Nat→Int} {m n i j:Nat} {v:Int} (hi:i<m):hset (mrows f m n) i (some (.els 1 (((List.range n).map fun j=>[I (f i j)]).set j [I v])))=mrows (upd2 f i j v) m n:=by
 rw[hset_set (by simpa using hi),mrows_set hi]
theorem hset_mrows {f:Nat→Nat→Int} {m n i j:Nat} {v:Int} {X:Hp} (hi:i<m):hset (mrows f m n++X) i (some (.els 1 (((List.range n).map fun j=>[I (f i j)]).set j [I v])))=mrows (upd2 f i j v) m n++X:=by
 rw[hset_app_l (by simpa using hi),hset_mrows' hi]
theorem newName_cat {gf:List (Option Nat)} {m c i:Nat} (hi:i<m) (hout:some (i+c)∉gf):newName (gf++(List.range m).map fun i=>some (i+c)) (i+c)=some (i+gf.length):=by
 unfold newName;rw[List.findIdx?_append];have h1:gf.findIdx? (fun x=>x==some (i+c))=none:=by
  rw[List.findIdx?_eq_none_iff];intro x hx;simp only[beq_eq_false_iff_ne,ne_eq];rintro rfl;exact hout hx
 have h2:((List.range m).map fun i=>some (i+c)).findIdx? (fun x=>x==some (i+c))=some i:=by
  rw[List.findIdx?_eq_some_iff_getElem];refine⟨by simpa using hi,by simp,fun j hj=>?_⟩;simp;omega
 rw[h1,h2];rfl
theorem ren_outs {g:List (Option Nat)} {c c' m n:Nat} (hg:∀i,i<m→newName g (i+c)=some (i+c')):((outs c m n).map fun e=>e.map (renAV g 3))=outs c' m n:=by
 unfold outs;rw[List.map_map];refine List.map_congr_left fun i hi=>?_;rw[List.mem_range]at hi;show [renAV g 3 (.row (i+c) 0 n)]=_;have e:renAV g 3 (.row (i+c) 0 n)=match newName g (i+c)with|some q=> .row q 0 n|none=> .any:=rfl
 rw[e,hg i hi]
theorem ren_mrow {g:List (Option Nat)} {f:Nat→Nat→Int} {n i:Nat}:(mrow f n i).map (renRow g)=mrow f n i:=by
 unfold mrow;simp only[Option.map_some,renRow,List.map_map]
 congr 2
theorem nodupB_cat {gf:List (Option Nat)} {m c:Nat} (h:nodupB gf=true) (hout:∀i,i<m→some (i+c)∉gf):∀(i j q:Nat),(gf++(List.range m).map fun i=>some (i+c))[i]?=some (some q)→(gf++(List.range m).map fun i=>some (i+c))[j]?=some (some q)→i=j:=by
 intro i j q h1 h2;have hr:∀k,gf.length≤k→(gf++(List.range m).map fun i=>some (i+c))[k]?=some (some q)→k-gf.length<m∧q=k-gf.length+c:=by
  intro k hk hq;rw[List.getElem?_append_right hk,List.getElem?_map]at hq
  by_cases hkm:k-gf.length<m
  ·rw[List.getElem?_range hkm]at hq;simp only[Option.map_some,Option.some.injEq]at hq;exact⟨hkm,hq.symm⟩
  ·rw[List.getElem?_eq_none (by simp;omega)]at hq;cases hq
 by_cases hi:i<gf.length
 ·rw[List.getElem?_append_left hi]at h1
  by_cases hj:j<gf.length
  ·rw[List.getElem?_append_left hj]at h2;exact nodupB_spec gf h i j q h1 h2
  ·obtain⟨a,b⟩:=hr j (by omega) h2;subst b;exact absurd (List.mem_of_getElem? h1) (hout _ a)
 ·obtain⟨a,b⟩:=hr i (by omega) h1
  by_cases hj:j<gf.length
  ·rw[List.getElem?_append_left hj]at h2;subst b;exact absurd (List.mem_of_getElem? h2) (hout _ a)
  ·obtain⟨a',b'⟩:=hr j (by omega) h2;omega
def ren1 (H:Hp) (g:List (Option Nat)):Option Nat→Option ARow
 |some r=>(hget H r).map (renRow g)
 |none=>none
theorem renH_map (H:Hp) (g:List (Option Nat)):renH H g=g.map (ren1 H g):=rfl
attribute [simp] ren1
theorem nodupB_conv:∀(g:List (Option Nat)),(∀(i j q:Nat),g[i]?=some (some q)→g[j]?=some (some q)→i=j)→nodupB g=true
 |[],_=>rfl
 | x::g,h=>by
  have hg:=nodupB_conv g fun i j q h1 h2=>by
   have:=h (i+1) (j+1) q (by simpa using h1) (by simpa using h2);omega
  cases x with
  |none=>exact hg
  |some q=>
   simp only[nodupB,Bool.and_eq_true,Bool.not_eq_true',List.contains_eq_mem,decide_eq_false_iff_not];refine⟨fun hm=>?_,hg⟩;obtain⟨j,hj⟩:=List.getElem?_of_mem hm;have:=h 0 (j+1) q (by simp) (by simpa using hj);omega
theorem nodupB_cat' {gf:List (Option Nat)} {m c:Nat} (h:nodupB gf=true) (hout:∀i,i<m→some (i+c)∉gf):nodupB (gf++(List.range m).map fun i=>some (i+c))=true:=nodupB_conv _ (nodupB_cat h hout)
theorem renH_cat {H F':Hp} (gf:List (Option Nat)) (f:Nat→Nat→Int) (m n c:Nat) (hM:∀i,i<m→hget H (i+c)=mrow f n i) (hF:gf.map (ren1 H (gf++(List.range m).map fun i=>some (i+c)))=F'):
  renH H (gf++(List.range m).map fun i=>some (i+c))=F'++mrows f m n:=by
 rw[renH_map,List.map_append,hF]
 congr 1
 unfold mrows;rw[List.map_map];refine List.map_congr_left fun i hi=>?_;rw[List.mem_range]at hi;show(hget H (i+c)).map (renRow _)=_;rw[hM i hi,ren_mrow]
theorem sub_cat {nt:Nat} {T T':Tm} {H F':Hp} (gf:List (Option Nat)) (f:Nat→Nat→Int) (m n c:Nat) (hn:nodupB gf=true) (hout:∀i,i<m→some (i+c)∉gf) (hM:∀i,i<m→hget H (i+c)=mrow f n i)
  (hT:subT (gf++(List.range m).map fun i=>some (i+c)) T T') (hF:gf.map (ren1 H (gf++(List.range m).map fun i=>some (i+c)))=F'):Sub nt T H T' (F'++mrows f m n):=
 sub_ren _ (nodupB_cat hn hout) hT (renH_cat gf f m n c hM hF)
def updsFrom:Nat→Hp→List (Nat×Option ARow)
 |_,[]=>[]
 |N,x::L=>(N,x)::updsFrom (N+1) L
theorem newUps_from (bg:List (Option Nat)):∀(N:Nat) (L:Hp),newUps bg N L=updsFrom N (L.map (Option.map (renRow bg)))
 |N,[]=>rfl
 |N,x::L=>by simp only[newUps,updsFrom,List.map_cons,newUps_from bg (N+1) L]
theorem hset_end:∀(H:Hp) (x:Option ARow),hset H H.length x=H++[x]
 |[],x=>rfl
 |y::H,x=>by show y::hset H H.length x=_;rw[hset_end H x];rfl
theorem from_all:∀(L H:Hp),upsIn H (updsFrom H.length L)∧happ H (updsFrom H.length L)=H++L
 |[],H=>⟨trivial,by simp[updsFrom,happ]⟩
 |x::L,H=>by
  have ih:=from_all L (H++[x]);simp only[List.length_append,List.length_cons,List.length_nil,Nat.zero_add]at ih;simp only[updsFrom,upsIn,happ];rw[hset_end];exact⟨⟨Nat.le_refl _,ih.1⟩,by rw[ih.2];simp⟩
theorem from_once:∀(L:Hp) (N:Nat),upsOnce (updsFrom N L)=true∧∀q∈updsFrom N L,N≤q.1
 |[],N=>⟨rfl,by simp[updsFrom]⟩
 | x::L,N=>by
  obtain⟨h1,h2⟩:=from_once L (N+1);refine⟨?_,fun q hq=>?_⟩
  ·simp only[updsFrom,upsOnce,Bool.and_eq_true,List.all_eq_true,bne_iff_ne,ne_eq];exact⟨fun q hq e=>by have:=h2 q hq;omega,h1⟩
  ·simp only[updsFrom,List.mem_cons]at hq
   rcases hq with rfl|hq
   ·exact Nat.le_refl _
   ·have:=h2 q hq;omega
@[simp] theorem upsIn_from {H L:Hp} {N:Nat} (h:H.length=N):upsIn H (updsFrom N L):=h▸(from_all L H).1
@[simp] theorem happ_from {H L:Hp} {N:Nat} (h:H.length=N):happ H (updsFrom N L)=H++L:=h▸(from_all L H).2
@[simp] theorem upsOnce_from {L:Hp} {N:Nat}:upsOnce (updsFrom N L)=true:=(from_once L N).1
theorem newName_back {N n q:Nat} (hq:q<n):newName (backG [] N n) q=some (N+q):=by
 unfold newName backG;rw[List.findIdx?_append];have h1:((List.range N).map fun r=>List.findIdx? (fun x=>x==r) ([]:List Nat)).findIdx? (fun x=>x==some q)=none:=by
  rw[List.findIdx?_eq_none_iff];intro x hx;obtain⟨r,_,rfl⟩:=List.mem_map.1 hx
  rfl
 have h2:((List.range n).map fun j=>some (([]:List Nat).length+j)).findIdx? (fun x=>x==some q)=some q:=by
  rw[List.findIdx?_eq_some_iff_getElem];refine⟨by simpa using hq,by simp,fun j hj=>?_⟩;simp;omega
 rw[h1,h2];simp[Nat.add_comm]
theorem callK_mat {P:Program} {m:List Bool} {f:FuncId} {args:List AV} {fl:Bool} {rd rd0:List Nat} {raw:List AV} {H:Nat→Option ARow} {N:Nat} {K:Eff→Prop} {args':List AV} {n:Nat} {R:List (List AV)} {F:Nat→Nat→Int}
  (h:MutCall P f args' [] [] (.tup [.row 0 0 n, .row 1 0 n]) [] ([some (.els 1 (outs 2 n n)),some (.els 1 R)]++mrows F n n)) (ha:raw.map (renAV [] 40)=args') (hR:∀g,R.map (fun e=>e.map (renAV g 3))=R)
  (hk:K ⟨.tup [.row N 0 n, .row (N+1) 0 n],updsFrom N ([some (.els 1 (outs (N+2) n n)),some (.els 1 R)]++mrows F n n),rd0⟩):callK P m f args fl rd rd0 raw H N K:=by
 refine callK_mut [] [] (backG [] N (n+2)) h (by simp[nodN]) (congrArg (backG [] N) (by simp<;>omega)) ha rfl rfl rfl ?_;have hM:(mrows F n n).map (Option.map (renRow (backG [] N (n+2))))=mrows F n n:=by
  unfold mrows;rw[List.map_map];exact List.map_congr_left fun i _=>ren_mrow
 have ho:((outs 2 n n).map fun e=>e.map (renAV (backG [] N (n+2)) 3))=outs (N+2) n n:=by
  unfold outs;rw[List.map_map];refine List.map_congr_left fun i hi=>?_;rw[List.mem_range]at hi;show [renAV (backG [] N (n+2)) 3 (.row (i+2) 0 n)]=_;have e:renAV (backG [] N (n+2)) 3 (.row (i+2) 0 n)=match newName (backG [] N (n+2)) (i+2)with|some q=> .row q 0 n|none=> .any:=rfl
  rw[e,newName_back (by omega),show N+(i+2)=i+(N+2)by omega]
 have hr:renAV (backG [] N (n+2)) 3 (.tup [.row 0 0 n, .row 1 0 n])= .tup [.row N 0 n, .row (N+1) 0 n]:=by
  have e0:renAV (backG [] N (n+2)) 2 (.row 0 0 n)=match newName (backG [] N (n+2)) 0 with|some q=> .row q 0 n|none=> .any:=rfl
  have e1:renAV (backG [] N (n+2)) 2 (.row 1 0 n)=match newName (backG [] N (n+2)) 1 with|some q=> .row q 0 n|none=> .any:=rfl
  show AV.tup [renAV (backG [] N (n+2)) 2 (.row 0 0 n),renAV (backG [] N (n+2)) 2 (.row 1 0 n)]=_;rw[e0,e1,newName_back (by omega),newName_back (by omega)];rfl
 have hu:newUps (backG [] N (n+2)) N ([some (.els 1 (outs 2 n n)),some (.els 1 R)]++mrows F n n)=updsFrom N ([some (.els 1 (outs (N+2) n n)),some (.els 1 R)]++mrows F n n):=by
  rw[newUps_from,List.map_append,hM];simp only[List.map_cons,List.map_nil,Option.map_some,renRow,ho,hR]
 rw[hr,hu];simpa [keptUps,goneUps]using hk
def matL (f:Nat→Nat→Int) (m n:Nat):List (List Int):=(List.range m).map fun i=>(List.range n).map fun j=>f i j
theorem matL_get {f:Nat→Nat→Int} {m n i:Nat} (h:i<m):(matL f m n)[i]?=some ((List.range n).map fun j=>f i j):=by
 unfold matL;rw[List.getElem?_map,List.getElem?_range h];rfl
theorem frz_rows {H:Nat→Option ARow} {r n:Nat} {es:List (List AV)} {M:List (List Int)} (h1:1≤n) (hr:H r=some (.els 1 es)) (he:es.length=n) (hm:M.length=n)
  (hM:∀i,i<n→∃nm l,es[i]?=some [.row nm 0 n]∧M[i]?=some l∧H nm=some (.els 1 (l.map fun x=>[I x]))∧l.length=n):frz H 3 (.row r 0 n)= .lst 1 (M.map fun l=>[.lst 1 (l.map fun x=>[I x])]):=by
 have hp:plainEls es=false:=by
  obtain⟨nm,l,g1,_⟩:=hM 0 (by omega);unfold plainEls;rw[List.all_eq_false];exact⟨_,List.mem_of_getElem? g1,by simp[AV.noRef]⟩
 have hf:(es.map fun e=>e.map (frz H 2))=M.map fun l=>[.lst 1 (l.map fun x=>[I x])]:=by
  refine List.ext_getElem? fun i=>?_
  by_cases hi:i<n
  ·obtain⟨nm,l,g1,g2,g3,g4⟩:=hM i hi;rw[List.getElem?_map,List.getElem?_map,g1,g2];simp only[Option.map_some,List.map_cons,List.map_nil,Option.some.injEq,List.cons.injEq,and_true];have hpl:plainEls (l.map fun x=>[I x])=true:=by simp[plainEls,AV.noRef]
   have ht:List.take n (l.map fun x=>[I x])=l.map fun x=>[I x]:=List.take_of_length_le (by simp;omega);simp only[frz,g3];rw[if_pos (by simp;omega),if_pos hpl,List.drop_zero,ht]
  ·rw[List.getElem?_eq_none (by simp;omega),List.getElem?_eq_none (by simp;omega)]
 have ht:List.take n (es.map fun e=>e.map (frz H 2))=es.map fun e=>e.map (frz H 2):=List.take_of_length_le (by simp;omega);simp only[frz,hr];rw[if_pos (by simp;omega),hp];simp only[Bool.false_eq_true,if_false,List.drop_zero];rw[List.take_of_length_le (by omega),hf]
end Go.AM
end
section
namespace Go.Cur
open Go.AM Go.Proofs
def upN (p:List Nat):List Int:=p.map fun(k:Nat)=>(k:Int)
theorem upN_len (p:List Nat):(upN p).length=p.length:=by simp[upN]
theorem upN_get {p:List Nat} {k x:Nat} (h:p[k]?=some x):(upN p)[k]?=some (x:Int):=by simp[upN,h]
theorem upN_mem {p:List Nat} {x:Int}:x∈upN p↔0≤x∧x.toNat∈p:=by
 simp only[upN,List.mem_map];constructor
 ·rintro⟨k,hk,rfl⟩;exact⟨by omega,by simpa using hk⟩
 ·rintro⟨h0,h1⟩;exact⟨x.toNat,h1,by omega⟩
def idxM:List Nat→Nat→Kvs
 |[],_=>[]
 |x::p,n=>(ik x, .int .i64 n)::idxM p (n+1)
theorem idxM_none {x:Nat}:∀{p:List Nat} {n:Nat},x∉p→kvGet (idxM p n) (ik x)=none
 |[],_,_=>rfl
 |y::p,n,h=>by
  simp only[List.mem_cons,not_or]at h;simp only[idxM,kvGet];rw[if_neg (fun e=>h.1 (by have:=ik_inj.1 e;omega)),idxM_none h.2]
theorem idxM_some {x:Nat}:∀{p:List Nat} {n:Nat},x∈p→kvGet (idxM p n) (ik x)=some (.int .i64 ((p.idxOf x+n:Nat):Int))
 |[],_,h=>by simp at h
 | y::p,n,h=>by
  simp only[idxM,kvGet]
  by_cases e:x=y
  ·subst e;rw[if_pos rfl];simp
  ·rw[if_neg (fun h=>e (by have:=ik_inj.1 h;omega)),idxM_some ((List.mem_cons.1 h).resolve_left e)];rw[List.idxOf_cons];have:(y==x)=false:=by simp;exact fun h=>e h.symm
   rw[this];simp only[cond_false]
   congr 3;omega
theorem idxM_snoc {x:Nat}:∀{p:List Nat} {n:Nat},x∉p→kvSet (idxM p n) (ik x) (.int .i64 ((n+p.length:Nat):Int))=idxM (p++[x]) n
 |[],n,_=>by simp[idxM,kvSet]
 |y::p,n,h=>by
  simp only[List.mem_cons,not_or]at h;have ih:=idxM_snoc (n:=n+1) h.2;simp only[List.cons_append,idxM,kvSet,List.length_cons];rw[if_neg (fun e=>h.1 (by have:=ik_inj.1 e;omega)),show n+(p.length+1)=n+1+p.length by omega,ih]
theorem idxOf_get {x:Nat}:∀{p:List Nat},x∈p→p[p.idxOf x]?=some x
 |[],h=>by simp at h
 | y::p,h=>by
  rw[List.idxOf_cons]
  by_cases e:y=x
  ·subst e;simp
  ·have:(y==x)=false:=by simpa using e
   rw[this];simp only[cond_false,List.getElem?_cons_succ];exact idxOf_get ((List.mem_cons.1 h).resolve_left (fun h=>e h.symm))
def onW (l:List Wr) (b:List Bool):List Wn:=(l.zip b).filterMap fun q=>if q.2 then some ⟨q.1.A.toNat,q.1.B.toNat,q.1.Siem⟩else none
theorem onW_snoc {l:List Wr} {b:List Bool} {k:Nat} {w:Wr} {x:Bool} (hl:l[k]?=some w) (hb:b[k]?=some x):onW (l.take (k+1)) (b.take (k+1))=onW (l.take k) (b.take k)++if x then [⟨w.A.toNat,w.B.toNat,w.Siem⟩]else []:=by
 have hk:=(List.getElem?_eq_some_iff.1 hl).1;have hk2:=(List.getElem?_eq_some_iff.1 hb).1;unfold onW;rw[List.take_add_one,List.take_add_one,hl,hb,List.zip_append (by simp;omega),List.filterMap_append]
 cases x<;>simp
def rgt (us:Kvs) (p:List Nat):List Int:=p.map fun(k:Nat)=>-igt us k
def Lf (W:List Wn) (p:List Nat):Nat→Nat→Int:=fun i j=>lw W (p.getD i 0) (p.getD j 0)
theorem mrow0 (n i:Nat):some (ARow.els 1 (List.replicate n [I 0]))=mrow (fun _ _=>0) n i:=by
 unfold mrow;rw[List.map_const'];simp
theorem ew_abs (w:Wn) (i:Nat):(ew w i).natAbs≤1:=by
 unfold ew
 split<;>split<;>omega
theorem lw_abs {i k:Nat}:∀{W:List Wn},(∀w∈W,w.s.natAbs≤4)→(lw W i k).natAbs≤4*W.length
 |[],_=>by simp[lw]
 | w::W,h=>by
  have ih:=lw_abs (i:=i) (k:=k) (W:=W) fun w hw=>h w (by simp[hw]);have h1:(w.s*(ew w i*ew w k)).natAbs≤4*(1*1):=by
   rw[Int.natAbs_mul,Int.natAbs_mul];exact Nat.mul_le_mul (h w (by simp)) (Nat.mul_le_mul (ew_abs w i) (ew_abs w k))
  rw[lw,List.length_cons];omega
theorem onW_len (l:List Wr) (b:List Bool):(onW l b).length≤l.length:=by
 refine Nat.le_trans (List.length_filterMap_le _ _) ?_;rw[List.length_zip];exact Nat.min_le_left _ _
theorem onW_mem {l:List Wr} {b:List Bool} {x:Wn} (h:x∈onW l b):∃w∈l,x=⟨w.A.toNat,w.B.toNat,w.Siem⟩:=by
 unfold onW at h;rw[List.mem_filterMap]at h;obtain⟨q,hq,h⟩:=h
 split at h
 ·simp only[Option.some.injEq]at h;exact⟨q.1,(List.of_mem_zip hq).1,h.symm⟩
 ·cases h
theorem onW_take {l:List Wr} {b:List Bool} {x:Wn} {k:Nat} (h:x∈onW (l.take k) (b.take k)):x∈onW l b:=by
 unfold onW at h ⊢;rw[List.mem_filterMap]at h ⊢;obtain⟨q,hq,h⟩:=h;refine⟨q,?_,h⟩;rw[List.zip_eq_zipWith,←List.take_zipWith]at hq;exact List.mem_of_mem_take hq
theorem m_equations (g:Gr) (s:Sta) (p:List Nat) (us:Kvs) (n:Nat) (hpn:p.length=n) (h1:1≤n) (h10:n≤10) (hnd:p.Nodup) (hI:IntM us) (hus:∀x,-40≤igt us x∧igt us x≤40)
  (hsw:s.Wires.length=g.Wires.length) (hwl:g.Wires.length≤80) (hw:∀w∈g.Wires,wrB g w=true) (hcl:∀w∈onW g.Wires s.Wires,w.a∈p↔w.b∈p):
  MutCall Tryz.prog 99 [net g s,iL (upN p), .mpc false [.i .i64] us] [] [] (.tup [.row 0 0 n, .row 1 0 n]) [] ([some (.els 1 (outs 2 n n)),some (.els 1 ((rgt us p).map nCell))]++mrows (Lf (onW g.Wires s.Wires) p) n n):=by
 have hpl:=upN_len p;have wneg:∀x,IntKind.i64.wrap (-igt us x)=-igt us x:=fun x=>wrap_in (by have:=hus x;omega) (by have:=hus x;omega);refine MutCall.of_bodyG [] Tryz.func99 rfl (by decide) (by simp[Tryz.ntmps99]) rfl rfl ?_;intro J hJ;simp only[Tryz.ntmps99,Tryz.results99];refine gS fun K hK=>?_;simp -dsimp;apply hK;clear hK K;refine gS fun K hK=>?_;simp -dsimp;apply hK;clear hK K;refine gwp_seq_k fun K1 hK1=>?_;refine gS fun K hK=>?_;simp -dsimp;apply hK;clear hK K;refine gwp_block ?_;refine gwp_prune [0,1,2,8,21,22,23] (Or.inr (by simp)) ?_;simp only[zP,Nat.reduceEqDiff,reduceIte];refine gwp_loop_l [0,1,2,8,21,22] (α:=Nat) (fun k=>[(23,I k)]) (fun k=>[kRow (idxM (p.take k) 0)]) (fun k=>k≤n) (fun k=>n-k) 0 ?_ ?_ ?_
 ·exact Nat.zero_le _
 ·exact gsub (sub_same (by simp)) (by simp)
 rintro k k1;simp only[zP,Nat.reduceEqDiff,reduceIte];refine gS fun K hK=>?_;simp -dsimp;apply hK;clear hK K;refine gwp_seq_k fun K2 hK2=>?_;refine gwp_cond rfl (fun hc0=>?_) (fun hc0=>?_)
 ·skip
  try simp at hc0
  have hkn:k<p.length:=by rw[←hpl];simpa using hc0
  obtain⟨x,hx⟩:∃x,p[k]?=some x:=⟨_,List.getElem?_eq_getElem hkn⟩;have gx:=upN_get hx;have hsn:=idxM_snoc (p:=p.take k) (n:=0) (x:=x) (by
   intro hm;obtain⟨j,hj⟩:=List.getElem?_of_mem hm;have hjl:=(List.getElem?_eq_some_iff.1 hj).1;rw[List.length_take]at hjl;rw[List.getElem?_take,if_pos (by omega)]at hj;have:=(List.getElem?_inj (by omega) hnd).1 (hj.trans hx.symm);omega)
  have htl:(p.take k).length=k:=by rw[List.length_take];omega
  rw[htl,Nat.zero_add]at hsn;have hts:p.take (k+1)=p.take k++[x]:=by rw[List.take_add_one,hx];rfl
  have wk:=zW k (by omega);refine gwp_skip ?_;simp only[zT,reduceIte,Nat.reduceEqDiff];refine hK2 _ _ ?_;refine gwp_prune [0,1,2,8,21,22,23] (Or.inr (by simp)) ?_;simp only[zP,Nat.reduceEqDiff,reduceIte];refine gwp_seq_k fun K3 hK3=>?_;refine gwp_block ?_;refine gS fun K hK=>?_;simp -dsimp [gx];apply hK;clear hK K;refine gR fun K hK=>?_;simp -dsimp [hsn];apply hK;clear hK K;simp only[zT,reduceIte,Nat.reduceEqDiff];refine hK3 _ _ ?_;refine gwp_prune [0,1,2,8,21,22,23] (Or.inr (by simp)) ?_;simp only[zP,Nat.reduceEqDiff,reduceIte];refine gR fun K hK=>?_;simp -dsimp [wk];apply hK;clear hK K;simp only[zT,reduceIte,Nat.reduceEqDiff];exact⟨k+1,by omega,by omega,gsub (sub_rb [some 0] rfl (by simp) (by simp[hsn,hts])) (by simp)⟩
 ·skip
  try simp at hc0
  have hkp:¬k<p.length:=by rw[←hpl];simpa using hc0
  have htp:p.take k=p:=List.take_of_length_le (by omega);refine gwp_exit ?_;simp only[zT,reduceIte,Nat.reduceEqDiff];refine hK1 _ _ ?_;refine gwp_prune [0,1,2,8] (Or.inr (by simp)) ?_;simp only[zP,Nat.reduceEqDiff,reduceIte];refine gS fun K hK=>?_;simp -dsimp;apply hK;clear hK K;refine gS fun K hK=>?_;simp -dsimp;apply hK;clear hK K;refine gwp_seq_k fun K4 hK4=>?_;refine gS fun K hK=>?_;simp -dsimp;apply hK;clear hK K;refine gwp_block ?_;refine gwp_prune [0,1,2,8,11,12,32,33,34] (Or.inr (by simp)) ?_;simp only[zP,Nat.reduceEqDiff,reduceIte];refine gwp_loop_l [0,1,2,8,32,33] (α:=Nat) (fun k=>[(11, .row 1 0 k),(12, .row 2 0 k),(34,I k)]) (fun k=>[kRow (idxM p 0),some (.els 1 (outs 3 k n)),some (.els 1 (((rgt us p).take k).map nCell))]++mrows (fun _ _=>0) k n) (fun k=>k≤n) (fun k=>n-k) 0 ?_ ?_ ?_
  ·exact Nat.zero_le _
  ·refine gsub ((sub_nil 11 1 (by simp)).trans ((sub_nil 12 1 (by simp)).trans (sub_rb [some 0,some 1,some 2] rfl (by simp) (by simp[htp,outs,mrows])))) (by simp)
  rintro k k1;simp only[zP,Nat.reduceEqDiff,reduceIte];refine gS fun K hK=>?_;simp -dsimp;apply hK;clear hK K;refine gwp_seq_k fun K5 hK5=>?_;refine gwp_cond rfl (fun hc1=>?_) (fun hc1=>?_)
  ·skip
   try simp at hc1
   have hkn:k<p.length:=by rw[←hpl];simpa using hc1
   obtain⟨x,hx⟩:∃x,p[k]?=some x:=⟨_,List.getElem?_eq_getElem hkn⟩;have gx:=upN_get hx;have wk:=zW k (by omega);have hrl:min k (rgt us p).length=k:=by simp only[rgt,List.length_map];omega
   have gr:(rgt us p)[k]?=some (-igt us x):=by simp[rgt,hx]
   have f1:Fits (k+1) 25:=fits_of (by omega) (by omega);have f2:Fits (k+1) 9:=fits_of (by omega) (by omega);have f0:Fits n 9:=fits_of (by omega) (by omega);refine gwp_skip ?_;simp only[zT,reduceIte,Nat.reduceEqDiff];refine hK5 _ _ ?_;refine gwp_prune [0,1,2,8,11,12,32,33,34] (Or.inr (by simp)) ?_;simp only[zP,Nat.reduceEqDiff,reduceIte];refine gwp_seq_k fun K6 hK6=>?_;refine gwp_block ?_;refine gS fun K hK=>?_;simp -dsimp [gx];apply hK;clear hK K;refine gS fun K hK=>?_;simp -dsimp [f0,f1,hpl,hpn,Nat.add_assoc];apply hK;clear hK K;refine gR fun K hK=>?_;simp -dsimp [igt_look hI,wneg,f2,hrl,Nat.add_assoc];refine valK_intro (_) (fun hm=>rfl) ?_;simp -dsimp [igt_look hI,wneg,f2,hrl,Nat.add_assoc];apply hK;clear hK K;simp only[zT,reduceIte,Nat.reduceEqDiff];refine hK6 _ _ ?_;refine gwp_prune [0,1,2,8,11,12,32,33,34] (Or.inr (by simp)) ?_;simp only[zP,Nat.reduceEqDiff,reduceIte];refine gR fun K hK=>?_;simp -dsimp [wk];apply hK;clear hK K;simp only[zT,reduceIte,Nat.reduceEqDiff];have hout:∀i,i<k+1→some (i+3)∉ [some 0,some (k+5),some (k+6)]:=fun i hi=>by simp;omega
   have hM:∀i,i<k+1→hget (mrows (fun _ _=>0) k n++[some (.els 1 (List.replicate n [I 0])),some (.els 1 [[.row (k+3) 0 n]]),some (.els 1 (outs 3 k n++[[.row (k+3) 0 n]])),some (.els 1 (List.take k ((rgt us p).map nCell)++[[I (-igt us x)]]))]) i=mrow (fun _ _=>0) n i:=fun i hi=>by
    rcases Nat.lt_succ_iff_lt_or_eq.1 hi with h|h
    ·exact hget_mrows h
    ·subst h;rw[hget_mtail0];exact mrow0 _ _
   have hro:=ren_outs (g:=some 0::some (k+5)::some (k+6)::(List.range (k+1)).map fun i=>some (i+3)) (c:=3) (c':=3) (m:=k+1) (n:=n) (fun i hi=>newName_cat (gf:=[some 0,some (k+5),some (k+6)]) hi (hout i hi));rw[outs_succ]at hro;refine⟨k+1,by omega,by omega,gsub (sub_cat (F':=[kRow (idxM p 0),some (.els 1 (outs 3 (k+1) n)),some (.els 1 (((rgt us p).take (k+1)).map nCell))]) [some 0,some (k+5),some (k+6)] (fun _ _=>0) (k+1) n 3 (by simp[nodupB]) hout hM (by simp[hpl,hpn]) ?_) (by simp)⟩;simp[hro,outs_succ,List.take_add_one,gr]
  ·skip
   try simp at hc1
   have hkp:¬k<p.length:=by rw[←hpl];simpa using hc1
   have hkn:k=n:=by omega
   subst hkn;have hrt:List.take k ((rgt us p).map nCell)=(rgt us p).map nCell:=List.take_of_length_le (by simp[rgt];omega);rw[hrt];refine gwp_exit ?_;simp only[zT,reduceIte,Nat.reduceEqDiff];refine hK4 _ _ ?_;refine gwp_prune [0,8,11,12] (Or.inr (by simp)) ?_;simp only[zP,Nat.reduceEqDiff,reduceIte];refine gwp_seq_k fun K7 hK7=>?_;refine gS fun K hK=>?_;simp -dsimp;apply hK;clear hK K;refine gwp_block ?_;refine gwp_prune [0,8,11,12,56,57,58] (Or.inr (by simp)) ?_;simp only[zP,Nat.reduceEqDiff,reduceIte];refine gwp_loop_l [0,8,11,12,56,57] (α:=Nat) (fun q=>[(58,I q)]) (fun q=>[kRow (idxM p 0),some (.els 1 (outs 3 k k)),some (.els 1 ((rgt us p).map nCell))]++mrows (Lf (onW (g.Wires.take q) (s.Wires.take q)) p) k k) (fun q=>q≤g.Wires.length) (fun q=>g.Wires.length-q) 0 ?_ ?_ ?_
   ·exact Nat.zero_le _
   ·have hm0:mrows (Lf (onW (g.Wires.take 0) (s.Wires.take 0)) p) k k=mrows (fun _ _=>0) k k:=mrows_congr fun i _ j _=>rfl;rw[hm0];exact gsub (sub_same (by simp)) (by simp)
   rintro q q1;simp only[zP,Nat.reduceEqDiff,reduceIte];refine gS fun K hK=>?_;simp -dsimp;apply hK;clear hK K;refine gwp_seq_k fun K8 hK8=>?_;refine gwp_cond rfl (fun hc2=>?_) (fun hc2=>?_)
   ·skip
    try simp at hc2
    obtain⟨w,hq⟩:∃w,g.Wires[q]?=some w:=⟨_,List.getElem?_eq_getElem hc2⟩;have wq:=zW q (by omega);have hwb:=hw w (List.mem_of_getElem? hq);simp only[wrB,Bool.and_eq_true,inr_iff,Bool.not_eq_true',decide_eq_false_iff_not]at hwb;obtain⟨⟨⟨hwA,hwB⟩,hAB⟩,hwS⟩:=hwb;have gsw:=bAt_get (l:=s.Wires) (k:=q) (by omega);have hsn:=onW_snoc hq gsw;obtain⟨a,ha⟩:∃a:Nat,w.A=a:=⟨w.A.toNat,by omega⟩;obtain⟨b,hb⟩:∃b:Nat,w.B=b:=⟨w.B.toNat,by omega⟩;have hab:a≠b:=by omega
    obtain⟨wA,wB,wS,wSw⟩:=w;simp only at ha hb hwS hsn;subst ha hb;simp only[Int.toNat_natCast]at hsn;obtain⟨ia,hia⟩:∃ia:Nat,ia=if a∈p then p.idxOf a else 0:=⟨_,rfl⟩;have hA1:(kvGet (idxM p 0) (ik (a:Int))).getD (.int .i64 0)= .int .i64 (ia:Int):=by
     by_cases h:a∈p
     ·rw[idxM_some h,hia,if_pos h];rfl
     ·rw[idxM_none h,hia,if_neg h];rfl
    have hA2:(kvGet (idxM p 0) (ik (a:Int))).isSome=decide (a∈p):=by
     by_cases h:a∈p
     ·rw[idxM_some h];simp[h]
     ·rw[idxM_none h];simp[h]
    have hfb:∀i j,(Lf (onW (g.Wires.take q) (s.Wires.take q)) p i j).natAbs≤320:=fun i j=>by
     refine Nat.le_trans (lw_abs fun x hx=>?_) ?_
     ·obtain⟨w',hw',e⟩:=onW_mem (onW_take hx);have:=hw w' hw';simp only[wrB,Bool.and_eq_true,inr_iff]at this;rw[e];simp only;omega
     ·have:=onW_len (g.Wires.take q) (s.Wires.take q);rw[List.length_take]at this;omega
    refine gwp_skip ?_;simp only[zT,reduceIte,Nat.reduceEqDiff];refine hK8 _ _ ?_;refine gwp_prune [0,8,11,12,56,57,58] (Or.inr (by simp)) ?_;simp only[zP,Nat.reduceEqDiff,reduceIte];refine gwp_seq_k fun K9 hK9=>?_;refine gwp_block ?_;refine gS fun K hK=>?_;simp -dsimp [hq];apply hK;clear hK K;refine gS fun K hK=>?_;simp -dsimp [hA1,hA2,Nat.add_assoc];refine valK_intro (_) (fun hm=>rfl) ?_;simp -dsimp [hA1,hA2,Nat.add_assoc];apply hK;clear hK K;refine gwp_seq_k fun K10 hK10=>?_;refine gS fun K hK=>?_;simp -dsimp [gsw];refine idxK_intro (bCell (bAt s.Wires q)) (fun _=>by simp[gsw]) ?_;simp -dsimp [gsw];apply hK;clear hK K;refine gwp_cond rfl (fun hc3=>?_) (fun hc3=>?_)
    ·have hfe:mrows (Lf (onW (g.Wires.take (q+1)) (s.Wires.take (q+1))) p) k k=mrows (Lf (onW (g.Wires.take q) (s.Wires.take q)) p) k k:=by
      rw[hsn]
      cases hx:bAt s.Wires q with
      |false=>simp
      | true=>
       have hna:a∉p:=by simpa [hx]using hc3
       refine mrows_congr fun i hi j hj=>?_;have hxi:p.getD i 0∈p:=by rw[List.getD_eq_getElem?_getD,List.getElem?_eq_getElem (by omega)];simp
       have hmem:(⟨a,b,wS⟩:Wn)∈onW g.Wires s.Wires:=onW_take (k:=q+1) (by rw[hsn,hx];simp);have hnb:b∉p:=fun h=>hna ((hcl _ hmem).2 h);have e0:ew ⟨a,b,wS⟩ (p.getD i 0)=0:=by
        have n1:p.getD i 0≠a:=fun e=>hna (by rw[←e];exact hxi);have n2:p.getD i 0≠b:=fun e=>hnb (by rw[←e];exact hxi);unfold ew;rw[if_neg n1,if_neg n2];rfl
       unfold Lf;rw[if_pos rfl,lw_append];show _+(wS*(ew ⟨a,b,wS⟩ (p.getD i 0)*ew ⟨a,b,wS⟩ (p.getD j 0))+0)=_;rw[e0,Int.zero_mul,Int.mul_zero];omega
     refine gwp_exit ?_;simp only[zT,reduceIte,Nat.reduceEqDiff];refine hK9 _ _ ?_;refine gwp_prune [0,8,11,12,56,57,58] (Or.inr (by simp)) ?_;simp only[zP,Nat.reduceEqDiff,reduceIte];refine gR fun K hK=>?_;simp -dsimp [wq];apply hK;clear hK K;simp only[zT,reduceIte,Nat.reduceEqDiff];refine⟨q+1,by omega,by omega,gsub (sub_cat (F':=[kRow (idxM p 0),some (.els 1 (outs 3 k k)),some (.els 1 ((rgt us p).map nCell))]) [some 0,some 1,some 2] (Lf (onW (g.Wires.take (q+1)) (s.Wires.take (q+1))) p) k k 3 (by simp[nodupB]) (fun i hi=>by simp) ?_ (by simp) ?_) (by simp)⟩
     ·intro i hi;show hget (mrows _ k k++_) i=_;rw[hget_mrows hi];rw[←hget_mrows' (m:=k) hi,←hget_mrows' (m:=k) hi,hfe]
     ·have hro:=ren_outs (g:=some 0::some 1::some 2::(List.range k).map fun i=>some (i+3)) (c:=3) (c':=3) (m:=k) (n:=k) (fun i hi=>newName_cat (gf:=[some 0,some 1,some 2]) hi (by simp));simp[hro]
    ·have hap:a∈p∧bAt s.Wires q=true:=by simpa using hc3
     have hmem:(⟨a,b,wS⟩:Wn)∈onW g.Wires s.Wires:=onW_take (k:=q+1) (by rw[hsn,hap.2];simp);have hbp:b∈p:=(hcl _ hmem).1 hap.1;rw[if_pos hap.1]at hia;obtain⟨ib,hib⟩:∃ib:Nat,ib=p.idxOf b:=⟨_,rfl⟩;have hB1:(kvGet (idxM p 0) (ik (b:Int))).getD (.int .i64 0)= .int .i64 (ib:Int):=by rw[idxM_some hbp,hib];rfl
     have hik:ia<k:=by rw[hia,←hpn];exact List.idxOf_lt_length_of_mem hap.1
     have hjk:ib<k:=by rw[hib,←hpn];exact List.idxOf_lt_length_of_mem hbp
     have gA:p[ia]?=some a:=by rw[hia];exact idxOf_get hap.1
     have gB:p[ib]?=some b:=by rw[hib];exact idxOf_get hbp
     have lia:ia≤k+1:=by omega
     have lib:ib≤k+1:=by omega
     have hij:ia≠ib:=by rintro rfl;rw[gA]at gB;simp only[Option.some.injEq]at gB;exact hab gB
     have hji:ib≠ia:=fun e=>hij e.symm;have hfe:∀i,i<k→∀j,j<k→Lf (onW (g.Wires.take (q+1)) (s.Wires.take (q+1))) p i j=upd2 (upd2 (upd2 (upd2 (Lf (onW (g.Wires.take q) (s.Wires.take q)) p) ia ia (Lf (onW (g.Wires.take q) (s.Wires.take q)) p ia ia+wS)) ib ib (Lf (onW (g.Wires.take q) (s.Wires.take q)) p ib ib+wS)) ia ib (Lf (onW (g.Wires.take q) (s.Wires.take q)) p ia ib-wS)) ib ia (Lf (onW (g.Wires.take q) (s.Wires.take q)) p ib ia-wS) i j:=by
      intro i hi j hj;have hE:∀i,i<k→ew ⟨a,b,wS⟩ (p.getD i 0)=(if i=ia then 1 else 0)-(if i=ib then 1 else 0):=by
       intro i hi;have hgi:p[i]?=some (p.getD i 0):=by rw[List.getD_eq_getElem?_getD,List.getElem?_eq_getElem (by omega)];rfl
       have q1:(p.getD i 0=a)↔i=ia:=by
        constructor
        ·intro e;rw[e]at hgi;exact(List.getElem?_inj (by omega) hnd).1 (hgi.trans gA.symm)
        ·rintro rfl;rw[gA]at hgi;simp only[Option.some.injEq]at hgi;exact hgi.symm
       have q2:(p.getD i 0=b)↔i=ib:=by
        constructor
        ·intro e;rw[e]at hgi;exact(List.getElem?_inj (by omega) hnd).1 (hgi.trans gB.symm)
        ·rintro rfl;rw[gB]at hgi;simp only[Option.some.injEq]at hgi;exact hgi.symm
       unfold ew;simp only[q1,q2]
      rw[hsn,hap.2];have hL:Lf (onW (g.Wires.take q) (s.Wires.take q)++[⟨a,b,wS⟩]) p i j=Lf (onW (g.Wires.take q) (s.Wires.take q)) p i j+wS*(((if i=ia then 1 else 0)-(if i=ib then 1 else 0))*((if j=ia then 1 else 0)-(if j=ib then 1 else 0))):=by
       unfold Lf;rw[lw_append,←hE i hi,←hE j hj];simp[lw]
      rw[if_pos rfl,hL];unfold upd2
      by_cases e1:i=ia
      ·subst e1
       by_cases e2:j=i
       ·subst e2;simp[hij,hji]
       ·by_cases e3:j=ib
        ·subst e3;simp[hij,hji,e2];omega
        ·simp[hij,hji,e2,e3]
      ·by_cases e2:i=ib
       ·subst e2
        by_cases e3:j=i
        ·subst e3;simp[hij,hji]
        ·by_cases e4:j=ia
         ·subst e4;simp[hij,hji,e3];omega
         ·simp[hij,hji,e3,e4]
       ·simp[e1,e2]
     generalize Lf (onW (g.Wires.take q) (s.Wires.take q)) p=f at hfe hfb ⊢;have w1:IntKind.i64.wrap (f ia ia+wS)=f ia ia+wS:=wrap_in (by have:=hfb ia ia;omega) (by have:=hfb ia ia;omega);have w2:IntKind.i64.wrap (f ib ib+wS)=f ib ib+wS:=wrap_in (by have:=hfb ib ib;omega) (by have:=hfb ib ib;omega);have w3:IntKind.i64.wrap (f ia ib-wS)=f ia ib-wS:=wrap_in (by have:=hfb ia ib;omega) (by have:=hfb ia ib;omega);have w4:IntKind.i64.wrap (f ib ia-wS)=f ib ia-wS:=wrap_in (by have:=hfb ib ia;omega) (by have:=hfb ib ia;omega);have e2:upd2 f ia ia (f ia ia+wS) ib ib=f ib ib:=by simp[upd2,hji]
     have e3:upd2 (upd2 f ia ia (f ia ia+wS)) ib ib (f ib ib+wS) ia ib=f ia ib:=by simp[upd2,hij,hji]
     have e4:upd2 (upd2 (upd2 f ia ia (f ia ia+wS)) ib ib (f ib ib+wS)) ia ib (f ia ib-wS) ib ia=f ib ia:=by simp[upd2,hij,hji]
     refine gwp_skip ?_;simp only[zT,reduceIte,Nat.reduceEqDiff];refine hK10 _ _ ?_;refine gwp_prune [0,8,11,12,16,17,56,57,58] (Or.inr (by simp)) ?_;simp only[zP,Nat.reduceEqDiff,reduceIte];refine gS fun K hK=>?_;simp -dsimp [hB1,Nat.add_assoc];refine valK_intro (_) (fun hm=>rfl) ?_;simp -dsimp [hB1,Nat.add_assoc];apply hK;clear hK K;refine gwp_sd mixed rfl (by decide) rfl rfl fun K hK=>?_;simp -dsimp [lia,lib,Nat.add_assoc,outs_get hik,hik,hget_mrows hik,mrow,mrow_get hik,hset_mrows hik,w1];refine hK _ _ _ (by exact draw_pairs [(0,1),(0,4),(1,4),(2,4),(3,4),(0,7),(1,7),(2,7),(3,7),(4,7),(5,7),(6,7),(0,8),(1,8),(2,8),(3,8),(4,8),(5,8),(6,8)] (by decide+kernel) (by decide+kernel) (by simp[confl]<;>omega)) ?_;clear hK K;refine gwp_sd mixed rfl (by decide) rfl rfl fun K hK=>?_;simp -dsimp [lia,lib,Nat.add_assoc,outs_get hjk,hjk,hget_mrows hjk,mrow,mrow_get hjk,hset_mrows hjk,e2,w2];refine hK _ _ _ (by exact draw_pairs [(0,1),(0,4),(1,4),(2,4),(3,4),(0,7),(1,7),(2,7),(3,7),(4,7),(5,7),(6,7),(0,8),(1,8),(2,8),(3,8),(4,8),(5,8),(6,8)] (by decide+kernel) (by decide+kernel) (by simp[confl]<;>omega)) ?_;clear hK K;refine gwp_sd mixed rfl (by decide) rfl rfl fun K hK=>?_;simp -dsimp [lia,lib,Nat.add_assoc,outs_get hik,hik,hget_mrows hik,mrow,hjk,mrow_get hjk,hset_mrows hik,e3,w3];refine hK _ _ _ (by exact draw_pairs [(0,1),(0,4),(1,4),(2,4),(3,4),(0,7),(1,7),(2,7),(3,7),(4,7),(5,7),(6,7),(0,8),(1,8),(2,8),(3,8),(4,8),(5,8),(6,8)] (by decide+kernel) (by decide+kernel) (by simp[confl]<;>omega)) ?_;clear hK K;refine gwp_draw mixed rfl (by decide) rfl rfl fun K hK=>?_;simp -dsimp [lia,lib,Nat.add_assoc,outs_get hjk,hjk,hget_mrows hjk,mrow,hik,mrow_get hik,hset_mrows hjk,e4,w4];refine hK _ _ _ (by exact draw_pairs [(0,1),(0,4),(1,4),(2,4),(3,4),(0,7),(1,7),(2,7),(3,7),(4,7),(5,7),(6,7),(0,8),(1,8),(2,8),(3,8),(4,8),(5,8),(6,8)] (by decide+kernel) (by decide+kernel) (by simp[confl]<;>omega)) ?_;clear hK K;simp only[zT,reduceIte,Nat.reduceEqDiff];refine hK9 _ _ ?_;refine gwp_prune [0,8,11,12,56,57,58] (Or.inr (by simp)) ?_;simp only[zP,Nat.reduceEqDiff,reduceIte];refine gR fun K hK=>?_;simp -dsimp [wq];apply hK;clear hK K;simp only[zT,reduceIte,Nat.reduceEqDiff];refine⟨q+1,by omega,by omega,gsub (sub_cat (F':=[kRow (idxM p 0),some (.els 1 (outs 3 k k)),some (.els 1 ((rgt us p).map nCell))]) [some 0,some 1,some 2] (Lf (onW (g.Wires.take (q+1)) (s.Wires.take (q+1))) p) k k 3 (by simp[nodupB]) (fun i hi=>by simp) ?_ (by simp) ?_) (by simp)⟩
     ·intro i hi;show hget (mrows _ k k++_) i=_;rw[hget_mrows hi];rw[←hget_mrows' (m:=k) hi,←hget_mrows' (m:=k) hi,mrows_congr hfe]
     ·have hro:=ren_outs (g:=some 0::some 1::some 2::(List.range k).map fun i=>some (i+3)) (c:=3) (c':=3) (m:=k) (n:=k) (fun i hi=>newName_cat (gf:=[some 0,some 1,some 2]) hi (by simp));simp[hro]
   ·skip
    try simp at hc2
    have hqe:q=g.Wires.length:=by omega
    have ht1:g.Wires.take q=g.Wires:=List.take_of_length_le (by omega);have ht2:s.Wires.take q=s.Wires:=List.take_of_length_le (by omega);rw[ht1,ht2];refine gwp_exit ?_;simp only[zT,reduceIte,Nat.reduceEqDiff];refine hK7 _ _ ?_;refine gwp_prune [11,12] (Or.inr (by simp)) ?_;simp only[zP,Nat.reduceEqDiff,reduceIte];refine gS fun K hK=>?_;simp -dsimp;apply hK;clear hK K;have hout:∀i,i<k→some (i+3)∉ [some 1,some 2]:=fun i hi=>by simp
    have hro:=ren_outs (g:=some 1::some 2::(List.range k).map fun i=>some (i+3)) (c:=3) (c':=2) (m:=k) (n:=k) (fun i hi=>newName_cat (gf:=[some 1,some 2]) hi (hout i hi));refine gwp_ret ⟨[some 1,some 2]++(List.range k).map fun i=>some (i+3),nodupB_cat' rfl hout,by simp,?_,by simp,by simp[resP,tupOf]⟩;refine renH_cat (F':=[some (.els 1 (outs 2 k k)),some (.els 1 ((rgt us p).map nCell))]) [some 1,some 2] _ k k 3 (fun i hi=>?_) ?_
    ·show hget (mrows _ k k) i=_;exact hget_mrows' hi
    ·simp[hro]
end Go.Cur
end
section
namespace Go.Cur
open Go.AM Go.Proofs
theorem getD_get {p:List Nat} {i:Nat} (h:i<p.length):p[i]?=some (p.getD i 0):=by
 rw[List.getD_eq_getElem?_getD,List.getElem?_eq_getElem h];rfl
theorem matL_sq (f:Nat→Nat→Int) (n:Nat):Sq (matL f n n) n:=by
 refine⟨by simp[matL],fun r hr=>?_⟩;obtain⟨i,_,rfl⟩:=List.mem_map.1 hr;simp
theorem matL_at {f:Nat→Nat→Int} {n i j:Nat} (hi:i<n) (hj:j<n):mAt (matL f n n) i j=f i j:=by
 unfold mAt;rw[rowAt_of (matL_get hi)];exact at0_of (by rw[List.getElem?_map,List.getElem?_range hj];rfl)
theorem map_range {α:Type} (p:List Nat) (f:Nat→α):p.map f=(List.range p.length).map fun i=>f (p.getD i 0):=by
 conv=>lhs;rw[list_range (p:=p)]
 rw[List.map_map];rfl
abbrev eqM (A:Nat→Nat→Int) (p:List Nat):List (List Int):=matL (fun i j=>A (p.getD i 0) (p.getD j 0)) p.length p.length
theorem eqM_det (A:Nat→Nat→Int) (p:List Nat):detL (eqM A p)=D A p:=by
 unfold detL;rw[(matL_sq _ _).len,D_minor];exact minor_congr fun i hi k hk=>matL_at (List.mem_range.1 hi) (List.mem_range.1 hk)
theorem eqM_sol (A:Nat→Nat→Int) (b:Nat→Int) (p:List Nat) (hp:p.Nodup):solL (eqM A p) (p.map b)=p.map fun k=>wr (num A b p k):=by
 unfold solL;rw[(matL_sq _ _).len,map_range p (fun k=>wr (num A b p k))];refine List.map_congr_left fun k hk=>?_;rw[List.mem_range]at hk;have h1:(repl (eqM A p) (p.map b) k).length=p.length:=by rw[repl_len,(matL_sq _ _).len]
 have h2:detL (repl (eqM A p) (p.map b) k)=num A b p (p.getD k 0):=by
  unfold detL;rw[h1,num_minor hp hk];refine minor_congr fun i hi j hj=>?_;rw[List.mem_range]at hi hj;rw[repl_at (matL_sq _ _) hi hj,matL_at hi hj];have:at0 (p.map b) i=b (p.getD i 0):=at0_of (by rw[List.getElem?_map,getD_get hi];rfl);rw[this]
 rw[h2]
def fdOf (g:Gr) (fs:List Int) (b:Nat):Fd:=fdI g (at0 fs b)
def Pt (g:Gr) (W:List Wn) (us:Kvs) (p:List Nat) (fs:List Int) (t:Nat):Part:=
 ⟨p,lw W,fun x=>igt us x,List.range t,fun b=>(fdOf g fs b).At.toNat,fun b=>(fdOf g fs b).Siem,fun b=>(fdOf g fs b).Volts⟩
def bitS (a:Nat):Nat→Bool:=fun b=>a.testBit b
section
variable (g:Gr) (W:List Wn) (us:Kvs) (p:List Nat) (fs:List Int)
theorem at_succ (t a:Nat) (c:Nat→Int) (i:Nat):(Pt g W us p fs (t+1)).at_ (bitS a) c i=(Pt g W us p fs t).at_ (bitS a) c i+if a.testBit t=true∧(fdOf g fs t).At.toNat=i then c t else 0:=by
 unfold Part.at_;show sm _ (List.range (t+1))=sm _ (List.range t)+_;rw[List.range_succ,sm_append];show _+((if bitS a t=true∧(Pt g W us p fs (t+1)).p t=i then c t else 0)+0)=_;rw[Int.add_zero];rfl
def Af (t a:Nat):Nat→Nat→Int:=fun i j=>(Pt g W us p fs t).A (bitS a) (p.getD i 0) (p.getD j 0)
def Rf (t a:Nat):Nat→Int:=fun i=>(Pt g W us p fs t).b (bitS a) (p.getD i 0)
def RfL (t a:Nat):List Int:=(List.range p.length).map (Rf g W us p fs t a)
theorem RfL_len (t a:Nat):(RfL g W us p fs t a).length=p.length:=by simp[RfL]
theorem RfL_get {t a k:Nat} (h:k<p.length):(RfL g W us p fs t a)[k]?=some (Rf g W us p fs t a k):=by
 unfold RfL;rw[List.getElem?_map,List.getElem?_range h];rfl
theorem RfL_eq (t a:Nat):RfL g W us p fs t a=p.map ((Pt g W us p fs t).b (bitS a)):=by
 rw[map_range p];rfl
theorem Af_zero (a:Nat):Af g W us p fs 0 a=Lf W p:=by
 funext i j
 unfold Af Part.A Lf;have:(Pt g W us p fs 0).at_ (bitS a) (Pt g W us p fs 0).s (p.getD i 0)=0:=rfl;rw[this];show lw W _ _+_=_
 split<;>omega
theorem Rf_zero (a:Nat):RfL g W us p fs 0 a=rgt us p:=by
 unfold RfL rgt;rw[map_range p fun(k:Nat)=>-igt us k];refine List.map_congr_left fun i _=>?_;unfold Rf Part.b;have:(Pt g W us p fs 0).at_ (bitS a) (fun b=>(Pt g W us p fs 0).s b*(Pt g W us p fs 0).V b) (p.getD i 0)=0:=rfl;rw[this];show-igt us _+0=_;omega
theorem Af_off {t a:Nat} (h:a.testBit t=false):Af g W us p fs (t+1) a=Af g W us p fs t a:=by
 funext i j
 unfold Af Part.A;rw[show(Pt g W us p fs (t+1)).s=(Pt g W us p fs t).s from rfl,at_succ];simp[h];rfl
theorem Rf_off {t a:Nat} (h:a.testBit t=false):RfL g W us p fs (t+1) a=RfL g W us p fs t a:=by
 unfold RfL
 congr 1
 funext i
 unfold Rf Part.b;rw[show(fun b=>(Pt g W us p fs (t+1)).s b*(Pt g W us p fs (t+1)).V b)=fun b=>(Pt g W us p fs t).s b*(Pt g W us p fs t).V b from rfl,at_succ];simp[h];rfl
theorem Af_on {t a k:Nat} (hp:p.Nodup) (h:a.testBit t=true) (hk:k<p.length) (hat:p.getD k 0=(fdOf g fs t).At.toNat):∀i,i<p.length→∀j,j<p.length→upd2 (Af g W us p fs t a) k k (Af g W us p fs t a k k+(fdOf g fs t).Siem) i j=Af g W us p fs (t+1) a i j:=by
 intro i hi j hj;unfold upd2;have e:∀i j,(Pt g W us p fs (t+1)).A (bitS a) i j=(Pt g W us p fs t).A (bitS a) i j+if i=j∧(fdOf g fs t).At.toNat=i then(fdOf g fs t).Siem else 0:=by
  intro i j;unfold Part.A;rw[show(Pt g W us p fs (t+1)).s=(Pt g W us p fs t).s from rfl,at_succ];show lw W i j+_=lw W i j+_+_
  by_cases hij:i=j
  ·subst hij
   by_cases hx:(fdOf g fs t).At.toNat=i
   ·simp[h,hx];rw[Int.add_assoc];rfl
   ·simp[h,hx]
  ·simp[hij]
 show _=(Pt g W us p fs (t+1)).A (bitS a) (p.getD i 0) (p.getD j 0);rw[e];show(if i=k∧j=k then(Pt g W us p fs t).A (bitS a) (p.getD k 0) (p.getD k 0)+_ else(Pt g W us p fs t).A (bitS a) (p.getD i 0) (p.getD j 0))=_
 by_cases h1:i=k
 ·subst h1
  by_cases h2:j=i
  ·subst h2;rw[if_pos ⟨rfl,rfl⟩,if_pos ⟨rfl,hat.symm⟩]
  ·rw[if_neg (fun e=>h2 e.2),if_neg (fun e=>h2 (getD_inj hp hj hi e.1.symm)),Int.add_zero]
 ·rw[if_neg (fun e=>h1 e.1),if_neg (fun e=>h1 (getD_inj hp hi hk (by rw[←e.2,hat]))),Int.add_zero]
theorem Rf_on {t a k:Nat} (hp:p.Nodup) (h:a.testBit t=true) (hk:k<p.length) (hat:p.getD k 0=(fdOf g fs t).At.toNat):(RfL g W us p fs t a).set k (Rf g W us p fs t a k+(fdOf g fs t).Siem*(fdOf g fs t).Volts)=RfL g W us p fs (t+1) a:=by
 unfold RfL;refine List.ext_getElem? fun i=>?_;have e:∀i,(Pt g W us p fs (t+1)).b (bitS a) i=(Pt g W us p fs t).b (bitS a) i+if (fdOf g fs t).At.toNat=i then(fdOf g fs t).Siem*(fdOf g fs t).Volts else 0:=by
  intro i;unfold Part.b;rw[show(fun b=>(Pt g W us p fs (t+1)).s b*(Pt g W us p fs (t+1)).V b)=fun b=>(Pt g W us p fs t).s b*(Pt g W us p fs t).V b from rfl,at_succ];simp only[h,true_and];rw[←Int.add_assoc];rfl
 by_cases hi:i<p.length
 ·rw[List.getElem?_map,List.getElem?_range hi]
  by_cases h1:i=k
  ·subst h1;rw[List.getElem?_set_self (by simpa using hi)];show some (_+_)=some ((Pt g W us p fs (t+1)).b (bitS a) (p.getD i 0));rw[e,if_pos hat.symm];rfl
  ·rw[List.getElem?_set_ne (fun e=>h1 e.symm),List.getElem?_map,List.getElem?_range hi];show some _=some ((Pt g W us p fs (t+1)).b (bitS a) (p.getD i 0));rw[e,if_neg (fun e=>h1 (getD_inj hp hi hk (by rw[←e,hat]))),Int.add_zero];rfl
 ·rw[List.getElem?_eq_none (by simp;omega),List.getElem?_eq_none (by simp;omega)]
end
end Go.Cur
end
