import Derived.Test.YtfidfemeapgelaaGreatQ4
import Derived.Recover
set_option maxRecDepth 100000
set_option maxHeartbeats 8000000
set_option linter.unusedVariables false
set_option linter.unusedSimpArgs false
section
namespace Go.Tram
open Go.AM Go.Proofs
theorem profB_iff {x:Profile}:profB x=true↔(1≤x.Half∧x.Half≤2000)∧0≤x.Swing∧x.Swing≤1500:=by simp[profB,inr_iff]
theorem c_prof1 (x:Profile):PureCall Tryz.prog 210 [.agg x.cells] (Bo (!profB x)):=by
 refine PureCall.of_body Tryz.func210 rfl (by decide) (by simp[Tryz.ntmps210]) ?_;simp only[Tryz.ntmps210,Tryz.results210];refine aS fun K hK=>?_;simp -dsimp;apply hK;clear hK K;refine aS fun K hK=>?_;simp -dsimp;apply hK;clear hK K;refine awp_ret ?_;simp[profB,inr];exact Bool.eq_iff_iff.2 (by simp;omega)
theorem c_profiles (l:List Profile) (hn:l.length≤100000):PureCall Tryz.prog 128 [.lst 2 (l.map Profile.cells)] (Bo (l.all profB)):=by
 have hq:(l.any fun x=> !profB x)= !l.all profB:=(List.not_all_eq_any_not).symm;have hc:=c_Cont_Profile l 210 [] (fun x=> !profB x) (fun x _=>c_prof1 x) hn;refine PureCall.of_body Tryz.func128 rfl (by decide) (by simp[Tryz.ntmps128]) ?_;simp only[Tryz.ntmps128,Tryz.results128];refine aS fun K hK=>?_;simp -dsimp;apply hK;clear hK K;refine aS fun K hK=>?_;simp -dsimp;refine callK_intro _ (hc) (by simp) ?_;simp -dsimp;apply hK;clear hK K;exact awp_ret (by simp[hq])
theorem c_near (s t:SS) (x y:Profile) (hs:s.Ok) (ht:t.Ok) (hx:profB x=true) (hy:profB y=true):PureCall Tryz.prog 278 [s.av,x.av,t.av,y.av] (Bo (decide (apart s.a s.b t.a t.b (x.Half+y.Half)≤0))):=by
 rw[profB_iff]at hx hy;have w:IntKind.i64.wrap (x.Half+y.Half)=x.Half+y.Half:=wrap_in (by omega) (by omega);refine PureCall.of_body Tryz.func278 rfl (by decide) (by simp[Tryz.ntmps278]) ?_;simp only[Tryz.ntmps278,Tryz.results278];refine aS fun K hK=>?_;simp -dsimp;apply hK;clear hK K;refine aS fun K hK=>?_;simp -dsimp [w];refine callK_intro _ (c_apart s.a s.b t.a t.b (x.Half+y.Half) hs.a hs.b ht.a ht.b (by omega) (by omega)) (by simp) ?_;simp -dsimp [w];apply hK;clear hK K;exact awp_ret (by simp)
theorem c_swung1 (t:SS) (x y:Profile) (q:Spot) (ht:t.Ok) (hq:spotB q=true) (hx:profB x=true) (hy:profB y=true):
  PureCall Tryz.prog 329 [.agg q.cells, .iptr t.cells, .iptr x.cells, .iptr y.cells] (Bo (decide (spotted t.a t.b q (x.Half+x.Swing+y.Half)≤0))):=by
 rw[profB_iff]at hx hy;have w1:IntKind.i64.wrap (x.Half+x.Swing)=x.Half+x.Swing:=wrap_in (by omega) (by omega);have w2:IntKind.i64.wrap (x.Half+x.Swing+y.Half)=x.Half+x.Swing+y.Half:=wrap_in (by omega) (by omega);refine PureCall.of_body Tryz.func329 rfl (by decide) (by simp[Tryz.ntmps329]) ?_;simp only[Tryz.ntmps329,Tryz.results329];refine aS fun K hK=>?_;simp -dsimp;apply hK;clear hK K;refine aS fun K hK=>?_;simp -dsimp [w1,w2];refine callK_intro _ (c_spotted t.a t.b q (x.Half+x.Swing+y.Half) ht.a ht.b hq (by omega) (by omega)) (by simp) ?_;simp -dsimp [w1,w2];apply hK;clear hK K;exact awp_ret (by simp)
theorem c_swung (s t:SS) (x y:Profile) (hs:s.Ok) (ht:t.Ok) (hx:profB x=true) (hy:profB y=true):PureCall Tryz.prog 279 [s.av,x.av,t.av,y.av] (Bo (swungB s t (x.Half+x.Swing+y.Half))):=by
 have hsn:=hs.n;have hc:=c_Cont_Spot s.bends 329 [t.cells,x.cells,y.cells] (fun q=>decide (spotted t.a t.b q (x.Half+x.Swing+y.Half)≤0)) (fun q hq=>c_swung1 t x y q ht (List.all_eq_true.1 hs.l q hq) hx hy) (by omega);refine PureCall.of_body Tryz.func279 rfl (by decide) (by simp[Tryz.ntmps279]) ?_;simp only[Tryz.ntmps279,Tryz.results279];refine aS fun K hK=>?_;simp -dsimp;apply hK;clear hK K;refine aS fun K hK=>?_;simp -dsimp;refine callK_intro _ (hc) (by simp) ?_;simp -dsimp;apply hK;clear hK K;exact awp_ret (by simp[swungB])
theorem c_tests1 (s t:SS) (x y:Profile) (hs:s.Ok) (ht:t.Ok) (hx:profB x=true) (hy:profB y=true):PureCall Tryz.prog 280 [s.av,x.av,t.av,y.av] (Bo (swungB t s (y.Half+y.Swing+x.Half))):=by
 refine PureCall.of_body Tryz.func280 rfl (by decide) (by simp[Tryz.ntmps280]) ?_;simp only[Tryz.ntmps280,Tryz.results280];refine aS fun K hK=>?_;simp -dsimp;apply hK;clear hK K;refine aS fun K hK=>?_;simp -dsimp;refine callK_intro _ (c_swung t s y x ht hs hy hx) (by simp) ?_;simp -dsimp;apply hK;clear hK K;exact awp_ret (by simp)
theorem c_both (s t:SS) (x y:Profile) (hs:s.Ok) (ht:t.Ok) (hx:profB x=true) (hy:profB y=true):PureCall Tryz.prog 281 [s.av,x.av,t.av,y.av] (Bo (bothB s t (x.Half+x.Swing+y.Half+y.Swing))):=by
 rw[profB_iff]at hx hy;have w1:IntKind.i64.wrap (x.Half+x.Swing)=x.Half+x.Swing:=wrap_in (by omega) (by omega);have w2:IntKind.i64.wrap (x.Half+x.Swing+y.Half)=x.Half+x.Swing+y.Half:=wrap_in (by omega) (by omega);have w3:IntKind.i64.wrap (x.Half+x.Swing+y.Half+y.Swing)=x.Half+x.Swing+y.Half+y.Swing:=wrap_in (by omega) (by omega);have hsn:=hs.n;have htn:=ht.n;refine PureCall.of_body Tryz.func281 rfl (by decide) (by simp[Tryz.ntmps281]) ?_;simp only[Tryz.ntmps281,Tryz.results281];refine aS fun K hK=>?_;simp -dsimp;apply hK;clear hK K;refine aS fun K hK=>?_;simp -dsimp [w1,w2,w3];apply hK;clear hK K;refine awp_seq_k fun K1 hK1=>?_;refine aS fun K hK=>?_;simp -dsimp;apply hK;clear hK K;refine awp_block ?_;refine awp_prune [6,9,27,28,29] ?_;simp only[zP,Nat.reduceEqDiff,reduceIte];refine awp_loop_l [6,9,27,28] (α:=Nat) (fun k=>[(29,I k)]) (fun _=>[some (.els 9 [s.cells]),some (.els 2 [x.cells]),some (.els 9 [t.cells]),some (.els 2 [y.cells])]) (fun k=>k≤s.bends.length∧((s.bends.take k).any fun q=>t.bends.any fun r=>decide (dotS q r q r≤(x.Half+x.Swing+y.Half+y.Swing)*(x.Half+x.Swing+y.Half+y.Swing)))=false) (fun k=>s.bends.length-k) 0 ?_ ?_ ?_
 ·simp
 ·exact sub_same (by simp)
 rintro k ⟨k1,k2⟩;simp only[zP,Nat.reduceEqDiff,reduceIte];refine aS fun K hK=>?_;simp -dsimp;apply hK;clear hK K;refine awp_seq_k fun K2 hK2=>?_;refine awp_cond rfl (fun hc0=>?_) (fun hc0=>?_)
 ·skip
  try simp at hc0
  obtain⟨q,hq⟩:∃q,s.bends[k]?=some q:=⟨_,List.getElem?_eq_getElem hc0⟩;have wk:=zW k (by omega);have sq:=List.all_eq_true.1 hs.l q (List.mem_of_getElem? hq);refine awp_skip ?_;simp only[zT,reduceIte,Nat.reduceEqDiff];refine hK2 _ _ ?_;refine awp_prune [6,9,27,28,29] ?_;simp only[zP,Nat.reduceEqDiff,reduceIte];refine awp_seq_k fun K3 hK3=>?_;refine awp_block ?_;refine aS fun K hK=>?_;simp -dsimp [hq];apply hK;clear hK K;refine aS fun K hK=>?_;simp -dsimp;apply hK;clear hK K;refine awp_block ?_;refine awp_prune [6,9,11,27,28,29,34,35,36] ?_;simp only[zP,Nat.reduceEqDiff,reduceIte];refine awp_loop_l [6,9,11,27,28,29,34,35] (α:=Nat) (fun j=>[(36,I j)]) (fun _=>[some (.els 9 [s.cells]),some (.els 2 [x.cells]),some (.els 9 [t.cells]),some (.els 2 [y.cells]),some (.els 2 [q.cells])]) (fun j=>j≤t.bends.length∧((t.bends.take j).any fun r=>decide (dotS q r q r≤(x.Half+x.Swing+y.Half+y.Swing)*(x.Half+x.Swing+y.Half+y.Swing)))=false) (fun j=>t.bends.length-j) 0 ?_ ?_ ?_
  ·simp
  ·exact sub_same (by simp)
  rintro j ⟨j1,j2⟩;simp only[zP,Nat.reduceEqDiff,reduceIte];refine aS fun K hK=>?_;simp -dsimp;apply hK;clear hK K;refine awp_seq_k fun K4 hK4=>?_;refine awp_cond rfl (fun hc1=>?_) (fun hc1=>?_)
  ·skip
   try simp at hc1
   obtain⟨r,hr⟩:∃r,t.bends[j]?=some r:=⟨_,List.getElem?_eq_getElem hc1⟩;have wj:=zW j (by omega);have sr:=List.all_eq_true.1 ht.l r (List.mem_of_getElem? hr);have hdd:=mul_bd (a:=x.Half+x.Swing+y.Half+y.Swing) (b:=x.Half+x.Swing+y.Half+y.Swing) (A:=7000) (B:=7000) (by omega) (by omega) (by omega) (by omega);have w4:IntKind.i64.wrap ((x.Half+x.Swing+y.Half+y.Swing)*(x.Half+x.Swing+y.Half+y.Swing))=(x.Half+x.Swing+y.Half+y.Swing)*(x.Half+x.Swing+y.Half+y.Swing):=wrap_in (by omega) (by omega);refine awp_skip ?_;simp only[zT,reduceIte,Nat.reduceEqDiff];refine hK4 _ _ ?_;refine awp_prune [6,9,11,27,28,29,34,35,36] ?_;simp only[zP,Nat.reduceEqDiff,reduceIte];refine awp_seq_k fun K5 hK5=>?_;refine awp_block ?_;refine aS fun K hK=>?_;simp -dsimp [hr];apply hK;clear hK K;refine aS fun K hK=>?_;simp -dsimp;refine callK_intro _ (c_from q r sq sr) (by simp) ?_;simp -dsimp;apply hK;clear hK K;refine aS fun K hK=>?_;simp -dsimp [w4];refine callK_intro _ (c_dot q r q r sq sr sq sr) (by simp) ?_;simp -dsimp [w4];apply hK;clear hK K;refine awp_cond rfl (fun hc2=>?_) (fun hc2=>?_)
   ·skip
    try simp at hc2
    have hb:bothB s t (x.Half+x.Swing+y.Half+y.Swing)=true:=by
     unfold bothB;rw[List.any_eq_true];exact⟨q,List.mem_of_getElem? hq,List.any_eq_true.2 ⟨r,List.mem_of_getElem? hr,by simpa using hc2⟩⟩
    refine aS fun K hK=>?_;simp -dsimp;apply hK;clear hK K;exact awp_ret (by simp[hb])
   ·skip
    try simp at hc2
    refine awp_skip ?_;simp only[zT,reduceIte,Nat.reduceEqDiff];refine hK5 _ _ ?_;refine awp_prune [6,9,11,27,28,29,34,35,36] ?_;simp only[zP,Nat.reduceEqDiff,reduceIte];refine aR fun K hK=>?_;simp -dsimp [wj];apply hK;clear hK K;simp only[zT,reduceIte,Nat.reduceEqDiff];exact⟨j+1,⟨by omega,by rw[any_take hr,j2];simp;omega⟩,by omega,sub_rb [some 0,some 1,some 2,some 3,some 4] rfl (by simp) (by simp)⟩
  ·skip
   try simp at hc1
   have hin:=any_of_take (by omega) j2;refine awp_exit ?_;simp only[zT,reduceIte,Nat.reduceEqDiff];refine hK3 _ _ ?_;refine awp_prune [6,9,27,28,29] ?_;simp only[zP,Nat.reduceEqDiff,reduceIte];refine aR fun K hK=>?_;simp -dsimp [wk];apply hK;clear hK K;simp only[zT,reduceIte,Nat.reduceEqDiff];exact⟨k+1,⟨by omega,by rw[any_take hq,k2,hin];rfl⟩,by omega,sub_rb [some 0,some 1,some 2,some 3] rfl (by simp) (by simp)⟩
 ·skip
  try simp at hc0
  have hall:=any_of_take (by omega) k2;have hb:bothB s t (x.Half+x.Swing+y.Half+y.Swing)=false:=hall;refine awp_exit ?_;simp only[zT,reduceIte,Nat.reduceEqDiff];refine hK1 _ _ ?_;refine awp_prune [] ?_;simp only[zP,Nat.reduceEqDiff,reduceIte];refine aS fun K hK=>?_;simp -dsimp;apply hK;clear hK K;exact awp_ret (by simp[hb])
def testFs:List FuncId:=[278,279,280,281]
def testBs (s:SS) (x:Profile) (t:SS) (y:Profile):List Bool:=[decide (apart s.a s.b t.a t.b (x.Half+y.Half)≤0),swungB s t (x.Half+x.Swing+y.Half),swungB t s (y.Half+y.Swing+x.Half),bothB s t (x.Half+x.Swing+y.Half+y.Swing)]
theorem testBs_foul (s:SS) (x:Profile) (t:SS) (y:Profile):(testBs s x t y).any id=foulB s x t y:=by simp[testBs,foulB]
theorem c_tests:PureCall Tryz.prog 212 [] (.full 1 (testFs.map fun f=>[.clo f []])):=by
 refine PureCall.of_body Tryz.func212 rfl (by decide) (by simp[Tryz.ntmps212]) ?_;simp only[Tryz.ntmps212,Tryz.results212];refine aS fun K hK=>?_;simp -dsimp;apply hK;clear hK K;refine aS fun K hK=>?_;simp -dsimp;apply hK;clear hK K;exact awp_ret (by simp[testFs])
theorem c_test (s t:SS) (x y:Profile) (hs:s.Ok) (ht:t.Ok) (hx:profB x=true) (hy:profB y=true) {k:Nat} {f:FuncId} {b:Bool} (hf:testFs[k]?=some f) (hb:(testBs s x t y)[k]?=some b):
  PureCall Tryz.prog f [s.av,x.av,t.av,y.av] (Bo b):=by
 match k,hf,hb with
 |0,hf,hb=>simp[testFs,testBs]at hf hb;subst hf hb;exact c_near s t x y hs ht hx hy
 |1,hf,hb=>simp[testFs,testBs]at hf hb;subst hf hb;exact c_swung s t x y hs ht hx hy
 |2,hf,hb=>simp[testFs,testBs]at hf hb;subst hf hb;exact c_tests1 s t x y hs ht hx hy
 |3,hf,hb=>simp[testFs,testBs]at hf hb;subst hf hb;exact c_both s t x y hs ht hx hy
 |k+4,hf,hb=>simp[testFs]at hf
theorem c_foul (s t:SS) (x y:Profile) (hs:s.Ok) (ht:t.Ok) (hx:profB x=true) (hy:profB y=true):PureCall Tryz.prog 130 [s.av,x.av,t.av,y.av] (Bo (foulB s x t y)):=by
 have hfl:testFs.length=4:=rfl;have hbl:(testBs s x t y).length=4:=rfl;refine PureCall.of_body Tryz.func130 rfl (by decide) (by simp[Tryz.ntmps130]) ?_;simp only[Tryz.ntmps130,Tryz.results130];refine aS fun K hK=>?_;simp -dsimp;apply hK;clear hK K;refine awp_scope ?_;refine aS fun K hK=>?_;simp -dsimp;apply hK;clear hK K;refine awp_sl ?_;refine awp_seq_k fun K1 hK1=>?_;refine aS fun K hK=>?_;simp -dsimp [hfl];refine callK_intro _ (c_tests) (by simp) ?_;simp -dsimp [hfl];apply hK;clear hK K;refine awp_block ?_;refine awp_prune [4,5,6,7,9,12,13,14] ?_;simp only[zP,Nat.reduceEqDiff,reduceIte];refine awp_loop_l [4,5,6,7,12,13] (α:=Nat) (fun k=>[(14,I k),(9,Bo false)]) (fun _=>[some (.els 9 [s.cells]),some (.els 2 [x.cells]),some (.els 9 [t.cells]),some (.els 2 [y.cells])]) (fun k=>k≤4∧((testBs s x t y).take k).any id=false) (fun k=>4-k) 0 ?_ ?_ ?_
 ·simp
 ·exact sub_same (by simp)
 rintro k ⟨k1,k2⟩;simp only[zP,Nat.reduceEqDiff,reduceIte];refine aS fun K hK=>?_;simp -dsimp;apply hK;clear hK K;refine awp_seq_k fun K2 hK2=>?_;refine awp_cond rfl (fun hc0=>?_) (fun hc0=>?_)
 ·skip
  try simp at hc0
  obtain⟨f,hf⟩:∃f,testFs[k]?=some f:=⟨_,List.getElem?_eq_getElem (by omega)⟩;obtain⟨b,hb⟩:∃b,(testBs s x t y)[k]?=some b:=⟨_,List.getElem?_eq_getElem (by omega)⟩;have wk:=zW k (by omega);refine awp_skip ?_;simp only[zT,reduceIte,Nat.reduceEqDiff];refine hK2 _ _ ?_;refine awp_prune [4,5,6,7,9,12,13,14] ?_;simp only[zP,Nat.reduceEqDiff,reduceIte];refine awp_seq_k fun K3 hK3=>?_;refine awp_block ?_;refine aS fun K hK=>?_;simp -dsimp [hf];apply hK;clear hK K;refine aS fun K hK=>?_;simp -dsimp;refine callK_intro _ (c_test s t x y hs ht hx hy hf hb) (by simp) ?_;simp -dsimp;apply hK;clear hK K;refine awp_cond rfl (fun hc1=>?_) (fun hc1=>?_)
  ·skip
   try simp at hc1
   have hv:foulB s x t y=true:=by rw[←testBs_foul,List.any_eq_true];exact⟨b,List.mem_of_getElem? hb,by simpa using hc1⟩
   refine aS fun K hK=>?_;simp -dsimp;apply hK;clear hK K;refine awp_exit ?_;simp only[zT,reduceIte,Nat.reduceEqDiff];refine hK1 _ _ ?_;refine awp_prune [9] ?_;simp only[zP,Nat.reduceEqDiff,reduceIte];refine aS fun K hK=>?_;simp -dsimp;apply hK;clear hK K;exact awp_ret (by simp[hv])
  ·skip
   try simp at hc1
   refine awp_skip ?_;simp only[zT,reduceIte,Nat.reduceEqDiff];refine hK3 _ _ ?_;refine awp_prune [4,5,6,7,9,12,13,14] ?_;simp only[zP,Nat.reduceEqDiff,reduceIte];refine aR fun K hK=>?_;simp -dsimp [wk];apply hK;clear hK K;simp only[zT,reduceIte,Nat.reduceEqDiff];exact⟨k+1,⟨by omega,by rw[any_take hb,k2,hc1];rfl⟩,by omega,sub_rb [some 0,some 1,some 2,some 3] rfl (by simp) (by simp)⟩
 ·skip
  try simp at hc0
  have hv:foulB s x t y=false:=by rw[←testBs_foul];exact any_of_take (by omega) k2
  refine awp_exit ?_;simp only[zT,reduceIte,Nat.reduceEqDiff];refine hK1 _ _ ?_;refine awp_prune [9] ?_;simp only[zP,Nat.reduceEqDiff,reduceIte];refine aS fun K hK=>?_;simp -dsimp;apply hK;clear hK K;exact awp_ret (by simp[hv])
end Go.Tram
end
section
namespace Go.Tram
open Go.AM Go.Proofs
theorem sheetRows_at {p:Plan} {r:Int} (h0:0≤r) (h1:r<p.Rails.length):(sheetRows p p.Rails.length)[r.toNat]?=some [.lst 9 ((p.strips r).map SS.cells)]:=by
 rw[sheetRows_get (by omega),show((r.toNat:Nat):Int)=r by omega]
end Go.Tram
end
section
namespace Go.Tram
open Go.AM Go.Proofs
def nodeAt (p:Plan) (m:Move):Node:=p.node (p.at (arrE m))
def nxK (p:Plan) (m:Move) (k:Nat):List Int:=match (nodeAt p m).Ends[k]? with
 |some e=>if letsB (nodeAt p m) (plc p (arrE m)) k then [numM ⟨e.Rail,e.Last⟩]else []
 |none=>[]
def nxTo (p:Plan) (m:Move) (j:Nat):List Int:=(List.range j).flatMap (nxK p m)
def nextL (p:Plan) (m:Move):List Move:=(srt (nxTo p m (nodeAt p m).Ends.length)).map moveM
def follB (p:Plan) (m k:Move):Bool:=(nextL p m).any fun x=>decide (x=k)
end Go.Tram
end
section
namespace Go.Tram
open Go.AM Go.Proofs
theorem flat_m (l:List Move):(l.map Move.cells).all (fun e=>e.all flatC)=true:=by simp[flatC]
@[simp high] theorem flat_m_frzP (l:List Move) (H:Hp) (n:Nat):(l.map Move.cells).map (fun e=>e.map (frzP H n))=l.map Move.cells:=map_flatC (fun x h=>flatC_frzP h H n) (flat_m l)
abbrev mLst (l:List Move):AV:= .lst 2 (l.map Move.cells)
end Go.Tram
end
section
namespace Go.Tram
open Go.AM Go.Proofs
theorem ins_nodup {x:Int}:∀{l:List Int},l.Nodup→x∉l→(ins x l).Nodup
 |[],_,_=>by simp[ins]
 |y::l,h,hx=>by
  rw[List.nodup_cons]at h;simp only[List.mem_cons,not_or]at hx;simp only[ins]
  split
  ·simp[List.nodup_cons,hx,h]
  ·rw[List.nodup_cons,ins_mem];exact⟨by rintro(rfl|h1);exact hx.1 rfl;exact h.1 h1,ins_nodup h.2 hx.2⟩
theorem srt_nodup {l:List Int} (h:l.Nodup):(srt l).Nodup:=by
 have gen:∀(l s:List Int),s.Nodup→l.Nodup→(∀x∈l,x∉s)→(l.foldl (fun s x=>ins x s) s).Nodup:=by
  intro l
  induction l with
  |nil=>intro s h _ _;exact h
  |cons x l ih=>
   intro s hs hl hd;rw[List.nodup_cons]at hl;refine ih _ (ins_nodup hs (hd x (by simp))) hl.2 fun y hy=>?_;rw[ins_mem];rintro(rfl|h)
   ·exact hl.1 hy
   ·exact hd y (by simp[hy]) h
 exact gen l [] (by simp) h (by simp)
end Go.Tram
end
section
namespace Go.Tram
open Go.AM Go.Proofs
structure Setg where
 Node:Int
 Leg:Int
 deriving DecidableEq,Inhabited
@[simp] def Setg.cells (s:Setg):List AV:=[I s.Node,I s.Leg]
end Go.Tram
end
section
namespace Go.Tram
open Go.AM Go.Proofs
structure Plan.Fit (p:Plan):Prop where
 n:p.Nodes.length≤9223372036854775807
 r:p.Rails.length≤9223372036854775807
def exPlan:Plan:=
 {Nodes:=[⟨⟨0,0⟩,1,[⟨0,false⟩],0⟩,⟨⟨1000,0⟩,4,[⟨0,true⟩,⟨1,false⟩,⟨2,false⟩],0⟩,⟨⟨2000,0⟩,1,[⟨1,true⟩],0⟩,⟨⟨2000,500⟩,1,[⟨2,true⟩],0⟩]
  Rails:=[⟨0,1,[],8000,0⟩,⟨1,2,[],8000,0⟩,⟨1,3,[⟨1600,0⟩],8000,0⟩]}
def exLit:AV:= .agg [.full 5 [[I 0,I 0,I 1, .full 2 [[I 0,Bo false]],I 0],[I 1000,I 0,I 4, .full 2 [[I 0,Bo true],[I 1,Bo false],[I 2,Bo false]],I 0],[I 2000,I 0,I 1, .full 2 [[I 1,Bo true]],I 0],[I 2000,I 500,I 1, .full 2 [[I 2,Bo true]],I 0]],
 .full 5 [[I 0,I 1, .v (.slice none 0 0),I 8000,I 0],[I 1,I 2, .v (.slice none 0 0),I 8000,I 0],[I 1,I 3, .full 2 [[I 1600,I 0]],I 8000,I 0]]]
theorem ex_len (a b:Spot) (k:Int) (hk:IsSq (sqd a b) k):far a b=k:=isq_of hk
theorem ex00:segLen (exPlan.line 0) 0=1000:=by unfold segLen;exact ex_len _ _ 1000 (by unfold IsSq;decide+kernel)
theorem ex10:segLen (exPlan.line 1) 0=1000:=by unfold segLen;exact ex_len _ _ 1000 (by unfold IsSq;decide+kernel)
theorem ex20:segLen (exPlan.line 2) 0=600:=by unfold segLen;exact ex_len _ _ 600 (by unfold IsSq;decide+kernel)
theorem ex21:segLen (exPlan.line 2) 1=640:=by unfold segLen;exact ex_len _ _ 640 (by unfold IsSq;decide+kernel)
theorem ex_r0:railB exPlan (exPlan.rail 0)=true:=by
 have h1:railA exPlan (exPlan.rail 0)=true:=by decide+kernel
 have h2:(exPlan.rail 0).Shape=[]:=by decide+kernel
 have e:lineOf exPlan (exPlan.rail 0)=exPlan.line 0:=rfl;simp[railB,h1,h2,e,List.range_succ,segB,ex00,inr]
theorem ex_r1:railB exPlan (exPlan.rail 1)=true:=by
 have h1:railA exPlan (exPlan.rail 1)=true:=by decide+kernel
 have h2:(exPlan.rail 1).Shape=[]:=by decide+kernel
 have e:lineOf exPlan (exPlan.rail 1)=exPlan.line 1:=rfl;simp[railB,h1,h2,e,List.range_succ,segB,ex10,inr]
theorem ex_r2:railB exPlan (exPlan.rail 2)=true:=by
 have h1:railA exPlan (exPlan.rail 2)=true:=by decide+kernel
 have h2:(exPlan.rail 2).Shape=[⟨1600,0⟩]:=by decide+kernel
 have h3:spotB ⟨1600,0⟩=true:=by decide+kernel
 have e:lineOf exPlan (exPlan.rail 2)=exPlan.line 2:=rfl;simp[railB,h1,h2,h3,e,List.range_succ,segB,ex20,ex21,inr]
theorem ex_valid:validB exPlan=true:=by
 have h1:exPlan.Nodes.all nodeB=true:=by decide+kernel
 have h2:validE exPlan=true:=by decide+kernel
 have e:exPlan.Rails=[exPlan.rail 0,exPlan.rail 1,exPlan.rail 2]:=by unfold Plan.rail;rfl
 have h3:exPlan.Rails.all (railB exPlan)=true:=by rw[e];simp[ex_r0,ex_r1,ex_r2]
 have h4:inr (exPlan.Nodes.length) 1 300=true:=by decide+kernel
 have h5:inr (exPlan.Rails.length) 1 400=true:=by decide+kernel
 simp[validB,validA,h1,h2,h3,h4,h5]
end Go.Tram
end
section
namespace Go.Tram
open Go.AM Go.Proofs
theorem c_ExLit1:PureCall Tryz.prog 34 [] exLit:=by
 refine PureCall.of_body Tryz.func34 rfl (by decide) (by simp[Tryz.ntmps34]) ?_;simp only[Tryz.ntmps34,Tryz.results34];refine aS fun K hK=>?_;simp -dsimp;apply hK;clear hK K;refine aS fun K hK=>?_;simp -dsimp;apply hK;clear hK K;exact awp_ret (by simp[exLit])
theorem c_Example1:PureCall Tryz.prog 34 [] exPlan.av:=by
 have e:wkN 2 6 exLit=exPlan.av:=by rfl
 refine c_ExLit1.res fun w S y h=>?_;rw[←e];exact wkN_rep 2 6 _ _ h
end Go.Tram
end
section
namespace Go.Tram
open Go.AM Go.Proofs
attribute [-simp] minI maxI
end Go.Tram
end
section
namespace Go.Tram
open Go.AM Go.Proofs
def pairAV (q:SS×SS):List AV:=[q.1.av,q.2.av]
theorem pairAV_len (p:Plan) (a b:Int):∀z∈(pairs p a b).map pairAV,z.length=2:=by
 intro z hz;obtain⟨q,_,rfl⟩:=List.mem_map.1 hz
 rfl
theorem c_all (p:Plan) (a b:Int):PureCall Tryz.prog 314 [.iptr (sheet p),I a,I b] (.clo 351 [.iptr [.iptr (sheet p)], .iptr [I a], .iptr [I b]]):=by
 generalize sheet p=sh;refine PureCall.of_body Tryz.func314 rfl (by decide) (by simp[Tryz.ntmps314]) ?_;simp only[Tryz.ntmps314,Tryz.results314];refine aS fun K hK=>?_;simp -dsimp;apply hK;clear hK K;refine aS fun K hK=>?_;simp -dsimp;apply hK;clear hK K;exact awp_ret (by simp)
theorem c_all1 (p : Plan) (a b : Int) (ha : inr a 0 (p.Rails.length-1)=true) (hb:inr b 0 (p.Rails.length-1)=true) (hla:(p.strips a).length≤1000000) (hlb:(p.strips b).length≤1000000):
    IterCall Tryz.prog 351 [.iptr [.iptr (sheet p)], .iptr [I a], .iptr [I b]] ((pairs p a b).map pairAV):=by
  have ia:=inr_iff.1 ha
  have ib:=inr_iff.1 hb
  have ga:=sheetRows_at (p:=p) (r:=a) (by omega) (by omega)
  have gb:=sheetRows_at (p:=p) (r:=b) (by omega) (by omega)
  have hpl:=pairs_len p a b
  unfold sheet
  refine IterCallW.of_body Tryz.func351 rfl (by decide) (by simp[Tryz.ntmps351]) (by simp[Tryz.ntmps351]) (by simp[Tryz.results351]) ?_
  intro J l hmk hY
  simp only[Tryz.ntmps351,Tryz.results351]
  refine gwp_sd mixed rfl (by decide) rfl rfl fun K hK=>?_
  simp -dsimp [ga,ia.1]
  refine hK _ _ _ (by decide+kernel) ?_;clear hK K
  refine gwp_block ?_
  refine gwp_prune [0,1,3,15,16,17,999999] (Or.inl (by decide)) ?_
  simp only[zP,Nat.reduceEqDiff,reduceIte]
  refine gwp_loop_l [0,1,3,15,16] (α:=Nat) (fun k=>[(17,I k),(999999,cntV (k*(p.strips b).length))]) (fun k=>[]) (fun k=>k≤(p.strips a).length) (fun k=>(p.strips a).length-k) 0 ?_ ?_ ?_
  · simp
  · exact gsub (sub_same (by simp)) (by simp)
  rintro k k1
  simp only[zP,Nat.reduceEqDiff,reduceIte]
  refine gS fun K hK=>?_
  simp -dsimp
  apply hK;clear hK K
  refine gwp_seq_k fun K1 hK1=>?_
  refine gwp_cond rfl (fun hc0=>?_) (fun hc0=>?_)
  · skip
    try simp at hc0
    obtain⟨s,hs⟩:∃s,(p.strips a)[k]?=some s:=⟨_,List.getElem?_eq_getElem (by simpa using hc0)⟩
    have wk:=zW k (by omega)
    refine gwp_skip ?_
    simp only[zT,reduceIte,Nat.reduceEqDiff]
    refine hK1 _ _ ?_
    refine gwp_prune [0,1,3,15,16,17,999999] (Or.inl (by decide)) ?_
    simp only[zP,Nat.reduceEqDiff,reduceIte]
    refine gwp_seq_k fun K2 hK2=>?_
    refine gwp_block ?_
    refine gS fun K hK=>?_
    simp -dsimp [hs]
    apply hK;clear hK K
    refine gwp_sd mixed rfl (by decide) rfl rfl fun K hK=>?_
    simp -dsimp [gb,ib.1]
    refine hK _ _ _ (by decide+kernel) ?_;clear hK K
    refine gwp_block ?_
    refine gwp_prune [0,1,3,6,15,16,17,27,28,29,999999] (Or.inl (by decide)) ?_
    simp only[zP,Nat.reduceEqDiff,reduceIte]
    refine gwp_loop_l [0,1,3,6,15,16,17,27,28] (α:=Nat) (fun j=>[(29,I j),(999999,cntV (k*(p.strips b).length+j))]) (fun j=>[some (.els 9 [s.cells])]) (fun j=>j≤(p.strips b).length) (fun j=>(p.strips b).length-j) 0 ?_ ?_ ?_
    · simp
    · exact gsub (sub_same (by simp)) (by simp)
    rintro j j1
    simp only[zP,Nat.reduceEqDiff,reduceIte]
    refine gS fun K hK=>?_
    simp -dsimp
    apply hK;clear hK K
    refine gwp_seq_k fun K3 hK3=>?_
    refine gwp_cond rfl (fun hc1=>?_) (fun hc1=>?_)
    · skip
      try simp at hc1
      obtain⟨t,ht⟩:∃t,(p.strips b)[j]?=some t:=⟨_,List.getElem?_eq_getElem (by simpa using hc1)⟩
      have wj:=zW j (by omega)
      refine gwp_skip ?_
      simp only[zT,reduceIte,Nat.reduceEqDiff]
      refine hK3 _ _ ?_
      refine gwp_prune [0,1,3,6,15,16,17,27,28,29,999999] (Or.inl (by decide)) ?_
      simp only[zP,Nat.reduceEqDiff,reduceIte]
      refine gwp_seq_k fun K4 hK4=>?_
      refine gwp_block ?_
      refine gS fun K hK=>?_
      simp -dsimp [ht]
      apply hK;clear hK K
      refine gwp_sy hmk hY rfl (by decide) rfl rfl fun K hK=>?_
      simp -dsimp
      refine yK_intro (by rw[List.getElem?_map,pairs_at hs ht];rfl) ?_ ?_
      · apply hK;clear hK K
        refine gwp_cond rfl (fun hc2=>?_) (fun hc2=>?_)
        · skip
          skip
          simp at hc2
        · skip
          skip
          refine gwp_skip ?_
          simp only[zT,reduceIte,Nat.reduceEqDiff]
          refine hK4 _ _ ?_
          refine gwp_prune [0,1,3,6,15,16,17,27,28,29,999999] (Or.inl (by decide)) ?_
          simp only[zP,Nat.reduceEqDiff,reduceIte]
          refine gR fun K hK=>?_
          simp -dsimp [wj]
          apply hK;clear hK K
          simp only[zT,reduceIte,Nat.reduceEqDiff]
          exact⟨j+1,by omega,by omega,gsub (sub_rb [some 0] rfl (by simp[Nat.add_assoc]) (by simp)) (by simp[Nat.add_assoc])⟩
      · apply hK;clear hK K
        refine gwp_cond rfl (fun hc2=>?_) (fun hc2=>?_)
        · skip
          skip
          exact gwp_ret (by simp)
        · skip
          skip
          simp at hc2
    · skip
      try simp at hc1
      have hje : j = (p.strips b).length := by have:¬j<(p.strips b).length:=by simpa using hc1
                                               omega
      refine gwp_exit ?_
      simp only[zT,reduceIte,Nat.reduceEqDiff]
      refine hK2 _ _ ?_
      refine gwp_prune [0,1,3,15,16,17,999999] (Or.inl (by decide)) ?_
      simp only[zP,Nat.reduceEqDiff,reduceIte]
      refine gR fun K hK=>?_
      simp -dsimp [wk]
      apply hK;clear hK K
      simp only[zT,reduceIte,Nat.reduceEqDiff]
      exact⟨k+1,by omega,by omega,gsub (sub_rb [] rfl (by simp[hje,Nat.succ_mul]) (by simp)) (by simp[hje,Nat.succ_mul])⟩
  · skip
    try simp at hc0
    have hke : k = (p.strips a).length := by have:¬k<(p.strips a).length:=by simpa using hc0
                                             omega
    refine gwp_exit ?_
    try simp only[zT,reduceIte,Nat.reduceEqDiff]
    simp[hpl,hke]
end Go.Tram
end
section
namespace Go.Tram
open Go.AM Go.Proofs
theorem rails_at {p:Plan} {r:Int} (hr:inr r 0 (p.Rails.length-1)=true):p.Rails[r.toNat]?=some (p.rail r):=by
 have:=inr_iff.1 hr;exact Plan.rail_get (by omega) (by omega)
theorem c_meet (p:Plan) (a b:Int) (ha:inr a 0 (p.Rails.length-1)=true) (hb:inr b 0 (p.Rails.length-1)=true):PureCall Tryz.prog 313 [.iptr (sheet p),I a,I b] (Bo (meetB p a b)):=by
 have ia:=inr_iff.1 ha;have ib:=inr_iff.1 hb;have ga:=rails_at ha;have gb:=rails_at hb;unfold sheet;refine PureCall.of_body Tryz.func313 rfl (by decide) (by simp[Tryz.ntmps313]) ?_;simp only[Tryz.ntmps313,Tryz.results313];refine aS fun K hK=>?_;simp -dsimp;apply hK;clear hK K;refine awp_sd mixed rfl fun K hK=>?_;simp -dsimp [ga,gb,ia.1,ib.1];refine hK _ _ _ (by decide+kernel) ?_;clear hK K;refine aS fun K hK=>?_;simp -dsimp;apply hK;clear hK K;refine awp_ret ?_;simp[meetB];exact Bool.eq_iff_iff.2 (by simp;try omega)
theorem c_fouls (p:Plan) (a:Int) (x:Profile) (b:Int) (y:Profile) (hv:validB p=true) (ha:inr a 0 (p.Rails.length-1)=true) (hb:inr b 0 (p.Rails.length-1)=true) (hx:profB x=true) (hy:profB y=true):
  PureCall Tryz.prog 242 [.iptr (sheet p),I a,x.av,I b,y.av] (Bo (railsB p a x b y)):=by
 have ia:=inr_iff.1 ha;have ib:=inr_iff.1 hb;have ra:=rail_ok hv (r:=a) (by omega) (by omega);have rb:=rail_ok hv (r:=b) (by omega) (by omega);have sa:=ra.s;have sb:=rb.s;have la:=strips_len p a;have lb:=strips_len p b;have hm:=c_meet p a b ha hb;have hall:=c_all p a b;have hit:=c_all1 p a b ha hb (by omega) (by omega);generalize hsh:sheet p=sh at hm hall hit;refine PureCall.of_bodyG Tryz.func242 rfl (by decide) (by simp[Tryz.ntmps242]) ?_;intro J hJ;simp only[Tryz.ntmps242,Tryz.results242];refine gS fun K hK=>?_;simp -dsimp;apply hK;clear hK K;refine gwp_seq_k fun K1 hK1=>?_;refine gS fun K hK=>?_;simp -dsimp;refine callK_intro _ (hm) (by simp) ?_;simp -dsimp;apply hK;clear hK K;refine gwp_cond rfl (fun hc0=>?_) (fun hc0=>?_)
 ·skip
  try simp at hc0
  refine gS fun K hK=>?_;simp -dsimp;apply hK;clear hK K;exact gwp_ret (by simp[rails_meet hv ha hb hx hy hc0])
 ·skip
  try simp at hc0
  refine gwp_skip ?_;simp only[zT,reduceIte,Nat.reduceEqDiff];refine hK1 _ _ ?_;refine gwp_prune [0,1,3,7,9,10] (Or.inr (by simp)) ?_;simp only[zP,Nat.reduceEqDiff,reduceIte];refine gwp_seq_k fun K2 hK2=>?_;refine gS fun K hK=>?_;simp -dsimp;refine callK_intro _ (hall) (by simp) ?_;simp -dsimp;apply hK;clear hK K;refine gwp_block ?_;refine gwp_prune [7,9,10,20] (Or.inr (by simp)) ?_;simp only[zP,Nat.reduceEqDiff,reduceIte];refine gwp_range_s hJ [7,9,10,20] (fun _=>[some (.els 2 [x.cells]),some (.els 2 [y.cells]),some (.els 1 [[Bo false]])]) (fun n=>((pairs p a b).take n).any (fun q=>foulB q.1 x q.2 y)=false) rfl (hit) rfl (by simp) (by decide) (by decide) (by decide) (pairAV_len p a b) ?_ ?_ ?_ ?_
  ·trivial
  ·exact sub_same (by simp)
  ·intro n xv hxn hi l1 J1 hJ1;obtain⟨q,hq,rfl⟩:∃q,(pairs p a b)[n]?=some q∧pairAV q=xv:=by simpa using hxn
   have hmq:=pairs_mem (List.mem_of_getElem? hq);have os:=strips_ok ra hmq.1;have ot:=strips_ok rb hmq.2;have hcf:=c_foul q.1 q.2 x y os ot hx hy;obtain⟨s,t⟩:=q;simp only[pairAV]at hcf ⊢;simp only[List.zip_cons_cons,List.zip_nil_left,List.zip_nil_right,List.cons_append,List.nil_append];refine gS fun K hK=>?_;simp -dsimp;apply hK;clear hK K;refine gR fun K hK=>?_;simp -dsimp;apply hK;clear hK K;simp only[onlyN];intro J2 hJ2;refine gwp_prune [7,9,10,11,12,20] (Or.inr (by simp)) ?_;simp only[zP,Nat.reduceEqDiff,reduceIte];refine gwp_block ?_;refine gS fun K hK=>?_;simp -dsimp;refine callK_intro _ (hcf) (by simp) ?_;simp -dsimp;apply hK;clear hK K;refine gwp_cond rfl (fun hc1=>?_) (fun hc1=>?_)
   ·skip
    try simp at hc1
    have hany:(pairs p a b).any (fun q=>foulB q.1 x q.2 y)=true:=List.any_eq_true.2 ⟨(s,t),List.mem_of_getElem? hq,hc1⟩;refine gS fun K hK=>?_;simp -dsimp;apply hK;clear hK K;exact gwp_ret ⟨[some (.els 2 [x.cells]),some (.els 2 [y.cells]),some (.els 1 [[Bo true]])],sub_rb [some 0,some 1,some 2] rfl (by simp) (by simp),by simp[railsB,hany]⟩
   ·skip
    try simp at hc1
    refine gwp_skip ?_;simp only[thenA,inBlockA,roundQ,reduceIte,Nat.reduceEqDiff,eq_self];refine⟨?_,sub_rb [some 0,some 1,some 2] rfl (by simp) (by simp)⟩;rw[List.take_add_one,List.any_append,hi,hq];simp[hc1]
  ·intro hdone;simp only[zT,reduceIte,Nat.reduceEqDiff];refine hK2 _ _ ?_;refine gwp_prune [10] (Or.inr (by simp)) ?_;simp only[zP,Nat.reduceEqDiff,reduceIte];refine gS fun K hK=>?_;simp -dsimp;apply hK;clear hK K;refine gwp_ret ?_;rw[List.take_of_length_le (by simp)]at hdone;simp[railsB,hdone]
end Go.Tram
end
section
namespace Go.Tram
open Go.AM Go.Proofs
theorem flat_fl (l:List Foul):(l.map Foul.cells).all (fun e=>e.all flatC)=true:=by simp[flatC]
@[simp high] theorem flat_fl_ren (l:List Foul) (g:List (Option Nat)) (n:Nat):(l.map Foul.cells).map (fun e=>e.map (renAV g n))=l.map Foul.cells:=map_flatC (fun x h=>flatC_ren h g n) (flat_fl l)
@[simp high] theorem flat_fl_frzP (l:List Foul) (H:Hp) (n:Nat):(l.map Foul.cells).map (fun e=>e.map (frzP H n))=l.map Foul.cells:=map_flatC (fun x h=>flatC_frzP h H n) (flat_fl l)
theorem fl_take (l:List Foul):(l.map Foul.cells).take l.length=l.map Foul.cells:=List.take_of_length_le (by simp)
def profsB (l:List Profile):Bool:=decide (1≤l.length)&&(decide (l.length≤6)&&l.all profB)
theorem c_Fouls_20 (p:Plan) (l:List Profile) (hv:validB p=true) (h:profsB l=true) (hN:p.Rails.length≤20):PureCall Tryz.prog 147 [p.av, .lst 2 (l.map Profile.cells)] (.tup [.lst 4 ((foulsL p l).map Foul.cells),I 0]):=by
 have hl:1≤l.length∧l.length≤6∧∀x∈l,profB x=true:=by simpa [profsB]using h
 obtain⟨hl1,hl6,hpr⟩:=hl;have hpa:l.all profB=true:=by simpa using hpr
 have hcp:=c_profiles l (by omega);rw[hpa]at hcp;have hb:=c_begin p hv;have hcf:=fun a x b y=>c_fouls p a x b y hv;generalize sheet p=sh at hb hcf;refine PureCall.of_body Tryz.func147 rfl (by decide) (by simp[Tryz.ntmps147]) ?_;simp only[Tryz.ntmps147,Tryz.results147];refine aS fun K hK=>?_;simp -dsimp;apply hK;clear hK K;refine aS fun K hK=>?_;simp -dsimp;refine callK_intro _ (hb) (by simp) ?_;simp -dsimp;apply hK;clear hK K;refine awp_seq_k fun K1 hK1=>?_;refine aS fun K hK=>?_;simp -dsimp;refine callK_may _ (fun hm=>hcp) (by simp) ?_;simp -dsimp;apply hK;clear hK K;refine awp_cond rfl (fun hc0=>?_) (fun hc0=>?_)
 ·simp at hc0;omega
 ·refine awp_skip ?_;simp only[zT,reduceIte,Nat.reduceEqDiff];refine hK1 _ _ ?_;refine awp_prune [1,2,6] ?_;simp only[zP,Nat.reduceEqDiff,reduceIte];refine aS fun K hK=>?_;simp -dsimp;apply hK;clear hK K;refine awp_seq_k fun K2 hK2=>?_;refine aS fun K hK=>?_;simp -dsimp;apply hK;clear hK K;refine awp_block ?_;refine awp_prune [1,2,6,8,39,40] ?_;simp only[zP,Nat.reduceEqDiff,reduceIte];refine awp_loop_l [1,2,6,39] (α:=Nat) (fun a=>[(40,I a),(8, .row 1 0 (fA p l a).length)]) (fun a=>[some (.els 2 [p.cells]),some (.els 4 ((fA p l a).map Foul.cells))]) (fun a=>a≤p.Rails.length) (fun a=>p.Rails.length-a) 0 ?_ ?_ ?_
  ·simp
  ·exact(sub_nil 8 4 (by simp)).trans (sub_rb [some 0,some 1] rfl (by simp[fA]) (by simp[fA]))
  rintro a a1;simp only[zP,Nat.reduceEqDiff,reduceIte];refine aS fun K hK=>?_;simp -dsimp;apply hK;clear hK K;refine awp_seq_k fun K3 hK3=>?_;refine awp_cond rfl (fun hc1=>?_) (fun hc1=>?_)
  ·skip
   try simp at hc1
   have wa:=zW a (by omega);refine awp_skip ?_;simp only[zT,reduceIte,Nat.reduceEqDiff];refine hK3 _ _ ?_;refine awp_prune [1,2,6,8,39,40] ?_;simp only[zP,Nat.reduceEqDiff,reduceIte];refine awp_seq_k fun K4 hK4=>?_;refine awp_block ?_;refine aS fun K hK=>?_;simp -dsimp;apply hK;clear hK K;refine aS fun K hK=>?_;simp -dsimp;apply hK;clear hK K;refine awp_block ?_;refine awp_prune [1,2,6,8,9,39,40,43,44,45] ?_;simp only[zP,Nat.reduceEqDiff,reduceIte];refine awp_loop_l [1,2,6,9,39,40,43,44] (α:=Nat) (fun i=>[(45,I i),(8, .row 1 0 (fA p l a++fI p l a i).length)]) (fun i=>[some (.els 2 [p.cells]),some (.els 4 ((fA p l a++fI p l a i).map Foul.cells))]) (fun i=>i≤l.length) (fun i=>l.length-i) 0 ?_ ?_ ?_
   ·simp
   ·exact sub_rb [some 0,some 1] rfl (by simp[fI]) (by simp[fI])
   rintro i i1;simp only[zP,Nat.reduceEqDiff,reduceIte];refine aS fun K hK=>?_;simp -dsimp;apply hK;clear hK K;refine awp_seq_k fun K5 hK5=>?_;refine awp_cond rfl (fun hc2=>?_) (fun hc2=>?_)
   ·skip
    try simp at hc2
    have wi:=zW i (by omega);obtain⟨x,hx⟩:∃x,l[i]?=some x:=⟨_,List.getElem?_eq_getElem hc2⟩;have px:=hpr x (List.mem_of_getElem? hx);refine awp_skip ?_;simp only[zT,reduceIte,Nat.reduceEqDiff];refine hK5 _ _ ?_;refine awp_prune [1,2,6,8,9,39,40,43,44,45] ?_;simp only[zP,Nat.reduceEqDiff,reduceIte];refine awp_seq_k fun K6 hK6=>?_;refine awp_block ?_;refine aS fun K hK=>?_;simp -dsimp [hx];apply hK;clear hK K;refine aS fun K hK=>?_;simp -dsimp;apply hK;clear hK K;refine awp_block ?_;refine awp_prune [1,2,6,8,9,10,11,12,39,40,43,44,45] ?_;simp only[zP,Nat.reduceEqDiff,reduceIte];refine awp_loop_l [1,2,6,9,10,11,39,40,43,44,45] (α:=Nat) (fun d=>[(12,I ((a:Int)+d)),(8, .row 1 0 (fA p l a++fI p l a i++fB p l a i d).length)]) (fun d=>[some (.els 2 [p.cells]),some (.els 4 ((fA p l a++fI p l a i++fB p l a i d).map Foul.cells)),some (.els 2 [x.cells])]) (fun d=>d≤p.Rails.length-a) (fun d=>p.Rails.length-a-d) 0 ?_ ?_ ?_
    ·simp
    ·exact sub_rb [some 0,some 1,some 2] rfl (by simp[fB]) (by simp[fB])
    rintro d d1;simp only[zP,Nat.reduceEqDiff,reduceIte];refine awp_seq_k fun K7 hK7=>?_;refine aS fun K hK=>?_;simp -dsimp;apply hK;clear hK K;refine awp_cond rfl (fun hc3=>?_) (fun hc3=>?_)
    ·skip
     try simp at hc3
     have wd:IntKind.i64.wrap ((a:Int)+d+1)=(a:Int)+d+1:=wrap_in (by omega) (by omega);refine awp_skip ?_;simp only[zT,reduceIte,Nat.reduceEqDiff];refine hK7 _ _ ?_;refine awp_prune [1,2,6,8,9,10,11,12,39,40,43,44,45] ?_;simp only[zP,Nat.reduceEqDiff,reduceIte];refine awp_seq_k fun K8 hK8=>?_;refine awp_block ?_;refine aS fun K hK=>?_;simp -dsimp;apply hK;clear hK K;refine awp_block ?_;refine awp_prune [1,2,6,8,9,10,11,12,39,40,43,44,45,58,59,60] ?_;simp only[zP,Nat.reduceEqDiff,reduceIte];refine awp_loop_l [1,2,6,9,10,11,12,39,40,43,44,45,58,59] (α:=Nat) (fun k=>[(60,I k),(8, .row 1 0 (fA p l a++fI p l a i++fB p l a i d++fK p l a i (a+d) k).length)]) (fun k=>[some (.els 2 [p.cells]),some (.els 4 ((fA p l a++fI p l a i++fB p l a i d++fK p l a i (a+d) k).map Foul.cells)),some (.els 2 [x.cells])]) (fun k=>k≤l.length) (fun k=>l.length-k) 0 ?_ ?_ ?_
     ·simp
     ·exact sub_rb [some 0,some 1,some 2] rfl (by simp[fK]) (by simp[fK])
     rintro k k1;have hbd:=fouls_bd p l (N:=20) (a:=a) (i:=i) (d:=d) (k:=k) hN (by omega) hc1 i1 (by omega) k1;have hsK:=fK_succ p l a i (a+d) k;have hsB:=fB_succ p l a i d;have hsI:=fI_succ p l a i;generalize hout:fA p l a++fI p l a i++fB p l a i d++fK p l a i (a+d) k=out at hbd ⊢;have f1:Fits (out.length+1) 33:=fits_of (by omega) (by omega);have hot:=fl_take out;simp only[zP,Nat.reduceEqDiff,reduceIte];refine aS fun K hK=>?_;simp -dsimp;apply hK;clear hK K;refine awp_seq_k fun K9 hK9=>?_;refine awp_cond rfl (fun hc4=>?_) (fun hc4=>?_)
     ·skip
      try simp at hc4
      have wk:=zW k (by omega);obtain⟨y,hy⟩:∃y,l[k]?=some y:=⟨_,List.getElem?_eq_getElem hc4⟩;have py:=hpr y (List.mem_of_getElem? hy);have hF:hitF p l a i (a+d) k=((decide ((a:Int)<a+d)||decide (i≤k))&&railsB p a x ((a:Int)+d) y):=by unfold hitF;rw[pr_get hx,pr_get hy,Int.natCast_add,show decide (a<a+d)=decide ((a:Int)<a+d)from decide_eq_decide.2 (by omega)]
      refine awp_skip ?_;simp only[zT,reduceIte,Nat.reduceEqDiff];refine hK9 _ _ ?_;refine awp_prune [1,2,6,8,9,10,11,12,39,40,43,44,45,58,59,60] ?_;simp only[zP,Nat.reduceEqDiff,reduceIte];refine awp_seq_k fun K10 hK10=>?_;refine awp_block ?_;refine aS fun K hK=>?_;simp -dsimp [hy];apply hK;clear hK K;refine aS fun K hK=>?_;simp -dsimp;refine callK_may _ (fun hm=>hcf a x ((a:Int)+d) y (inr_iff.2 (by omega)) (inr_iff.2 (by omega)) px py) (by simp) ?_;simp -dsimp;apply hK;clear hK K;refine awp_cond rfl (fun hc5=>?_) (fun hc5=>?_)
      ·have hh:hitF p l a i (a+d) k=true:=hF.trans hc5;refine aR fun K hK=>?_;simp -dsimp [f1];apply hK;clear hK K;simp only[zT,reduceIte,Nat.reduceEqDiff];refine hK10 _ _ ?_;refine awp_prune [1,2,6,8,9,10,11,12,39,40,43,44,45,58,59,60] ?_;simp only[zP,Nat.reduceEqDiff,reduceIte];refine aR fun K hK=>?_;simp -dsimp [wk];apply hK;clear hK K;simp only[zT,reduceIte,Nat.reduceEqDiff];exact⟨k+1,by omega,by omega,sub_rb [some 0,some 4,some 2] rfl (by simp[hsK,hh,←hout];omega) (by simp[hsK,hh,←List.append_assoc,hout,hot])⟩
      ·have hh:hitF p l a i (a+d) k=false:=hF.trans hc5;refine awp_skip ?_;simp only[zT,reduceIte,Nat.reduceEqDiff];refine hK10 _ _ ?_;refine awp_prune [1,2,6,8,9,10,11,12,39,40,43,44,45,58,59,60] ?_;simp only[zP,Nat.reduceEqDiff,reduceIte];refine aR fun K hK=>?_;simp -dsimp [wk];apply hK;clear hK K;simp only[zT,reduceIte,Nat.reduceEqDiff];exact⟨k+1,by omega,by omega,sub_rb [some 0,some 1,some 2] rfl (by simp only[hsK,hh,Bool.false_eq_true,if_false,List.append_nil,hout];simp) (by simp only[hsK,hh,Bool.false_eq_true,if_false,List.append_nil,hout];simp[hot])⟩
     ·skip
      try simp at hc4
      have hke:k=l.length:=by omega
      subst hke;refine awp_exit ?_;simp only[zT,reduceIte,Nat.reduceEqDiff];refine hK8 _ _ ?_;refine awp_prune [1,2,6,8,9,10,11,12,39,40,43,44,45] ?_;simp only[zP,Nat.reduceEqDiff,reduceIte];refine aR fun K hK=>?_;simp -dsimp [wd];apply hK;clear hK K;simp only[zT,reduceIte,Nat.reduceEqDiff];exact⟨d+1,by omega,by omega,sub_rb [some 0,some 1,some 2] rfl (by simp[hsB,←hout,Int.add_assoc]) (by simp[hsB,←hout])⟩
    ·skip
     try simp at hc3
     have hde:d=p.Rails.length-a:=by omega
     subst hde;refine awp_exit ?_;simp only[zT,reduceIte,Nat.reduceEqDiff];refine hK6 _ _ ?_;refine awp_prune [1,2,6,8,9,39,40,43,44,45] ?_;simp only[zP,Nat.reduceEqDiff,reduceIte];refine aR fun K hK=>?_;simp -dsimp [wi];apply hK;clear hK K;simp only[zT,reduceIte,Nat.reduceEqDiff];exact⟨i+1,by omega,by omega,sub_rb [some 0,some 1] rfl (by simp[fI_succ]) (by simp[fI_succ])⟩
   ·skip
    try simp at hc2
    have hie:i=l.length:=by omega
    subst hie;refine awp_exit ?_;simp only[zT,reduceIte,Nat.reduceEqDiff];refine hK4 _ _ ?_;refine awp_prune [1,2,6,8,39,40] ?_;simp only[zP,Nat.reduceEqDiff,reduceIte];refine aR fun K hK=>?_;simp -dsimp [wa];apply hK;clear hK K;simp only[zT,reduceIte,Nat.reduceEqDiff];exact⟨a+1,by omega,by omega,sub_rb [some 0,some 1] rfl (by simp[fA_succ]) (by simp[fA_succ])⟩
  ·skip
   try simp at hc1
   have hae:a=p.Rails.length:=by omega
   subst hae;refine awp_exit ?_;simp only[zT,reduceIte,Nat.reduceEqDiff];refine hK2 _ _ ?_;refine awp_prune [8] ?_;simp only[zP,Nat.reduceEqDiff,reduceIte];refine aS fun K hK=>?_;simp -dsimp;apply hK;clear hK K;exact awp_ret (by simp[foulsL,fl_take])
end Go.Tram
end
section
namespace Go.Tram.Lk
open Go.AM
structure Car where
 Name:Int
 Profile:Int
 Way:List Move
 Front:Int
 deriving DecidableEq,Inhabited
structure LSet where
 Plan:Plan
 Profiles:List Profile
 Singles:List (List Move)
 deriving Inhabited
structure Refu where
 Kind:Int
 Car:Int
 deriving DecidableEq,Inhabited
@[simp] def Car.cells (c:Car):List AV:=[I c.Name,I c.Profile,mLst c.Way,I c.Front]
abbrev Car.av (c:Car):AV:= .agg c.cells
@[simp] def sngCells (l:List Move):List AV:=[mLst l]
@[simp] def LSet.cells (s:LSet):List AV:=[.lst 5 (s.Plan.Nodes.map Node.cells), .lst 5 (s.Plan.Rails.map Rail.cells), .lst 2 (s.Profiles.map Profile.cells), .lst 1 (s.Singles.map sngCells)]
abbrev LSet.av (s:LSet):AV:= .agg s.cells
@[simp] def Refu.cells (r:Refu):List AV:=[I r.Kind,I r.Car]
abbrev Refu.av (r:Refu):AV:= .agg r.cells
def sngB (p:Plan) (l:List (List Move)):Bool:=l.all (fun x=>inr x.length 1 100)&&(l.flatten.all (movB p)&&decide (l.flatten.map (·.Rail)).Nodup)
def setB (s:LSet):Bool:=validB s.Plan&&(profsB s.Profiles&&(decide (s.Singles.length≤30)&&sngB s.Plan s.Singles))
def firstP (p:Plan):List Int:=p.Nodes.map fun n=>if n.Kind=4 then 1 else 0
structure Sta where
 Cars:List Car
 Points:List Int
 deriving DecidableEq,Inhabited
def Srt (l:List Car):Prop:=(l.map (·.Name)).Pairwise (· < ·)
def lastM (c:Car):Move:=c.Way.getLast?.getD default
def endB (s:LSet) (c:Car) (m:Move):Bool:=decide (c.Way≠[])&& !follB s.Plan (lastM c) m
end Go.Tram.Lk
end
section
namespace Go.Tram.Lk
open Go.AM Go.Proofs
theorem c_lwithin (x lo hi:Int):PureCall Tryz.prog 78 [I x,I lo,I hi] (Bo (inr x lo hi)):=by
 refine PureCall.of_body Tryz.func78 rfl (by decide) (by simp[Tryz.ntmps78]) ?_;simp only[Tryz.ntmps78,Tryz.results78];refine aS fun K hK=>?_;simp -dsimp;apply hK;clear hK K;refine aS fun K hK=>?_;simp -dsimp;apply hK;clear hK K;exact awp_ret (by simp_all [inr])
end Go.Tram.Lk
end
section
namespace Go.Tram.Lk
open Go.AM Go.Proofs
abbrev Kvs:=List (List KC×Value)
def rulesA (s:LSet) (fo si up:Kvs) (x y:AV):List AV:=s.cells++[.mpc true [.i .i64, .i .i64, .i .i64, .i .i64] fo, .mpc false [.i .i64] si, .mpc true [.i .i64, .b] up,x,y]
end Go.Tram.Lk
end
section
namespace Go.Tram.Lk
open Go.AM Go.Proofs
abbrev tB:Value:= .bool true
abbrev kI (a:Int):List KC:=[.i .i64 a]
abbrev kF (a x b y:Int):List KC:=[.i .i64 a, .i .i64 x, .i .i64 b, .i .i64 y]
abbrev kM (m:Move):List KC:=[.i .i64 m.Rail, .b m.Back]
def foPut (kv:Kvs) (f:Foul):Kvs:=kvSet (kvSet kv (kF f.RailA f.ProfileA f.RailB f.ProfileB) tB) (kF f.RailB f.ProfileB f.RailA f.ProfileA) tB
def foTo (l:List Foul) (n:Nat):Kvs:=(l.take n).foldl foPut []
theorem foTo_succ {l:List Foul} {n:Nat} {f:Foul} (h:l[n]?=some f):foTo l (n+1)=foPut (foTo l n) f:=by
 unfold foTo;rw[List.take_add_one,h];simp
def sgA (l:List (List Move)) (i:Nat):List (Nat×Move):=(List.range i).flatMap fun j=>(l[j]?.getD []).map fun m=>(j,m)
def sgK (l:List (List Move)) (i k:Nat):List (Nat×Move):=((l[i]?.getD []).take k).map fun m=>(i,m)
theorem sgA_succ (l:List (List Move)) (i:Nat) {x:List Move} (h:l[i]?=some x):sgA l (i+1)=sgA l i++sgK l i x.length:=by
 unfold sgA sgK;rw[List.range_succ,List.flatMap_append];simp[h]
theorem sgK_succ (l:List (List Move)) (i k:Nat) {x:List Move} {m:Move} (h:l[i]?=some x) (hm:x[k]?=some m):sgK l i (k+1)=sgK l i k++[(i,m)]:=by
 unfold sgK;rw[h];simp[List.take_add_one,hm]
def siPut (kv:Kvs) (p:Nat×Move):Kvs:=kvSet kv (kI p.2.Rail) (.int .i64 p.1)
def upPut (kv:Kvs) (p:Nat×Move):Kvs:=kvSet kv (kM p.2) tB
def siOf (ps:List (Nat×Move)):Kvs:=ps.foldl siPut []
def upOf (ps:List (Nat×Move)):Kvs:=ps.foldl upPut []
theorem siOf_snoc (ps:List (Nat×Move)) (p:Nat×Move):siOf (ps++[p])=kvSet (siOf ps) (kI p.2.Rail) (.int .i64 p.1):=by simp[siOf,siPut]
theorem upOf_snoc (ps:List (Nat×Move)) (p:Nat×Move):upOf (ps++[p])=kvSet (upOf ps) (kM p.2) tB:=by simp[upOf,upPut]
theorem si_none {r:Int}:∀(ps:List (Nat×Move)) (kv:Kvs),(∀p∈ps,p.2.Rail≠r)→kvGet (ps.foldl siPut kv) (kI r)=kvGet kv (kI r)
 |[],kv,_=>rfl
 |p::ps,kv,h=>by
  rw[List.foldl_cons,si_none ps _ fun q hq=>h q (by simp[hq])];unfold siPut;rw[kvGet_set,if_neg];intro e;have:=h p (by simp);simp at e;exact this e.symm
theorem sgA_flat:∀(l:List (List Move)),(sgA l l.length).map (·.2)=l.flatten:=by
 intro l;unfold sgA;rw[List.map_flatMap];have:∀n,n≤l.length→(List.range n).flatMap (fun j=>((l[j]?.getD []).map fun m=>(j,m)).map (·.2))=(l.take n).flatten:=by
  intro n
  induction n with
  |zero=>intro _;rfl
  |succ n ih=>
   intro hn;rw[List.range_succ,List.flatMap_append,ih (by omega),List.take_add_one,List.flatten_append];have hnl:n<l.length:=by omega
   simp[List.getElem?_eq_getElem hnl,Function.comp_def]
 rw[this _ (Nat.le_refl _),List.take_length]
theorem sgA_mem {l:List (List Move)} {n:Nat} {p:Nat×Move}:p∈sgA l n↔p.1<n∧∃x,l[p.1]?=some x∧p.2∈x:=by
 obtain⟨i,m⟩:=p;unfold sgA;simp only[List.mem_flatMap,List.mem_range,List.mem_map,Prod.mk.injEq];constructor
 ·rintro⟨j,hj,m',hm,rfl,rfl⟩;refine⟨hj,?_⟩
  cases h:l[j]? with
  |none=>rw[h]at hm;simp at hm
  |some x=>rw[h]at hm;exact⟨x,rfl,by simpa using hm⟩
 ·rintro⟨h1,x,hx,hm⟩;exact⟨i,h1,m,by rw[hx];exact hm,rfl,rfl⟩
def sgOk (p:Plan) (ps:List (Nat×Move)):Prop:=(∀q∈ps,movB p q.2=true)∧(ps.map (·.2.Rail)).Nodup
theorem sngB_iff {p:Plan} {l:List (List Move)}:sngB p l=true↔(∀x∈l,1≤x.length∧x.length≤100)∧sgOk p (sgA l l.length):=by
 unfold sngB sgOk;have e1:(sgA l l.length).map (·.2.Rail)=l.flatten.map (·.Rail):=by rw[←sgA_flat,List.map_map];rfl
 rw[e1];simp only[Bool.and_eq_true,List.all_eq_true,decide_eq_true_eq,inr_iff];have e2:(∀q∈sgA l l.length,movB p q.2=true)↔∀x∈l.flatten,movB p x=true:=by
  rw[←sgA_flat];simp only[List.mem_map];exact⟨fun h x ⟨q,hq,e⟩=>e▸h q hq,fun h q hq=>h _ ⟨q,hq,rfl⟩⟩
 rw[e2];constructor
 ·rintro⟨h1,h2,h3⟩;exact⟨fun x hx=>by have:=h1 x hx;omega,h2,h3⟩
 ·rintro⟨h1,h2,h3⟩;exact⟨fun x hx=>by have:=h1 x hx;omega,h2,h3⟩
theorem sg_bad {p:Plan} {l:List (List Move)} (h:sngB p l=true) {i k:Nat} {x:List Move} {m:Move} (hx:l[i]?=some x) (hm:x[k]?=some m):(kvGet (siOf (sgA l i++sgK l i k)) (kI m.Rail)).isSome=false∧movB p m=true:=by
 obtain⟨_,h1,h2⟩:=sngB_iff.1 h;have hi:=(List.getElem?_eq_some_iff.1 hx).1;have hp:(i,m)∈sgA l l.length:=sgA_mem.2 ⟨hi,x,hx,List.mem_of_getElem? hm⟩;refine⟨?_,h1 _ hp⟩;unfold siOf;rw[si_none]
 ·rfl
 have gen:∀n,i<n→∃rest,sgA l n=(sgA l i++sgK l i k)++(i,m)::rest:=by
  intro n
  induction n with
  |zero=>intro h;omega
  | succ n ih=>
   intro hn
   by_cases e:i=n
   ·subst e;refine⟨(x.drop (k+1)).map fun m=>(i,m),?_⟩;rw[sgA_succ l i hx];have:sgK l i x.length=sgK l i k++(i,m)::(x.drop (k+1)).map fun m=>(i,m):=by
     unfold sgK;rw[hx];simp only[Option.getD_some,List.take_length];have hk:=(List.getElem?_eq_some_iff.1 hm);obtain⟨hk1,hk2⟩:=hk
     conv=>lhs;rw[←List.take_append_drop k x,List.drop_eq_getElem_cons hk1,hk2]
     simp
    rw[this,List.append_assoc]
   ·obtain⟨rest,hr⟩:=ih (by omega);refine⟨rest++(l[n]?.getD []).map fun m=>(n,m),?_⟩;unfold sgA at hr ⊢;rw[List.range_succ,List.flatMap_append,hr];simp
 obtain⟨rest,hr⟩:=gen l.length hi;rw[hr,List.map_append,List.map_cons,List.nodup_append]at h2;intro q hq e;exact h2.2.2 _ (List.mem_map_of_mem (f:=(·.2.Rail)) hq) _ (by simp) e
abbrev KT4:List KT:=[.i .i64, .i .i64, .i .i64, .i .i64]
abbrev KTM:List KT:=[.i .i64, .b]
abbrev KTMM:List KT:=[.i .i64, .b, .i .i64, .b]
abbrev ruRow (s:LSet) (a b c d e:Nat):ARow:= .els 9 [s.cells++[.mp a, .mp b, .mp c, .mp d, .mp e]]
abbrev foOf (s:LSet):Kvs:=foTo (foulsL s.Plan s.Profiles) (foulsL s.Plan s.Profiles).length
abbrev sgAll (s:LSet):List (Nat×Move):=sgA s.Singles s.Singles.length
abbrev openH (s:LSet):Hp:=[some (ruRow s 1 2 3 4 5),some (.map true KT4 (foOf s)),some (.map false [.i .i64] (siOf (sgAll s))),some (.map true KTM (upOf (sgAll s))),some (.map true KTMM []),some (.map true KTMM [])]
theorem fl_len {p:Plan} {l:List Profile} (hN:p.Rails.length≤20) (h:profsB l=true):(foulsL p l).length≤100000:=by
 have hl:l.length≤6:=by simp only[profsB,Bool.and_eq_true,decide_eq_true_eq]at h;exact h.2.1
 have h1:=fA_len p l p.Rails.length;have h2:p.Rails.length*(l.length*(p.Rails.length*l.length))≤20*(6*(20*6)):=Nat.mul_le_mul hN (Nat.mul_le_mul hl (Nat.mul_le_mul hN hl));unfold foulsL;omega
theorem m_open_t (s:LSet) (h:setB s=true) (hN:s.Plan.Rails.length≤20):MutCall Tryz.prog 68 [s.av] [] [] (.tup [.ptr 0 0 0,Bo true]) [] (openH s):=by
 have h0:validB s.Plan=true∧profsB s.Profiles=true∧s.Singles.length≤30∧sngB s.Plan s.Singles=true:=by simpa [setB]using h
 obtain⟨hv,hp,hsn,hsb⟩:=h0;have hck:=c_Check s.Plan;rw[hv,if_pos rfl]at hck;have hfo:=c_Fouls_20 s.Plan s.Profiles hv hp hN;have hfl:=fl_len hN hp;have hR:s.Plan.Rails.length≤400:=(valid_parts hv).2.1.2;unfold openH foOf;generalize foulsL s.Plan s.Profiles=fl at hfo hfl;refine MutCall.of_bodyG [] Tryz.func68 rfl (by decide) (by simp[Tryz.ntmps68]) rfl rfl ?_;intro J hJ;simp only[Tryz.ntmps68,Tryz.results68];refine gS fun K hK=>?_;simp -dsimp;apply hK;clear hK K;refine gwp_seq_k fun K1 hK1=>?_;refine gS fun K hK=>?_;simp -dsimp;refine callK_intro _ (hck) (by simp) ?_;simp -dsimp;apply hK;clear hK K;refine gwp_cond rfl (fun hc0=>?_) (fun hc0=>?_)
 ·exfalso;simp at hc0;omega
 ·refine gwp_skip ?_;simp only[zT,reduceIte,Nat.reduceEqDiff];refine hK1 _ _ ?_;refine gwp_prune [1] (Or.inr (by simp)) ?_;simp only[zP,Nat.reduceEqDiff,reduceIte];refine gS fun K hK=>?_;simp -dsimp;refine callK_intro _ (hfo) (by simp) ?_;simp -dsimp;apply hK;clear hK K;refine gwp_seq_k fun K2 hK2=>?_;refine gS fun K hK=>?_;simp -dsimp;apply hK;clear hK K;refine gwp_cond rfl (fun hc1=>?_) (fun hc1=>?_)
  ·simp at hc1
  ·refine gwp_skip ?_;simp only[zT,reduceIte,Nat.reduceEqDiff];refine hK2 _ _ ?_;refine gwp_prune [1,4] (Or.inr (by simp)) ?_;simp only[zP,Nat.reduceEqDiff,reduceIte];refine gS fun K hK=>?_;simp -dsimp;apply hK;clear hK K;refine gwp_seq_k fun K3 hK3=>?_;refine gS fun K hK=>?_;simp -dsimp;apply hK;clear hK K;refine gwp_block ?_;refine gwp_prune [1,6,43,44,45] (Or.inr (by simp)) ?_;simp only[zP,Nat.reduceEqDiff,reduceIte];refine gwp_loop_l [1,6,43,44] (α:=Nat) (fun k=>[(45,I k)]) (fun k=>[some (.els 4 [s.cells]),some (.map true KT4 (foTo fl k)),some (.map false [.i .i64] []),some (.map true KTM []),some (.map true KTMM []),some (.map true KTMM []),some (ruRow s 1 2 3 4 5)]) (fun k=>k≤fl.length) (fun k=>fl.length-k) 0 ?_ ?_ ?_
   ·exact Nat.zero_le _
   ·exact gsub (sub_rb [some 0,some 1,some 2,some 3,some 4,some 5,some 6] rfl (by simp) (by simp[foTo])) (by simp)
   rintro k k1;simp only[zP,Nat.reduceEqDiff,reduceIte];refine gS fun K hK=>?_;simp -dsimp;apply hK;clear hK K;refine gwp_seq_k fun K4 hK4=>?_;refine gwp_cond rfl (fun hc2=>?_) (fun hc2=>?_)
   ·skip
    try simp at hc2
    obtain⟨f,hf⟩:∃f,fl[k]?=some f:=⟨_,List.getElem?_eq_getElem (by simpa using hc2)⟩;have wk:=zW k (by omega);have hs1:=foTo_succ hf;refine gwp_skip ?_;simp only[zT,reduceIte,Nat.reduceEqDiff];refine hK4 _ _ ?_;refine gwp_prune [1,6,43,44,45] (Or.inr (by simp)) ?_;simp only[zP,Nat.reduceEqDiff,reduceIte];refine gwp_seq_k fun K5 hK5=>?_;refine gwp_block ?_;refine gS fun K hK=>?_;simp -dsimp [hf];apply hK;clear hK K;refine gwp_sd mixed rfl (by decide) rfl rfl fun K hK=>?_;simp -dsimp;refine hK _ _ _ (by decide+kernel) ?_;clear hK K;refine gwp_draw mixed rfl (by decide) rfl rfl fun K hK=>?_;simp -dsimp;refine hK _ _ _ (by decide+kernel) ?_;clear hK K;simp only[zT,reduceIte,Nat.reduceEqDiff];refine hK5 _ _ ?_;refine gwp_prune [1,6,43,44,45] (Or.inr (by simp)) ?_;simp only[zP,Nat.reduceEqDiff,reduceIte];refine gR fun K hK=>?_;simp -dsimp [wk];apply hK;clear hK K;simp only[zT,reduceIte,Nat.reduceEqDiff];exact⟨k+1,by have:=(List.getElem?_eq_some_iff.1 hf).1;omega,by have:=(List.getElem?_eq_some_iff.1 hf).1;omega,gsub (sub_rb [some 0,some 1,some 2,some 3,some 4,some 5,some 6] rfl (by simp) (by simp[hs1,foPut])) (by simp)⟩
   ·skip
    try simp at hc2
    have hke:k=fl.length:=by have:¬k<fl.length:=(by simpa using hc2);omega
    subst hke;refine gwp_exit ?_;simp only[zT,reduceIte,Nat.reduceEqDiff];refine hK3 _ _ ?_;refine gwp_prune [1,6] (Or.inr (by simp)) ?_;simp only[zP,Nat.reduceEqDiff,reduceIte];refine gwp_seq_k fun K6 hK6=>?_;refine gS fun K hK=>?_;simp -dsimp;apply hK;clear hK K;refine gwp_block ?_;refine gwp_prune [1,6,77,78,79] (Or.inr (by simp)) ?_;simp only[zP,Nat.reduceEqDiff,reduceIte];refine gwp_loop_l [1,6,77,78] (α:=Nat) (fun i=>[(79,I i)]) (fun i=>[some (.els 4 [s.cells]),some (.map true KT4 (foTo fl fl.length)),some (.map false [.i .i64] (siOf (sgA s.Singles i))),some (.map true KTM (upOf (sgA s.Singles i))),some (.map true KTMM []),some (.map true KTMM []),some (ruRow s 1 2 3 4 5)]) (fun i=>i≤s.Singles.length) (fun i=>s.Singles.length-i) 0 ?_ ?_ ?_
    ·exact Nat.zero_le _
    ·exact gsub (sub_rb [some 0,some 1,some 2,some 3,some 4,some 5,some 6] rfl (by simp) (by simp[sgA,siOf,upOf])) (by simp)
    rintro i i1;simp only[zP,Nat.reduceEqDiff,reduceIte];refine gS fun K hK=>?_;simp -dsimp;apply hK;clear hK K;refine gwp_seq_k fun K7 hK7=>?_;refine gwp_cond rfl (fun hc3=>?_) (fun hc3=>?_)
    ·skip
     try simp at hc3
     obtain⟨x,hx⟩:∃x,s.Singles[i]?=some x:=⟨_,List.getElem?_eq_getElem (by simpa using hc3)⟩;have wi:=zW i (by omega);have hsx:=sgA_succ s.Singles i hx;have hxl:1≤x.length∧x.length≤100:=(sngB_iff.1 hsb).1 x (List.mem_of_getElem? hx);refine gwp_skip ?_;simp only[zT,reduceIte,Nat.reduceEqDiff];refine hK7 _ _ ?_;refine gwp_prune [1,6,77,78,79] (Or.inr (by simp)) ?_;simp only[zP,Nat.reduceEqDiff,reduceIte];refine gwp_seq_k fun K8 hK8=>?_;refine gwp_block ?_;refine gS fun K hK=>?_;simp -dsimp [hx];apply hK;clear hK K;refine gwp_seq_k fun K9 hK9=>?_;refine gS fun K hK=>?_;simp -dsimp [hx];refine callK_intro _ (c_lwithin x.length 1 100) (by simp) ?_;simp -dsimp [hx];apply hK;clear hK K;refine gwp_cond rfl (fun hc4=>?_) (fun hc4=>?_)
     ·exfalso;simp[inr]at hc4;omega
     ·refine gwp_skip ?_;simp only[zT,reduceIte,Nat.reduceEqDiff];refine hK9 _ _ ?_;refine gwp_prune [1,6,9,10,77,78,79] (Or.inr (by simp)) ?_;simp only[zP,Nat.reduceEqDiff,reduceIte];refine gS fun K hK=>?_;simp -dsimp;apply hK;clear hK K;refine gwp_block ?_;refine gwp_prune [1,6,9,77,78,79,90,91,92] (Or.inr (by simp)) ?_;simp only[zP,Nat.reduceEqDiff,reduceIte];refine gwp_loop_l [1,6,9,77,78,79,90,91] (α:=Nat) (fun k=>[(92,I k)]) (fun k=>[some (.els 4 [s.cells]),some (.map true KT4 (foTo fl fl.length)),some (.map false [.i .i64] (siOf (sgA s.Singles i++sgK s.Singles i k))),some (.map true KTM (upOf (sgA s.Singles i++sgK s.Singles i k))),some (.map true KTMM []),some (.map true KTMM []),some (ruRow s 1 2 3 4 5)]) (fun k=>k≤x.length) (fun k=>x.length-k) 0 ?_ ?_ ?_
      ·exact Nat.zero_le _
      ·exact gsub (sub_rb [some 0,some 1,some 2,some 3,some 4,some 5,some 6] rfl (by simp) (by simp[sgK])) (by simp)
      rintro k k1;simp only[zP,Nat.reduceEqDiff,reduceIte];refine gS fun K hK=>?_;simp -dsimp;apply hK;clear hK K;refine gwp_seq_k fun K10 hK10=>?_;refine gwp_cond rfl (fun hc5=>?_) (fun hc5=>?_)
      ·skip
       try simp at hc5
       obtain⟨m,hm⟩:∃m,x[k]?=some m:=⟨_,List.getElem?_eq_getElem (by simpa using hc5)⟩;have wk:=zW k (by omega);have wr:IntKind.i64.wrap ((s.Plan.Rails.length:Int)-1)=(s.Plan.Rails.length:Int)-1:=wrap_in (by omega) (by omega);have hsk:=sgK_succ s.Singles i k hx hm;obtain⟨hmet,hmv⟩:=sg_bad hsb hx hm;have hs1:=siOf_snoc (sgA s.Singles i++sgK s.Singles i k) (i,m);have hs2:=upOf_snoc (sgA s.Singles i++sgK s.Singles i k) (i,m);rw[List.append_assoc,←hsk]at hs1 hs2;simp only at hs1 hs2;generalize siOf (sgA s.Singles i++sgK s.Singles i k)=si at hmet hs1 ⊢;generalize upOf (sgA s.Singles i++sgK s.Singles i k)=up at hs2 ⊢;have hml:inr m.Rail 0 (s.Plan.Rails.length-1)=true:=hmv;refine gwp_skip ?_;simp only[zT,reduceIte,Nat.reduceEqDiff];refine hK10 _ _ ?_;refine gwp_prune [1,6,9,77,78,79,90,91,92] (Or.inr (by simp)) ?_;simp only[zP,Nat.reduceEqDiff,reduceIte];refine gwp_seq_k fun K11 hK11=>?_;refine gwp_block ?_;refine gS fun K hK=>?_;simp -dsimp [hm];apply hK;clear hK K;refine gwp_seq_k fun K12 hK12=>?_;refine gwp_sd mixed rfl (by decide) rfl rfl fun K hK=>?_;simp -dsimp;refine valK_intro (.tup [.v ((kvGet si (kI m.Rail)).getD (.int .i64 0)),Bo false]) (fun hm=>by rw[hmet]) ?_;simp -dsimp;refine hK _ _ _ (by decide+kernel) ?_;clear hK K;refine gS fun K hK=>?_;simp -dsimp [wr];refine callK_may _ (fun hm=>c_lwithin m.Rail 0 (s.Plan.Rails.length-1)) (by simp) ?_;simp -dsimp [wr];apply hK;clear hK K;refine gwp_cond rfl (fun hc6=>?_) (fun hc6=>?_)
       ·exfalso;simp[hmet,hml]at hc6
       ·refine gwp_skip ?_;simp only[zT,reduceIte,Nat.reduceEqDiff];refine hK12 _ _ ?_;refine gwp_prune [1,6,9,12,77,78,79,90,91,92] (Or.inr (by simp)) ?_;simp only[zP,Nat.reduceEqDiff,reduceIte];refine gwp_sd mixed rfl (by decide) rfl rfl fun K hK=>?_;simp -dsimp;refine hK _ _ _ (by decide+kernel) ?_;clear hK K;refine gwp_draw mixed rfl (by decide) rfl rfl fun K hK=>?_;simp -dsimp;refine hK _ _ _ (by decide+kernel) ?_;clear hK K;simp only[zT,reduceIte,Nat.reduceEqDiff];refine hK11 _ _ ?_;refine gwp_prune [1,6,9,77,78,79,90,91,92] (Or.inr (by simp)) ?_;simp only[zP,Nat.reduceEqDiff,reduceIte];refine gR fun K hK=>?_;simp -dsimp [wk];apply hK;clear hK K;simp only[zT,reduceIte,Nat.reduceEqDiff];exact⟨k+1,by have:=(List.getElem?_eq_some_iff.1 hm).1;omega,by have:=(List.getElem?_eq_some_iff.1 hm).1;omega,gsub (sub_rb [some 0,some 1,some 2,some 3,some 4,some 5,some 6] rfl (by simp) (by simp[hs1,hs2])) (by simp)⟩
      ·skip
       try simp at hc5
       have hke:k=x.length:=by have:¬k<x.length:=(by simpa using hc5);omega
       subst hke;refine gwp_exit ?_;simp only[zT,reduceIte,Nat.reduceEqDiff];refine hK8 _ _ ?_;refine gwp_prune [1,6,77,78,79] (Or.inr (by simp)) ?_;simp only[zP,Nat.reduceEqDiff,reduceIte];refine gR fun K hK=>?_;simp -dsimp [wi];apply hK;clear hK K;simp only[zT,reduceIte,Nat.reduceEqDiff];exact⟨i+1,by have:=(List.getElem?_eq_some_iff.1 hx).1;omega,by have:=(List.getElem?_eq_some_iff.1 hx).1;omega,gsub (sub_rb [some 0,some 1,some 2,some 3,some 4,some 5,some 6] rfl (by simp) (by simp[hsx])) (by simp)⟩
    ·skip
     try simp at hc3
     have hie:i=s.Singles.length:=by have:¬i<s.Singles.length:=(by simpa using hc3);omega
     subst hie;refine gwp_exit ?_;simp only[zT,reduceIte,Nat.reduceEqDiff];refine hK6 _ _ ?_;refine gwp_prune [6] (Or.inr (by simp)) ?_;simp only[zP,Nat.reduceEqDiff,reduceIte];refine gS fun K hK=>?_;simp -dsimp;apply hK;clear hK K;exact gwp_ret ⟨[some 6,some 1,some 2,some 3,some 4,some 5],rfl,by simp,by simp,by simp,by simp[resP,tupOf]⟩
end Go.Tram.Lk
end
section
namespace Go.Tram.Lk
open Go.AM
abbrev kOf (n:Int):List KC:=[.i .i64 n]
def carsK (l:List Car):List (List KC×AV):=l.map fun c=>(kOf c.Name,c.av)
abbrev carRow (l:List Car):ARow:= .mpa false [.i .i64] (carsK l)
theorem srt_nodup {l:List Car} (h:Srt l):(l.map (·.Name)).Nodup:=by
 unfold Srt at h;exact h.imp (fun h=>by omega)
end Go.Tram.Lk
end
section
namespace Go.Tram.Lk
open Go.AM
theorem setB_parts {s:LSet} (h:setB s=true):validB s.Plan=true∧profsB s.Profiles=true∧s.Singles.length≤30∧sngB s.Plan s.Singles=true:=by
 simpa [setB]using h
end Go.Tram.Lk
end
section
namespace Go.Tram.Lk
open Go.AM Go.Proofs
theorem splitP {P : Program} {f : FuncId} {fn : Func} {c : Code} {x : AV} {rest : List AV} {res : AV} (hf : P.funcs[f]? = some fn) (hb : fn.body = some c) (hname : (fn.name == "runtime.NumGoroutine") = false)
  (h:∀(w:World) (S:Nat→Prop) (y:Value),RepP w S x y→∃x',RepP w S x' y∧PureCall P f (x'::rest) res):PureCall P f (x::rest) res:=by
 have hn' : ¬ fn.name = "runtime.NumGoroutine" := by simpa using hname
 have hcf:∀(w:World) (vs:Array Value),(callFunc f vs).run P w= .ok (.enter f vs) w:=fun w vs=>by simp[callFunc,hf,hn',hb]
 refine Or.inl ⟨hcf,?_⟩;intro S0 w vs hlow hl hrep
 match vs,hl with
 | y::vs,hl=>
  obtain⟨x',hx',hp⟩:=h w S0 y (hrep 0 x y rfl rfl);have hrep':∀(i:Nat) c z,(x'::rest)[i]?=some c→(y::vs)[i]?=some z→RepP w S0 c z:=by
   intro i c z h1 h2
   cases i with
   |zero=>simp only[List.getElem?_cons_zero,Option.some.injEq]at h1 h2;subst h1 h2;exact hx'
   |succ i=>exact hrep (i+1) c z (by simpa using h1) h2
  rcases hp with⟨_,h2⟩|h2
  ·exact h2 S0 w (y::vs) hlow (by simpa using hl) hrep'
  ·obtain⟨v,h3,_⟩:=h2 S0 w (y::vs) (by simpa using hl) hrep';rw[hcf]at h3;cases h3
theorem eqgS (op:BinOp) (t:TypeId) (x y:Operand) (a b:Option Addr) (n c m d:Nat) (w:World):(eqGuard op t x y (.slice a n c) (.slice b m d)).run Tryz.prog w= .ok () w:=by
 cases op<;>simp[eqGuard]
theorem eqSn (t e:TypeId) (hu:(Tryz.prog).underlying t=some (.slice e)) (a:Option Addr) (n c:Nat) (w:World):(binOp .eql t (.slice a n c) (.slice none 0 0)).run Tryz.prog w= .ok (.bool a.isNone) w:=by
 have hq:(Op.equal t (.slice a n c) (.slice none 0 0)).run Tryz.prog w= .ok a.isNone w:=by
  show(Op.equalIn (Op.maxDepth-1+1) t _ _).run _ w=_
  cases a<;>simp[Op.equalIn,run_underlying hu]
 simp[binOp,hq]
theorem lst0 {w:World} {S:Nat→Prop} {sz:Nat} {y:Value} (h:RepP w S (.lst sz []) y):∃a cap,y= .slice a 0 cap:=by
 cases h with
 |lst _ _ b off cap=>exact⟨_,cap,rfl⟩
 |lstNil _ a cap=>exact⟨a,cap,rfl⟩
theorem nilL {w:World} {S:Nat→Prop} {sz:Nat} {y:Value} (h:RepP w S (.v (.slice none 0 0)) y):RepP w S (.lst sz []) y:=by
 cases h;exact .lstNil _ _ _
theorem fullL {w:World} {S:Nat→Prop} {sz:Nat} {y:Value} (h:RepP w S (.full sz []) y):RepP w S (.lst sz []) y:=by
 cases h;exact .lstNil _ _ _
@[simp] theorem slM:sliceB Tryz.prog 49=true:=by kernel_rfl
@[simp] theorem slPf:sliceB Tryz.prog 26=true:=by kernel_rfl
@[simp] theorem slSg:sliceB Tryz.prog 27=true:=by kernel_rfl
@[simp] theorem slNd:sliceB Tryz.prog 22=true:=by kernel_rfl
@[simp] theorem slRl:sliceB Tryz.prog 23=true:=by kernel_rfl
@[simp] theorem slEn:sliceB Tryz.prog 150=true:=by kernel_rfl
@[simp] theorem slSp:sliceB Tryz.prog 114=true:=by kernel_rfl
@[simp] theorem slIn:sliceB Tryz.prog 41=true:=by kernel_rfl
theorem usM:(Tryz.prog).underlying 49=some (.slice 56):=by kernel_rfl
theorem usPf:(Tryz.prog).underlying 26=some (.slice 77):=by kernel_rfl
theorem usSg:(Tryz.prog).underlying 27=some (.slice 156):=by kernel_rfl
theorem usEn:(Tryz.prog).underlying 150=some (.slice 213):=by kernel_rfl
theorem usSp:(Tryz.prog).underlying 114=some (.slice 117):=by kernel_rfl
theorem c_ClM (l:List Move) (hn:l.length≤1000):PureCall Tryz.prog 76 [.lst 2 (l.map Move.cells)] (.lst 2 (l.map Move.cells)):=by
 by_cases hne:l=[]
 ·subst hne;refine splitP Tryz.func76 rfl (by decide) fun w S y hy=>?_;obtain⟨a,cap,rfl⟩:=lst0 hy;refine⟨.v (.slice a 0 cap), .v _,?_⟩
  cases a with
  |none=>
   refine PureCall.res (res:= .v (.slice none 0 0)) ?_ fun w S y=>nilL;refine PureCall.of_body Tryz.func76 rfl (by decide) (by simp[Tryz.ntmps76]) ?_;simp only[Tryz.ntmps76,Tryz.results76];refine aS fun K hK=>?_;simp -dsimp;apply hK;clear hK K;refine awp_seq_k fun K1 hK1=>?_;refine aS fun K hK=>?_;simp -dsimp;apply hK;clear hK K;refine awp_cond rfl (fun hc0=>?_) (fun hc0=>?_)
   ·refine aS fun K hK=>?_;simp -dsimp;apply hK;clear hK K;exact awp_ret (by simp)
   ·simp at hc0
  |some a=>
   refine PureCall.res (res:= .full 2 []) ?_ fun w S y=>fullL;refine PureCall.of_body Tryz.func76 rfl (by decide) (by simp[Tryz.ntmps76]) ?_;simp only[Tryz.ntmps76,Tryz.results76];refine aS fun K hK=>?_;simp -dsimp;apply hK;clear hK K;refine awp_seq_k fun K1 hK1=>?_;refine aS fun K hK=>?_;simp -dsimp;refine⟨fun w=>eqgS _ _ _ _ _ _ _ _ _ _ w,_,fun w=>eqSn _ _ usM _ _ _ w,?_⟩;simp -dsimp;apply hK;clear hK K;refine awp_cond rfl (fun hc0=>?_) (fun hc0=>?_)
   ·simp at hc0
   ·refine awp_skip ?_;simp only[zT,reduceIte,Nat.reduceEqDiff];refine hK1 _ _ ?_;refine awp_prune [0] ?_;simp only[zP,Nat.reduceEqDiff,reduceIte];refine aS fun K hK=>?_;simp -dsimp;apply hK;clear hK K;exact awp_ret (by simp)
 ·have f1:Fits l.length 17:=fits_of (by omega) (by omega);refine PureCall.of_body Tryz.func76 rfl (by decide) (by simp[Tryz.ntmps76]) ?_;simp only[Tryz.ntmps76,Tryz.results76];refine aS fun K hK=>?_;simp -dsimp;apply hK;clear hK K;refine awp_seq_k fun K1 hK1=>?_;refine aS fun K hK=>?_;simp -dsimp [hne];apply hK;clear hK K;refine awp_cond rfl (fun hc0=>?_) (fun hc0=>?_)
  ·simp at hc0
  ·refine awp_skip ?_;simp only[zT,reduceIte,Nat.reduceEqDiff];refine hK1 _ _ ?_;refine awp_prune [0] ?_;simp only[zP,Nat.reduceEqDiff,reduceIte];refine aS fun K hK=>?_;simp -dsimp [hne,f1];apply hK;clear hK K;have htk:List.take l.length (l.map Move.cells)=l.map Move.cells:=List.take_of_length_le (by simp);have hfz:∀H n,List.map ((fun e=>List.map (frzP H (n+1)) e)∘Move.cells) l=l.map Move.cells:=fun H n=>List.map_congr_left fun x _=>by simp[frzP]
   exact awp_ret (by simp[htk,hfz])
theorem c_ClPf (l:List Profile) (hn:l.length≤1000):PureCall Tryz.prog 148 [.lst 2 (l.map Profile.cells)] (.lst 2 (l.map Profile.cells)):=by
 by_cases hne:l=[]
 ·subst hne;refine splitP Tryz.func148 rfl (by decide) fun w S y hy=>?_;obtain⟨a,cap,rfl⟩:=lst0 hy;refine⟨.v (.slice a 0 cap), .v _,?_⟩
  cases a with
  |none=>
   refine PureCall.res (res:= .v (.slice none 0 0)) ?_ fun w S y=>nilL;refine PureCall.of_body Tryz.func148 rfl (by decide) (by simp[Tryz.ntmps148]) ?_;simp only[Tryz.ntmps148,Tryz.results148];refine aS fun K hK=>?_;simp -dsimp;apply hK;clear hK K;refine awp_seq_k fun K1 hK1=>?_;refine aS fun K hK=>?_;simp -dsimp;apply hK;clear hK K;refine awp_cond rfl (fun hc0=>?_) (fun hc0=>?_)
   ·refine aS fun K hK=>?_;simp -dsimp;apply hK;clear hK K;exact awp_ret (by simp)
   ·simp at hc0
  |some a=>
   refine PureCall.res (res:= .full 2 []) ?_ fun w S y=>fullL;refine PureCall.of_body Tryz.func148 rfl (by decide) (by simp[Tryz.ntmps148]) ?_;simp only[Tryz.ntmps148,Tryz.results148];refine aS fun K hK=>?_;simp -dsimp;apply hK;clear hK K;refine awp_seq_k fun K1 hK1=>?_;refine aS fun K hK=>?_;simp -dsimp;refine⟨fun w=>eqgS _ _ _ _ _ _ _ _ _ _ w,_,fun w=>eqSn _ _ usPf _ _ _ w,?_⟩;simp -dsimp;apply hK;clear hK K;refine awp_cond rfl (fun hc0=>?_) (fun hc0=>?_)
   ·simp at hc0
   ·refine awp_skip ?_;simp only[zT,reduceIte,Nat.reduceEqDiff];refine hK1 _ _ ?_;refine awp_prune [0] ?_;simp only[zP,Nat.reduceEqDiff,reduceIte];refine aS fun K hK=>?_;simp -dsimp;apply hK;clear hK K;exact awp_ret (by simp)
 ·have f1:Fits l.length 17:=fits_of (by omega) (by omega);refine PureCall.of_body Tryz.func148 rfl (by decide) (by simp[Tryz.ntmps148]) ?_;simp only[Tryz.ntmps148,Tryz.results148];refine aS fun K hK=>?_;simp -dsimp;apply hK;clear hK K;refine awp_seq_k fun K1 hK1=>?_;refine aS fun K hK=>?_;simp -dsimp [hne];apply hK;clear hK K;refine awp_cond rfl (fun hc0=>?_) (fun hc0=>?_)
  ·simp at hc0
  ·refine awp_skip ?_;simp only[zT,reduceIte,Nat.reduceEqDiff];refine hK1 _ _ ?_;refine awp_prune [0] ?_;simp only[zP,Nat.reduceEqDiff,reduceIte];refine aS fun K hK=>?_;simp -dsimp [hne,f1];apply hK;clear hK K;have htk:List.take l.length (l.map Profile.cells)=l.map Profile.cells:=List.take_of_length_le (by simp);have hfz:∀H n,List.map ((fun e=>List.map (frzP H (n+1)) e)∘Profile.cells) l=l.map Profile.cells:=fun H n=>List.map_congr_left fun x _=>by simp[frzP]
   exact awp_ret (by simp[htk,hfz])
theorem c_ClSg (l:List (List Move)) (hn:l.length≤1000):PureCall Tryz.prog 149 [.lst 1 (l.map sngCells)] (.lst 1 (l.map sngCells)):=by
 by_cases hne:l=[]
 ·subst hne;refine splitP Tryz.func149 rfl (by decide) fun w S y hy=>?_;obtain⟨a,cap,rfl⟩:=lst0 hy;refine⟨.v (.slice a 0 cap), .v _,?_⟩
  cases a with
  |none=>
   refine PureCall.res (res:= .v (.slice none 0 0)) ?_ fun w S y=>nilL;refine PureCall.of_body Tryz.func149 rfl (by decide) (by simp[Tryz.ntmps149]) ?_;simp only[Tryz.ntmps149,Tryz.results149];refine aS fun K hK=>?_;simp -dsimp;apply hK;clear hK K;refine awp_seq_k fun K1 hK1=>?_;refine aS fun K hK=>?_;simp -dsimp;apply hK;clear hK K;refine awp_cond rfl (fun hc0=>?_) (fun hc0=>?_)
   ·refine aS fun K hK=>?_;simp -dsimp;apply hK;clear hK K;exact awp_ret (by simp)
   ·simp at hc0
  |some a=>
   refine PureCall.res (res:= .full 1 []) ?_ fun w S y=>fullL;refine PureCall.of_body Tryz.func149 rfl (by decide) (by simp[Tryz.ntmps149]) ?_;simp only[Tryz.ntmps149,Tryz.results149];refine aS fun K hK=>?_;simp -dsimp;apply hK;clear hK K;refine awp_seq_k fun K1 hK1=>?_;refine aS fun K hK=>?_;simp -dsimp;refine⟨fun w=>eqgS _ _ _ _ _ _ _ _ _ _ w,_,fun w=>eqSn _ _ usSg _ _ _ w,?_⟩;simp -dsimp;apply hK;clear hK K;refine awp_cond rfl (fun hc0=>?_) (fun hc0=>?_)
   ·simp at hc0
   ·refine awp_skip ?_;simp only[zT,reduceIte,Nat.reduceEqDiff];refine hK1 _ _ ?_;refine awp_prune [0] ?_;simp only[zP,Nat.reduceEqDiff,reduceIte];refine aS fun K hK=>?_;simp -dsimp;apply hK;clear hK K;exact awp_ret (by simp)
 ·have f1:Fits l.length 25:=fits_of (by omega) (by omega);refine PureCall.of_body Tryz.func149 rfl (by decide) (by simp[Tryz.ntmps149]) ?_;simp only[Tryz.ntmps149,Tryz.results149];refine aS fun K hK=>?_;simp -dsimp;apply hK;clear hK K;refine awp_seq_k fun K1 hK1=>?_;refine aS fun K hK=>?_;simp -dsimp [hne];apply hK;clear hK K;refine awp_cond rfl (fun hc0=>?_) (fun hc0=>?_)
  ·simp at hc0
  ·refine awp_skip ?_;simp only[zT,reduceIte,Nat.reduceEqDiff];refine hK1 _ _ ?_;refine awp_prune [0] ?_;simp only[zP,Nat.reduceEqDiff,reduceIte];refine aS fun K hK=>?_;simp -dsimp [hne,f1];apply hK;clear hK K;have htk:List.take l.length (l.map sngCells)=l.map sngCells:=List.take_of_length_le (by simp);have hfz:∀H n,List.map ((fun e=>List.map (frzP H (n+1)) e)∘sngCells) l=l.map sngCells:=fun H n=>List.map_congr_left fun x _=>by simp[frzP]
   exact awp_ret (by simp[htk,hfz])
theorem c_ClEn (l:List REnd) (hn:l.length≤1000):PureCall Tryz.prog 152 [.lst 2 (l.map REnd.cells)] (.lst 2 (l.map REnd.cells)):=by
 by_cases hne:l=[]
 ·subst hne;refine splitP Tryz.func152 rfl (by decide) fun w S y hy=>?_;obtain⟨a,cap,rfl⟩:=lst0 hy;refine⟨.v (.slice a 0 cap), .v _,?_⟩
  cases a with
  |none=>
   refine PureCall.res (res:= .v (.slice none 0 0)) ?_ fun w S y=>nilL;refine PureCall.of_body Tryz.func152 rfl (by decide) (by simp[Tryz.ntmps152]) ?_;simp only[Tryz.ntmps152,Tryz.results152];refine aS fun K hK=>?_;simp -dsimp;apply hK;clear hK K;refine awp_seq_k fun K1 hK1=>?_;refine aS fun K hK=>?_;simp -dsimp;apply hK;clear hK K;refine awp_cond rfl (fun hc0=>?_) (fun hc0=>?_)
   ·refine aS fun K hK=>?_;simp -dsimp;apply hK;clear hK K;exact awp_ret (by simp)
   ·simp at hc0
  |some a=>
   refine PureCall.res (res:= .full 2 []) ?_ fun w S y=>fullL;refine PureCall.of_body Tryz.func152 rfl (by decide) (by simp[Tryz.ntmps152]) ?_;simp only[Tryz.ntmps152,Tryz.results152];refine aS fun K hK=>?_;simp -dsimp;apply hK;clear hK K;refine awp_seq_k fun K1 hK1=>?_;refine aS fun K hK=>?_;simp -dsimp;refine⟨fun w=>eqgS _ _ _ _ _ _ _ _ _ _ w,_,fun w=>eqSn _ _ usEn _ _ _ w,?_⟩;simp -dsimp;apply hK;clear hK K;refine awp_cond rfl (fun hc0=>?_) (fun hc0=>?_)
   ·simp at hc0
   ·refine awp_skip ?_;simp only[zT,reduceIte,Nat.reduceEqDiff];refine hK1 _ _ ?_;refine awp_prune [0] ?_;simp only[zP,Nat.reduceEqDiff,reduceIte];refine aS fun K hK=>?_;simp -dsimp;apply hK;clear hK K;exact awp_ret (by simp)
 ·have f1:Fits l.length 17:=fits_of (by omega) (by omega);refine PureCall.of_body Tryz.func152 rfl (by decide) (by simp[Tryz.ntmps152]) ?_;simp only[Tryz.ntmps152,Tryz.results152];refine aS fun K hK=>?_;simp -dsimp;apply hK;clear hK K;refine awp_seq_k fun K1 hK1=>?_;refine aS fun K hK=>?_;simp -dsimp [hne];apply hK;clear hK K;refine awp_cond rfl (fun hc0=>?_) (fun hc0=>?_)
  ·simp at hc0
  ·refine awp_skip ?_;simp only[zT,reduceIte,Nat.reduceEqDiff];refine hK1 _ _ ?_;refine awp_prune [0] ?_;simp only[zP,Nat.reduceEqDiff,reduceIte];refine aS fun K hK=>?_;simp -dsimp [hne,f1];apply hK;clear hK K;have htk:List.take l.length (l.map REnd.cells)=l.map REnd.cells:=List.take_of_length_le (by simp);have hfz:∀H n,List.map ((fun e=>List.map (frzP H (n+1)) e)∘REnd.cells) l=l.map REnd.cells:=fun H n=>List.map_congr_left fun x _=>by simp[frzP]
   exact awp_ret (by simp[htk,hfz])
theorem c_ClSp (l:List Spot) (hn:l.length≤1000):PureCall Tryz.prog 153 [.lst 2 (l.map Spot.cells)] (.lst 2 (l.map Spot.cells)):=by
 by_cases hne:l=[]
 ·subst hne;refine splitP Tryz.func153 rfl (by decide) fun w S y hy=>?_;obtain⟨a,cap,rfl⟩:=lst0 hy;refine⟨.v (.slice a 0 cap), .v _,?_⟩
  cases a with
  |none=>
   refine PureCall.res (res:= .v (.slice none 0 0)) ?_ fun w S y=>nilL;refine PureCall.of_body Tryz.func153 rfl (by decide) (by simp[Tryz.ntmps153]) ?_;simp only[Tryz.ntmps153,Tryz.results153];refine aS fun K hK=>?_;simp -dsimp;apply hK;clear hK K;refine awp_seq_k fun K1 hK1=>?_;refine aS fun K hK=>?_;simp -dsimp;apply hK;clear hK K;refine awp_cond rfl (fun hc0=>?_) (fun hc0=>?_)
   ·refine aS fun K hK=>?_;simp -dsimp;apply hK;clear hK K;exact awp_ret (by simp)
   ·simp at hc0
  |some a=>
   refine PureCall.res (res:= .full 2 []) ?_ fun w S y=>fullL;refine PureCall.of_body Tryz.func153 rfl (by decide) (by simp[Tryz.ntmps153]) ?_;simp only[Tryz.ntmps153,Tryz.results153];refine aS fun K hK=>?_;simp -dsimp;apply hK;clear hK K;refine awp_seq_k fun K1 hK1=>?_;refine aS fun K hK=>?_;simp -dsimp;refine⟨fun w=>eqgS _ _ _ _ _ _ _ _ _ _ w,_,fun w=>eqSn _ _ usSp _ _ _ w,?_⟩;simp -dsimp;apply hK;clear hK K;refine awp_cond rfl (fun hc0=>?_) (fun hc0=>?_)
   ·simp at hc0
   ·refine awp_skip ?_;simp only[zT,reduceIte,Nat.reduceEqDiff];refine hK1 _ _ ?_;refine awp_prune [0] ?_;simp only[zP,Nat.reduceEqDiff,reduceIte];refine aS fun K hK=>?_;simp -dsimp;apply hK;clear hK K;exact awp_ret (by simp)
 ·have f1:Fits l.length 17:=fits_of (by omega) (by omega);refine PureCall.of_body Tryz.func153 rfl (by decide) (by simp[Tryz.ntmps153]) ?_;simp only[Tryz.ntmps153,Tryz.results153];refine aS fun K hK=>?_;simp -dsimp;apply hK;clear hK K;refine awp_seq_k fun K1 hK1=>?_;refine aS fun K hK=>?_;simp -dsimp [hne];apply hK;clear hK K;refine awp_cond rfl (fun hc0=>?_) (fun hc0=>?_)
  ·simp at hc0
  ·refine awp_skip ?_;simp only[zT,reduceIte,Nat.reduceEqDiff];refine hK1 _ _ ?_;refine awp_prune [0] ?_;simp only[zP,Nat.reduceEqDiff,reduceIte];refine aS fun K hK=>?_;simp -dsimp [hne,f1];apply hK;clear hK K;have htk:List.take l.length (l.map Spot.cells)=l.map Spot.cells:=List.take_of_length_le (by simp);have hfz:∀H n,List.map ((fun e=>List.map (frzP H (n+1)) e)∘Spot.cells) l=l.map Spot.cells:=fun H n=>List.map_congr_left fun x _=>by simp[frzP]
   exact awp_ret (by simp[htk,hfz])
theorem o_ClSg (l:List (List Move)) (hne:l≠[]) (hn:l.length≤1000):OwnCall Tryz.prog 149 [.lst 1 (l.map sngCells)] 0 l.length 1 (l.map sngCells):=by
 have f1:Fits l.length 25:=fits_of (by omega) (by omega);refine OwnCall.of_body Tryz.func149 rfl (by decide) (by simp[Tryz.ntmps149]) (by simp) (by simpa using hne) ?_;simp only[Tryz.ntmps149,Tryz.results149];refine aS fun K hK=>?_;simp -dsimp;apply hK;clear hK K;refine awp_seq_k fun K1 hK1=>?_;refine aS fun K hK=>?_;simp -dsimp [hne];apply hK;clear hK K;refine awp_cond rfl (fun hc0=>?_) (fun hc0=>?_)
 ·simp at hc0
 ·refine awp_skip ?_;simp only[zT,reduceIte,Nat.reduceEqDiff];refine hK1 _ _ ?_;refine awp_prune [0] ?_;simp only[zP,Nat.reduceEqDiff,reduceIte];refine aS fun K hK=>?_;simp -dsimp [hne,f1];apply hK;clear hK K;exact awp_ret ⟨2,0,rfl,by simp,by simp⟩
theorem o_ClNd (l:List Node) (hne:l≠[]) (hn:l.length≤1000):OwnCall Tryz.prog 150 [.lst 5 (l.map Node.cells)] 0 l.length 5 (l.map Node.cells):=by
 have f1:Fits l.length 57:=fits_of (by omega) (by omega);refine OwnCall.of_body Tryz.func150 rfl (by decide) (by simp[Tryz.ntmps150]) (by simp) (by simpa using hne) ?_;simp only[Tryz.ntmps150,Tryz.results150];refine aS fun K hK=>?_;simp -dsimp;apply hK;clear hK K;refine awp_seq_k fun K1 hK1=>?_;refine aS fun K hK=>?_;simp -dsimp [hne];apply hK;clear hK K;refine awp_cond rfl (fun hc0=>?_) (fun hc0=>?_)
 ·simp at hc0
 ·refine awp_skip ?_;simp only[zT,reduceIte,Nat.reduceEqDiff];refine hK1 _ _ ?_;refine awp_prune [0] ?_;simp only[zP,Nat.reduceEqDiff,reduceIte];refine aS fun K hK=>?_;simp -dsimp [hne,f1];apply hK;clear hK K;exact awp_ret ⟨2,0,rfl,by simp,by simp⟩
theorem o_ClRl (l:List Rail) (hne:l≠[]) (hn:l.length≤1000):OwnCall Tryz.prog 151 [.lst 5 (l.map Rail.cells)] 0 l.length 5 (l.map Rail.cells):=by
 have f1:Fits l.length 57:=fits_of (by omega) (by omega);refine OwnCall.of_body Tryz.func151 rfl (by decide) (by simp[Tryz.ntmps151]) (by simp) (by simpa using hne) ?_;simp only[Tryz.ntmps151,Tryz.results151];refine aS fun K hK=>?_;simp -dsimp;apply hK;clear hK K;refine awp_seq_k fun K1 hK1=>?_;refine aS fun K hK=>?_;simp -dsimp [hne];apply hK;clear hK K;refine awp_cond rfl (fun hc0=>?_) (fun hc0=>?_)
 ·simp at hc0
 ·refine awp_skip ?_;simp only[zT,reduceIte,Nat.reduceEqDiff];refine hK1 _ _ ?_;refine awp_prune [0] ?_;simp only[zP,Nat.reduceEqDiff,reduceIte];refine aS fun K hK=>?_;simp -dsimp [hne,f1];apply hK;clear hK K;exact awp_ret ⟨2,0,rfl,by simp,by simp⟩
end Go.Tram.Lk
end
section
namespace Go.Tram.Lk
open Go.AM Go.Proofs
theorem set_same {α β:Type} {f:α→β} {l:List α} {i:Nat} {x:α} (h:l[i]?=some x):(l.map f).set i (f x)=l.map f:=by
 apply List.ext_getElem?;intro j;rw[List.getElem?_set,List.getElem?_map]
 split
 ·rename_i e;subst e;rw[h,List.length_map,if_pos (List.getElem?_eq_some_iff.1 h).1];rfl
 ·rfl
abbrev nNil:AV:= .v (.slice none 0 0)
abbrev ndL (p:Plan):AV:= .lst 5 (p.Nodes.map Node.cells)
abbrev rlL (p:Plan):AV:= .lst 5 (p.Rails.map Rail.cells)
abbrev pfL (l:List Profile):AV:= .lst 2 (l.map Profile.cells)
abbrev sgLst (l:List (List Move)):AV:= .lst 1 (l.map sngCells)
theorem c_owned1 (s:LSet) (hs:setB s=true) (hne:s.Singles≠[]):PureCall Tryz.prog 69 [s.av] s.av:=by
 obtain⟨hv,hp,hsn,hsb⟩:=setB_parts hs;have hvp:=valid_parts hv;have hNl:s.Plan.Nodes.length≤300:=hvp.1.2;have hRl:s.Plan.Rails.length≤400:=hvp.2.1.2;have hN1:s.Plan.Nodes≠[]:=by intro e;have:=hvp.1.1;rw[e]at this;simp at this
 have hR1:s.Plan.Rails≠[]:=by intro e;have:=hvp.2.1.1;rw[e]at this;simp at this
 have hpl:s.Profiles.length≤6:=by simp only[profsB,Bool.and_eq_true,decide_eq_true_eq]at hp;exact hp.2.1
 have hcp:=c_ClPf s.Profiles (by omega);refine PureCall.of_body Tryz.func69 rfl (by decide) (by simp[Tryz.ntmps69]) ?_;simp only[Tryz.ntmps69,Tryz.results69];refine aS fun K hK=>?_;simp -dsimp;apply hK;clear hK K;refine aS fun K hK=>?_;simp -dsimp;refine callK_intro _ (hcp) (by simp) ?_;simp -dsimp;apply hK;clear hK K;refine aS fun K hK=>?_;simp -dsimp;refine callK_own (o_ClSg s.Singles hne (by omega)) ?_;simp -dsimp;apply hK;clear hK K;refine awp_seq_k fun K1 hK1=>?_;refine aS fun K hK=>?_;simp -dsimp;apply hK;clear hK K;refine awp_block ?_;refine awp_prune [1,2,18,19,20] ?_;simp only[zP,Nat.reduceEqDiff,reduceIte];refine awp_loop_l [1,2,18,19] (α:=Nat) (fun i=>[(20,I i)]) (fun i=>[some (.els 4 [[ndL s.Plan,rlL s.Plan,pfL s.Profiles, .row 2 0 s.Singles.length]]),some (.els 4 [[nNil,nNil,nNil,nNil]]),some (.els 1 (s.Singles.map sngCells))]) (fun i=>i≤s.Singles.length) (fun i=>s.Singles.length-i) 0 ?_ ?_ ?_
 ·exact Nat.zero_le _
 ·exact sub_rb [some 0,some 1,some 2] rfl (by simp) (by simp)
 rintro i i1;simp only[zP,Nat.reduceEqDiff,reduceIte];refine aS fun K hK=>?_;simp -dsimp;apply hK;clear hK K;refine awp_seq_k fun K2 hK2=>?_;refine awp_cond rfl (fun hc0=>?_) (fun hc0=>?_)
 ·skip
  try simp at hc0
  obtain⟨x,hx⟩:∃x,s.Singles[i]?=some x:=⟨_,List.getElem?_eq_getElem (by simpa using hc0)⟩;have wi:=zW i (by omega);have hxl:=(sngB_iff.1 hsb).1 x (List.mem_of_getElem? hx);have hcm:=c_ClM x (by omega);have hset:=set_same (f:=sngCells) hx;obtain⟨hil,hxe⟩:=List.getElem?_eq_some_iff.1 hx;refine awp_skip ?_;simp only[zT,reduceIte,Nat.reduceEqDiff];refine hK2 _ _ ?_;refine awp_prune [1,2,18,19,20] ?_;simp only[zP,Nat.reduceEqDiff,reduceIte];refine awp_seq_k fun K3 hK3=>?_;refine awp_block ?_;refine aS fun K hK=>?_;simp -dsimp [hx,hil,hxe];apply hK;clear hK K;refine awp_draw mixed rfl fun K hK=>?_;simp -dsimp [hx,hil,hxe];refine callK_intro _ (hcm) (by simp) ?_;simp -dsimp [hx,hil,hxe];refine hK _ _ _ (by decide+kernel) ?_;clear hK K;simp only[zT,reduceIte,Nat.reduceEqDiff];refine hK3 _ _ ?_;refine awp_prune [1,2,18,19,20] ?_;simp only[zP,Nat.reduceEqDiff,reduceIte];refine aR fun K hK=>?_;simp -dsimp [wi];apply hK;clear hK K;simp only[zT,reduceIte,Nat.reduceEqDiff];exact⟨i+1,by omega,by omega,sub_rb [some 0,some 1,some 2] rfl (by simp) (by simp at hset;simp[hset])⟩
 ·skip
  try simp at hc0
  have hie:i=s.Singles.length:=by have:¬i<s.Singles.length:=(by simpa using hc0);omega
  subst hie;refine awp_exit ?_;simp only[zT,reduceIte,Nat.reduceEqDiff];refine hK1 _ _ ?_;refine awp_prune [1,2] ?_;simp only[zP,Nat.reduceEqDiff,reduceIte];refine awp_sd mixed rfl fun K hK=>?_;simp -dsimp;refine callK_own (o_ClNd s.Plan.Nodes hN1 (by omega)) ?_;simp -dsimp;refine callK_own (o_ClRl s.Plan.Rails hR1 (by omega)) ?_;simp -dsimp;refine hK _ _ _ (by decide+kernel) ?_;clear hK K;refine awp_seq_k fun K4 hK4=>?_;refine aS fun K hK=>?_;simp -dsimp;apply hK;clear hK K;refine awp_block ?_;refine awp_prune [1,2,48,49,50] ?_;simp only[zP,Nat.reduceEqDiff,reduceIte];refine awp_loop_l [1,2,48,49] (α:=Nat) (fun i=>[(50,I i)]) (fun i=>[some (.els 4 [[.row 3 0 s.Plan.Nodes.length, .row (3+1) 0 s.Plan.Rails.length,pfL s.Profiles, .row 2 0 s.Singles.length]]),some (.els 4 [[nNil,nNil,nNil,nNil]]),some (.els 1 (s.Singles.map sngCells)),some (.els 5 (s.Plan.Nodes.map Node.cells)),some (.els 5 (s.Plan.Rails.map Rail.cells))]) (fun i=>i≤s.Plan.Nodes.length) (fun i=>s.Plan.Nodes.length-i) 0 ?_ ?_ ?_
  ·exact Nat.zero_le _
  ·exact sub_rb [some 0,some 1,some 2,some 3,some 4] rfl (by simp) (by simp)
  rintro i i1;simp only[zP,Nat.reduceEqDiff,reduceIte];refine aS fun K hK=>?_;simp -dsimp;apply hK;clear hK K;refine awp_seq_k fun K5 hK5=>?_;refine awp_cond rfl (fun hc1=>?_) (fun hc1=>?_)
  ·skip
   try simp at hc1
   obtain⟨n,hn⟩:∃n,s.Plan.Nodes[i]?=some n:=⟨_,List.getElem?_eq_getElem (by simpa using hc1)⟩;have wi:=zW i (by omega);obtain⟨hil,hxe⟩:=List.getElem?_eq_some_iff.1 hn;have hnk:=(node_kind (List.all_eq_true.1 hvp.2.2.1 n (List.mem_of_getElem? hn))).2.1;have hce:=c_ClEn n.Ends (by omega);have hset:=set_same (f:=Node.cells) hn;refine awp_skip ?_;simp only[zT,reduceIte,Nat.reduceEqDiff];refine hK5 _ _ ?_;refine awp_prune [1,2,48,49,50] ?_;simp only[zP,Nat.reduceEqDiff,reduceIte];refine awp_seq_k fun K6 hK6=>?_;refine awp_block ?_;refine aS fun K hK=>?_;simp -dsimp [hn,hil,hxe];apply hK;clear hK K;refine awp_draw mixed rfl fun K hK=>?_;simp -dsimp [hn,hil,hxe];refine callK_intro _ (hce) (by simp) ?_;simp -dsimp [hn,hil,hxe];refine hK _ _ _ (by decide+kernel) ?_;clear hK K;simp only[zT,reduceIte,Nat.reduceEqDiff];refine hK6 _ _ ?_;refine awp_prune [1,2,48,49,50] ?_;simp only[zP,Nat.reduceEqDiff,reduceIte];refine aR fun K hK=>?_;simp -dsimp [wi];apply hK;clear hK K;simp only[zT,reduceIte,Nat.reduceEqDiff];exact⟨i+1,by omega,by omega,sub_rb [some 0,some 1,some 2,some 3,some 4] rfl (by simp) (by simp at hset;simp[hset])⟩
  ·skip
   try simp at hc1
   have hie:i=s.Plan.Nodes.length:=by have:¬i<s.Plan.Nodes.length:=(by simpa using hc1);omega
   subst hie;refine awp_exit ?_;simp only[zT,reduceIte,Nat.reduceEqDiff];refine hK4 _ _ ?_;refine awp_prune [1,2] ?_;simp only[zP,Nat.reduceEqDiff,reduceIte];refine awp_seq_k fun K7 hK7=>?_;refine aS fun K hK=>?_;simp -dsimp;apply hK;clear hK K;refine awp_block ?_;refine awp_prune [1,2,67,68,69] ?_;simp only[zP,Nat.reduceEqDiff,reduceIte];refine awp_loop_l [1,2,67,68] (α:=Nat) (fun i=>[(69,I i)]) (fun i=>[some (.els 4 [[.row 3 0 s.Plan.Nodes.length, .row (3+1) 0 s.Plan.Rails.length,pfL s.Profiles, .row 2 0 s.Singles.length]]),some (.els 4 [[nNil,nNil,nNil,nNil]]),some (.els 1 (s.Singles.map sngCells)),some (.els 5 (s.Plan.Nodes.map Node.cells)),some (.els 5 (s.Plan.Rails.map Rail.cells))]) (fun i=>i≤s.Plan.Rails.length) (fun i=>s.Plan.Rails.length-i) 0 ?_ ?_ ?_
   ·exact Nat.zero_le _
   ·exact sub_rb [some 0,some 1,some 2,some 3,some 4] rfl (by simp) (by simp)
   rintro i i1;simp only[zP,Nat.reduceEqDiff,reduceIte];refine aS fun K hK=>?_;simp -dsimp;apply hK;clear hK K;refine awp_seq_k fun K8 hK8=>?_;refine awp_cond rfl (fun hc2=>?_) (fun hc2=>?_)
   ·skip
    try simp at hc2
    obtain⟨r,hr⟩:∃r,s.Plan.Rails[i]?=some r:=⟨_,List.getElem?_eq_getElem (by simpa using hc2)⟩;have wi:=zW i (by omega);obtain⟨hil,hxe⟩:=List.getElem?_eq_some_iff.1 hr;have hrk:r.Shape.length≤30:=by have:=List.all_eq_true.1 hvp.2.2.2.1 r (List.mem_of_getElem? hr);simp only[railB,railA,Bool.and_eq_true,decide_eq_true_eq]at this;exact this.1.2.2.1
    have hcs:=c_ClSp r.Shape (by omega);have hset:=set_same (f:=Rail.cells) hr;refine awp_skip ?_;simp only[zT,reduceIte,Nat.reduceEqDiff];refine hK8 _ _ ?_;refine awp_prune [1,2,67,68,69] ?_;simp only[zP,Nat.reduceEqDiff,reduceIte];refine awp_seq_k fun K9 hK9=>?_;refine awp_block ?_;refine aS fun K hK=>?_;simp -dsimp [hr,hil,hxe];apply hK;clear hK K;refine awp_draw mixed rfl fun K hK=>?_;simp -dsimp [hr,hil,hxe];refine callK_intro _ (hcs) (by simp) ?_;simp -dsimp [hr,hil,hxe];refine hK _ _ _ (by decide+kernel) ?_;clear hK K;simp only[zT,reduceIte,Nat.reduceEqDiff];refine hK9 _ _ ?_;refine awp_prune [1,2,67,68,69] ?_;simp only[zP,Nat.reduceEqDiff,reduceIte];refine aR fun K hK=>?_;simp -dsimp [wi];apply hK;clear hK K;simp only[zT,reduceIte,Nat.reduceEqDiff];exact⟨i+1,by omega,by omega,sub_rb [some 0,some 1,some 2,some 3,some 4] rfl (by simp) (by simp at hset;simp[hset])⟩
   ·skip
    try simp at hc2
    have hie:i=s.Plan.Rails.length:=by have:¬i<s.Plan.Rails.length:=(by simpa using hc2);omega
    subst hie;refine awp_exit ?_;simp only[zT,reduceIte,Nat.reduceEqDiff];refine hK7 _ _ ?_;refine awp_prune [1,2] ?_;simp only[zP,Nat.reduceEqDiff,reduceIte];refine aS fun K hK=>?_;simp -dsimp;apply hK;clear hK K;have t1:List.take s.Plan.Nodes.length (s.Plan.Nodes.map Node.cells)=s.Plan.Nodes.map Node.cells:=List.take_of_length_le (by simp);have t2:List.take s.Plan.Rails.length (s.Plan.Rails.map Rail.cells)=s.Plan.Rails.map Rail.cells:=List.take_of_length_le (by simp);have t3:List.take s.Singles.length (s.Singles.map sngCells)=s.Singles.map sngCells:=List.take_of_length_le (by simp);have z1:∀H n,List.map ((fun e=>List.map (frzP H (n+1)) e)∘Node.cells) s.Plan.Nodes=s.Plan.Nodes.map Node.cells:=fun H n=>List.map_congr_left fun x _=>by simp[frzP]
    have z2:∀H n,List.map ((fun e=>List.map (frzP H (n+1)) e)∘Rail.cells) s.Plan.Rails=s.Plan.Rails.map Rail.cells:=fun H n=>List.map_congr_left fun x _=>by simp[frzP]
    have z3:∀H n,List.map ((fun e=>List.map (frzP H (n+1)) e)∘sngCells) s.Singles=s.Singles.map sngCells:=fun H n=>List.map_congr_left fun x _=>by simp[frzP]
    exact awp_ret (by simp[t1,t2,t3,z1,z2,z3])
theorem c_owned0 (s:LSet) (hs:setB s=true) (hne:s.Singles=[]):PureCall Tryz.prog 69 [s.av] s.av:=by
 obtain⟨hv,hp,hsn,hsb⟩:=setB_parts hs;have hvp:=valid_parts hv;have hNl:s.Plan.Nodes.length≤300:=hvp.1.2;have hRl:s.Plan.Rails.length≤400:=hvp.2.1.2;have hN1:s.Plan.Nodes≠[]:=by intro e;have:=hvp.1.1;rw[e]at this;simp at this
 have hR1:s.Plan.Rails≠[]:=by intro e;have:=hvp.2.1.1;rw[e]at this;simp at this
 have hpl:s.Profiles.length≤6:=by simp only[profsB,Bool.and_eq_true,decide_eq_true_eq]at hp;exact hp.2.1
 have hcp:=c_ClPf s.Profiles (by omega);refine PureCall.of_body Tryz.func69 rfl (by decide) (by simp[Tryz.ntmps69]) ?_;simp only[Tryz.ntmps69,Tryz.results69];refine aS fun K hK=>?_;simp -dsimp;apply hK;clear hK K;refine aS fun K hK=>?_;simp -dsimp;refine callK_intro _ (hcp) (by simp) ?_;simp -dsimp;apply hK;clear hK K;refine aS fun K hK=>?_;simp -dsimp;refine callK_intro _ (c_ClSg s.Singles (by omega)) (by simp) ?_;simp -dsimp;apply hK;clear hK K;refine awp_seq_k fun K1 hK1=>?_;refine aS fun K hK=>?_;simp -dsimp;apply hK;clear hK K;refine awp_block ?_;refine awp_prune [1,2,18,19,20] ?_;simp only[zP,Nat.reduceEqDiff,reduceIte];refine awp_loop_l [1,2,18,19] (α:=Nat) (fun i=>[(20,I i)]) (fun i=>[some (.els 4 [[ndL s.Plan,rlL s.Plan,pfL s.Profiles,sgLst s.Singles]]),some (.els 4 [[nNil,nNil,nNil,nNil]])]) (fun i=>i≤s.Singles.length) (fun i=>s.Singles.length-i) 0 ?_ ?_ ?_
 ·exact Nat.zero_le _
 ·exact sub_rb [some 0,some 1] rfl (by simp) (by simp)
 rintro i i1;simp only[zP,Nat.reduceEqDiff,reduceIte];refine aS fun K hK=>?_;simp -dsimp;apply hK;clear hK K;refine awp_seq_k fun K2 hK2=>?_;refine awp_cond rfl (fun hc0=>?_) (fun hc0=>?_)
 ·skip
  try simp at hc0
  exfalso;simp[hne]at hc0
 ·skip
  try simp at hc0
  have hie:i=s.Singles.length:=by have:¬i<s.Singles.length:=(by simpa using hc0);omega
  subst hie;refine awp_exit ?_;simp only[zT,reduceIte,Nat.reduceEqDiff];refine hK1 _ _ ?_;refine awp_prune [1,2] ?_;simp only[zP,Nat.reduceEqDiff,reduceIte];refine awp_sd mixed rfl fun K hK=>?_;simp -dsimp;refine callK_own (o_ClNd s.Plan.Nodes hN1 (by omega)) ?_;simp -dsimp;refine callK_own (o_ClRl s.Plan.Rails hR1 (by omega)) ?_;simp -dsimp;refine hK _ _ _ (by decide+kernel) ?_;clear hK K;refine awp_seq_k fun K3 hK3=>?_;refine aS fun K hK=>?_;simp -dsimp;apply hK;clear hK K;refine awp_block ?_;refine awp_prune [1,2,48,49,50] ?_;simp only[zP,Nat.reduceEqDiff,reduceIte];refine awp_loop_l [1,2,48,49] (α:=Nat) (fun i=>[(50,I i)]) (fun i=>[some (.els 4 [[.row 2 0 s.Plan.Nodes.length, .row (2+1) 0 s.Plan.Rails.length,pfL s.Profiles,sgLst s.Singles]]),some (.els 4 [[nNil,nNil,nNil,nNil]]),some (.els 5 (s.Plan.Nodes.map Node.cells)),some (.els 5 (s.Plan.Rails.map Rail.cells))]) (fun i=>i≤s.Plan.Nodes.length) (fun i=>s.Plan.Nodes.length-i) 0 ?_ ?_ ?_
  ·exact Nat.zero_le _
  ·exact sub_rb [some 0,some 1,some 2,some 3] rfl (by simp) (by simp)
  rintro i i1;simp only[zP,Nat.reduceEqDiff,reduceIte];refine aS fun K hK=>?_;simp -dsimp;apply hK;clear hK K;refine awp_seq_k fun K4 hK4=>?_;refine awp_cond rfl (fun hc1=>?_) (fun hc1=>?_)
  ·skip
   try simp at hc1
   obtain⟨n,hn⟩:∃n,s.Plan.Nodes[i]?=some n:=⟨_,List.getElem?_eq_getElem (by simpa using hc1)⟩;have wi:=zW i (by omega);obtain⟨hil,hxe⟩:=List.getElem?_eq_some_iff.1 hn;have hnk:=(node_kind (List.all_eq_true.1 hvp.2.2.1 n (List.mem_of_getElem? hn))).2.1;have hce:=c_ClEn n.Ends (by omega);have hset:=set_same (f:=Node.cells) hn;refine awp_skip ?_;simp only[zT,reduceIte,Nat.reduceEqDiff];refine hK4 _ _ ?_;refine awp_prune [1,2,48,49,50] ?_;simp only[zP,Nat.reduceEqDiff,reduceIte];refine awp_seq_k fun K5 hK5=>?_;refine awp_block ?_;refine aS fun K hK=>?_;simp -dsimp [hn,hil,hxe];apply hK;clear hK K;refine awp_draw mixed rfl fun K hK=>?_;simp -dsimp [hn,hil,hxe];refine callK_intro _ (hce) (by simp) ?_;simp -dsimp [hn,hil,hxe];refine hK _ _ _ (by decide+kernel) ?_;clear hK K;simp only[zT,reduceIte,Nat.reduceEqDiff];refine hK5 _ _ ?_;refine awp_prune [1,2,48,49,50] ?_;simp only[zP,Nat.reduceEqDiff,reduceIte];refine aR fun K hK=>?_;simp -dsimp [wi];apply hK;clear hK K;simp only[zT,reduceIte,Nat.reduceEqDiff];exact⟨i+1,by omega,by omega,sub_rb [some 0,some 1,some 2,some 3] rfl (by simp) (by simp at hset;simp[hset])⟩
  ·skip
   try simp at hc1
   have hie:i=s.Plan.Nodes.length:=by have:¬i<s.Plan.Nodes.length:=(by simpa using hc1);omega
   subst hie;refine awp_exit ?_;simp only[zT,reduceIte,Nat.reduceEqDiff];refine hK3 _ _ ?_;refine awp_prune [1,2] ?_;simp only[zP,Nat.reduceEqDiff,reduceIte];refine awp_seq_k fun K6 hK6=>?_;refine aS fun K hK=>?_;simp -dsimp;apply hK;clear hK K;refine awp_block ?_;refine awp_prune [1,2,67,68,69] ?_;simp only[zP,Nat.reduceEqDiff,reduceIte];refine awp_loop_l [1,2,67,68] (α:=Nat) (fun i=>[(69,I i)]) (fun i=>[some (.els 4 [[.row 2 0 s.Plan.Nodes.length, .row (2+1) 0 s.Plan.Rails.length,pfL s.Profiles,sgLst s.Singles]]),some (.els 4 [[nNil,nNil,nNil,nNil]]),some (.els 5 (s.Plan.Nodes.map Node.cells)),some (.els 5 (s.Plan.Rails.map Rail.cells))]) (fun i=>i≤s.Plan.Rails.length) (fun i=>s.Plan.Rails.length-i) 0 ?_ ?_ ?_
   ·exact Nat.zero_le _
   ·exact sub_rb [some 0,some 1,some 2,some 3] rfl (by simp) (by simp)
   rintro i i1;simp only[zP,Nat.reduceEqDiff,reduceIte];refine aS fun K hK=>?_;simp -dsimp;apply hK;clear hK K;refine awp_seq_k fun K7 hK7=>?_;refine awp_cond rfl (fun hc2=>?_) (fun hc2=>?_)
   ·skip
    try simp at hc2
    obtain⟨r,hr⟩:∃r,s.Plan.Rails[i]?=some r:=⟨_,List.getElem?_eq_getElem (by simpa using hc2)⟩;have wi:=zW i (by omega);obtain⟨hil,hxe⟩:=List.getElem?_eq_some_iff.1 hr;have hrk:r.Shape.length≤30:=by have:=List.all_eq_true.1 hvp.2.2.2.1 r (List.mem_of_getElem? hr);simp only[railB,railA,Bool.and_eq_true,decide_eq_true_eq]at this;exact this.1.2.2.1
    have hcs:=c_ClSp r.Shape (by omega);have hset:=set_same (f:=Rail.cells) hr;refine awp_skip ?_;simp only[zT,reduceIte,Nat.reduceEqDiff];refine hK7 _ _ ?_;refine awp_prune [1,2,67,68,69] ?_;simp only[zP,Nat.reduceEqDiff,reduceIte];refine awp_seq_k fun K8 hK8=>?_;refine awp_block ?_;refine aS fun K hK=>?_;simp -dsimp [hr,hil,hxe];apply hK;clear hK K;refine awp_draw mixed rfl fun K hK=>?_;simp -dsimp [hr,hil,hxe];refine callK_intro _ (hcs) (by simp) ?_;simp -dsimp [hr,hil,hxe];refine hK _ _ _ (by decide+kernel) ?_;clear hK K;simp only[zT,reduceIte,Nat.reduceEqDiff];refine hK8 _ _ ?_;refine awp_prune [1,2,67,68,69] ?_;simp only[zP,Nat.reduceEqDiff,reduceIte];refine aR fun K hK=>?_;simp -dsimp [wi];apply hK;clear hK K;simp only[zT,reduceIte,Nat.reduceEqDiff];exact⟨i+1,by omega,by omega,sub_rb [some 0,some 1,some 2,some 3] rfl (by simp) (by simp at hset;simp[hset])⟩
   ·skip
    try simp at hc2
    have hie:i=s.Plan.Rails.length:=by have:¬i<s.Plan.Rails.length:=(by simpa using hc2);omega
    subst hie;refine awp_exit ?_;simp only[zT,reduceIte,Nat.reduceEqDiff];refine hK6 _ _ ?_;refine awp_prune [1,2] ?_;simp only[zP,Nat.reduceEqDiff,reduceIte];refine aS fun K hK=>?_;simp -dsimp;apply hK;clear hK K;have t1:List.take s.Plan.Nodes.length (s.Plan.Nodes.map Node.cells)=s.Plan.Nodes.map Node.cells:=List.take_of_length_le (by simp);have t2:List.take s.Plan.Rails.length (s.Plan.Rails.map Rail.cells)=s.Plan.Rails.map Rail.cells:=List.take_of_length_le (by simp);have t3:List.take s.Singles.length (s.Singles.map sngCells)=s.Singles.map sngCells:=List.take_of_length_le (by simp);have z1:∀H n,List.map ((fun e=>List.map (frzP H (n+1)) e)∘Node.cells) s.Plan.Nodes=s.Plan.Nodes.map Node.cells:=fun H n=>List.map_congr_left fun x _=>by simp[frzP]
    have z2:∀H n,List.map ((fun e=>List.map (frzP H (n+1)) e)∘Rail.cells) s.Plan.Rails=s.Plan.Rails.map Rail.cells:=fun H n=>List.map_congr_left fun x _=>by simp[frzP]
    have z3:∀H n,List.map ((fun e=>List.map (frzP H (n+1)) e)∘sngCells) s.Singles=s.Singles.map sngCells:=fun H n=>List.map_congr_left fun x _=>by simp[frzP]
    exact awp_ret (by simp[t1,t2,z1,z2])
end Go.Tram.Lk
end
section
namespace Go.Tram.Lk
open Go.AM Go.Proofs
def fstV (n:Node):Int:=if n.Kind=4 then 1 else 0
theorem firstP_eq (p:Plan):firstP p=p.Nodes.map fstV:=rfl
def fstTo (p:Plan) (k:Nat):List Int:=(p.Nodes.take k).map fstV++List.replicate (p.Nodes.length-k) 0
theorem fstTo_zero (p:Plan):fstTo p 0=List.replicate p.Nodes.length 0:=by simp[fstTo]
theorem fstTo_all (p:Plan):fstTo p p.Nodes.length=firstP p:=by simp[fstTo,firstP_eq]
theorem fstTo_len (p:Plan) {k:Nat} (h:k≤p.Nodes.length):(fstTo p k).length=p.Nodes.length:=by simp[fstTo];omega
theorem fstTo_succ {p:Plan} {k:Nat} {n:Node} (h:p.Nodes[k]?=some n):fstTo p (k+1)=(fstTo p k).set k (fstV n):=by
 have hk:=(List.getElem?_eq_some_iff.1 h).1;unfold fstTo;rw[List.take_add_one,h,List.map_append];have e:p.Nodes.length-k=(p.Nodes.length-(k+1))+1:=by omega
 rw[e,List.replicate_succ,List.set_append_right _ _ (by simp;omega)];have e2:k-((p.Nodes.take k).map fstV).length=0:=by simp;omega
 rw[e2,List.set_cons_zero];simp
theorem fstTo_same {p:Plan} {k:Nat} {n:Node} (h:p.Nodes[k]?=some n) (hk:n.Kind≠4):fstTo p (k+1)=fstTo p k:=by
 have hl:=(List.getElem?_eq_some_iff.1 h).1;unfold fstTo;rw[List.take_add_one,h,List.map_append];have e:p.Nodes.length-k=(p.Nodes.length-(k+1))+1:=by omega
 rw[e,List.replicate_succ];simp[fstV,hk]
theorem m_points (s:LSet) (hv:validB s.Plan=true) (fo si up:Kvs) (x y:AV):MutCall Tryz.prog 70 [.vptr (rulesA s fo si up x y)] [] [] (.row 0 0 s.Plan.Nodes.length) [] [some (.els 1 ((firstP s.Plan).map nCell))]:=by
 have hNl:1≤s.Plan.Nodes.length∧s.Plan.Nodes.length≤300:=(valid_parts hv).1;have hf1:Fits s.Plan.Nodes.length 9:=fits_of (by omega) (by omega);have hz:=fstTo_zero s.Plan;have hfa:=fstTo_all s.Plan;refine MutCall.of_bodyG [] Tryz.func70 rfl (by decide) (by simp[Tryz.ntmps70]) rfl rfl ?_;intro J hJ;simp only[Tryz.ntmps70,Tryz.results70];refine gS fun K hK=>?_;simp -dsimp [rulesA];apply hK;clear hK K;refine gS fun K hK=>?_;simp -dsimp [rulesA,hf1];apply hK;clear hK K;refine gwp_seq_k fun K1 hK1=>?_;refine gS fun K hK=>?_;simp -dsimp [rulesA];apply hK;clear hK K;refine gwp_block ?_;refine gwp_prune [3,19,20,21] (Or.inr (by simp)) ?_;simp only[zP,Nat.reduceEqDiff,reduceIte];refine gwp_loop_l [3,19,20] (α:=Nat) (fun k=>[(21,I k)]) (fun k=>[some (.els 1 ((fstTo s.Plan k).map nCell))]) (fun k=>k≤s.Plan.Nodes.length) (fun k=>s.Plan.Nodes.length-k) 0 ?_ ?_ ?_
 ·exact Nat.zero_le _
 ·exact gsub (sub_rb [some 0] rfl (by simp) (by simp[hz,nCell])) (by simp)
 rintro k k1;have hlen:=fstTo_len s.Plan k1;simp only[zP,Nat.reduceEqDiff,reduceIte];refine gS fun K hK=>?_;simp -dsimp [rulesA];apply hK;clear hK K;refine gwp_seq_k fun K2 hK2=>?_;refine gwp_cond rfl (fun hc0=>?_) (fun hc0=>?_)
 ·skip
  try simp at hc0
  obtain⟨n,hn⟩:∃n,s.Plan.Nodes[k]?=some n:=⟨_,List.getElem?_eq_getElem (by simpa using hc0)⟩;have wk:=zW k (by omega);obtain⟨hkl,hne⟩:=List.getElem?_eq_some_iff.1 hn;have hs1:=fstTo_succ hn;have hs2:=fun h=>fstTo_same hn h;generalize fstTo s.Plan k=F at hlen hs1 hs2 ⊢;refine gwp_skip ?_;simp only[zT,reduceIte,Nat.reduceEqDiff];refine hK2 _ _ ?_;refine gwp_prune [3,19,20,21] (Or.inr (by simp)) ?_;simp only[zP,Nat.reduceEqDiff,reduceIte];refine gwp_seq_k fun K3 hK3=>?_;refine gwp_block ?_;refine gS fun K hK=>?_;simp -dsimp [rulesA,hn,hkl,hne];apply hK;clear hK K;refine gS fun K hK=>?_;simp -dsimp [rulesA];apply hK;clear hK K;refine gwp_cond rfl (fun hc1=>?_) (fun hc1=>?_)
  ·have hkd:n.Kind=4:=by simpa using hc1
   have hG:fstTo s.Plan (k+1)=F.set k 1:=by rw[hs1];simp[fstV,hkd]
   refine gR fun K hK=>?_;simp -dsimp [rulesA,hlen,hkl];apply hK;clear hK K;simp only[zT,reduceIte,Nat.reduceEqDiff];refine hK3 _ _ ?_;refine gwp_prune [3,19,20,21] (Or.inr (by simp)) ?_;simp only[zP,Nat.reduceEqDiff,reduceIte];refine gR fun K hK=>?_;simp -dsimp [rulesA,wk];apply hK;clear hK K;simp only[zT,reduceIte,Nat.reduceEqDiff];exact⟨k+1,by omega,by omega,gsub (sub_rb [some 0] rfl (by simp) (by simp[hG,nCell])) (by simp)⟩
  ·have hkd:n.Kind≠4:=by simpa using hc1
   have hG:fstTo s.Plan (k+1)=F:=hs2 hkd;refine gwp_skip ?_;simp only[zT,reduceIte,Nat.reduceEqDiff];refine hK3 _ _ ?_;refine gwp_prune [3,19,20,21] (Or.inr (by simp)) ?_;simp only[zP,Nat.reduceEqDiff,reduceIte];refine gR fun K hK=>?_;simp -dsimp [rulesA,wk];apply hK;clear hK K;simp only[zT,reduceIte,Nat.reduceEqDiff];exact⟨k+1,by omega,by omega,gsub (sub_rb [some 0] rfl (by simp) (by simp[hG,nCell])) (by simp)⟩
 ·skip
  try simp at hc0
  have hke:k=s.Plan.Nodes.length:=by have:¬k<s.Plan.Nodes.length:=(by simpa using hc0);omega
  subst hke;refine gwp_exit ?_;simp only[zT,reduceIte,Nat.reduceEqDiff];refine hK1 _ _ ?_;refine gwp_prune [3] (Or.inr (by simp)) ?_;simp only[zP,Nat.reduceEqDiff,reduceIte];refine gS fun K hK=>?_;simp -dsimp [rulesA];apply hK;clear hK K;exact gwp_ret ⟨[some 0],rfl,by simp,by simp[hfa],by simp,by simp[resP,tupOf]⟩
abbrev Kas:=List (List KC×AV)
abbrev liveH (s:LSet) (nx:Kvs) (nd:Kas) (x:Sta):Hp:=[some (.els 1 [[.ptr 1 0 0]]),some (.els 3 [[.ptr 2 0 0, .mp 3, .row 4 0 x.Points.length]]),some (.els 9 [s.cells++[.mpc true KT4 (foOf s), .mpc false [.i .i64] (siOf (sgAll s)), .mpc true KTM (upOf (sgAll s)), .mp 5, .mp 6]]),
 some (carRow x.Cars),some (.els 1 (x.Points.map nCell)),some (.map true KTMM nx),some (.mpa true KTMM nd)]
theorem m_New_t (s:LSet) (h:setB s=true) (hN:s.Plan.Rails.length≤20):MutCall Tryz.prog 16 [s.av] [] [] (.tup [.ptr 0 0 0,I 0]) [] (liveH s [] [] ⟨[],firstP s.Plan⟩):=by
 have h0:=setB_parts h;have ho:=m_open_t s h hN;have hw:PureCall Tryz.prog 69 [s.av] s.av:=by
  by_cases e:s.Singles=[]
  ·exact c_owned0 s h e
  ·exact c_owned1 s h e
 have hpt:=m_points s h0.1 (foOf s) (siOf (sgAll s)) (upOf (sgAll s)) (.mpc true KTMM []) (.mpc true KTMM []);have hpl:(firstP s.Plan).length=s.Plan.Nodes.length:=by simp[firstP]
 unfold liveH;rw[hpl];unfold openH at ho;unfold rulesA at hpt;generalize foOf s=fo at ho hpt ⊢;generalize siOf (sgAll s)=si at ho hpt ⊢;generalize upOf (sgAll s)=up at ho hpt ⊢;generalize firstP s.Plan=fp at hpt ⊢;refine MutCall.of_bodyG [] Tryz.func16 rfl (by decide) (by simp[Tryz.ntmps16]) rfl rfl ?_;intro J hJ;simp only[Tryz.ntmps16,Tryz.results16];refine gS fun K hK=>?_;simp -dsimp;apply hK;clear hK K;refine gS fun K hK=>?_;simp -dsimp;refine callK_mut [] [] [none,some 0,some 1,some 2,some 3,some 4,some 5] (ho) (by decide) rfl (by simp) (by simp) rfl (by simp) ?_;simp -dsimp;apply hK;clear hK K;refine gwp_seq_k fun K1 hK1=>?_;refine gS fun K hK=>?_;simp -dsimp;apply hK;clear hK K;refine gwp_cond rfl (fun hc0=>?_) (fun hc0=>?_)
 ·simp at hc0
 ·refine gwp_skip ?_;simp only[zT,reduceIte,Nat.reduceEqDiff];refine hK1 _ _ ?_;refine gwp_prune [1,4] (Or.inr (by simp)) ?_;simp only[zP,Nat.reduceEqDiff,reduceIte];refine gS fun K hK=>?_;simp -dsimp;refine callK_intro _ (hw) (by simp) ?_;simp -dsimp;apply hK;clear hK K;refine gS fun K hK=>?_;simp -dsimp;refine callK_mutF [] [] [none,none,none,none,none,none,none,none,some 0] (hpt) (by decide) rfl (by simp) (by simp) rfl (by simp) (by simp) (by simp) ?_;simp -dsimp;apply hK;clear hK K;refine gwp_weak (gsub (sub_row 7 (row':= .mpa false [.i .i64] []) (by simp) (by simp) fun _ _ _ _ _=>mpa_nil) (by simp)) ?_;refine gwp_weak (gsub (sub_row 6 (row':= .mpa true KTMM []) (by simp) (by simp) fun _ _ _ _ _=>mpa_nil) (by simp)) ?_;refine gwp_weak (gsub (sub_rf (T':=[(2, .ptr 0 0 0),(3,I 0)]) (H':=[some (.els 1 [[.ptr 1 0 0]]),some (.els 3 [[.ptr 2 0 0, .mp 3, .row 4 0 s.Plan.Nodes.length]]),some (.els 9 [s.cells++[.mpc true KT4 fo, .mpc false [.i .i64] si, .mpc true KTM up, .mp 5, .mp 6]]),some (.mpa false [.i .i64] []),some (.els 1 (fp.map nCell)),some (.map true KTMM []),some (.mpa true KTMM [])]) [some 10,some 9,some 1,some 7,some 8,some 5,some 6] rfl ⟨.inr (by simp), .inr (by simp),trivial⟩ (by simp)) (by simp)) ?_;exact gwp_ret ⟨[some 0,some 1,some 2,some 3,some 4,some 5,some 6],rfl,by simp,by simp[carsK],by simp,by simp[resP,tupOf]⟩
end Go.Tram.Lk
end
section
namespace Go.Tram.Lk
open Go.AM Go.Proofs
theorem mutArg {P:Program} {f:FuncId} {args args':List AV} {Hk Hd Hk' Hn:Hp} {res:AV} (h:MutCall P f args' Hk Hd res Hk' Hn) (hl:args.length=args'.length)
  (hr:∀(i:Nat) c c',args[i]?=some c→args'[i]?=some c'→c=c'∨(c.noRef 2=true∧∀(w:World) (S:Nat→Prop) (y:Value),RepP w S c y→RepP w S c' y)):MutCall P f args Hk Hd res Hk' Hn:=by
 obtain⟨h1,h2,h3⟩:=h;refine⟨h1,h2,fun S0 w ρ vs hh hlen hrep=>h3 S0 w ρ vs hh (by rw[←hl];exact hlen) fun i c x hc hx=>?_⟩;have hil:i<args.length:=by rw[hl];exact(List.getElem?_eq_some_iff.1 hc).1
 have h0:=List.getElem?_eq_getElem hil
 rcases hr i _ c h0 hc with e|⟨e1,e2⟩
 ·rw[←e];exact hrep i _ x h0 hx
 ·exact .pure _ _ (e2 _ _ _ (noRef_rep 2 _ _ e1 (hrep i _ x h0 hx)))
def exSet:LSet:=⟨exPlan,[⟨100,0⟩],[]⟩
theorem exSet_ok:setB exSet=true:=by
 have hv:=ex_valid;unfold setB;rw[show exSet.Plan=exPlan from rfl,hv]
 decide+kernel
abbrev exSetA:AV:= .agg [.lst 5 (exPlan.Nodes.map Node.cells), .lst 5 (exPlan.Rails.map Rail.cells), .full 2 [[I 100,I 0]],nNil]
theorem m_New_ex:MutCall Tryz.prog 16 [exSetA] [] [] (.tup [.ptr 0 0 0,I 0]) [] (liveH exSet [] [] ⟨[],firstP exPlan⟩):=by
 have h:=m_New_t exSet exSet_ok (by decide+kernel);refine mutArg h rfl fun i c c' h1 h2=>?_
 match i,h1,h2 with
 |0,h1,h2=>
  simp only[List.getElem?_cons_zero,Option.some.injEq]at h1 h2;subst h1 h2;refine Or.inr ⟨by rfl,fun w S y hy=>?_⟩;have e:wkN 1 6 exSetA=exSet.av:=by rfl
  rw[←e];exact wkN_rep 1 6 _ _ hy
@[simp] theorem ptLk:ptrB Tryz.prog 32=true:=by kernel_rfl
theorem eqgP (op:BinOp) (t:TypeId) (x y:Operand) (a b:Option Addr) (w:World):(eqGuard op t x y (.pointer a) (.pointer b)).run Tryz.prog w= .ok () w:=by
 cases op<;>simp[eqGuard]
theorem eqP0 (t e:TypeId) (hu:(Tryz.prog).underlying t=some (.pointer e)) (w:World):(binOp .eql t (.pointer none) (.pointer none)).run Tryz.prog w= .ok (.bool true) w:=by
 have hq:(Op.equal t (.pointer none) (.pointer none)).run Tryz.prog w= .ok true w:=by
  show(Op.equalIn (Op.maxDepth-1+1) t _ _).run _ w=_;simp[Op.equalIn,run_underlying hu]
 simp[binOp,hq]
theorem neP0 (t e:TypeId) (hu:(Tryz.prog).underlying t=some (.pointer e)) (w:World):(binOp .neq t (.pointer none) (.pointer none)).run Tryz.prog w= .ok (.bool false) w:=by
 have hq:(Op.equal t (.pointer none) (.pointer none)).run Tryz.prog w= .ok true w:=by
  show(Op.equalIn (Op.maxDepth-1+1) t _ _).run _ w=_;simp[Op.equalIn,run_underlying hu]
 simp[binOp,hq]
theorem upLk:(Tryz.prog).underlying 32=some (.pointer 96):=by kernel_rfl
theorem upSt:(Tryz.prog).underlying 94=some (.pointer 170):=by kernel_rfl
theorem pureOf {P : Program} {f : FuncId} {fn : Func} {c : Code} {x y : Value} (hf : P.funcs[f]? = some fn) (hb : fn.body = some c) (hname : (fn.name == "runtime.NumGoroutine") = false)
  (h:∀w:World,Calls P f #[x] w fun e w'=>e= .returned y∧w'=w):PureCall P f [.v x] (.v y):=by
 have hn' : ¬ fn.name = "runtime.NumGoroutine" := by simpa using hname
 refine Or.inl ⟨fun w vs=>by simp[callFunc,hf,hn',hb],?_⟩;intro S0 w vs hlow hl hrep
 match vs,hl with
 |[z],_=>
  have hz:=hrep 0 _ z rfl rfl
  cases hz
  refine(h w).mono ?_;rintro e w' ⟨rfl,rfl⟩;exact⟨y,rfl, .v _,Ext.refl _ _⟩
theorem c_ready_zero:PureCall Tryz.prog 74 [.iptr [.v (.pointer none)]] (Bo false):=by
 refine PureCall.of_body Tryz.func74 rfl (by decide) (by simp[Tryz.ntmps74]) ?_;simp only[Tryz.ntmps74,Tryz.results74];refine aS fun K hK=>?_;simp -dsimp;apply hK;clear hK K;refine aS fun K hK=>?_;simp -dsimp;refine⟨fun w=>eqgP _ _ _ _ _ _ w,_,fun w=>neP0 _ _ upSt w,?_⟩;simp -dsimp;apply hK;clear hK K;exact awp_ret (by simp)
theorem c_Points_zero:PureCall Tryz.prog 22 [.iptr [.v (.pointer none)]] nNil:=by
 have h:=c_ready_zero;refine PureCall.of_body Tryz.func22 rfl (by decide) (by simp[Tryz.ntmps22]) ?_;simp only[Tryz.ntmps22,Tryz.results22];refine aS fun K hK=>?_;simp -dsimp;apply hK;clear hK K;refine awp_seq_k fun K1 hK1=>?_;refine aS fun K hK=>?_;simp -dsimp;refine callK_intro _ (h) (by simp) ?_;simp -dsimp;apply hK;clear hK K;refine awp_cond rfl (fun hc0=>?_) (fun hc0=>?_)
 ·refine aS fun K hK=>?_;simp -dsimp;apply hK;clear hK K;exact awp_ret (by simp)
 ·simp at hc0
end Go.Tram.Lk
end
section
namespace Go.Street
open Go.AM Go.Proofs
theorem c_IndexN (l:List Int) (x:Int) (hn:l.length≤100000):PureCall Tryz.prog 198 [iL l,I x] (I (firstI l fun y=>decide (x=y))):=by
 refine PureCall.of_body Tryz.func198 rfl (by decide) (by simp[Tryz.ntmps198]) ?_;simp only[Tryz.ntmps198,Tryz.results198];refine aS fun K hK=>?_;simp -dsimp;apply hK;clear hK K;refine awp_seq_k fun K1 hK1=>?_;refine aS fun K hK=>?_;simp -dsimp;apply hK;clear hK K;refine awp_block ?_;refine awp_prune [0,1,7,8] ?_;simp only[zP,Nat.reduceEqDiff,reduceIte];refine awp_loop_l [0,1,7] (α:=Nat) (fun k=>[(8,I k)]) (fun _=>[]) (fun k=>k≤l.length∧(l.take k).any (fun y=>decide (x=y))=false) (fun k=>l.length-k) 0 ?_ ?_ ?_
 ·simp
 ·exact sub_same (by simp)
 rintro k ⟨k1,k2⟩;simp only[zP,Nat.reduceEqDiff,reduceIte];refine aS fun K hK=>?_;simp -dsimp;apply hK;clear hK K;refine awp_seq_k fun K2 hK2=>?_;refine awp_cond rfl (fun hc0=>?_) (fun hc0=>?_)
 ·skip
  try simp at hc0
  obtain⟨y,hx⟩:∃y,l[k]?=some y:=⟨_,List.getElem?_eq_getElem hc0⟩;have wk:=zW k (by omega);refine awp_skip ?_;simp only[zT,reduceIte,Nat.reduceEqDiff];refine hK2 _ _ ?_;refine awp_prune [0,1,7,8] ?_;simp only[zP,Nat.reduceEqDiff,reduceIte];refine awp_seq_k fun K3 hK3=>?_;refine awp_block ?_;refine aS fun K hK=>?_;simp -dsimp;apply hK;clear hK K;refine aS fun K hK=>?_;simp -dsimp [hx];apply hK;clear hK K;refine awp_cond rfl (fun hc1=>?_) (fun hc1=>?_)
  ·simp only[beq_d]at hc1;refine aS fun K hK=>?_;simp -dsimp;apply hK;clear hK K;exact awp_ret (by simp[firstI_hit hx hc1 k2])
  ·simp only[beq_d]at hc1;refine awp_skip ?_;simp only[zT,reduceIte,Nat.reduceEqDiff];refine hK3 _ _ ?_;refine awp_prune [0,1,7,8] ?_;simp only[zP,Nat.reduceEqDiff,reduceIte];refine aR fun K hK=>?_;simp -dsimp [wk];apply hK;clear hK K;simp only[zT,reduceIte,Nat.reduceEqDiff];exact⟨k+1,⟨by omega,by rw[any_take hx,k2,hc1];rfl⟩,by omega,sub_same (by simp)⟩
 ·skip
  try simp at hc0
  have hall:=any_of_take (by omega) k2;refine awp_exit ?_;simp only[zT,reduceIte,Nat.reduceEqDiff];refine hK1 _ _ ?_;refine awp_prune [] ?_;simp only[zP,Nat.reduceEqDiff,reduceIte];refine aS fun K hK=>?_;simp -dsimp;apply hK;clear hK K;exact awp_ret (by simp[firstI_none hall])
theorem any_eq (l:List Int) (x:Int):l.any (fun y=>decide (x=y))=decide (x∈l):=by
 rw[Bool.eq_iff_iff];simp
theorem c_Contains (l:List Int) (x:Int) (hn:l.length≤100000):PureCall Tryz.prog 116 [iL l,I x] (Bo (decide (x∈l))):=by
 refine PureCall.of_body Tryz.func116 rfl (by decide) (by simp[Tryz.ntmps116]) ?_;simp only[Tryz.ntmps116,Tryz.results116];refine aS fun K hK=>?_;simp -dsimp;apply hK;clear hK K;refine aS fun K hK=>?_;simp -dsimp;refine callK_intro _ (c_IndexN l x hn) (by simp) ?_;simp -dsimp;apply hK;clear hK K;exact awp_ret (by simp[firstI_nn,any_eq])
@[simp] def sC (j:Jn) (op se ph on si R Sk Dm Pr:AV):List AV:=j.cells++[op,se,ph,on,si,R,Sk,Dm,Pr]
@[simp] def mp (l:List Int):AV:= .mpc false [.i .i64] (metK l)
@[simp] theorem ptr_sg:ptrB Tryz.prog 78=true:=by kernel_rfl
section
variable (j:Jn) (op se ph on si R Sk Dm Pr:AV)
theorem c_ready (b:Bool):PureCall Tryz.prog 106 [.iptr (sC j (Bo b) se ph on si R Sk Dm Pr)] (Bo b):=by
 refine PureCall.of_body Tryz.func106 rfl (by decide) (by simp[Tryz.ntmps106]) ?_;simp only[Tryz.ntmps106,Tryz.results106];refine aS fun K hK=>?_;simp -dsimp;apply hK;clear hK K;refine aS fun K hK=>?_;simp -dsimp;apply hK;clear hK K;exact awp_ret (by simp)
def hasB (j:Jn) (p x:Int):Bool:=decide (x∈rowAt j.Phases p)
theorem c_has (p x:Int) (hf:Fit j) (h0:0≤p) (h1:p<j.Phases.length):PureCall Tryz.prog 201 [.iptr (sC j op se ph on si R Sk Dm Pr),I p,I x] (Bo (hasB j p x)):=by
 have g:=rowAt_get h0 h1;have hl:=hf.ps _ (List.mem_of_getElem? g);refine PureCall.of_body Tryz.func201 rfl (by decide) (by simp[Tryz.ntmps201]) ?_;simp only[Tryz.ntmps201,Tryz.results201];refine aS fun K hK=>?_;simp -dsimp;apply hK;clear hK K;refine aS fun K hK=>?_;simp -dsimp [g,h0];refine callK_intro _ (c_Contains _ x (by omega)) (by simp) ?_;simp -dsimp [g,h0];apply hK;clear hK K;exact awp_ret (by simp[hasB])
def someB (j:Jn) (q p:Int) (d:List Int):Bool:=(rowAt j.Phases q).any fun x=>decide (x∈d)&& !hasB j p x
theorem c_some1 (d:List Int) (p x:Int) (hf:Fit j) (h0:0≤p) (h1:p<j.Phases.length):
  PureCall Tryz.prog 354 (I x::ipts [[mp d],[.iptr (sC j op se ph on si R Sk Dm Pr)],[I p]]) (Bo (decide (x∈d)&& !hasB j p x)):=by
 show PureCall Tryz.prog 354 [I x, .iptr [mp d], .iptr [.iptr (sC j op se ph on si R Sk Dm Pr)], .iptr [I p]] (Bo (decide (x∈d)&& !hasB j p x));refine PureCall.of_body Tryz.func354 rfl (by decide) (by simp[Tryz.ntmps354]) ?_;simp only[Tryz.ntmps354,Tryz.results354];refine aS fun K hK=>?_;simp -dsimp;apply hK;clear hK K;refine aS fun K hK=>?_;simp -dsimp [metK_look];refine valK_intro (_) (fun hm=>rfl) ?_;simp -dsimp [metK_look];refine callK_may _ (fun hm=>c_has j op se ph on si R Sk Dm Pr p x hf h0 h1) (by simp) ?_;simp -dsimp [metK_look];apply hK;clear hK K;exact awp_ret (by simp)
theorem c_some (q p:Int) (d:List Int) (hf:Fit j) (q0:0≤q) (q1:q<j.Phases.length) (h0:0≤p) (h1:p<j.Phases.length):
  PureCall Tryz.prog 326 [.iptr (sC j op se ph on si R Sk Dm Pr),I q,I p,mp d] (Bo (someB j q p d)):=by
 have g:=rowAt_get q0 q1;have hl:=hf.ps _ (List.mem_of_getElem? g);have hc:=c_Cont_i (rowAt j.Phases q) 354 [[mp d],[.iptr (sC j op se ph on si R Sk Dm Pr)],[I p]] (fun x=>decide (x∈d)&& !hasB j p x) (fun x _=>c_some1 j op se ph on si R Sk Dm Pr d p x hf h0 h1) (by omega);refine PureCall.of_body Tryz.func326 rfl (by decide) (by simp[Tryz.ntmps326]) ?_;simp only[Tryz.ntmps326,Tryz.results326];refine aS fun K hK=>?_;simp -dsimp;apply hK;clear hK K;refine aS fun K hK=>?_;simp -dsimp [g,q0];refine callK_intro _ (hc) (by simp) ?_;simp -dsimp [g,q0];apply hK;clear hK K;exact awp_ret (by simp[someB])
theorem c_wants (q p:Int) (d:List Int) (hf:Fit j) (q0:0≤q) (q1:q<j.Phases.length) (h0:0≤p) (h1:p<j.Phases.length):
  PureCall Tryz.prog 272 [.iptr (sC j op se ph on si R Sk (mp d) Pr),I q,I p] (Bo (someB j q p d)):=by
 refine PureCall.of_body Tryz.func272 rfl (by decide) (by simp[Tryz.ntmps272]) ?_;simp only[Tryz.ntmps272,Tryz.results272];refine aS fun K hK=>?_;simp -dsimp;apply hK;clear hK K;refine aS fun K hK=>?_;simp -dsimp;refine callK_intro _ (c_some j op se ph on si R Sk (mp d) Pr q p d hf q0 q1 h0 h1) (by simp) ?_;simp -dsimp;apply hK;clear hK K;exact awp_ret (by simp)
theorem c_urges (q p:Int) (d:List Int) (hf:Fit j) (q0:0≤q) (q1:q<j.Phases.length) (h0:0≤p) (h1:p<j.Phases.length):
  PureCall Tryz.prog 273 [.iptr (sC j op se ph on si R Sk Dm (mp d)),I q,I p] (Bo (someB j q p d)):=by
 refine PureCall.of_body Tryz.func273 rfl (by decide) (by simp[Tryz.ntmps273]) ?_;simp only[Tryz.ntmps273,Tryz.results273];refine aS fun K hK=>?_;simp -dsimp;apply hK;clear hK K;refine aS fun K hK=>?_;simp -dsimp;refine callK_intro _ (c_some j op se ph on si R Sk Dm (mp d) q p d hf q0 q1 h0 h1) (by simp) ?_;simp -dsimp;apply hK;clear hK K;exact awp_ret (by simp)
def candQ (j:Jn) (ph:Int) (k:Nat):Int:=(ph+k) % (j.Phases.length:Int)
def candTo (j:Jn) (ph:Int) (d:List Int):Nat→List Int
 |0=>[]
 |k+1=>candTo j ph d k++if someB j (candQ j ph (k+1)) ph d then [candQ j ph (k+1)]else []
def candL (j:Jn) (ph:Int) (d:List Int):List Int:=candTo j ph d (j.Phases.length-1)
theorem candTo_prefix (j:Jn) (ph:Int) (d:List Int) (k:Nat):∀m,∃r,candTo j ph d (k+m)=candTo j ph d k++r
 |0=>⟨[],by simp⟩
 |m+1=>by
  obtain⟨r,hr⟩:=candTo_prefix j ph d k m;exact⟨r++_,by rw[←Nat.add_assoc,candTo,hr,List.append_assoc]⟩
theorem candTo_len (j:Jn) (ph:Int) (d:List Int):∀k,(candTo j ph d k).length≤k
 |0=>by simp[candTo]
 |k+1=>by
  have:=candTo_len j ph d k;simp only[candTo,List.length_append]
  split<;>simp<;>omega
theorem cand_at {j:Jn} {ph:Int} {d:List Int} {k:Nat} (hk:k+1≤j.Phases.length-1) (h:someB j (candQ j ph (k+1)) ph d=true):(candL j ph d)[(candTo j ph d k).length]?=some (candQ j ph (k+1)):=by
 obtain⟨r,hr⟩:=candTo_prefix j ph d (k+1) (j.Phases.length-1-(k+1));rw[show k+1+(j.Phases.length-1-(k+1))=j.Phases.length-1 by omega]at hr;unfold candL;rw[hr,candTo,if_pos h,List.append_assoc,List.getElem?_append_right (Nat.le_refl _),Nat.sub_self]
 rfl
theorem candQ_bd {j:Jn} {ph:Int} {k:Nat} (hp:1≤j.Phases.length):0≤candQ j ph k∧candQ j ph k<j.Phases.length:=
 ⟨Int.emod_nonneg _ (by omega),Int.emod_lt_of_pos _ (by omega)⟩
theorem c_candidates (p:Int):PureCall Tryz.prog 200 [.iptr (sC j op se ph on si R Sk Dm Pr),I p] (.clo 271 [.iptr [.iptr (sC j op se ph on si R Sk Dm Pr)], .iptr [I p]]):=by
 refine PureCall.of_body Tryz.func200 rfl (by decide) (by simp[Tryz.ntmps200]) ?_;simp only[Tryz.ntmps200,Tryz.results200];refine aS fun K hK=>?_;simp -dsimp;apply hK;clear hK K;refine aS fun K hK=>?_;simp -dsimp;apply hK;clear hK K;exact awp_ret (by simp)
def qAV (q:Int):List AV:=[I q]
theorem qAV_len (l:List Int):∀z∈l.map qAV,z.length=1:=by
 intro z hz;obtain⟨q,_,rfl⟩:=List.mem_map.1 hz
 rfl
theorem c_cand1 (p:Int) (d:List Int) (hf:Fit j) (h0:0≤p) (h1:p<j.Phases.length):
  IterCall Tryz.prog 271 [.iptr [.iptr (sC j op se ph on si R Sk (mp d) Pr)], .iptr [I p]] ((candL j p d).map qAV):=by
 have hP:=hf.p;have hn0:¬j.Phases=[]:=by intro h;rw[h]at h1;simp at h1;omega
 have hc0':candTo j p d 0=[]:=rfl;have w1:IntKind.i64.wrap 1=1:=wrap_in (by omega) (by omega);refine IterCallW.of_body Tryz.func271 rfl (by decide) (by simp[Tryz.ntmps271]) (by simp[Tryz.ntmps271]) (by simp[Tryz.results271]) ?_;intro J l hmk hY;simp only[Tryz.ntmps271,Tryz.results271];refine gS fun K hK=>?_;simp -dsimp;apply hK;clear hK K;refine gS fun K hK=>?_;simp -dsimp;apply hK;clear hK K;refine gwp_block ?_;refine gwp_prune [0,1,2,4,5,999999] (Or.inl (by decide)) ?_;simp only[zP,Nat.reduceEqDiff,reduceIte];refine gwp_loop_l [0,1,2,4] (α:=Nat) (fun k=>[(5,I ((k:Int)+1)),(999999,cntV (candTo j p d k).length)]) (fun k=>[]) (fun k=>k≤j.Phases.length-1) (fun k=>j.Phases.length-1-k) 0 ?_ ?_ ?_
 ·exact Nat.zero_le _
 ·exact gsub (sub_same (by simp[hc0'])) (by simp[hc0'])
 rintro k k1;have hlen:=candTo_len j p d k;simp only[zP,Nat.reduceEqDiff,reduceIte];refine gwp_seq_k fun K1 hK1=>?_;refine gS fun K hK=>?_;simp -dsimp;apply hK;clear hK K;refine gwp_cond rfl (fun hc0=>?_) (fun hc0=>?_)
 ·skip
  try simp at hc0
  have hq:=candQ_bd (j:=j) (ph:=p) (k:=k+1) (by omega);have wk:IntKind.i64.wrap (p+((k:Int)+1))=p+((k:Int)+1):=wrap_in (by omega) (by omega);have wk2:IntKind.i64.wrap ((k:Int)+1+1)=(k:Int)+1+1:=wrap_in (by omega) (by omega);have hm:(p+((k:Int)+1)).tmod (j.Phases.length:Int)=candQ j p (k+1):=by rw[Int.tmod_eq_emod_of_nonneg (by omega)];rfl
  have hw:=c_wants j op se ph on si R Sk Pr (candQ j p (k+1)) p d hf hq.1 hq.2 h0 h1;refine gwp_skip ?_;simp only[zT,reduceIte,Nat.reduceEqDiff];refine hK1 _ _ ?_;refine gwp_prune [0,1,2,4,5,999999] (Or.inl (by decide)) ?_;simp only[zP,Nat.reduceEqDiff,reduceIte];refine gwp_seq_k fun K2 hK2=>?_;refine gwp_block ?_;refine gS fun K hK=>?_;simp -dsimp [wk,hm,hn0];apply hK;clear hK K
  rcases Bool.eq_false_or_eq_true (someB j (candQ j p (k+1)) p d)with hs|hs<;>rw[hs]at hw
  ·refine gwp_sy hmk hY rfl (by decide) rfl rfl fun K hK=>?_;simp -dsimp;refine callK_intro _ (hw) (by simp) ?_;simp -dsimp;refine yK_intro (by rw[List.getElem?_map,cand_at (by omega) hs];rfl) ?_ ?_
   ·apply hK;clear hK K;refine gwp_cond rfl (fun hc1=>?_) (fun hc1=>?_)
    ·simp at hc1
    ·refine gwp_skip ?_;simp only[zT,reduceIte,Nat.reduceEqDiff];refine hK2 _ _ ?_;refine gwp_prune [0,1,2,4,5,999999] (Or.inl (by decide)) ?_;simp only[zP,Nat.reduceEqDiff,reduceIte];refine gR fun K hK=>?_;simp -dsimp [wk2];apply hK;clear hK K;simp only[zT,reduceIte,Nat.reduceEqDiff];have hsu:candTo j p d (k+1)=candTo j p d k++[candQ j p (k+1)]:=by rw[candTo,if_pos hs]
     exact⟨k+1,by omega,by omega,gsub (sub_rb [] rfl (by simp[hsu]) (by simp)) (by simp[hsu])⟩
   ·apply hK;clear hK K;refine gwp_cond rfl (fun hc1=>?_) (fun hc1=>?_)
    ·exact gwp_ret (by simp)
    ·simp at hc1
  ·refine gwp_sy hmk hY rfl (by decide) rfl rfl fun K hK=>?_;simp -dsimp;refine callK_intro _ (hw) (by simp) ?_;simp -dsimp;apply hK;clear hK K;refine gwp_cond rfl (fun hc1=>?_) (fun hc1=>?_)
   ·simp at hc1
   ·refine gwp_skip ?_;simp only[zT,reduceIte,Nat.reduceEqDiff];refine hK2 _ _ ?_;refine gwp_prune [0,1,2,4,5,999999] (Or.inl (by decide)) ?_;simp only[zP,Nat.reduceEqDiff,reduceIte];refine gR fun K hK=>?_;simp -dsimp [wk2];apply hK;clear hK K;simp only[zT,reduceIte,Nat.reduceEqDiff];have hsu:candTo j p d (k+1)=candTo j p d k:=by rw[candTo,if_neg (by simp[hs]),List.append_nil]
    exact⟨k+1,by omega,by omega,gsub (sub_rb [] rfl (by simp[hsu]) (by simp)) (by simp[hsu])⟩
 ·skip
  try simp at hc0
  have hke:k=j.Phases.length-1:=by omega
  subst hke;refine gwp_exit ?_
  try simp only[zT,reduceIte,Nat.reduceEqDiff]
  simp[candL]
end
end Go.Street
end
section
namespace Go.Street
open Go.AM Go.Proofs
def ltAt (l:List Lt) (i:Int):Lt:=(l[i.toNat]?).getD ⟨false,0⟩
theorem ltAt_get {l:List Lt} {i:Int} (h0:0≤i) (h:i<l.length):l[i.toNat]?=some (ltAt l i):=by
 unfold ltAt;rw[List.getElem?_eq_getElem (by omega)];rfl
theorem ltAt_nat {l:List Lt} {k:Nat} (h:k<l.length):l[k]?=some (ltAt l k):=by
 have:=ltAt_get (l:=l) (i:=k) (by omega) (by omega);simpa using this
abbrev lL (l:List Lt):AV:= .lst 2 (l.map Lt.cells)
def smallT (n:Int):Prop:=-1≤n∧n≤1000000
def hinders (j:Jn) (se:Int) (ls:List Lt) (x:Int) (a:Nat):Bool:=conf j a x&&((ltAt ls a).Green||decide (se-(ltAt ls a).Since<clr j a x))
def clearB (j:Jn) (se:Int) (ls:List Lt) (x:Int):Bool:= !(List.range ls.length).any (hinders j se ls x)
section
variable (j:Jn) (op ph on si R Sk Dm Pr:AV)
theorem c_clear (se:Int) (ls:List Lt) (x:Int) (hs:Sqr j) (hn:j.n≤22) (hl:ls.length=j.n) (hse:smallT se) (hlt:∀l∈ls,smallT l.Since) (x0:0≤x) (x1:x<j.n):
  PureCall Tryz.prog 199 [.iptr (sC j op (I se) ph on si (lL ls) Sk Dm Pr),I x] (Bo (clearB j se ls x)):=by
 unfold smallT at hse hlt;refine PureCall.of_body Tryz.func199 rfl (by decide) (by simp[Tryz.ntmps199]) ?_;simp only[Tryz.ntmps199,Tryz.results199];refine aS fun K hK=>?_;simp -dsimp;apply hK;clear hK K;refine awp_seq_k fun K1 hK1=>?_;refine aS fun K hK=>?_;simp -dsimp;apply hK;clear hK K;refine awp_block ?_;refine awp_prune [0,1,10,11,12] ?_;simp only[zP,Nat.reduceEqDiff,reduceIte];refine awp_loop_l [0,1,10,11] (α:=Nat) (fun a=>[(12,I a)]) (fun _=>[]) (fun a=>a≤ls.length∧∀a',a'<a→hinders j se ls x a'=false) (fun a=>ls.length-a) 0 ?_ ?_ ?_
 ·exact⟨Nat.zero_le _,fun a' h=>by omega⟩
 ·exact sub_same (by simp)
 rintro a ⟨a1,a2⟩;simp only[zP,Nat.reduceEqDiff,reduceIte];refine aS fun K hK=>?_;simp -dsimp;apply hK;clear hK K;refine awp_seq_k fun K2 hK2=>?_;refine awp_cond rfl (fun hc0=>?_) (fun hc0=>?_)
 ·skip
  try simp at hc0
  have g:=ltAt_nat hc0;have hla:=hlt _ (List.mem_of_getElem? g);have wa:=zW a (by omega);have gr:=hs.row (a:=(a:Int)) (by omega) (by omega);have gc:=hs.get (a:=(a:Int)) (b:=x) (by omega) (by omega) x0 x1;have hcf:=c_conflict j a x hs (by omega) (by omega) x0 x1;simp only[Int.toNat_natCast]at gr;have hhi:hinders j se ls x a=(conf j a x&&((ltAt ls a).Green||decide (se-(ltAt ls a).Since<clr j a x))):=rfl;generalize ltAt ls a=l at g hla hhi;have wd:IntKind.i64.wrap (se-l.Since)=se-l.Since:=wrap_in (by omega) (by omega);refine awp_skip ?_;simp only[zT,reduceIte,Nat.reduceEqDiff];refine hK2 _ _ ?_;refine awp_prune [0,1,10,11,12] ?_;simp only[zP,Nat.reduceEqDiff,reduceIte];refine awp_seq_k fun K3 hK3=>?_;refine awp_block ?_;refine aS fun K hK=>?_;simp -dsimp [g];apply hK;clear hK K;refine awp_sd mixed rfl fun K hK=>?_;simp -dsimp [wd];refine callK_intro _ (hcf) (by simp) ?_;simp -dsimp [wd];refine idxK_intro (rCell (rowAt j.Clears a)) (fun _=>by simp[gr.1]) ?_;simp -dsimp [wd];refine⟨by intros;omega,idxK_intro (nCell (clr j a x)) (fun _=>by simp[gc]) ?_⟩;simp -dsimp [wd];refine hK _ _ _ (by decide+kernel) ?_;clear hK K;refine awp_cond rfl (fun hc1=>?_) (fun hc1=>?_)
  ·have hb:clearB j se ls x=false:=by
    unfold clearB;have:(List.range ls.length).any (hinders j se ls x)=true:=by
     rw[List.any_eq_true];exact⟨a,List.mem_range.2 hc0,by rw[hhi];exact hc1⟩
    rw[this];rfl
   refine aS fun K hK=>?_;simp -dsimp;apply hK;clear hK K;exact awp_ret (by simp[hb])
  ·refine awp_skip ?_;simp only[zT,reduceIte,Nat.reduceEqDiff];refine hK3 _ _ ?_;refine awp_prune [0,1,10,11,12] ?_;simp only[zP,Nat.reduceEqDiff,reduceIte];refine aR fun K hK=>?_;simp -dsimp [wa];apply hK;clear hK K;simp only[zT,reduceIte,Nat.reduceEqDiff];refine⟨a+1,⟨by omega,fun a' h=>?_⟩,by omega,sub_rb [] rfl (by simp) (by simp)⟩
   rcases Nat.lt_succ_iff_lt_or_eq.1 h with h|rfl
   ·exact a2 a' h
   ·rw[hhi];exact hc1
 ·skip
  try simp at hc0
  refine awp_exit ?_;simp only[zT,reduceIte,Nat.reduceEqDiff];refine hK1 _ _ ?_;refine awp_prune [] ?_;simp only[zP,Nat.reduceEqDiff,reduceIte];refine aS fun K hK=>?_;simp -dsimp;apply hK;clear hK K;have hb:clearB j se ls x=true:=by
   unfold clearB;have:(List.range ls.length).any (hinders j se ls x)=false:=by
    rw[List.any_eq_false];intro a' ha';rw[a2 a' (by have:=List.mem_range.1 ha';omega)];simp
   rw[this];rfl
  exact awp_ret (by simp[hb])
end
def young (j:Jn) (se:Int) (ls:List Lt) (x:Int):Bool:=(ltAt ls x).Green&&decide (se-(ltAt ls x).Since<(strm j x).Least)
def endsB (j:Jn) (se ph si:Int) (ls:List Lt) (d p:List Int):Bool:=
 !(candL j ph d).isEmpty&&(!(rowAt j.Phases ph).any (young j se ls)&&
  (!((rowAt j.Phases ph).any fun x=>decide (x∈d))||decide (at0 j.Longest ph≤se-si)||(p.any fun x=> !hasB j ph x)&& !(rowAt j.Phases ph).any fun x=>decide (x∈p)))
def kvOf (x:Int):List KC×Value:=([.i .i64 x], .bool true)
theorem metK_kv (l:List Int):metK l=(dd l).map kvOf:=rfl
theorem any_dd (l:List Int) (f:Int→Bool):(dd l).any f=l.any f:=by
 rw[Bool.eq_iff_iff];simp only[List.any_eq_true,dd_mem]
theorem any_erase {l:List Int} {i:Nat} {x:Int} (h:l[i]?=some x) (f:Int→Bool):l.any f=(f x||(l.eraseIdx i).any f):=by
 induction l generalizing i with
 |nil=>simp at h
 | cons y l ih=>
  cases i with
  |zero=>simp at h;subst h;simp
  |succ i=>
   simp only[List.getElem?_cons_succ]at h;simp only[List.any_cons,List.eraseIdx_cons_succ,ih h]
   cases f x<;>cases f y<;>rfl
section
variable (j:Jn) (op on R Sk Dm Pr:AV)
theorem c_ends (se ph si:Int) (ls:List Lt) (d p:List Int) (hf:Fit j) (ho:JOk j) (hl:ls.length=j.n) (hse:smallT se) (hsi:smallT si) (hlt:∀l∈ls,smallT l.Since) (p0:0≤ph) (p1:ph<j.Phases.length):
  PureCall Tryz.prog 118 [.iptr (sC j op (I se) (I ph) on (I si) (lL ls) Sk (mp d) (mp p))] (Bo (endsB j se ph si ls d p)):=by
 have hcd:=c_candidates j op (I se) (I ph) on (I si) (lL ls) Sk (mp d) (mp p) ph;have hci:=c_cand1 j op (I se) (I ph) on (I si) (lL ls) Sk (mp p) ph d hf p0 p1;have hph:=ho.phase p0 p1;have hpl:=hf.ps _ (List.mem_of_getElem? hph.1);have gL:=at0_get (l:=j.Longest) (i:=ph) p0 (by have:=ho.ll;omega);unfold smallT at hse hsi hlt;have wd:IntKind.i64.wrap (se-si)=se-si:=wrap_in (by omega) (by omega);refine PureCall.of_bodyG Tryz.func118 rfl (by decide) (by simp[Tryz.ntmps118]) ?_;intro J hJ;simp only[Tryz.ntmps118,Tryz.results118];refine gS fun K hK=>?_;simp -dsimp;apply hK;clear hK K;refine gS fun K hK=>?_;simp -dsimp;apply hK;clear hK K;refine gwp_seq_k fun K1 hK1=>?_;refine gS fun K hK=>?_;simp -dsimp;refine callK_intro _ (hcd) (by simp) ?_;simp -dsimp;apply hK;clear hK K;refine gwp_block ?_;refine gwp_prune [0,3,16] (Or.inr (by simp)) ?_;simp only[zP,Nat.reduceEqDiff,reduceIte];refine gwp_range_s hJ [0,3,16] (fun n=>[some (.els 1 [[Bo false]])]) (fun n=>n=0) rfl (hci) rfl (by simp) (by decide) (by decide) (by decide) (qAV_len _) ?_ ?_ ?_ ?_
 ·trivial
 ·exact sub_same (by simp)
 ·intro n xv hxn hi l1 J1 hJ1;obtain rfl:n=0:=hi;obtain⟨q,hq,rfl⟩:∃q,(candL j ph d)[0]?=some q∧[I q]=xv:=by simpa [qAV]using hxn
  have hne:(candL j ph d).isEmpty=false:=by
   cases hcl:candL j ph d with
   |nil=>rw[hcl]at hq;simp at hq
   |cons=>rfl
  simp only[List.zip_cons_cons,List.zip_nil_left,List.zip_nil_right,List.cons_append,List.nil_append];refine gwp_skip ?_;simp only[onlyN];intro J2 hJ2;refine gwp_prune [0,3,16] (Or.inr (by simp)) ?_;simp only[zP,Nat.reduceEqDiff,reduceIte];refine gwp_block ?_;refine gS fun K hK=>?_;simp -dsimp;apply hK;clear hK K;refine gwp_exit ?_;simp only[thenA,inBlockA,roundQ,reduceIte,Nat.reduceEqDiff,eq_self];refine⟨[some (.els 1 [[Bo true]])],sub_rb [some 0] rfl (by simp) (by simp),?_⟩
  try simp only[zT,reduceIte,Nat.reduceEqDiff]
  refine hK1 _ _ ?_;refine gwp_prune [0,3] (Or.inr (by simp)) ?_;simp only[zP,Nat.reduceEqDiff,reduceIte];refine gwp_seq_k fun K2 hK2=>?_;refine gS fun K hK=>?_;simp -dsimp;apply hK;clear hK K;refine gwp_cond rfl (fun hc0=>?_) (fun hc0=>?_)
  ·simp at hc0
  ·refine gwp_skip ?_;simp only[zT,reduceIte,Nat.reduceEqDiff];refine hK2 _ _ ?_;refine gwp_prune [0] (Or.inr (by simp)) ?_;simp only[zP,Nat.reduceEqDiff,reduceIte];refine gS fun K hK=>?_;simp -dsimp;apply hK;clear hK K;refine gwp_seq_k fun K3 hK3=>?_;refine gwp_sd mixed rfl (by decide) rfl rfl fun K hK=>?_;simp -dsimp [hph.1,p0];refine hK _ _ _ (by decide+kernel) ?_;clear hK K;refine gwp_block ?_;refine gwp_prune [0,4,5,6,31,32,33] (Or.inr (by simp)) ?_;simp only[zP,Nat.reduceEqDiff,reduceIte];refine gwp_loop_l [0,6,31,32] (α:=Nat) (fun k=>[(4,Bo (((rowAt j.Phases ph).take k).any fun x=>decide (x∈d))),(5,Bo (((rowAt j.Phases ph).take k).any fun x=>decide (x∈p))),(33,I k)]) (fun k=>[some (.els 1 [[Bo true]])]) (fun k=>k≤(rowAt j.Phases ph).length∧((rowAt j.Phases ph).take k).any (young j se ls)=false) (fun k=>(rowAt j.Phases ph).length-k) 0 ?_ ?_ ?_
   ·exact⟨Nat.zero_le _,rfl⟩
   ·exact gsub (sub_same (by simp)) (by simp)
   rintro k ⟨k1,k2⟩;simp only[zP,Nat.reduceEqDiff,reduceIte];refine gS fun K hK=>?_;simp -dsimp;apply hK;clear hK K;refine gwp_seq_k fun K4 hK4=>?_;refine gwp_cond rfl (fun hc1=>?_) (fun hc1=>?_)
   ·skip
    try simp at hc1
    have gx:=at0_nat hc1;have hxb:=hph.2.2.1 _ (List.mem_of_getElem? gx);have wk:=zW k (by omega);generalize at0 (rowAt j.Phases ph) k=x at gx hxb;have gl:=ltAt_get (l:=ls) (i:=x) hxb.1 (by omega);have gst:=strm_get hxb.1 hxb.2;have hla:=hlt _ (List.mem_of_getElem? gl);have hyo:young j se ls x=((ltAt ls x).Green&&decide (se-(ltAt ls x).Since<(strm j x).Least)):=rfl;generalize ltAt ls x=l at gl hla hyo;have wl:IntKind.i64.wrap (se-l.Since)=se-l.Since:=wrap_in (by omega) (by omega);refine gwp_skip ?_;simp only[zT,reduceIte,Nat.reduceEqDiff];refine hK4 _ _ ?_;refine gwp_prune [0,4,5,6,31,32,33] (Or.inr (by simp)) ?_;simp only[zP,Nat.reduceEqDiff,reduceIte];refine gwp_seq_k fun K5 hK5=>?_;refine gwp_block ?_;refine gS fun K hK=>?_;simp -dsimp [gx];apply hK;clear hK K;refine gwp_seq_k fun K6 hK6=>?_;refine gS fun K hK=>?_;simp -dsimp [gl,hxb.1];apply hK;clear hK K;refine gwp_sd mixed rfl (by decide) rfl rfl fun K hK=>?_;simp -dsimp [wl];refine⟨fun _=>hxb.1,idxK_intro (strm j x).cells (fun _=>by simp[gst]) ?_⟩;simp -dsimp [wl];refine hK _ _ _ (by decide+kernel) ?_;clear hK K;refine gwp_cond rfl (fun hc2=>?_) (fun hc2=>?_)
    ·refine gS fun K hK=>?_;simp -dsimp;apply hK;clear hK K;have hyy:(rowAt j.Phases ph).any (young j se ls)=true:=by
      rw[List.any_eq_true];exact⟨x,List.mem_of_getElem? gx,by rw[hyo];exact hc2⟩
     exact gwp_ret (by simp[endsB,hyy])
    ·refine gwp_skip ?_;simp only[zT,reduceIte,Nat.reduceEqDiff];refine hK6 _ _ ?_;refine gwp_prune [0,4,5,6,8,31,32,33] (Or.inr (by simp)) ?_;simp only[zP,Nat.reduceEqDiff,reduceIte];refine gS fun K hK=>?_;simp -dsimp [metK_look];refine valK_intro (_) (fun hm=>rfl) ?_;simp -dsimp [metK_look];apply hK;clear hK K;refine gR fun K hK=>?_;simp -dsimp [metK_look];refine valK_intro (_) (fun hm=>rfl) ?_;simp -dsimp [metK_look];apply hK;clear hK K;simp only[zT,reduceIte,Nat.reduceEqDiff];refine hK5 _ _ ?_;refine gwp_prune [0,4,5,6,31,32,33] (Or.inr (by simp)) ?_;simp only[zP,Nat.reduceEqDiff,reduceIte];refine gR fun K hK=>?_;simp -dsimp [wk];apply hK;clear hK K;simp only[zT,reduceIte,Nat.reduceEqDiff];have e1:=any_take (q:=fun x=>decide (x∈d)) gx;have e2:=any_take (q:=fun x=>decide (x∈p)) gx;exact⟨k+1,⟨by omega,by rw[any_take gx,k2,hyo,hc2];rfl⟩,by omega,gsub (sub_rb [some 0] rfl (by simp[e1,e2]) (by simp)) (by simp)⟩
   ·skip
    try simp at hc1
    have hny:=any_of_take (by omega) k2;have htk:(rowAt j.Phases ph).take k=rowAt j.Phases ph:=List.take_of_length_le (by omega);refine gwp_exit ?_;simp only[zT,reduceIte,Nat.reduceEqDiff];refine hK3 _ _ ?_;refine gwp_prune [0,4,5,6] (Or.inr (by simp)) ?_;simp only[zP,Nat.reduceEqDiff,reduceIte];refine gwp_seq_k fun K7 hK7=>?_;refine gS fun K hK=>?_;simp -dsimp [htk,metK_kv];apply hK;clear hK K;refine gwp_block ?_;refine gwp_prune [0,4,5,6,91] (Or.inr (by simp)) ?_;simp only[zP,Nat.reduceEqDiff,reduceIte];refine gwp_loop_l [0,4,5,91] (α:=List Int×Option Int×Bool) (fun x=>[(6,Bo x.2.2)]) (fun x=>[some (.els 1 [[Bo true]]),some (.itr false [.i .i64] (x.1.map kvOf) (x.2.1.map kvOf))]) (fun x=>(x.2.2||x.1.any fun y=> !hasB j ph y)=p.any fun y=> !hasB j ph y) (fun x=>x.1.length) (dd p,none,false) ?_ ?_ ?_
    ·simp only[Bool.false_or,any_dd]
    ·exact gsub (sub_same (by simp)) (by simp)
    rintro⟨left,cur,asb⟩ ix;simp only at ix ⊢;simp only[zP,Nat.reduceEqDiff,reduceIte];refine gwp_sn (.tmp 91) 1 rfl (by decide) rfl rfl rfl rfl (by simp) (by simp) rfl (fun hl0 K hK=>?_) (fun i e hie K hK=>?_)
    ·obtain rfl:left=[]:=by simpa using hl0
     simp -dsimp;apply hK;clear hK K;refine gwp_seq_k fun K8 hK8=>?_;refine gwp_cond rfl (fun hc3=>?_) (fun hc3=>?_)
     ·simp at hc3
     ·refine gwp_exit ?_;simp only[zT,reduceIte,Nat.reduceEqDiff];refine hK7 _ _ ?_;refine gwp_prune [0,4,5,6] (Or.inr (by simp)) ?_;simp only[zP,Nat.reduceEqDiff,reduceIte];refine gwp_sd mixed rfl (by decide) rfl rfl fun K hK=>?_;simp -dsimp [wd,p0,htk];refine idxK_intro (nCell (at0 j.Longest ph)) (fun _=>by simp[gL]) ?_;simp -dsimp [wd,p0,htk];refine hK _ _ _ (by decide+kernel) ?_;clear hK K;have hcne:(candL j ph d).isEmpty=false:=hne;have hfin:asb=p.any fun y=> !hasB j ph y:=by simpa using ix
      refine gwp_ret ?_;simp[endsB,hcne,hny,←hfin]
    ·obtain⟨y,hy,rfl⟩:∃y,left[i]?=some y∧kvOf y=e:=by simpa using hie
     have hme:(left.map kvOf).eraseIdx i=(left.eraseIdx i).map kvOf:=(map_eraseIdx' kvOf left i).symm;rw[hme];simp -dsimp;apply hK;clear hK K;refine gwp_seq_k fun K9 hK9=>?_;refine gwp_cond rfl (fun hc3=>?_) (fun hc3=>?_)
     ·refine gwp_skip ?_;simp only[zT,reduceIte,Nat.reduceEqDiff];refine hK9 _ _ ?_;refine gwp_prune [0,4,5,6,91] (Or.inr (by simp)) ?_;simp only[zP,Nat.reduceEqDiff,reduceIte];refine gwp_block ?_;refine gS fun K hK=>?_;simp -dsimp [kvOf];apply hK;clear hK K;refine gR fun K hK=>?_;simp -dsimp;refine callK_may _ (fun hm=>c_has j op (I se) (I ph) on (I si) (lL ls) Sk (mp d) (mp p) ph y hf p0 p1) (by simp) ?_;simp -dsimp;apply hK;clear hK K;simp only[zT,reduceIte,Nat.reduceEqDiff];have hae:=any_erase hy (fun y=> !hasB j ph y);have hil:=(List.getElem?_eq_some_iff.1 hy).1;refine⟨(left.eraseIdx i,some y,asb|| !hasB j ph y),?_,?_,gsub (sub_rb [some 0,some 1] rfl (by simp) (by simp[kvOf])) (by simp)⟩
      ·simp only;rw[←ix,hae];cases asb<;>simp
      ·simp only[List.length_eraseIdx,if_pos hil];omega
     ·simp at hc3
 ·intro hdone;simp only[zT,reduceIte,Nat.reduceEqDiff];refine hK1 _ _ ?_;refine gwp_prune [0,3] (Or.inr (by simp)) ?_;simp only[zP,Nat.reduceEqDiff,reduceIte];refine gwp_seq_k fun K10 hK10=>?_;refine gS fun K hK=>?_;simp -dsimp;apply hK;clear hK K;refine gwp_cond rfl (fun hc0=>?_) (fun hc0=>?_)
  ·refine gS fun K hK=>?_;simp -dsimp;apply hK;clear hK K;have hem:(candL j ph d).isEmpty=true:=by
    have h0:((candL j ph d).map qAV).length=0:=hdone;rw[List.length_map]at h0;rw[List.isEmpty_iff];exact List.eq_nil_of_length_eq_zero h0
   exact gwp_ret (by simp[endsB,hem])
  ·simp at hc0
end
end Go.Street
end
section
namespace Go.Street
open Go.AM Go.Proofs
@[simp] theorem at0_elem {l:List Int} {i:Int} (h:i.toNat<l.length):l[i.toNat]'h=at0 l i:=by simp[at0,h]
def firstQ (c:List Int) (f:Int→Bool):Int:=(c.find? f).getD (-1)
theorem firstQ_hit {c:List Int} {f:Int→Bool} {n:Nat} {q:Int} (hq:c[n]?=some q) (hf:f q=true) (hn:(c.take n).any f=false):c.find? f=some q:=by
 rw[List.find?_eq_some_iff_append];obtain⟨hl,he⟩:=List.getElem?_eq_some_iff.1 hq;refine⟨hf,c.take n,c.drop (n+1),?_,?_⟩
 ·rw[←he,List.getElem_cons_drop,List.take_append_drop]
 ·intro a ha;rw[List.any_eq_false]at hn;simpa using hn a ha
theorem firstQ_none {c:List Int} {f:Int→Bool} (h:c.any f=false):c.find? f=none:=by
 rw[List.find?_eq_none];intro x hx;rw[List.any_eq_false]at h;exact h x hx
theorem find_take {c:List Int} {f:Int→Bool} {n:Nat} {q:Int} (hq:c[n]?=some q):(c.take (n+1)).find? f=((c.take n).find? f).or (if f q then some q else none):=by
 rw[List.take_add_one,hq,List.find?_append]
 congr 1
 simp only[Option.toList_some,List.find?]
 cases f q<;>rfl
theorem firstQ_step {C:List Int} {f:Int→Bool} {n:Nat} {q:Int} (hb:∀x∈C,0≤x) (hq:C[n]?=some q):firstQ (C.take (n+1)) f=if firstQ (C.take n) f<0∧f q=true then q else firstQ (C.take n) f:=by
 unfold firstQ;rw[find_take hq]
 cases h:(C.take n).find? f with
 |none=>
  simp only[Option.none_or,Option.getD_none]
  by_cases hf:f q=true
  ·rw[if_pos hf,if_pos ⟨by omega,hf⟩];rfl
  ·rw[if_neg hf,if_neg (fun k=>hf k.2)];rfl
 |some y=>
  have:=hb y (List.mem_of_mem_take (List.mem_of_find?_eq_some h));simp only[Option.some_or,Option.getD_some];rw[if_neg (by omega)]
def incr (sk:List Int) (q:Int):List Int:=sk.set q.toNat (at0 sk q+1)
def incrs (sk:List Int) (l:List Int):List Int:=l.foldl incr sk
theorem incr_len (sk:List Int) (q:Int):(incr sk q).length=sk.length:=by simp[incr]
theorem incrs_len (sk:List Int) (l:List Int):(incrs sk l).length=sk.length:=by
 unfold incrs
 induction l generalizing sk with
 |nil=>rfl
 |cons q l ih=>rw[List.foldl_cons,ih,incr_len]
theorem incrs_snoc {sk c:List Int} {n:Nat} {q:Int} (h:c[n]?=some q):incrs sk (c.take (n+1))=incr (incrs sk (c.take n)) q:=by
 rw[List.take_add_one,h];simp[incrs]
theorem at0_mem_bd {l:List Int} {A B:Int} (hA:A≤0) (hB:0≤B) (h:∀x∈l,A≤x∧x≤B) (i:Int):A≤at0 l i∧at0 l i≤B:=by
 unfold at0
 cases hx:l[i.toNat]? with
 |none=>exact⟨hA,hB⟩
 |some x=>exact h x (List.mem_of_getElem? hx)
theorem incr_bd {sk:List Int} {B:Int} (hB:0≤B) (h:∀x∈sk,0≤x∧x≤B) (q:Int):∀x∈incr sk q,0≤x∧x≤B+1:=by
 intro x hx;have:=at0_mem_bd (Int.le_refl 0) hB h q
 rcases List.mem_or_eq_of_mem_set hx with h1|rfl
 ·have:=h x h1;omega
 ·omega
theorem incrs_bd {B:Int} (l:List Int):∀(sk:List Int) (B:Int),0≤B→(∀x∈sk,0≤x∧x≤B)→∀x∈incrs sk l,0≤x∧x≤B+l.length:=by
 unfold incrs
 induction l with
 |nil=>intro sk B hB h x hx;have:=h x hx;simp;omega
 |cons q l ih=>
  intro sk B hB h x hx;have:=ih (incr sk q) (B+1) (by omega) (incr_bd hB h q) x hx;simp only[List.length_cons];omega
def best1 (j:Jn) (ph:Int) (d sk:List Int):Int:=firstQ (candL j ph d) fun q=>decide (j.Skips≤at0 sk q)
def best2 (j:Jn) (ph:Int) (d p sk:List Int):Int:=if best1 j ph d sk<0 then firstQ (candL j ph d) fun q=>someB j q ph p else best1 j ph d sk
def nextB (j:Jn) (ph:Int) (d p sk:List Int):Int:=if best2 j ph d p sk<0 then(candL j ph d).headD 0 else best2 j ph d p sk
def nextK (j:Jn) (ph:Int) (d p sk:List Int):List Int:=
 (incrs sk ((candL j ph d).takeWhile fun q=> !decide (q=nextB j ph d p sk))).set (nextB j ph d p sk).toNat 0
theorem candTo_bd {j:Jn} {ph:Int} {d:List Int} (hp:1≤j.Phases.length):∀k,∀q∈candTo j ph d k,0≤q∧q<j.Phases.length
 |0,q,h=>by simp[candTo]at h
 | k+1,q,h=>by
  simp only[candTo,List.mem_append]at h
  rcases h with h|h
  ·exact candTo_bd hp k q h
  ·split at h
   ·simp only[List.mem_singleton]at h;subst h;exact candQ_bd hp
   ·simp at h
theorem candL_bd {j:Jn} {ph:Int} {d:List Int} (hp:1≤j.Phases.length):∀q∈candL j ph d,0≤q∧q<j.Phases.length:=candTo_bd hp _
theorem find_mem {c:List Int} {f:Int→Bool}:firstQ c f=-1∨firstQ c f∈c:=by
 unfold firstQ
 cases h:c.find? f with
 |none=>exact Or.inl rfl
 |some q=>exact Or.inr (List.mem_of_find?_eq_some h)
theorem nextB_mem {j:Jn} {ph:Int} {d p sk:List Int} (hne:candL j ph d≠[]):nextB j ph d p sk∈candL j ph d:=by
 have h1:=find_mem (c:=candL j ph d) (f:=fun q=>decide (j.Skips≤at0 sk q));have h2:=find_mem (c:=candL j ph d) (f:=fun q=>someB j q ph p);have h3:best2 j ph d p sk<0∨best2 j ph d p sk∈candL j ph d:=by
  unfold best2 best1
  split
  ·rcases h2 with h|h
   ·rw[h];exact Or.inl (by omega)
   ·exact Or.inr h
  ·rename_i h;exact Or.inr (h1.resolve_left (fun e=>h (by rw[e];omega)))
 unfold nextB
 split
 ·cases hc:candL j ph d with
  |nil=>exact absurd hc hne
  |cons q l=>simp
 ·rename_i h;exact h3.resolve_left h
theorem takeWhile_take {c:List Int} {b:Int} {n:Nat} (hn:c[n]?=some b) (h:∀m,m<n→c[m]?≠some b):c.takeWhile (fun q=> !decide (q=b))=c.take n:=by
 induction c generalizing n with
 |nil=>simp at hn
 | cons x c ih=>
  cases n with
  |zero=>simp at hn;subst hn;simp
  |succ n=>
   have hx:x≠b:=fun e=>h 0 (by omega) (by simp[e]);rw[List.takeWhile_cons,if_pos (by simp[hx]),List.take_succ_cons,ih (by simpa using hn) (fun m hm=>by have:=h (m+1) (by omega);simpa using this)]
theorem m_next (j:Jn) (se ph si:Int) (on:Bool) (ls:List Lt) (d p sk:List Int) (hf:Fit j) (ho:JOk j) (hk:sk.length=j.Phases.length) (hkb:∀x∈sk,0≤x∧x≤1000000) (p0:0≤ph) (p1:ph<j.Phases.length) (hne:candL j ph d≠[]):
  MutCall Tryz.prog 202 [.vptr (sC j (Bo true) (I se) (I ph) (Bo on) (I si) (lL ls) (.row 0 0 sk.length) (mp d) (mp p))] [some (.els 1 (sk.map nCell))] [] (I (nextB j ph d p sk)) [some (.els 1 ((nextK j ph d p sk).map nCell))] []:=by
 have hcd:=c_candidates j (Bo true) (I se) (I ph) (Bo on) (I si) (lL ls) .any (mp d) (mp p) ph;have hci:=c_cand1 j (Bo true) (I se) (I ph) (Bo on) (I si) (lL ls) .any (mp p) ph d hf p0 p1;have hur:=fun q q0 q1=>c_urges j (Bo true) (I se) (I ph) (Bo on) (I si) (lL ls) .any (mp d) q ph p hf q0 q1 p0 p1;have hcb:=candL_bd (j:=j) (ph:=ph) (d:=d) (by omega);have hcl:(candL j ph d).length≤14:=by have:=candTo_len j ph d (j.Phases.length-1);have:=hf.p;unfold candL;omega
 have hs1:=ho.s1;have hs2:=ho.s2;have wm1:IntKind.i64.wrap (-1)=-1:=wrap_in (by omega) (by omega);obtain⟨C,hC⟩:∃C,candL j ph d=C:=⟨_,rfl⟩;have hget:∀{l:List Int} {q:Int},l.length=j.Phases.length→q∈C→l[q.toNat]?=some (at0 l q):=fun hl hq=>by
  have:=hcb _ (hC▸hq);exact at0_get this.1 (by omega)
 have hb3m:=nextB_mem (p:=p) (sk:=sk) hne;have hb1:best1 j ph d sk=firstQ C fun q=>decide (j.Skips≤at0 sk q):=by rw[←hC];rfl
 have hb2:best2 j ph d p sk=if best1 j ph d sk<0 then firstQ C (fun q=>someB j q ph p)else best1 j ph d sk:=by rw[←hC];rfl
 have hb3:nextB j ph d p sk=if best2 j ph d p sk<0 then C.headD 0 else best2 j ph d p sk:=by rw[←hC];rfl
 have hkf:nextK j ph d p sk=(incrs sk (C.takeWhile fun q=> !decide (q=nextB j ph d p sk))).set (nextB j ph d p sk).toNat 0:=by rw[←hC];rfl
 rw[hC]at hci hcb hcl hb3m;rw[hkf];clear hkf hC hne;generalize nextB j ph d p sk=b3 at hb3 hb3m ⊢;generalize best2 j ph d p sk=b2 at hb2 hb3;generalize best1 j ph d sk=b1 at hb1 hb2;have hb30:=(hcb b3 hb3m).1;have hsk1:1≤sk.length:=by have:=ho.p1;omega
 have hb3l:=(hcb b3 hb3m).2;have hb3k:b3<(sk.length:Int):=by omega
 have hb1m:b1=-1∨0≤b1:=by
  rcases find_mem (c:=C) (f:=fun q=>decide (j.Skips≤at0 sk q))with h|h
  ·left;rw[hb1];exact h
  ·right;rw[hb1];exact(hcb _ h).1
 obtain⟨cu,hcu⟩:∃cu:Nat→Int,∀n,cu n=(if b1<0 then firstQ (C.take n) (fun q=>someB j q ph p)else b1):=⟨_,fun _=>rfl⟩;have hcu0:cu 0=b1:=by
  rw[hcu]
  split
  ·rename_i h;have:b1=-1:=by omega
   rw[this];rfl
  ·rfl
 have hcuN:cu C.length=b2:=by rw[hcu,hb2,List.take_length]
 have hcuS:∀n q,C[n]?=some q→cu (n+1)=if (decide (cu n<0)&&someB j q ph p)=true then q else cu n:=by
  intro n q hq;have hst:=firstQ_step (f:=fun q=>someB j q ph p) (fun x hx=>(hcb x hx).1) hq;rw[hcu (n+1),hcu n]
  by_cases hb:b1<0
  ·simp only[if_pos hb,hst,Bool.and_eq_true,decide_eq_true_eq]
  ·simp only[if_neg hb,hb,decide_false,Bool.false_and,Bool.false_eq_true,if_false]
 obtain⟨vv,hvv⟩:∃vv:Nat→Int,∀n,vv n=(if n=0 then b2 else b3):=⟨_,fun _=>rfl⟩;have hvv0:vv 0=b2:=by rw[hvv];rfl
 have hvvS:∀n,vv (n+1)=b3:=fun n=>by rw[hvv];simp
 have hvv1:∀n q,C[n]?=some q→vv n<0→q=b3:=by
  intro n q hq h;rw[hvv]at h
  split at h
  ·rename_i e;subst e;rw[hb3,if_pos h]
   cases C with
   |nil=>simp at hq
   |cons x C=>simpa using hq.symm
  ·omega
 have hvv2:∀n,¬vv n<0→vv n=b3:=by
  intro n h;rw[hvv]at h ⊢
  split
  ·rename_i e;rw[if_pos e]at h;rw[hb3,if_neg h]
  ·rfl
 refine MutCall.of_bodyG [0] Tryz.func202 rfl (by decide) (by simp[Tryz.ntmps202]) rfl rfl ?_;intro J hJ;simp only[Tryz.ntmps202,Tryz.results202];refine gS fun K hK=>?_;simp -dsimp;apply hK;clear hK K;refine gS fun K hK=>?_;simp -dsimp;apply hK;clear hK K;refine gwp_seq_j [0,1,3] [] [some (.els 1 (sk.map nCell)),some (.els 1 [[.vptr (sC j (Bo true) (I se) (I ph) (Bo on) (I si) (lL ls) (.row 0 0 sk.length) (mp d) (mp p))]]),some (.els 1 [[I b1]])] ?_ ?_
 ·refine gwp_sd mixed rfl (by decide) rfl rfl fun K hK=>?_;simp -dsimp;refine callK_bare _ (fun hm=>hcd) ?_;simp -dsimp;refine hK _ _ _ (by decide+kernel) ?_;clear hK K;refine gwp_block ?_;refine gwp_prune [0,1,3,12] (Or.inr (by simp)) ?_;simp only[zP,Nat.reduceEqDiff,reduceIte];refine gwp_range_s hJ [0,1,3,12] (fun n=>[some (.els 1 (sk.map nCell)),some (.els 1 [[.vptr (sC j (Bo true) (I se) (I ph) (Bo on) (I si) (lL ls) (.row 0 0 sk.length) (mp d) (mp p))]]),some (.els 1 [[I (-1)]])]) (fun n=>(C.take n).any (fun q=>decide (j.Skips≤at0 sk q))=false) rfl (hci) rfl (by simp) (by decide) (by decide) (by decide) (qAV_len _) ?_ ?_ ?_ ?_
  ·rfl
  ·exact sub_rb [some 0,some 1,some 2] rfl (by simp) (by simp)
  ·intro n xv hxn hi l1 J1 hJ1;obtain⟨q,hq,rfl⟩:∃q,C[n]?=some q∧[I q]=xv:=by simpa [qAV]using hxn
   have hqm:=List.mem_of_getElem? hq;have hqb:=hcb q hqm;have gk:=hget hk hqm;have hqk:q<(sk.length:Int):=by omega
   simp only[List.zip_cons_cons,List.zip_nil_left,List.zip_nil_right,List.cons_append,List.nil_append];refine gR fun K hK=>?_;simp -dsimp;apply hK;clear hK K;simp only[onlyN];intro J2 hJ2;refine gwp_prune [0,1,3,4,12] (Or.inr (by simp)) ?_;simp only[zP,Nat.reduceEqDiff,reduceIte];refine gwp_block ?_;refine gwp_sd mixed rfl (by decide) rfl rfl fun K hK=>?_;simp -dsimp [gk,hqb.1,hqk];refine hK _ _ _ (by decide+kernel) ?_;clear hK K;refine gwp_cond rfl (fun hc0=>?_) (fun hc0=>?_)
   ·refine gS fun K hK=>?_;simp -dsimp;apply hK;clear hK K;refine gwp_exit ?_;simp only[thenA,inBlockA,roundQ,reduceIte,Nat.reduceEqDiff,eq_self];have e1:b1=q:=by rw[hb1];unfold firstQ;rw[firstQ_hit hq hc0 hi];rfl
    refine⟨[some (.els 1 (sk.map nCell)),some (.els 1 [[.vptr (sC j (Bo true) (I se) (I ph) (Bo on) (I si) (lL ls) (.row 0 0 sk.length) (mp d) (mp p))]]),some (.els 1 [[I b1]])],sub_rb [some 0,some 1,some 2] rfl (by simp) (by simp[e1]),?_⟩
    try simp only[zT,reduceIte,Nat.reduceEqDiff]
    exact gsub (sub_rb [some 0,some 1,some 2] rfl (by simp) (by simp)) (by simp)
   ·refine gwp_skip ?_;simp only[thenA,inBlockA,roundQ,reduceIte,Nat.reduceEqDiff,eq_self];exact⟨by rw[any_take hq,hi,hc0];rfl,sub_rb [some 0,some 1,some 2] rfl (by simp) (by simp)⟩
  ·intro hdone;simp only[zT,reduceIte,Nat.reduceEqDiff];have e1:b1=-1:=by
    have hd:(C.take (C.map qAV).length).any (fun q=>decide (j.Skips≤at0 sk q))=false:=hdone;rw[hb1];unfold firstQ;rw[firstQ_none (any_of_take (by simp) hd)];rfl
   exact gsub (sub_rb [some 0,some 1,some 2] rfl (by simp) (by simp[e1])) (by simp)
 refine gwp_seq_j [0,1,3] [] [some (.els 1 (sk.map nCell)),some (.els 1 [[.vptr (sC j (Bo true) (I se) (I ph) (Bo on) (I si) (lL ls) (.row 0 0 sk.length) (mp d) (mp p))]]),some (.els 1 [[I b2]])] ?_ ?_
 ·refine gwp_sd mixed rfl (by decide) rfl rfl fun K hK=>?_;simp -dsimp;refine callK_bare _ (fun hm=>hcd) ?_;simp -dsimp;refine hK _ _ _ (by decide+kernel) ?_;clear hK K;refine gwp_block ?_;refine gwp_prune [0,1,3,34] (Or.inr (by simp)) ?_;simp only[zP,Nat.reduceEqDiff,reduceIte];refine gwp_range_s hJ [0,1,3,34] (fun n=>[some (.els 1 (sk.map nCell)),some (.els 1 [[.vptr (sC j (Bo true) (I se) (I ph) (Bo on) (I si) (lL ls) (.row 0 0 sk.length) (mp d) (mp p))]]),some (.els 1 [[I (cu n)]])]) (fun n=>n≤C.length) rfl (hci) rfl (by simp) (by decide) (by decide) (by decide) (qAV_len _) ?_ ?_ ?_ ?_
  ·exact Nat.zero_le _
  ·exact sub_rb [some 0,some 1,some 2] rfl (by simp) (by simp[hcu0])
  ·intro n xv hxn hi l1 J1 hJ1;obtain⟨q,hq,rfl⟩:∃q,C[n]?=some q∧[I q]=xv:=by simpa [qAV]using hxn
   have hqm:=List.mem_of_getElem? hq;have hqb:=hcb q hqm;have hnl:=(List.getElem?_eq_some_iff.1 hq).1;have hst:=hcuS n q hq;generalize cu n=cn at hst ⊢;simp only[List.zip_cons_cons,List.zip_nil_left,List.zip_nil_right,List.cons_append,List.nil_append];refine gR fun K hK=>?_;simp -dsimp;apply hK;clear hK K;simp only[onlyN];intro J2 hJ2;refine gwp_prune [0,1,3,5,34] (Or.inr (by simp)) ?_;simp only[zP,Nat.reduceEqDiff,reduceIte];refine gwp_block ?_;refine gwp_sd mixed rfl (by decide) rfl rfl fun K hK=>?_;simp -dsimp;refine callK_bare _ (fun hm=>hur q hqb.1 hqb.2) ?_;simp -dsimp;refine hK _ _ _ (by decide+kernel) ?_;clear hK K;refine gwp_cond rfl (fun hc1=>?_) (fun hc1=>?_)
   ·refine gR fun K hK=>?_;simp -dsimp;apply hK;clear hK K;simp only[thenA,inBlockA,roundQ,reduceIte,Nat.reduceEqDiff,eq_self];rw[hc1,if_pos rfl]at hst;exact⟨hnl,sub_rb [some 0,some 1,some 2] rfl (by simp) (by simp[hst])⟩
   ·refine gwp_skip ?_;simp only[thenA,inBlockA,roundQ,reduceIte,Nat.reduceEqDiff,eq_self];rw[hc1,if_neg (by simp)]at hst;exact⟨hnl,sub_rb [some 0,some 1,some 2] rfl (by simp) (by simp[hst])⟩
  ·intro hdone;simp only[zT,reduceIte,Nat.reduceEqDiff];exact gsub (sub_rb [some 0,some 1,some 2] rfl (by simp) (by simp[hcuN])) (by simp)
 refine gwp_seq_j [0,1,3] [] [some (.els 1 ((incrs sk (C.takeWhile fun q=> !decide (q=b3))).map nCell)),some (.els 1 [[.vptr (sC j (Bo true) (I se) (I ph) (Bo on) (I si) (lL ls) (.row 0 0 sk.length) (mp d) (mp p))]]),some (.els 1 [[I b3]])] ?_ ?_
 ·refine gwp_sd mixed rfl (by decide) rfl rfl fun K hK=>?_;simp -dsimp;refine callK_bare _ (fun hm=>hcd) ?_;simp -dsimp;refine hK _ _ _ (by decide+kernel) ?_;clear hK K;refine gwp_block ?_;refine gwp_prune [0,1,3,53] (Or.inr (by simp)) ?_;simp only[zP,Nat.reduceEqDiff,reduceIte];refine gwp_range_s hJ [0,1,3,53] (fun n=>[some (.els 1 ((incrs sk (C.take n)).map nCell)),some (.els 1 [[.vptr (sC j (Bo true) (I se) (I ph) (Bo on) (I si) (lL ls) (.row 0 0 sk.length) (mp d) (mp p))]]),some (.els 1 [[I (vv n)]])]) (fun n=>∀m,m<n→C[m]?≠some b3) rfl (hci) rfl (by simp) (by decide) (by decide) (by decide) (qAV_len _) ?_ ?_ ?_ ?_
  ·exact fun m hm=>by omega
  ·exact sub_rb [some 0,some 1,some 2] rfl (by simp) (by simp[incrs,hvv0])
  ·intro n xv hxn hi l1 J1 hJ1;obtain⟨q,hq,rfl⟩:∃q,C[n]?=some q∧[I q]=xv:=by simpa [qAV]using hxn
   have hqm:=List.mem_of_getElem? hq;have hqb:=hcb q hqm;have hnl:=(List.getElem?_eq_some_iff.1 hq).1;have hil:=incrs_len sk (C.take n);have hib:=incrs_bd (B:=0) (C.take n) sk 1000000 (by omega) hkb;have hsn:=incrs_snoc (sk:=sk) hq;have hv1:=hvv1 n q hq;have hv2:=hvv2 n;have hv3:=hvvS n;generalize vv n=v at hv1 hv2 ⊢;generalize hL:incrs sk (C.take n)=L at hil hib hsn ⊢;have gL:=hget (l:=L) (by omega) hqm;have hLb:=hib _ (List.mem_of_getElem? gL);have hnl14:(C.take n).length≤14:=by rw[List.length_take];omega
   have wL:IntKind.i64.wrap (at0 L q+1)=at0 L q+1:=wrap_in (by omega) (by omega);have hqk:q<(sk.length:Int):=by omega
   simp only[List.zip_cons_cons,List.zip_nil_left,List.zip_nil_right,List.cons_append,List.nil_append];refine gR fun K hK=>?_;simp -dsimp;apply hK;clear hK K;simp only[onlyN];intro J2 hJ2;refine gwp_prune [0,1,3,6,53] (Or.inr (by simp)) ?_;simp only[zP,Nat.reduceEqDiff,reduceIte];refine gwp_block ?_;refine gwp_seq_k fun K1 hK1=>?_;refine gS fun K hK=>?_;simp -dsimp;apply hK;clear hK K;refine gwp_cond rfl (fun hc2=>?_) (fun hc2=>?_)
   ·have hqe:=hv1 (by simpa using hc2);refine gR fun K hK=>?_;simp -dsimp;apply hK;clear hK K;simp only[zT,reduceIte,Nat.reduceEqDiff];refine hK1 _ _ ?_;refine gwp_prune [0,1,3,6,53] (Or.inr (by simp)) ?_;simp only[zP,Nat.reduceEqDiff,reduceIte];refine gwp_seq_k fun K2 hK2=>?_;refine gS fun K hK=>?_;simp -dsimp;apply hK;clear hK K;refine gwp_cond rfl (fun hc3=>?_) (fun hc3=>?_)
    ·refine gwp_exit ?_;simp only[thenA,inBlockA,roundQ,reduceIte,Nat.reduceEqDiff,eq_self];have hte:incrs sk (C.takeWhile fun q=> !decide (q=b3))=incrs sk (C.take n):=by rw[takeWhile_take (hqe▸hq) hi]
     refine⟨[some (.els 1 ((incrs sk (C.takeWhile fun q=> !decide (q=b3))).map nCell)),some (.els 1 [[.vptr (sC j (Bo true) (I se) (I ph) (Bo on) (I si) (lL ls) (.row 0 0 sk.length) (mp d) (mp p))]]),some (.els 1 [[I b3]])],sub_rb [some 0,some 1,some 2] rfl (by simp) (by simp[hte,hL,hqe]),?_⟩
     try simp only[zT,reduceIte,Nat.reduceEqDiff]
     exact gsub (sub_rb [some 0,some 1,some 2] rfl (by simp) (by simp)) (by simp)
    ·simp at hc3
   ·have hve:=hv2 (by simpa using hc2);refine gwp_skip ?_;simp only[zT,reduceIte,Nat.reduceEqDiff];refine hK1 _ _ ?_;refine gwp_prune [0,1,3,6,53] (Or.inr (by simp)) ?_;simp only[zP,Nat.reduceEqDiff,reduceIte];refine gwp_seq_k fun K3 hK3=>?_;refine gS fun K hK=>?_;simp -dsimp;apply hK;clear hK K;refine gwp_cond rfl (fun hc3=>?_) (fun hc3=>?_)
    ·refine gwp_exit ?_;simp only[thenA,inBlockA,roundQ,reduceIte,Nat.reduceEqDiff,eq_self];have hqv:q=v:=by simpa using hc3
     have hqe:q=b3:=hqv.trans hve;have hte:incrs sk (C.takeWhile fun q=> !decide (q=b3))=incrs sk (C.take n):=by rw[takeWhile_take (hqe▸hq) hi]
     refine⟨[some (.els 1 ((incrs sk (C.takeWhile fun q=> !decide (q=b3))).map nCell)),some (.els 1 [[.vptr (sC j (Bo true) (I se) (I ph) (Bo on) (I si) (lL ls) (.row 0 0 sk.length) (mp d) (mp p))]]),some (.els 1 [[I b3]])],sub_rb [some 0,some 1,some 2] rfl (by simp) (by simp[hte,hL,hve]),?_⟩
     try simp only[zT,reduceIte,Nat.reduceEqDiff]
     exact gsub (sub_rb [some 0,some 1,some 2] rfl (by simp) (by simp)) (by simp)
    ·refine gwp_skip ?_;simp only[zT,reduceIte,Nat.reduceEqDiff];refine hK3 _ _ ?_;refine gwp_prune [0,1,3,6,53] (Or.inr (by simp)) ?_;simp only[zP,Nat.reduceEqDiff,reduceIte];refine gR fun K hK=>?_;simp -dsimp [gL,hqb.1,wL,hqk];apply hK;clear hK K;simp only[thenA,inBlockA,roundQ,reduceIte,Nat.reduceEqDiff,eq_self];have hqv:¬q=v:=by simpa using hc3
     refine⟨fun m hm=>?_,sub_rb [some 0,some 1,some 2] rfl (by simp) (by simp[hsn,incr,hve,hv3,List.map_set])⟩
     rcases Nat.lt_succ_iff_lt_or_eq.1 hm with h|rfl
     ·exact hi m h
     ·rw[hq];intro e;apply hqv;rw[hve];simpa using e
  ·intro hdone;obtain⟨m,hm⟩:=List.getElem?_of_mem hb3m;exact absurd hm (hdone m (by rw[List.length_map];exact(List.getElem?_eq_some_iff.1 hm).1))
 refine gwp_sd mixed rfl (by decide) rfl rfl fun K hK=>?_;simp -dsimp [hb30,hb3k,incrs_len];refine hK _ _ _ (by decide+kernel) ?_;clear hK K;refine gS fun K hK=>?_;simp -dsimp;apply hK;clear hK K;exact gwp_ret ⟨[some 0],rfl,by simp,by simp[List.map_set],by simp[hsk1],by simp[resP,tupOf]⟩
end Go.Street
end
section
namespace Go.Street
open Go.AM Go.Proofs
abbrev sRow (j:Jn) (se ph si:Int) (on:Bool) (nR nK:Nat) (Dm Pr:AV):Option ARow:=some (.els 15 [sC j (Bo true) (I se) (I ph) (Bo on) (I si) (.row 1 0 nR) (.row 2 0 nK) Dm Pr])
abbrev rRow (ls:List Lt):Option ARow:=some (.els 2 (ls.map Lt.cells))
abbrev kRow (sk:List Int):Option ARow:=some (.els 1 (sk.map nCell))
def arrStep (j:Jn) (se:Int) (st:List Lt×Bool) (x:Int):List Lt×Bool:=
 if (ltAt st.1 x).Green then st else if clearB j se st.1 x then(st.1.set x.toNat ⟨true,se⟩,st.2)else(st.1,false)
def arrF (j:Jn) (se:Int) (l:List Int) (ls:List Lt):List Lt×Bool:=l.foldl (arrStep j se) (ls,true)
theorem arrStep_len (j:Jn) (se:Int) (st:List Lt×Bool) (x:Int):(arrStep j se st x).1.length=st.1.length:=by
 unfold arrStep
 split
 ·rfl
 ·split<;>simp
theorem arrF_len (j:Jn) (se:Int) (l:List Int) (ls:List Lt):(arrF j se l ls).1.length=ls.length:=by
 have gen:∀(l:List Int) (st:List Lt×Bool),(l.foldl (arrStep j se) st).1.length=st.1.length:=by
  intro l
  induction l with
  |nil=>intro st;rfl
  |cons x l ih=>intro st;rw[List.foldl_cons,ih,arrStep_len]
 exact gen l (ls,true)
theorem arrF_snoc {j:Jn} {se:Int} {l:List Int} {ls:List Lt} {k:Nat} {x:Int} (h:l[k]?=some x):arrF j se (l.take (k+1)) ls=arrStep j se (arrF j se (l.take k) ls) x:=by
 unfold arrF;rw[List.take_add_one,h];simp
theorem lt_set_bd {ls:List Lt} {i:Nat} {l:Lt} (h:∀x∈ls,smallT x.Since) (hl:smallT l.Since):∀x∈ls.set i l,smallT x.Since:=by
 intro x hx
 rcases List.mem_or_eq_of_mem_set hx with h1|rfl
 ·exact h x h1
 ·exact hl
theorem arrStep_bd {j:Jn} {se:Int} {st:List Lt×Bool} {x:Int} (hse:smallT se) (h:∀y∈st.1,smallT y.Since):∀y∈(arrStep j se st x).1,smallT y.Since:=by
 unfold arrStep
 split
 ·exact h
 ·split
  ·exact lt_set_bd h hse
  ·exact h
theorem arrF_bd {j:Jn} {se:Int} (hse:smallT se) (l:List Int) {ls:List Lt} (h:∀y∈ls,smallT y.Since):∀y∈(arrF j se l ls).1,smallT y.Since:=by
 have gen:∀(l:List Int) (st:List Lt×Bool),(∀y∈st.1,smallT y.Since)→∀y∈(l.foldl (arrStep j se) st).1,smallT y.Since:=by
  intro l
  induction l with
  |nil=>intro st h;exact h
  |cons x l ih=>intro st h;exact ih _ (arrStep_bd hse h)
 exact gen l (ls,true) h
theorem m_arrive (j:Jn) (se ph si:Int) (on:Bool) (ls:List Lt) (d p sk:List Int) (hf:Fit j) (ho:JOk j) (hl:ls.length=j.n) (hk:sk.length=j.Phases.length) (hse:smallT se) (hlt:∀l∈ls,smallT l.Since) (p0:0≤ph) (p1:ph<j.Phases.length):
  MutCall Tryz.prog 117 [.ptr 0 0 0] [sRow j se ph si on ls.length sk.length (mp d) (mp p)] [rRow ls,kRow sk] (Bo (arrF j se (rowAt j.Phases ph) ls).2)
   [sRow j se ph (if (arrF j se (rowAt j.Phases ph) ls).2 then se else si) ((arrF j se (rowAt j.Phases ph) ls).2||on) ls.length sk.length (mp d) (mp p)] [rRow (arrF j se (rowAt j.Phases ph) ls).1,kRow sk]:=by
 have hph:=ho.phase p0 p1;have hpl:=hf.ps _ (List.mem_of_getElem? hph.1);have hn2:=ho.n2;refine MutCall.of_bodyG [0] Tryz.func117 rfl (by decide) (by simp[Tryz.ntmps117]) rfl rfl ?_;intro J hJ;simp only[Tryz.ntmps117,Tryz.results117];refine gS fun K hK=>?_;simp -dsimp;apply hK;clear hK K;refine gS fun K hK=>?_;simp -dsimp;apply hK;clear hK K;refine gwp_seq_k fun K1 hK1=>?_;refine gwp_sd mixed rfl (by decide) rfl rfl fun K hK=>?_;simp -dsimp [hph.1,p0];refine hK _ _ _ (by decide+kernel) ?_;clear hK K;refine gwp_block ?_;refine gwp_prune [0,3,18,19,20] (Or.inr (by simp)) ?_;simp only[zP,Nat.reduceEqDiff,reduceIte];refine gwp_loop_l [0,18,19] (α:=Nat) (fun k=>[(3,Bo (arrF j se ((rowAt j.Phases ph).take k) ls).2),(20,I k)]) (fun k=>[sRow j se ph si on ls.length sk.length (mp d) (mp p),rRow (arrF j se ((rowAt j.Phases ph).take k) ls).1,kRow sk]) (fun k=>k≤(rowAt j.Phases ph).length) (fun k=>(rowAt j.Phases ph).length-k) 0 ?_ ?_ ?_
 ·exact Nat.zero_le _
 ·exact gsub (sub_rb [some 0,some 1,some 2] rfl (by simp[arrF]) (by simp[arrF])) (by simp)
 rintro k k1;simp only[zP,Nat.reduceEqDiff,reduceIte];refine gS fun K hK=>?_;simp -dsimp;apply hK;clear hK K;refine gwp_seq_k fun K2 hK2=>?_;refine gwp_cond rfl (fun hc0=>?_) (fun hc0=>?_)
 ·have hkl:k<(rowAt j.Phases ph).length:=by simpa using hc0
  have gx:=at0_nat hkl;have hxb:=hph.2.2.1 _ (List.mem_of_getElem? gx);have wk:=zW k (by omega);generalize at0 (rowAt j.Phases ph) k=x at gx hxb;have hsn:=arrF_snoc (j:=j) (se:=se) (ls:=ls) gx;have hln:=arrF_len j se ((rowAt j.Phases ph).take k) ls;have hbd:=arrF_bd (j:=j) hse ((rowAt j.Phases ph).take k) hlt;generalize arrF j se ((rowAt j.Phases ph).take k) ls=st at hsn hln hbd ⊢;obtain⟨L,al⟩:=st;simp only at hsn hln hbd ⊢;have gl:=ltAt_get (l:=L) (i:=x) hxb.1 (by omega);have hxl:x<(ls.length:Int):=by omega
  have htL:List.take ls.length (L.map Lt.cells)=L.map Lt.cells:=List.take_of_length_le (by simp;omega);simp only[arrStep]at hsn;have hcl:=fun(Sk Dm Pr:AV)=>c_clear j (Bo true) (I ph) (Bo on) (I si) Sk Dm Pr se L x ho.sqr (by omega) (by omega) hse hbd hxb.1 hxb.2;have hLle:ls.length≤L.length:=by omega
  refine gwp_skip ?_;simp only[zT,reduceIte,Nat.reduceEqDiff];refine hK2 _ _ ?_;refine gwp_prune [0,3,18,19,20] (Or.inr (by simp)) ?_;simp only[zP,Nat.reduceEqDiff,reduceIte];refine gwp_seq_k fun K3 hK3=>?_;refine gwp_block ?_;refine gS fun K hK=>?_;simp -dsimp [gx];apply hK;clear hK K;refine gS fun K hK=>?_;simp -dsimp [hxb.1,hxl];apply hK;clear hK K;refine gwp_seq_k fun K4 hK4=>?_;refine gS fun K hK=>?_;simp -dsimp [gl];apply hK;clear hK K;refine gwp_cond rfl (fun hc1=>?_) (fun hc1=>?_)
  ·refine gwp_exit ?_;simp only[zT,reduceIte,Nat.reduceEqDiff];refine hK3 _ _ ?_;refine gwp_prune [0,3,18,19,20] (Or.inr (by simp)) ?_;simp only[zP,Nat.reduceEqDiff,reduceIte];refine gR fun K hK=>?_;simp -dsimp [wk];apply hK;clear hK K;simp only[zT,reduceIte,Nat.reduceEqDiff];have hst:arrF j se ((rowAt j.Phases ph).take (k+1)) ls=(L,al):=by rw[hsn,if_pos hc1]
   exact⟨k+1,by omega,by omega,gsub (sub_rb [some 0,some 1,some 2] rfl (by simp[hst]) (by simp[hst])) (by simp)⟩
  ·refine gwp_skip ?_;simp only[zT,reduceIte,Nat.reduceEqDiff];refine hK4 _ _ ?_;refine gwp_prune [0,3,5,6,18,19,20] (Or.inr (by simp)) ?_;simp only[zP,Nat.reduceEqDiff,reduceIte];refine gS fun K hK=>?_;simp -dsimp [htL,hLle];refine callK_intro _ (hcl _ _ _) (by simp) ?_;simp -dsimp [htL,hLle];apply hK;clear hK K;refine gwp_cond rfl (fun hc2=>?_) (fun hc2=>?_)
   ·refine gR fun K hK=>?_;simp -dsimp [hxb.1,hxl,gl];apply hK;clear hK K;simp only[zT,reduceIte,Nat.reduceEqDiff];refine hK3 _ _ ?_;refine gwp_prune [0,3,18,19,20] (Or.inr (by simp)) ?_;simp only[zP,Nat.reduceEqDiff,reduceIte];refine gR fun K hK=>?_;simp -dsimp [wk];apply hK;clear hK K;simp only[zT,reduceIte,Nat.reduceEqDiff];have hst:arrF j se ((rowAt j.Phases ph).take (k+1)) ls=(L.set x.toNat ⟨true,se⟩,al):=by rw[hsn,if_neg (by simp[hc1]),if_pos hc2]
    exact⟨k+1,by omega,by omega,gsub (sub_rb [some 0,some 1,some 2] rfl (by simp[hst]) (by simp[hst,List.map_set])) (by simp)⟩
   ·refine gR fun K hK=>?_;simp -dsimp;apply hK;clear hK K;simp only[zT,reduceIte,Nat.reduceEqDiff];refine hK3 _ _ ?_;refine gwp_prune [0,3,18,19,20] (Or.inr (by simp)) ?_;simp only[zP,Nat.reduceEqDiff,reduceIte];refine gR fun K hK=>?_;simp -dsimp [wk];apply hK;clear hK K;simp only[zT,reduceIte,Nat.reduceEqDiff];have hst:arrF j se ((rowAt j.Phases ph).take (k+1)) ls=(L,false):=by rw[hsn,if_neg (by simp[hc1]),if_neg (by simp[hc2])]
    exact⟨k+1,by omega,by omega,gsub (sub_rb [some 0,some 1,some 2] rfl (by simp[hst]) (by simp[hst])) (by simp)⟩
 ·have hkk:¬k<(rowAt j.Phases ph).length:=by simpa using hc0
  have htk:(rowAt j.Phases ph).take k=rowAt j.Phases ph:=List.take_of_length_le (by omega);rw[htk];generalize hst:arrF j se (rowAt j.Phases ph) ls=st;obtain⟨L,al⟩:=st;simp only;refine gwp_exit ?_;simp only[zT,reduceIte,Nat.reduceEqDiff];refine hK1 _ _ ?_;refine gwp_prune [0,3] (Or.inr (by simp)) ?_;simp only[zP,Nat.reduceEqDiff,reduceIte];refine gwp_seq_k fun K5 hK5=>?_;refine gS fun K hK=>?_;simp -dsimp;apply hK;clear hK K;refine gwp_cond rfl (fun hc3=>?_) (fun hc3=>?_)
  ·refine gR fun K hK=>?_;simp -dsimp;apply hK;clear hK K;simp only[zT,reduceIte,Nat.reduceEqDiff];refine hK5 _ _ ?_;refine gwp_prune [0,3] (Or.inr (by simp)) ?_;simp only[zP,Nat.reduceEqDiff,reduceIte];refine gS fun K hK=>?_;simp -dsimp;apply hK;clear hK K;obtain rfl:al=true:=by simpa using hc3
   exact gwp_ret ⟨[some 0,some 1,some 2],rfl,by simp,by simp[hst],by simp,by simp[resP,tupOf,hst]⟩
  ·refine gwp_skip ?_;simp only[zT,reduceIte,Nat.reduceEqDiff];refine hK5 _ _ ?_;refine gwp_prune [0,3] (Or.inr (by simp)) ?_;simp only[zP,Nat.reduceEqDiff,reduceIte];refine gS fun K hK=>?_;simp -dsimp;apply hK;clear hK K;obtain rfl:al=false:=by simpa using hc3
   exact gwp_ret ⟨[some 0,some 1,some 2],rfl,by simp,by simp[hst],by simp,by simp[resP,tupOf,hst]⟩
def redStep (j:Jn) (se q:Int) (ls:List Lt) (x:Int):List Lt:=if (ltAt ls x).Green&& !hasB j q x then ls.set x.toNat ⟨false,se⟩else ls
def redF (j:Jn) (se q:Int) (l:List Int) (ls:List Lt):List Lt:=l.foldl (redStep j se q) ls
theorem redF_len (j:Jn) (se q:Int) (l:List Int) (ls:List Lt):(redF j se q l ls).length=ls.length:=by
 unfold redF
 induction l generalizing ls with
 |nil=>rfl
 |cons x l ih=>
  rw[List.foldl_cons,ih];unfold redStep
  split<;>simp
theorem redF_snoc {j:Jn} {se q:Int} {l:List Int} {ls:List Lt} {k:Nat} {x:Int} (h:l[k]?=some x):redF j se q (l.take (k+1)) ls=redStep j se q (redF j se q (l.take k) ls) x:=by
 unfold redF;rw[List.take_add_one,h];simp
theorem redF_bd {j:Jn} {se q:Int} (hse:smallT se) (l:List Int) {ls:List Lt} (h:∀y∈ls,smallT y.Since):∀y∈redF j se q l ls,smallT y.Since:=by
 unfold redF
 induction l generalizing ls with
 |nil=>exact h
 |cons x l ih=>
  rw[List.foldl_cons];refine ih ?_;unfold redStep
  split
  ·exact lt_set_bd h hse
  ·exact h
theorem nextK_len (j:Jn) (ph:Int) (d p sk:List Int):(nextK j ph d p sk).length=sk.length:=by simp[nextK,incrs_len]
theorem m_turn (j:Jn) (se ph si:Int) (on:Bool) (ls:List Lt) (d p sk:List Int) (hf:Fit j) (ho:JOk j) (hl:ls.length=j.n) (hk:sk.length=j.Phases.length) (hkb:∀x∈sk,0≤x∧x≤1000000) (hse:smallT se) (p0:0≤ph) (p1:ph<j.Phases.length) (hne:candL j ph d≠[]):
  MutCall Tryz.prog 119 [.ptr 0 0 0] [sRow j se ph si on ls.length sk.length (mp d) (mp p)] [rRow ls,kRow sk] (Bo true)
   [sRow j se (nextB j ph d p sk) si false ls.length sk.length (mp d) (mp p)] [rRow (redF j se (nextB j ph d p sk) (rowAt j.Phases ph) ls),kRow (nextK j ph d p sk)]:=by
 have hph:=ho.phase p0 p1;have hpl:=hf.ps _ (List.mem_of_getElem? hph.1);have hnx:=m_next j se ph si on ls d p sk hf ho hk hkb p0 p1 hne;have hqb:=candL_bd (j:=j) (ph:=ph) (d:=d) (by omega) _ (nextB_mem (p:=p) (sk:=sk) hne);have hKl:=nextK_len j ph d p sk;generalize nextB j ph d p sk=q at hnx hqb ⊢;generalize nextK j ph d p sk=K' at hnx hKl ⊢;have htK:List.take sk.length (K'.map nCell)=K'.map nCell:=List.take_of_length_le (by simp;omega);have hKle:sk.length≤K'.length:=by omega
 refine MutCall.of_bodyG [0] Tryz.func119 rfl (by decide) (by simp[Tryz.ntmps119]) rfl rfl ?_;intro J hJ;simp only[Tryz.ntmps119,Tryz.results119];refine gS fun K hK=>?_;simp -dsimp;apply hK;clear hK K;refine gS fun K hK=>?_;simp -dsimp;refine callK_mutF [2] [] [none,none,some 0] (hnx) (by decide) rfl (by simp) (by simp) rfl (by simp) (by simp) (by simp) ?_;simp -dsimp;apply hK;clear hK K;refine gwp_seq_k fun K1 hK1=>?_;refine gwp_sd mixed rfl (by decide) rfl rfl fun K hK=>?_;simp -dsimp [hph.1,p0];refine hK _ _ _ (by decide+kernel) ?_;clear hK K;refine gwp_block ?_;refine gwp_prune [0,3,20,21,22] (Or.inr (by simp)) ?_;simp only[zP,Nat.reduceEqDiff,reduceIte];refine gwp_loop_l [0,3,20,21] (α:=Nat) (fun k=>[(22,I k)]) (fun k=>[sRow j se ph si on ls.length sk.length (mp d) (mp p),rRow (redF j se q ((rowAt j.Phases ph).take k) ls),kRow K']) (fun k=>k≤(rowAt j.Phases ph).length) (fun k=>(rowAt j.Phases ph).length-k) 0 ?_ ?_ ?_
 ·exact Nat.zero_le _
 ·exact gsub (sub_rb [some 0,some 1,some 2] rfl (by simp) (by simp[redF])) (by simp)
 rintro k k1;simp only[zP,Nat.reduceEqDiff,reduceIte];refine gS fun K hK=>?_;simp -dsimp;apply hK;clear hK K;refine gwp_seq_k fun K2 hK2=>?_;refine gwp_cond rfl (fun hc0=>?_) (fun hc0=>?_)
 ·have hkl:k<(rowAt j.Phases ph).length:=by simpa using hc0
  have gx:=at0_nat hkl;have hxb:=hph.2.2.1 _ (List.mem_of_getElem? gx);have wk:=zW k (by omega);generalize at0 (rowAt j.Phases ph) k=x at gx hxb;have hsn:=redF_snoc (j:=j) (se:=se) (q:=q) (ls:=ls) gx;have hln:=redF_len j se q ((rowAt j.Phases ph).take k) ls;generalize redF j se q ((rowAt j.Phases ph).take k) ls=L at hsn hln ⊢;have gl:=ltAt_get (l:=L) (i:=x) hxb.1 (by omega);have hxl:x<(ls.length:Int):=by omega
  have htL:List.take ls.length (L.map Lt.cells)=L.map Lt.cells:=List.take_of_length_le (by simp;omega);have hLle:ls.length≤L.length:=by omega
  simp only[redStep]at hsn;have hha:=fun(R Sk Dm Pr:AV)=>c_has j (Bo true) (I se) (I ph) (Bo on) (I si) R Sk Dm Pr q x hf hqb.1 hqb.2;refine gwp_skip ?_;simp only[zT,reduceIte,Nat.reduceEqDiff];refine hK2 _ _ ?_;refine gwp_prune [0,3,20,21,22] (Or.inr (by simp)) ?_;simp only[zP,Nat.reduceEqDiff,reduceIte];refine gwp_seq_k fun K3 hK3=>?_;refine gwp_block ?_;refine gS fun K hK=>?_;simp -dsimp [gx];apply hK;clear hK K;refine gS fun K hK=>?_;simp -dsimp [hxb.1,hxl];apply hK;clear hK K;refine gS fun K hK=>?_;simp -dsimp [gl,htL,hLle,htK,hKle];refine callK_may _ (fun hm=>hha _ _ _ _) (by simp) ?_;simp -dsimp [gl,htL,hLle,htK,hKle];apply hK;clear hK K;refine gwp_cond rfl (fun hc1=>?_) (fun hc1=>?_)
  ·refine gR fun K hK=>?_;simp -dsimp [hxb.1,hxl,gl];apply hK;clear hK K;simp only[zT,reduceIte,Nat.reduceEqDiff];refine hK3 _ _ ?_;refine gwp_prune [0,3,20,21,22] (Or.inr (by simp)) ?_;simp only[zP,Nat.reduceEqDiff,reduceIte];refine gR fun K hK=>?_;simp -dsimp [wk];apply hK;clear hK K;simp only[zT,reduceIte,Nat.reduceEqDiff];have hst:redF j se q ((rowAt j.Phases ph).take (k+1)) ls=L.set x.toNat ⟨false,se⟩:=by rw[hsn,if_pos hc1]
   exact⟨k+1,by omega,by omega,gsub (sub_rb [some 0,some 1,some 2] rfl (by simp) (by simp[hst,List.map_set])) (by simp)⟩
  ·refine gwp_skip ?_;simp only[zT,reduceIte,Nat.reduceEqDiff];refine hK3 _ _ ?_;refine gwp_prune [0,3,20,21,22] (Or.inr (by simp)) ?_;simp only[zP,Nat.reduceEqDiff,reduceIte];refine gR fun K hK=>?_;simp -dsimp [wk];apply hK;clear hK K;simp only[zT,reduceIte,Nat.reduceEqDiff];have hst:redF j se q ((rowAt j.Phases ph).take (k+1)) ls=L:=by rw[hsn,if_neg (by rw[hc1];simp)]
   exact⟨k+1,by omega,by omega,gsub (sub_rb [some 0,some 1,some 2] rfl (by simp) (by simp[hst])) (by simp)⟩
 ·have hkk:¬k<(rowAt j.Phases ph).length:=by simpa using hc0
  have htk:(rowAt j.Phases ph).take k=rowAt j.Phases ph:=List.take_of_length_le (by omega);rw[htk];refine gwp_exit ?_;simp only[zT,reduceIte,Nat.reduceEqDiff];refine hK1 _ _ ?_;refine gwp_prune [0,3] (Or.inr (by simp)) ?_;simp only[zP,Nat.reduceEqDiff,reduceIte];refine gS fun K hK=>?_;simp -dsimp;apply hK;clear hK K;refine gS fun K hK=>?_;simp -dsimp;apply hK;clear hK K;exact gwp_ret ⟨[some 0,some 1,some 2],rfl,by simp,by simp,by simp,by simp[resP,tupOf]⟩
end Go.Street
end
section
namespace Go.Street
open Go.AM Go.Proofs
theorem sub_rfM {nt:Nat} {T:Tm} {H:Hp} (g:List (Option Nat)) (hn:nodupB g=true):Go.AM.Sub nt T H (T.map fun p=>(p.1,renF (hget H) g 3 (Go.AM.look T p.1))) (renHF H g):=by
 refine sub_rf g hn ?_ rfl;have gen:∀l:Tm,subTF H g T (l.map fun p=>(p.1,renF (hget H) g 3 (Go.AM.look T p.1))):=by
  intro l
  induction l with
  |nil=>trivial
  |cons x l ih=>exact⟨Or.inr rfl,ih⟩
 exact gen T
section
variable (j:Jn) (op se ph on si R Sk Dm Pr:AV)
theorem c_Phase (p:Int) (b:Bool):PureCall Tryz.prog 102 [.iptr (sC j (Bo true) se (I p) (Bo b) si R Sk Dm Pr)] (.tup [I p,Bo b]):=by
 have hr:=c_ready j se (I p) (Bo b) si R Sk Dm Pr true;refine PureCall.of_body Tryz.func102 rfl (by decide) (by simp[Tryz.ntmps102]) ?_;simp only[Tryz.ntmps102,Tryz.results102];refine aS fun K hK=>?_;simp -dsimp;apply hK;clear hK K;refine awp_seq_k fun K1 hK1=>?_;refine aS fun K hK=>?_;simp -dsimp;refine callK_intro _ (hr) (by simp) ?_;simp -dsimp;apply hK;clear hK K;refine awp_cond rfl (fun hc0=>?_) (fun hc0=>?_)
 ·simp at hc0
 ·refine awp_skip ?_;simp only[zT,reduceIte,Nat.reduceEqDiff];refine hK1 _ _ ?_;refine awp_prune [0] ?_;simp only[zP,Nat.reduceEqDiff,reduceIte];refine awp_sd mixed rfl fun K hK=>?_;simp -dsimp;refine hK _ _ _ (by decide+kernel) ?_;clear hK K;exact awp_ret (by simp)
end
def tEl (n:Nat) (l:List Int) (k:Nat):Bool:=inr (at0 l k) 0 ((n:Int)-1)&& !(decide (0<k)&&decide (at0 l k≤at0 l (k-1:Nat)))
def toldB (n:Nat) (l:List Int):Bool:=(List.range l.length).all (tEl n l)
theorem toldB_bd {n:Nat} {l:List Int} (h:toldB n l=true):∀x∈l,0≤x∧x<n:=by
 intro x hx;obtain⟨k,hk⟩:=List.getElem?_of_mem hx;simp only[toldB,List.all_eq_true,List.mem_range]at h;have:=h k (List.getElem?_eq_some_iff.1 hk).1;simp only[tEl,at0_of hk,Bool.and_eq_true,inr_iff]at this;omega
section
variable (j:Jn) (op se ph on si Sk Dm Pr:AV)
theorem c_told (ls:List Lt) (l:List Int) (hl:1≤ls.length∧ls.length≤1000) (hn:l.length≤1000):PureCall Tryz.prog 113 [.iptr (sC j op se ph on si (lL ls) Sk Dm Pr),iL l] (Bo (toldB ls.length l)):=by
 have wn:IntKind.i64.wrap ((ls.length:Int)-1)=(ls.length:Int)-1:=wrap_in (by omega) (by omega);refine PureCall.of_body Tryz.func113 rfl (by decide) (by simp[Tryz.ntmps113]) ?_;simp only[Tryz.ntmps113,Tryz.results113];refine aS fun K hK=>?_;simp -dsimp;apply hK;clear hK K;refine awp_seq_k fun K1 hK1=>?_;refine aS fun K hK=>?_;simp -dsimp;apply hK;clear hK K;refine awp_block ?_;refine awp_prune [0,1,7,8,9] ?_;simp only[zP,Nat.reduceEqDiff,reduceIte];refine awp_loop_l [0,1,7,8] (α:=Nat) (fun k=>[(9,I k)]) (fun k=>[]) (fun k=>k≤l.length∧∀k',k'<k→tEl ls.length l k'=true) (fun k=>l.length-k) 0 ?_ ?_ ?_
 ·exact⟨Nat.zero_le _,fun k' h=>by omega⟩
 ·exact sub_same (by simp)
 rintro k ⟨k1,k2⟩;simp only[zP,Nat.reduceEqDiff,reduceIte];refine aS fun K hK=>?_;simp -dsimp;apply hK;clear hK K;refine awp_seq_k fun K2 hK2=>?_;refine awp_cond rfl (fun hc0=>?_) (fun hc0=>?_)
 ·skip
  try simp at hc0
  have gs:=at0_nat hc0;have wk:=zW k (by omega);have wm:0<k→IntKind.i64.wrap ((k:Int)-1)=((k-1:Nat):Int):=fun h=>by rw[wrap_in (by omega) (by omega)];omega
  have gm:0<k→l[k-1]?=some (at0 l (k-1:Nat)):=fun h=>at0_nat (by omega);have hte:tEl ls.length l k=(inr (at0 l k) 0 ((ls.length:Int)-1)&& !(decide (0<k)&&decide (at0 l k≤at0 l (k-1:Nat)))):=rfl;generalize at0 l k=s at gs hte;refine awp_skip ?_;simp only[zT,reduceIte,Nat.reduceEqDiff];refine hK2 _ _ ?_;refine awp_prune [0,1,7,8,9] ?_;simp only[zP,Nat.reduceEqDiff,reduceIte];refine awp_seq_k fun K3 hK3=>?_;refine awp_block ?_;refine aS fun K hK=>?_;simp -dsimp [gs];apply hK;clear hK K;refine aS fun K hK=>?_;simp -dsimp [wn];refine callK_intro _ (c_within _ _ _) (by simp) ?_;simp -dsimp [wn];refine⟨fun _ h=>by rw[wm h];omega,idxK_intro (nCell (at0 l (k-1:Nat))) (fun hm=>by simp at hm;rw[wm hm.2];simp[gm hm.2]) ?_⟩;simp -dsimp [wn];apply hK;clear hK K;refine awp_cond rfl (fun hc1=>?_) (fun hc1=>?_)
  ·have hte':tEl ls.length l k= !(!inr s 0 (↑ls.length-1)||decide (0<k)&&decide (s≤at0 l (k-1:Nat))):=by rw[hte];cases inr s 0 (↑ls.length-1)<;>simp
   refine aS fun K hK=>?_;simp -dsimp;apply hK;clear hK K;have hb:toldB ls.length l=false:=by
    unfold toldB;rw[List.all_eq_false];exact⟨k,List.mem_range.2 hc0,by rw[hte',hc1];simp⟩
   exact awp_ret (by simp[hb])
  ·have hte':tEl ls.length l k= !(!inr s 0 (↑ls.length-1)||decide (0<k)&&decide (s≤at0 l (k-1:Nat))):=by rw[hte];cases inr s 0 (↑ls.length-1)<;>simp
   refine awp_skip ?_;simp only[zT,reduceIte,Nat.reduceEqDiff];refine hK3 _ _ ?_;refine awp_prune [0,1,7,8,9] ?_;simp only[zP,Nat.reduceEqDiff,reduceIte];refine aR fun K hK=>?_;simp -dsimp [wk];apply hK;clear hK K;simp only[zT,reduceIte,Nat.reduceEqDiff];refine⟨k+1,⟨by omega,fun k' h=>?_⟩,by omega,sub_rb [] rfl (by simp) (by simp)⟩
   rcases Nat.lt_succ_iff_lt_or_eq.1 h with h|rfl
   ·exact k2 k' h
   ·rw[hte',hc1];rfl
 ·skip
  try simp at hc0
  refine awp_exit ?_;simp only[zT,reduceIte,Nat.reduceEqDiff];refine hK1 _ _ ?_;refine awp_prune [] ?_;simp only[zP,Nat.reduceEqDiff,reduceIte];refine aS fun K hK=>?_;simp -dsimp;apply hK;clear hK K;have hb:toldB ls.length l=true:=by
   simp only[toldB,List.all_eq_true,List.mem_range];exact fun k' h=>k2 k' (by omega)
  exact awp_ret (by simp[hb])
def notPr (j:Jn) (d:List Int) (x:Int):Bool:=decide ((strm j x).Kind≠1)|| !decide (x∈d)
theorem c_Tick1 (R:AV) (d:List Int) (x:Int) (hd:d.length≤1000) (x0:0≤x) (x1:x<j.n):PureCall Tryz.prog 115 (I x::ipts [[.iptr (sC j op se ph on si R Sk Dm Pr)],[iL d]]) (Bo (notPr j d x)):=by
 show PureCall Tryz.prog 115 [I x, .iptr [.iptr (sC j op se ph on si R Sk Dm Pr)], .iptr [iL d]] (Bo (notPr j d x));have gs:=strm_get x0 x1;refine PureCall.of_body Tryz.func115 rfl (by decide) (by simp[Tryz.ntmps115]) ?_;simp only[Tryz.ntmps115,Tryz.results115];refine aS fun K hK=>?_;simp -dsimp;apply hK;clear hK K;refine aS fun K hK=>?_;simp -dsimp [gs,x0];refine callK_may _ (fun hm=>c_Contains d x (by omega)) (by simp) ?_;simp -dsimp [gs,x0];apply hK;clear hK K;exact awp_ret (by simp[notPr,bne,beq_d])
end
end Go.Street
end
section
namespace Go.Street
open Go.AM Go.Proofs
def wkC:List AV→List AV→Prop
 |[],[]=>True
 |x::xs,y::ys=>(y= .any∨y=x)∧wkC xs ys
 |_,_=>False
def wkE:List (List AV)→List (List AV)→Prop
 |[],[]=>True
 |x::xs,y::ys=>wkC x y∧wkE xs ys
 |_,_=>False
attribute [simp] wkC wkE
theorem wkC_spec:∀{xs ys:List AV},wkC xs ys→xs.length=ys.length∧∀(i:Nat) y,ys[i]?=some y→∃x,xs[i]?=some x∧(y= .any∨y=x)
 |[],[],_=>⟨rfl,by simp⟩
 |x::xs,y::ys,h=>by
  obtain⟨h1,h2⟩:=wkC_spec h.2;refine⟨by simp[h1],fun i z hz=>?_⟩
  cases i with
  |zero=>simp only[List.getElem?_cons_zero,Option.some.injEq]at hz;subst hz;exact⟨x,rfl,h.1⟩
  |succ i=>exact h2 i z (by simpa using hz)
 |[],_::_,h=>h.elim
 |_::_,[],h=>h.elim
theorem wkE_spec:∀{es fs:List (List AV)},wkE es fs→es.length=fs.length∧(∀sz,(∀e∈es,e.length=sz)→∀e∈fs,e.length=sz)∧∀(i:Nat) y,fs.flatten[i]?=some y→∃x,es.flatten[i]?=some x∧(y= .any∨y=x)
 |[],[],_=>⟨rfl,by simp,by simp⟩
 | e::es,f::fs,h=>by
  obtain⟨h1,h2,h3⟩:=wkE_spec h.2;obtain⟨g1,g2⟩:=wkC_spec h.1;refine⟨by simp[h1],fun sz he x hx=>?_,fun i y hy=>?_⟩
  ·rcases List.mem_cons.1 hx with rfl|hx
   ·rw[←g1];exact he e (by simp)
   ·exact h2 sz (fun z hz=>he z (by simp[hz])) x hx
  ·simp only[List.flatten_cons,List.getElem?_append]at hy ⊢;rw[g1]
   split at hy
   ·rename_i hi;rw[if_pos hi];exact g2 i y hy
   ·rename_i hi;rw[if_neg hi];exact h3 _ y hy
 |[],_::_,h=>h.elim
 |_::_,[],h=>h.elim
theorem sub_anyR {nt:Nat} {T:Tm} {H:Hp} (r:Nat) {sz:Nat} {es:List (List AV)} (fs:List (List AV)) (hr:hget H r=some (.els sz es)) (h:wkE es fs):Go.AM.Sub nt T H T (H.set r (some (.els sz fs))):=by
 rintro w0 B S0 a w ⟨⟨ρ,L,hc,hL⟩,hext⟩;have hrl:=hget_lt hr;obtain⟨h1,h2,h3⟩:=wkE_spec h;refine⟨⟨ρ,L,⟨hc.wf,hc.size,hc.defers,hc.tmps,fun q row hq=>?_,fun q hq=>?_⟩,fun q hq=>by rw[List.length_set];exact hL q hq⟩,hext⟩
 ·rw[hget_set H r _ q hrl]at hq
  split at hq
  ·rename_i e;subst e;simp only[Option.some.injEq]at hq;subst hq;obtain⟨l,hl,g1,g2,g3,g4⟩:=hc.rows q _ hr;refine⟨l,hl,g1,h2 _ g2,fun hb=>?_,fun b hb=>?_⟩
   ·have:=g3 hb;subst this
    cases fs with
    |nil=>rfl
    |cons=>exact h.elim
   ·obtain⟨c,t,k1,k2,k3,k4⟩:=g4 b hb;refine⟨c,t,k1,k2,by rw[←h1];exact k3,fun i y hy=>?_⟩;obtain⟨x,hx,hxy⟩:=h3 i y hy;obtain⟨u,p1,p2,p3⟩:=k4 i x hx;refine⟨u,p1,p2,?_⟩
    rcases hxy with rfl|rfl
    ·exact .pure _ _ (.any _)
    ·exact p3
  ·exact hc.rows q row hq
 ·rw[hget_set H r _ q hrl]at hq
  split at hq
  ·cases hq
  ·exact hc.dead q hq
structure Sg where
 se:Int
 ph:Int
 si:Int
 on:Bool
 ls:List Lt
 sk:List Int
def arrS (j:Jn) (s:Sg):Sg:=
 {s with si:=if (arrF j s.se (rowAt j.Phases s.ph) s.ls).2 then s.se else s.si,on:=(arrF j s.se (rowAt j.Phases s.ph) s.ls).2||s.on,ls:=(arrF j s.se (rowAt j.Phases s.ph) s.ls).1}
def turnS (j:Jn) (d p:List Int) (s:Sg):Sg:=
 {s with ph:=nextB j s.ph d p s.sk,on:=false,ls:=redF j s.se (nextB j s.ph d p s.sk) (rowAt j.Phases s.ph) s.ls,sk:=nextK j s.ph d p s.sk}
def endS (j:Jn) (d p:List Int) (s:Sg):Bool:=endsB j s.se s.ph s.si s.ls d p
def nextS (s:Sg):Sg:={s with se:=s.se+1}
def tickS (j:Jn) (d p:List Int) (s:Sg):Sg:=
 if s.on then(if endS j d p (nextS s)then arrS j (turnS j d p (nextS s))else nextS s)else arrS j (nextS s)
def okT (j:Jn) (d p:List Int):Bool:=toldB j.n d&&toldB j.n p&& !p.any (notPr j d)
structure SgOk (j:Jn) (s:Sg):Prop where
 l:s.ls.length=j.n
 k:s.sk.length=j.Phases.length
 kb:∀x∈s.sk,0≤x∧x≤1000000
 se0:-1≤s.se
 se1:s.se≤999999
 si:smallT s.si
 lb:∀l∈s.ls,smallT l.Since
 p0:0≤s.ph
 p1:s.ph<j.Phases.length
abbrev sgRow (j:Jn) (s:Sg) (nR nK:Nat) (Dm Pr:AV):Option ARow:=sRow j s.se s.ph s.si s.on nR nK Dm Pr
theorem m_Tick_f (j:Jn) (d p:List Int) (s:Sg) (hf:Fit j) (ho:JOk j) (hs:SgOk j s) (hd:d.length≤1000) (hp:p.length≤1000) (h:okT j d p=false):
  MutCall Tryz.prog 43 [.ptr 0 0 0,iL d,iL p] [sgRow j s s.ls.length s.sk.length .any .any] [rRow s.ls,kRow s.sk] (I 2) [sgRow j s s.ls.length s.sk.length .any .any] [rRow s.ls,kRow s.sk]:=by
 have hn1:=ho.n1;have hn2:=ho.n2;have hsl:=hs.l;have hr:=c_ready j (I s.se) (I s.ph) (Bo s.on) (I s.si) (lL s.ls) (iL s.sk) .any .any true;have ht1:=c_told j (Bo true) (I s.se) (I s.ph) (Bo s.on) (I s.si) (iL s.sk) .any .any s.ls d (by omega) hd;have ht2:=c_told j (Bo true) (I s.se) (I s.ph) (Bo s.on) (I s.si) (iL s.sk) .any .any s.ls p (by omega) hp;have hc1:=fun x x0 x1=>c_Tick1 j (Bo true) (I s.se) (I s.ph) (Bo s.on) (I s.si) (iL s.sk) .any .any (lL s.ls) d x hd x0 x1;rw[hsl]at ht1 ht2;refine MutCall.of_bodyG [0] Tryz.func43 rfl (by decide) (by simp[Tryz.ntmps43]) rfl rfl ?_;intro J hJ;simp only[Tryz.ntmps43,Tryz.results43];refine gS fun K hK=>?_;simp -dsimp;apply hK;clear hK K;refine gwp_seq_k fun K1 hK1=>?_;refine gS fun K hK=>?_;simp -dsimp;refine callK_intro _ (hr) (by simp) ?_;simp -dsimp;apply hK;clear hK K;refine gwp_cond rfl (fun hc0=>?_) (fun hc0=>?_)
 ·simp at hc0
 ·refine gwp_skip ?_;simp only[zT,reduceIte,Nat.reduceEqDiff];refine hK1 _ _ ?_;refine gwp_prune [0,2,3,4] (Or.inr (by simp)) ?_;simp only[zP,Nat.reduceEqDiff,reduceIte];refine gwp_seq_k fun K2 hK2=>?_;refine gS fun K hK=>?_;simp -dsimp;refine callK_intro _ (ht1) (by simp) ?_;simp -dsimp;refine callK_may _ (fun hm=>ht2) (by simp) ?_;simp -dsimp;refine callK_may _ (fun hm=>c_Cont_i p 115 [[.iptr (sC j (Bo true) (I s.se) (I s.ph) (Bo s.on) (I s.si) (lL s.ls) (iL s.sk) .any .any)],[iL d]] (notPr j d) (fun x hx=>by have hb:=toldB_bd (n:=j.n) (l:=p) (by simp at hm;exact hm.2) x hx;exact hc1 x hb.1 hb.2) (by omega)) (by simp) ?_;simp -dsimp;apply hK;clear hK K;refine gwp_cond rfl (fun hc1=>?_) (fun hc1=>?_)
  ·refine gS fun K hK=>?_;simp -dsimp;apply hK;clear hK K;exact gwp_ret ⟨[some 0,some 1,some 2],rfl,by simp,by simp,by simp,by simp[resP,tupOf]⟩
  ·exfalso;simp only[okT]at h;cases h1:toldB j.n d<;>cases h2:toldB j.n p<;>cases h3:p.any (notPr j d)<;>simp_all
theorem turnS_len {j:Jn} {d p:List Int} {s:Sg}:(turnS j d p s).ls.length=s.ls.length:=redF_len _ _ _ _ _
def stU (u v w:Sg):Nat→Sg
 |0=>u
 |1=>u
 |2=>v
 |_=>w
@[simp] theorem stU0 (u v w:Sg):stU u v w 0=u:=rfl
@[simp] theorem stU1 (u v w:Sg):stU u v w 1=u:=rfl
@[simp] theorem stU2 (u v w:Sg):stU u v w 2=v:=rfl
@[simp] theorem stU3 (u v w:Sg):stU u v w 3=w:=rfl
theorem m_Tick (j:Jn) (d p:List Int) (s:Sg) (hf:Fit j) (ho:JOk j) (hs:SgOk j s) (hd:d.length≤1000) (hp:p.length≤1000) (h:okT j d p=true):
  MutCall Tryz.prog 43 [.ptr 0 0 0,iL d,iL p] [sgRow j s s.ls.length s.sk.length .any .any] [rRow s.ls,kRow s.sk] (I 0) [sgRow j (tickS j d p s) s.ls.length s.sk.length .any .any] [rRow (tickS j d p s).ls,kRow (tickS j d p s).sk]:=by
 have hn1:=ho.n1;have hn2:=ho.n2;have hsl:=hs.l;have hr:=c_ready j (I s.se) (I s.ph) (Bo s.on) (I s.si) (lL s.ls) (iL s.sk) .any .any true;have ht1:=c_told j (Bo true) (I s.se) (I s.ph) (Bo s.on) (I s.si) (iL s.sk) .any .any s.ls d (by omega) hd;have ht2:=c_told j (Bo true) (I s.se) (I s.ph) (Bo s.on) (I s.si) (iL s.sk) .any .any s.ls p (by omega) hp;have hc1:=fun x x0 x1=>c_Tick1 j (Bo true) (I s.se) (I s.ph) (Bo s.on) (I s.si) (iL s.sk) .any .any (lL s.ls) d x hd x0 x1;rw[hsl]at ht1 ht2;simp only[okT,Bool.and_eq_true,Bool.not_eq_true']at h;rw[h.1.1]at ht1;rw[h.1.2]at ht2;have hct:=c_Cont_i p 115 [[.iptr (sC j (Bo true) (I s.se) (I s.ph) (Bo s.on) (I s.si) (lL s.ls) (iL s.sk) .any .any)],[iL d]] (notPr j d) (fun x hx=>hc1 x (toldB_bd h.1.2 x hx).1 (toldB_bd h.1.2 x hx).2) (by omega);rw[h.2]at hct;have h0:=hs.se0;have h1:=hs.se1;have ws:IntKind.i64.wrap (s.se+1)=s.se+1:=wrap_in (by omega) (by omega);obtain⟨u,hu⟩:∃u,u=nextS s:=⟨_,rfl⟩;have hse':smallT u.se:=by rw[hu];unfold smallT nextS;simp only;omega
 have hul:u.ls.length=j.n:=by rw[hu];exact hs.l
 have huk:u.sk.length=j.Phases.length:=by rw[hu];exact hs.k
 have hukb:∀x∈u.sk,0≤x∧x≤1000000:=by rw[hu];exact hs.kb
 have husi:smallT u.si:=by rw[hu];exact hs.si
 have hulb:∀l∈u.ls,smallT l.Since:=by rw[hu];exact hs.lb
 have hup:0≤u.ph∧u.ph<j.Phases.length:=by rw[hu];exact⟨hs.p0,hs.p1⟩
 have hlu:s.ls.length=u.ls.length:=by rw[hu];rfl
 have hku:s.sk.length=u.sk.length:=by rw[hu];rfl
 have hon:s.on=u.on:=by rw[hu];rfl
 have htick:tickS j d p s=if u.on then(if endS j d p u then arrS j (turnS j d p u)else u)else arrS j u:=by rw[hu];rfl
 have hen:=c_ends j (Bo true) (Bo u.on) (iL u.sk) u.se u.ph u.si u.ls d p hf ho hul hse' husi hulb hup.1 hup.2;have har:=m_arrive j u.se u.ph u.si u.on u.ls d p u.sk hf ho hul huk hse' hulb hup.1 hup.2;have w1:IntKind.i64.wrap 1=1:=wrap_in (by omega) (by omega);have w2:IntKind.i64.wrap 2=2:=wrap_in (by omega) (by omega);have w3:IntKind.i64.wrap 3=3:=wrap_in (by omega) (by omega);have hene:endS j d p u=true→candL j u.ph d≠[]:=by
  intro he hc;simp[endS,endsB,hc]at he
 have hes:endS j d p u=endsB j u.se u.ph u.si u.ls d p:=rfl;rw[←hes]at hen;have htu:=fun hne=>m_turn j u.se u.ph u.si u.on u.ls d p u.sk hf ho hul huk hukb hse' hup.1 hup.2 hne;have hqb:endS j d p u=true→0≤nextB j u.ph d p u.sk∧nextB j u.ph d p u.sk<j.Phases.length:=fun he=>candL_bd (j:=j) (ph:=u.ph) (d:=d) (by omega) _ (nextB_mem (p:=p) (sk:=u.sk) (hene he));obtain⟨v,hv⟩:∃v,v=turnS j d p u:=⟨_,rfl⟩;obtain⟨w,hw⟩:∃w,w=arrS j v:=⟨_,rfl⟩;have hvl:v.ls.length=u.ls.length:=by rw[hv];exact turnS_len
 have hvk:v.sk.length=u.sk.length:=by rw[hv];exact nextK_len _ _ _ _ _
 have hvse:v.se=u.se:=by rw[hv];rfl
 have hvb:∀l∈v.ls,smallT l.Since:=by rw[hv];exact redF_bd hse' _ hulb
 have har2:endS j d p u=true→_:=fun he=>m_arrive j v.se v.ph v.si v.on v.ls d p v.sk hf ho (by omega) (by omega) (by rw[hvse];exact hse') hvb (by rw[hv];exact(hqb he).1) (by rw[hv];exact(hqb he).2);rw[hvl,hvk]at har2;rw[htick,←hv,←hw];clear hs;refine MutCall.of_bodyG [0] Tryz.func43 rfl (by decide) (by simp[Tryz.ntmps43]) rfl rfl ?_;intro J hJ;simp only[Tryz.ntmps43,Tryz.results43];refine gS fun K hK=>?_;simp -dsimp;apply hK;clear hK K;refine gwp_seq_k fun K1 hK1=>?_;refine gS fun K hK=>?_;simp -dsimp;refine callK_intro _ (hr) (by simp) ?_;simp -dsimp;apply hK;clear hK K;refine gwp_cond rfl (fun hc0=>?_) (fun hc0=>?_)
 ·simp at hc0
 ·refine gwp_skip ?_;simp only[zT,reduceIte,Nat.reduceEqDiff];refine hK1 _ _ ?_;refine gwp_prune [0,2,3,4] (Or.inr (by simp)) ?_;simp only[zP,Nat.reduceEqDiff,reduceIte];refine gwp_seq_k fun K2 hK2=>?_;refine gS fun K hK=>?_;simp -dsimp;refine callK_intro _ (ht1) (by simp) ?_;simp -dsimp;refine callK_may _ (fun hm=>ht2) (by simp) ?_;simp -dsimp;refine callK_may _ (fun hm=>hct) (by simp) ?_;simp -dsimp;apply hK;clear hK K;refine gwp_cond rfl (fun hc1=>?_) (fun hc1=>?_)
  ·simp at hc1
  ·refine gwp_skip ?_;simp only[zT,reduceIte,Nat.reduceEqDiff];refine hK2 _ _ ?_;refine gwp_prune [0,2,3,4] (Or.inr (by simp)) ?_;simp only[zP,Nat.reduceEqDiff,reduceIte];refine gS fun K hK=>?_;simp -dsimp [ws];apply hK;clear hK K;refine gwp_sd mixed rfl (by decide) rfl rfl fun K hK=>?_;simp -dsimp;refine hK _ _ _ (by decide+kernel) ?_;clear hK K;refine gwp_seq_k fun K3 hK3=>?_;refine gS fun K hK=>?_;simp -dsimp;apply hK;clear hK K;refine gwp_block ?_;refine gwp_prune [0,2,3,46,47,48] (Or.inr (by simp)) ?_;simp only[zP,Nat.reduceEqDiff,reduceIte];refine gwp_loop_l [0,2,3,46,47] (α:=Nat) (fun k=>[(48,I k)]) (fun k=>[sgRow j (nextS s) s.ls.length s.sk.length (.mp 5) (.mp 6),rRow s.ls,kRow s.sk,some (.els 1 [[.ptr 0 0 0]]),some (.els 1 [[iL d]]),some (.map false [.i .i64] (metK (d.take k))),some (.map false [.i .i64] [])]) (fun k=>k≤d.length) (fun k=>d.length-k) 0 ?_ ?_ ?_
   ·exact Nat.zero_le _
   ·exact gsub (sub_rb [some 0,some 1,some 2,some 3,some 4,some 5,some 6] rfl (by simp[nextS]) (by simp[nextS])) (by simp)
   rintro k k1;simp only[zP,Nat.reduceEqDiff,reduceIte];refine gS fun K hK=>?_;simp -dsimp;apply hK;clear hK K;refine gwp_seq_k fun K4 hK4=>?_;refine gwp_cond rfl (fun hc2=>?_) (fun hc2=>?_)
   ·have hkl:k<d.length:=by simpa using hc2
    have gx:=at0_nat hkl;have wk:=zW k (by omega);refine gwp_skip ?_;simp only[zT,reduceIte,Nat.reduceEqDiff];refine hK4 _ _ ?_;refine gwp_prune [0,2,3,46,47,48] (Or.inr (by simp)) ?_;simp only[zP,Nat.reduceEqDiff,reduceIte];refine gwp_seq_k fun K5 hK5=>?_;refine gwp_block ?_;refine gS fun K hK=>?_;simp -dsimp [gx];apply hK;clear hK K;refine gR fun K hK=>?_;simp -dsimp [metK_snoc];apply hK;clear hK K;simp only[zT,reduceIte,Nat.reduceEqDiff];refine hK5 _ _ ?_;refine gwp_prune [0,2,3,46,47,48] (Or.inr (by simp)) ?_;simp only[zP,Nat.reduceEqDiff,reduceIte];refine gR fun K hK=>?_;simp -dsimp [wk];apply hK;clear hK K;simp only[zT,reduceIte,Nat.reduceEqDiff];exact⟨k+1,by omega,by omega,gsub (sub_rb [some 0,some 1,some 2,some 3,some 4,some 5,some 6] rfl (by simp) (by simp[List.take_add_one,gx])) (by simp)⟩
   ·have hkk:¬k<d.length:=by simpa using hc2
    have htd:d.take k=d:=List.take_of_length_le (by omega);rw[htd];refine gwp_exit ?_;simp only[zT,reduceIte,Nat.reduceEqDiff];refine hK3 _ _ ?_;refine gwp_prune [0,2,3] (Or.inr (by simp)) ?_;simp only[zP,Nat.reduceEqDiff,reduceIte];refine gwp_seq_k fun K6 hK6=>?_;refine gS fun K hK=>?_;simp -dsimp;apply hK;clear hK K;refine gwp_block ?_;refine gwp_prune [0,3,58,59,60] (Or.inr (by simp)) ?_;simp only[zP,Nat.reduceEqDiff,reduceIte];refine gwp_loop_l [0,3,58,59] (α:=Nat) (fun k=>[(60,I k)]) (fun k=>[sgRow j (nextS s) s.ls.length s.sk.length (.mp 5) (.mp 6),rRow s.ls,kRow s.sk,some (.els 1 [[.ptr 0 0 0]]),some (.els 1 [[iL d]]),some (.map false [.i .i64] (metK d)),some (.map false [.i .i64] (metK (p.take k)))]) (fun k=>k≤p.length) (fun k=>p.length-k) 0 ?_ ?_ ?_
    ·exact Nat.zero_le _
    ·exact gsub (sub_rb [some 0,some 1,some 2,some 3,some 4,some 5,some 6] rfl (by simp) (by simp)) (by simp)
    rintro k' k1';simp only[zP,Nat.reduceEqDiff,reduceIte];refine gS fun K hK=>?_;simp -dsimp;apply hK;clear hK K;refine gwp_seq_k fun K7 hK7=>?_;refine gwp_cond rfl (fun hc3=>?_) (fun hc3=>?_)
    ·have hkl':k'<p.length:=by simpa using hc3
     have gx':=at0_nat hkl';have wk':IntKind.i64.wrap ((k':Int)+1)=(k':Int)+1:=wrap_in (by omega) (by omega);refine gwp_skip ?_;simp only[zT,reduceIte,Nat.reduceEqDiff];refine hK7 _ _ ?_;refine gwp_prune [0,3,58,59,60] (Or.inr (by simp)) ?_;simp only[zP,Nat.reduceEqDiff,reduceIte];refine gwp_seq_k fun K8 hK8=>?_;refine gwp_block ?_;refine gS fun K hK=>?_;simp -dsimp [gx'];apply hK;clear hK K;refine gR fun K hK=>?_;simp -dsimp [metK_snoc];apply hK;clear hK K;simp only[zT,reduceIte,Nat.reduceEqDiff];refine hK8 _ _ ?_;refine gwp_prune [0,3,58,59,60] (Or.inr (by simp)) ?_;simp only[zP,Nat.reduceEqDiff,reduceIte];refine gR fun K hK=>?_;simp -dsimp [wk'];apply hK;clear hK K;simp only[zT,reduceIte,Nat.reduceEqDiff];exact⟨k'+1,by omega,by omega,gsub (sub_rb [some 0,some 1,some 2,some 3,some 4,some 5,some 6] rfl (by simp) (by simp[List.take_add_one,gx'])) (by simp)⟩
    ·have hkk':¬k'<p.length:=by simpa using hc3
     have htp:p.take k'=p:=List.take_of_length_le (by omega);rw[htp];refine gwp_weak (gsub (sub_rf (T':=[(0, .ptr 0 0 0),(3, .ptr 3 0 0)]) (H':=[sgRow j u u.ls.length u.sk.length (mp d) (mp p),rRow u.ls,kRow u.sk,some (.els 1 [[.ptr 0 0 0]]),some (.els 1 [[iL d]])]) [some 0,some 1,some 2,some 3,some 4] rfl (by simp) (by simp[hu,nextS])) (by simp)) ?_;refine gwp_exit ?_;simp only[zT,reduceIte,Nat.reduceEqDiff];refine hK6 _ _ ?_;refine gwp_prune [0,3] (Or.inr (by simp)) ?_;simp only[zP,Nat.reduceEqDiff,reduceIte];refine gwp_seq_k fun K9 hK9=>?_;refine gS fun K hK=>?_;simp -dsimp;apply hK;clear hK K;refine gwp_cond rfl (fun hc4=>?_) (fun hc4=>?_)
     ·simp only[Bool.not_eq_true',Bool.not_eq_false']at hc4;refine gS fun K hK=>?_;simp -dsimp;refine callK_mut [0] [1,2] [some 0,none,none,none,none,some 1,some 2] (har) (by decide) rfl (by simp) (by simp) rfl (by simp) ?_;simp -dsimp;apply hK;clear hK K;refine gS fun K hK=>?_;simp -dsimp;apply hK;clear hK K;refine gwp_weak (gsub (sub_anyR 0 [sC j (Bo true) (I u.se) (I u.ph) (Bo ((arrF j u.se (rowAt j.Phases u.ph) u.ls).2||u.on)) (I (if (arrF j u.se (rowAt j.Phases u.ph) u.ls).2 then u.se else u.si)) (.row 5 0 u.ls.length) (.row 6 0 u.sk.length) .any .any] rfl (by simp)) (by simp)) ?_;exact gwp_ret ⟨[some 0,some 5,some 6],rfl,by simp,by simp[hc4,arrS,hlu,hku],by simp,by simp[resP,tupOf]⟩
     ·simp only[Bool.not_eq_true',Bool.not_eq_false']at hc4;refine gwp_skip ?_;simp only[zT,reduceIte,Nat.reduceEqDiff];refine hK9 _ _ ?_;refine gwp_prune [0,3] (Or.inr (by simp)) ?_;simp only[zP,Nat.reduceEqDiff,reduceIte];refine gwp_seq_k fun K10 hK10=>?_;refine gwp_flag (by decide) ?_;refine gS fun K hK=>?_;simp -dsimp;apply hK;clear hK K;refine gwp_block ?_;refine gwp_prune [0,83,84,85] (Or.inr (by simp)) ?_;simp only[zP,Nat.reduceEqDiff,reduceIte];refine gwp_loop_l [0,83,84] (α:=Nat) (fun k=>[(85,I k)]) (fun k=>[sgRow j (stU u v w k) u.ls.length u.sk.length (mp d) (mp p),rRow (stU u v w k).ls,kRow (stU u v w k).sk,some (.els 1 [[.ptr 0 0 0]]),some (.els 1 [[iL d]]),some (.els 1 [[.bnd 118 [.ptr 0 0 0]],[.bnd 119 [.ptr 0 0 0]],[.bnd 117 [.ptr 0 0 0]]])]) (fun k=>k≤3∧(1≤k→endS j d p u=true)) (fun k=>3-k) 0 ?_ ?_ ?_
      ·exact⟨by omega,by omega⟩
      ·exact gsub (sub_rb [some 0,some 1,some 2,some 3,some 4,some 5] rfl (by simp) (by simp)) (by simp)
      rintro k ⟨k1,k2⟩;have hk:k=0∨k=1∨k=2∨k=3:=by omega
      rcases hk with rfl|rfl|rfl|rfl
      ·simp only[zP,Nat.reduceEqDiff,reduceIte];refine gS fun K hK=>?_;simp -dsimp;apply hK;clear hK K;refine gwp_seq_k fun K11 hK11=>?_;refine gwp_cond rfl (fun hc5=>?_) (fun hc5=>?_)
       ·refine gwp_skip ?_;simp only[zT,reduceIte,Nat.reduceEqDiff];refine hK11 _ _ ?_;refine gwp_prune [0,83,84,85] (Or.inr (by simp)) ?_;simp only[zP,Nat.reduceEqDiff,reduceIte];refine gwp_seq_k fun K12 hK12=>?_;refine gwp_block ?_;refine gS fun K hK=>?_;simp -dsimp;apply hK;clear hK K;refine gS fun K hK=>?_;simp -dsimp;refine callK_intro _ (hen) (by simp) ?_;simp -dsimp;apply hK;clear hK K;refine gwp_cond rfl (fun hc6=>?_) (fun hc6=>?_)
        ·refine gwp_exit ?_;simp only[zT,reduceIte,Nat.reduceEqDiff];refine hK10 _ _ ?_;refine gwp_prune [0] (Or.inr (by simp)) ?_;simp only[zP,Nat.reduceEqDiff,reduceIte];refine gS fun K hK=>?_;simp -dsimp;apply hK;clear hK K;have he:endS j d p u=false:=by simpa using hc6
         refine gwp_weak (gsub (sub_anyR 0 [sC j (Bo true) (I u.se) (I u.ph) (Bo u.on) (I u.si) (.row 1 0 u.ls.length) (.row 2 0 u.sk.length) .any .any] rfl (by simp)) (by simp)) ?_;exact gwp_ret ⟨[some 0,some 1,some 2],rfl,by simp,by simp[hc4,he,hlu,hku],by simp,by simp[resP,tupOf]⟩
        ·refine gwp_skip ?_;simp only[zT,reduceIte,Nat.reduceEqDiff];refine hK12 _ _ ?_;refine gwp_prune [0,83,84,85] (Or.inr (by simp)) ?_;simp only[zP,Nat.reduceEqDiff,reduceIte];refine gR fun K hK=>?_;simp -dsimp [w1,w2,w3];apply hK;clear hK K;simp only[zT,reduceIte,Nat.reduceEqDiff];have he:endS j d p u=true:=by simpa using hc6
         exact⟨1,⟨by omega,fun _=>he⟩,by omega,gsub (sub_rb [some 0,some 1,some 2,some 3,some 4,some 5] rfl (by simp) (by simp)) (by simp)⟩
       ·simp at hc5
      ·simp only[zP,Nat.reduceEqDiff,reduceIte];refine gS fun K hK=>?_;simp -dsimp;apply hK;clear hK K;refine gwp_seq_k fun K13 hK13=>?_;refine gwp_cond rfl (fun hc5=>?_) (fun hc5=>?_)
       ·have he:=k2 (by omega);refine gwp_skip ?_;simp only[zT,reduceIte,Nat.reduceEqDiff];refine hK13 _ _ ?_;refine gwp_prune [0,83,84,85] (Or.inr (by simp)) ?_;simp only[zP,Nat.reduceEqDiff,reduceIte];refine gwp_seq_k fun K14 hK14=>?_;refine gwp_block ?_;refine gS fun K hK=>?_;simp -dsimp;apply hK;clear hK K;refine gS fun K hK=>?_;simp -dsimp;refine callK_mut [0] [1,2] [some 0,none,none,none,none,none,some 1,some 2] (htu (hene he)) (by decide) rfl (by simp) (by simp) rfl (by simp) ?_;simp -dsimp;apply hK;clear hK K;refine gwp_cond rfl (fun hc6=>?_) (fun hc6=>?_)
        ·simp at hc6
        ·refine gwp_skip ?_;simp only[zT,reduceIte,Nat.reduceEqDiff];refine hK14 _ _ ?_;refine gwp_prune [0,83,84,85] (Or.inr (by simp)) ?_;simp only[zP,Nat.reduceEqDiff,reduceIte];refine gR fun K hK=>?_;simp -dsimp [w1,w2,w3];apply hK;clear hK K;simp only[zT,reduceIte,Nat.reduceEqDiff];exact⟨2,⟨by omega,fun _=>he⟩,by omega,gsub (sub_rb [some 0,some 6,some 7,some 3,some 4,some 5] rfl (by simp) (by simp[hv,turnS])) (by simp)⟩
       ·simp at hc5
      ·simp only[zP,Nat.reduceEqDiff,reduceIte];refine gS fun K hK=>?_;simp -dsimp;apply hK;clear hK K;refine gwp_seq_k fun K15 hK15=>?_;refine gwp_cond rfl (fun hc5=>?_) (fun hc5=>?_)
       ·have he:=k2 (by omega);refine gwp_skip ?_;simp only[zT,reduceIte,Nat.reduceEqDiff];refine hK15 _ _ ?_;refine gwp_prune [0,83,84,85] (Or.inr (by simp)) ?_;simp only[zP,Nat.reduceEqDiff,reduceIte];refine gwp_seq_k fun K16 hK16=>?_;refine gwp_block ?_;refine gS fun K hK=>?_;simp -dsimp;apply hK;clear hK K;refine gS fun K hK=>?_;simp -dsimp;refine callK_mut [0] [1,2] [some 0,none,none,none,none,none,some 1,some 2] (har2 he) (by decide) rfl (by simp) (by simp) rfl (by simp) ?_;simp -dsimp;apply hK;clear hK K;refine gwp_cond rfl (fun hc6=>?_) (fun hc6=>?_)
        ·refine gwp_exit ?_;simp only[zT,reduceIte,Nat.reduceEqDiff];refine hK10 _ _ ?_;refine gwp_prune [0] (Or.inr (by simp)) ?_;simp only[zP,Nat.reduceEqDiff,reduceIte];refine gS fun K hK=>?_;simp -dsimp;apply hK;clear hK K;refine gwp_weak (gsub (sub_anyR 0 [sC j (Bo true) (I v.se) (I v.ph) (Bo ((arrF j v.se (rowAt j.Phases v.ph) v.ls).2||v.on)) (I (if (arrF j v.se (rowAt j.Phases v.ph) v.ls).2 then v.se else v.si)) (.row 6 0 u.ls.length) (.row 7 0 u.sk.length) .any .any] rfl (by simp)) (by simp)) ?_;exact gwp_ret ⟨[some 0,some 6,some 7],rfl,by simp,by simp[hc4,he,hw,arrS,hlu,hku],by simp,by simp[resP,tupOf]⟩
        ·refine gwp_skip ?_;simp only[zT,reduceIte,Nat.reduceEqDiff];refine hK16 _ _ ?_;refine gwp_prune [0,83,84,85] (Or.inr (by simp)) ?_;simp only[zP,Nat.reduceEqDiff,reduceIte];refine gR fun K hK=>?_;simp -dsimp [w1,w2,w3];apply hK;clear hK K;simp only[zT,reduceIte,Nat.reduceEqDiff];exact⟨3,⟨by omega,fun _=>he⟩,by omega,gsub (sub_rb [some 0,some 6,some 7,some 3,some 4,some 5] rfl (by simp) (by simp[hw,arrS])) (by simp)⟩
       ·simp at hc5
      ·simp only[zP,Nat.reduceEqDiff,reduceIte];refine gS fun K hK=>?_;simp -dsimp;apply hK;clear hK K;refine gwp_seq_k fun K17 hK17=>?_;refine gwp_cond rfl (fun hc5=>?_) (fun hc5=>?_)
       ·simp at hc5
       ·refine gwp_exit ?_;simp only[zT,reduceIte,Nat.reduceEqDiff];refine hK10 _ _ ?_;refine gwp_prune [0] (Or.inr (by simp)) ?_;simp only[zP,Nat.reduceEqDiff,reduceIte];refine gS fun K hK=>?_;simp -dsimp;apply hK;clear hK K;have he:=k2 (by omega);refine gwp_weak (gsub (sub_anyR 0 [sC j (Bo true) (I w.se) (I w.ph) (Bo w.on) (I w.si) (.row 1 0 u.ls.length) (.row 2 0 u.sk.length) .any .any] rfl (by simp)) (by simp)) ?_;exact gwp_ret ⟨[some 0,some 1,some 2],rfl,by simp,by simp[hc4,he,hlu,hku],by simp,by simp[resP,tupOf]⟩
end Go.Street
end
section
namespace Go.Street
open Go.AM Go.Proofs
def grStep (ls:List Lt) (x:Int):List Lt:=ls.set x.toNat ⟨true,(ltAt ls x).Since⟩
def grF (l:List Int) (ls:List Lt):List Lt:=l.foldl grStep ls
theorem grF_len (l:List Int) (ls:List Lt):(grF l ls).length=ls.length:=by
 unfold grF
 induction l generalizing ls with
 |nil=>rfl
 |cons x l ih=>rw[List.foldl_cons,ih];simp[grStep]
theorem grF_snoc {l:List Int} {ls:List Lt} {k:Nat} {x:Int} (h:l[k]?=some x):grF (l.take (k+1)) ls=grStep (grF (l.take k) ls) x:=by
 unfold grF;rw[List.take_add_one,h];simp
def openS (j:Jn):Sg:=⟨-1,0,0,true,grF (rowAt j.Phases 0) (List.replicate j.n ⟨false,0⟩),List.replicate j.Phases.length 0⟩
theorem m_Open (j:Jn) (hf:Fit j) (h:jnB j=true):MutCall Tryz.prog 35 [.agg j.cells] [] [] (.tup [.ptr 0 0 0,I 0]) [] [sgRow j (openS j) j.n j.Phases.length .any .any,rRow (openS j).ls,kRow (openS j).sk]:=by
 have hc:=c_Check j hf;rw[h]at hc;have ho:=jnB_ok h;have hw:=c_owned j hf;have hph:=ho.phase (i:=0) (by omega) (by have:=ho.p1;omega);have hpl:=hf.ps _ (List.mem_of_getElem? hph.1);have hn:=hf.s;have hp:=hf.p;have hnl:j.n=j.Streams.length:=rfl;have f1:Fits j.Streams.length 17:=fits_of (by omega) (by omega);have f2:Fits j.Phases.length 9:=fits_of (by omega) (by omega);have wm1:IntKind.i64.wrap (-1)=-1:=wrap_in (by omega) (by omega);have gp:j.Phases[0]?=some (rowAt j.Phases 0):=hph.1;refine MutCall.of_bodyG [] Tryz.func35 rfl (by decide) (by simp[Tryz.ntmps35]) rfl rfl ?_;intro J hJ;simp only[Tryz.ntmps35,Tryz.results35];refine gS fun K hK=>?_;simp -dsimp;apply hK;clear hK K;refine gwp_seq_k fun K1 hK1=>?_;refine gS fun K hK=>?_;simp -dsimp;refine callK_intro _ (hc) (by simp) ?_;simp -dsimp;apply hK;clear hK K;refine gS fun K hK=>?_;simp -dsimp;apply hK;clear hK K;refine gwp_cond rfl (fun hc0=>?_) (fun hc0=>?_)
 ·simp at hc0
 ·refine gwp_skip ?_;simp only[zT,reduceIte,Nat.reduceEqDiff];refine hK1 _ _ ?_;refine gwp_prune [1] (Or.inr (by simp)) ?_;simp only[zP,Nat.reduceEqDiff,reduceIte];refine gwp_sd mixed rfl (by decide) rfl rfl fun K hK=>?_;simp -dsimp [f1,f2];refine callK_intro _ (hw) (by simp) ?_;simp -dsimp [f1,f2];refine hK _ _ _ (by decide+kernel) ?_;clear hK K;refine gwp_seq_k fun K2 hK2=>?_;refine gS fun K hK=>?_;simp -dsimp [gp];apply hK;clear hK K;refine gwp_block ?_;refine gwp_prune [5,29,30,31] (Or.inr (by simp)) ?_;simp only[zP,Nat.reduceEqDiff,reduceIte];refine gwp_loop_l [5,29,30] (α:=Nat) (fun k=>[(31,I k)]) (fun k=>[none,rRow (grF ((rowAt j.Phases 0).take k) (List.replicate j.n ⟨false,0⟩)),kRow (List.replicate j.Phases.length 0),some (.els 15 [sC j (Bo true) (I (-1)) (I 0) (Bo true) (I 0) (.row 1 0 j.n) (.row 2 0 j.Phases.length) (.v (.map none)) (.v (.map none))])]) (fun k=>k≤(rowAt j.Phases 0).length) (fun k=>(rowAt j.Phases 0).length-k) 0 ?_ ?_ ?_
  ·exact Nat.zero_le _
  ·exact gsub (sub_rb [none,some 1,some 2,some 3] rfl (by simp) (by simp[grF,hnl])) (by simp)
  rintro k k1;simp only[zP,Nat.reduceEqDiff,reduceIte];refine gS fun K hK=>?_;simp -dsimp;apply hK;clear hK K;refine gwp_seq_k fun K3 hK3=>?_;refine gwp_cond rfl (fun hc1=>?_) (fun hc1=>?_)
  ·have hkl:k<(rowAt j.Phases 0).length:=by simpa using hc1
   have gx:=at0_nat hkl;have hxb:=hph.2.2.1 _ (List.mem_of_getElem? gx);have wk:=zW k (by omega);generalize at0 (rowAt j.Phases 0) k=x at gx hxb;have hsn:=grF_snoc (ls:=List.replicate j.n ⟨false,0⟩) gx;have hln:=grF_len ((rowAt j.Phases 0).take k) (List.replicate j.n ⟨false,0⟩);rw[List.length_replicate]at hln;generalize grF ((rowAt j.Phases 0).take k) (List.replicate j.n ⟨false,0⟩)=L at hsn hln ⊢;have gl:=ltAt_get (l:=L) (i:=x) hxb.1 (by omega);refine gwp_skip ?_;simp only[zT,reduceIte,Nat.reduceEqDiff];refine hK3 _ _ ?_;refine gwp_prune [5,29,30,31] (Or.inr (by simp)) ?_;simp only[zP,Nat.reduceEqDiff,reduceIte];refine gwp_seq_k fun K4 hK4=>?_;refine gwp_block ?_;refine gS fun K hK=>?_;simp -dsimp [gx];apply hK;clear hK K;refine gR fun K hK=>?_;simp -dsimp [hxb.1,hxb.2,gl];apply hK;clear hK K;simp only[zT,reduceIte,Nat.reduceEqDiff];refine hK4 _ _ ?_;refine gwp_prune [5,29,30,31] (Or.inr (by simp)) ?_;simp only[zP,Nat.reduceEqDiff,reduceIte];refine gR fun K hK=>?_;simp -dsimp [wk];apply hK;clear hK K;simp only[zT,reduceIte,Nat.reduceEqDiff];exact⟨k+1,by omega,by omega,gsub (sub_rb [none,some 1,some 2,some 3] rfl (by simp) (by simp[hsn,grStep,List.map_set])) (by simp)⟩
  ·have hkk:¬k<(rowAt j.Phases 0).length:=by simpa using hc1
   have htk:(rowAt j.Phases 0).take k=rowAt j.Phases 0:=List.take_of_length_le (by omega);rw[htk];refine gwp_exit ?_;simp only[zT,reduceIte,Nat.reduceEqDiff];refine hK2 _ _ ?_;refine gwp_prune [5] (Or.inr (by simp)) ?_;simp only[zP,Nat.reduceEqDiff,reduceIte];refine gS fun K hK=>?_;simp -dsimp;apply hK;clear hK K;refine gwp_weak (gsub (sub_anyR 3 [sC j (Bo true) (I (-1)) (I 0) (Bo true) (I 0) (.row 1 0 j.n) (.row 2 0 j.Phases.length) .any .any] rfl (by simp)) (by simp)) ?_;exact gwp_ret ⟨[some 3,some 1,some 2],rfl,by simp,by simp[openS],by simp,by simp[resP,tupOf]⟩
theorem grF_bd:∀(l:List Int) (ls:List Lt),(∀x∈ls,x.Since=0)→∀x∈grF l ls,x.Since=0
 |[],ls,h=>h
 | y::l,ls,h=>grF_bd l (grStep ls y) (by
  intro x hx
  rcases List.mem_or_eq_of_mem_set hx with h1|rfl
  ·exact h x h1
  ·show(ltAt ls y).Since=0;unfold ltAt
   cases hy:ls[y.toNat]? with
   |none=>rfl
   |some z=>exact h z (List.mem_of_getElem? hy))
theorem openS_ok {j:Jn} (ho:JOk j):SgOk j (openS j):=by
 have h1:=ho.p1;refine⟨by simp[openS,grF_len],by simp[openS],?_,by simp[openS],by simp[openS],by simp[openS,smallT],?_,by simp[openS],by simp[openS];omega⟩
 ·intro x hx;simp only[openS,List.mem_replicate]at hx;omega
 ·intro l hl;have:=grF_bd (rowAt j.Phases 0) (List.replicate j.n ⟨false,0⟩) (by intro x hx;simp only[List.mem_replicate]at hx;rw[hx.2]) l hl;unfold smallT;omega
structure SgIn (j:Jn) (N:Int) (s:Sg):Prop where
 l:s.ls.length=j.n
 k:s.sk.length=j.Phases.length
 kb:∀x∈s.sk,0≤x∧x≤20*(N+1)
 se:s.se=N
 si:-1≤s.si∧s.si≤N+1
 lb:∀l∈s.ls,-1≤l.Since∧l.Since≤N+1
 p0:0≤s.ph
 p1:s.ph<j.Phases.length
theorem SgIn.ok {j:Jn} {N:Int} {s:Sg} (h:SgIn j N s) (h0:-1≤N) (h1:N≤40000):SgOk j s:=
 ⟨h.l,h.k,fun x hx=>by have:=h.kb x hx;omega,by have:=h.se;omega,by have:=h.se;omega,by have:=h.si;unfold smallT;omega,fun l hl=>by have:=h.lb l hl;unfold smallT;omega,h.p0,h.p1⟩
end Go.Street
end
section
namespace Go.Street
open Go.AM Go.Proofs
def badP (j:Jn) (a b:Int):Bool:=decide (a=b)|| !conf j a b
def tourEl (j:Jn) (l:List Int) (i:Nat):Bool:=inr (at0 l i) 0 ((j.n:Int)-1)&& !(l.take i).any (badP j (at0 l i))
def touredB (j:Jn) (l:List Int):Bool:=(List.range l.length).all (tourEl j l)&&inr l.length 2 9
theorem touredB_ff {j:Jn} {l:List Int} {i:Nat} (hi:i<l.length) (h:tourEl j l i=false):touredB j l=false:=by
 unfold touredB;have:(List.range l.length).all (tourEl j l)=false:=by
  rw[List.all_eq_false];exact⟨i,List.mem_range.2 hi,by simp[h]⟩
 simp[this]
theorem c_toured (j:Jn) (l:List Int) (hf:Fit j) (hs:Sqr j) (hn:l.length≤1000):PureCall Tryz.prog 179 [j.av,iL l] (Bo (touredB j l)):=by
 have f1:=hf.s;have hnl:j.n=j.Streams.length:=rfl;have wn:IntKind.i64.wrap ((j.Streams.length:Int)-1)=(j.n:Int)-1:=by rw[←hnl];exact wrap_in (by omega) (by omega)
 refine PureCall.of_body Tryz.func179 rfl (by decide) (by simp[Tryz.ntmps179]) ?_;simp only[Tryz.ntmps179,Tryz.results179];refine aS fun K hK=>?_;simp -dsimp;apply hK;clear hK K;refine awp_seq_k fun K1 hK1=>?_;refine aS fun K hK=>?_;simp -dsimp;apply hK;clear hK K;refine awp_block ?_;refine awp_prune [1,2,9,10,11] ?_;simp only[zP,Nat.reduceEqDiff,reduceIte];refine awp_loop_l [1,2,9,10] (α:=Nat) (fun i=>[(11,I i)]) (fun i=>[some (.els 6 [j.cells])]) (fun i=>i≤l.length∧∀i',i'<i→tourEl j l i'=true) (fun i=>l.length-i) 0 ?_ ?_ ?_
 ·exact⟨Nat.zero_le _,fun i' h=>by omega⟩
 ·exact sub_same (by simp)
 rintro i ⟨i1,i2⟩;simp only[zP,Nat.reduceEqDiff,reduceIte];refine aS fun K hK=>?_;simp -dsimp;apply hK;clear hK K;refine awp_seq_k fun K2 hK2=>?_;refine awp_cond rfl (fun hc0=>?_) (fun hc0=>?_)
 ·skip
  try simp at hc0
  have ga:=at0_nat hc0;have wi:=zW i (by omega);have hte:tourEl j l i=(inr (at0 l i) 0 ((j.n:Int)-1)&& !(l.take i).any (badP j (at0 l i))):=rfl;generalize at0 l i=a at ga hte;have hin:∀b∈l.take i,0≤b∧b<j.n:=by
   intro b hb;obtain⟨k,hk⟩:=List.getElem?_of_mem hb;have hlt:=(List.getElem?_eq_some_iff.1 hk).1;rw[List.length_take]at hlt;have he:=i2 k (by omega);rw[List.getElem?_take,if_pos (by omega)]at hk;simp only[tourEl,at0_of hk,Bool.and_eq_true,inr_iff]at he;omega
  refine awp_skip ?_;simp only[zT,reduceIte,Nat.reduceEqDiff];refine hK2 _ _ ?_;refine awp_prune [1,2,9,10,11] ?_;simp only[zP,Nat.reduceEqDiff,reduceIte];refine awp_seq_k fun K3 hK3=>?_;refine awp_block ?_;refine aS fun K hK=>?_;simp -dsimp [ga];apply hK;clear hK K;refine awp_seq_k fun K4 hK4=>?_;refine aS fun K hK=>?_;simp -dsimp [wn];refine callK_intro _ (c_within _ _ _) (by simp) ?_;simp -dsimp [wn];apply hK;clear hK K;refine awp_cond rfl (fun hc1=>?_) (fun hc1=>?_)
  ·have hr:inr a 0 ((j.n:Int)-1)=false:=by simpa using hc1
   refine aS fun K hK=>?_;simp -dsimp;apply hK;clear hK K;exact awp_ret (by simp[touredB_ff hc0 (by rw[hte,hr];rfl)])
  ·have hr:inr a 0 ((j.n:Int)-1)=true:=by simpa using hc1
   have hra:=inr_iff.1 hr;have hil:i≤l.length:=by omega
   refine awp_skip ?_;simp only[zT,reduceIte,Nat.reduceEqDiff];refine hK4 _ _ ?_;refine awp_prune [1,2,5,6,9,10,11] ?_;simp only[zP,Nat.reduceEqDiff,reduceIte];refine aS fun K hK=>?_;simp -dsimp [hil];apply hK;clear hK K;refine awp_block ?_;refine awp_prune [1,2,6,9,10,11,26,27,28] ?_;simp only[zP,Nat.reduceEqDiff,reduceIte];refine awp_loop_l [1,2,6,9,10,11,26,27] (α:=Nat) (fun k=>[(28,I k)]) (fun k=>[some (.els 6 [j.cells])]) (fun k=>k≤i∧((l.take i).take k).any (badP j a)=false) (fun k=>i-k) 0 ?_ ?_ ?_
   ·exact⟨Nat.zero_le _,rfl⟩
   ·exact sub_same (by simp)
   rintro k ⟨k1,k2⟩;simp only[zP,Nat.reduceEqDiff,reduceIte];refine aS fun K hK=>?_;simp -dsimp;apply hK;clear hK K;refine awp_seq_k fun K5 hK5=>?_;refine awp_cond rfl (fun hc2=>?_) (fun hc2=>?_)
   ·have hki:k<i:=by simpa [hil]using hc2
    obtain⟨b,hb⟩:∃b,(l.take i)[k]?=some b:=⟨_,List.getElem?_eq_getElem (by rw[List.length_take];omega)⟩;have hbb:=hin b (List.mem_of_getElem? hb);have hb':l[k]?=some b:=by rw[List.getElem?_take,if_pos hki]at hb;exact hb
    have wk:=zW k (by omega);have hcf:=c_conflict j a b hs hra.1 (by omega) hbb.1 hbb.2;refine awp_skip ?_;simp only[zT,reduceIte,Nat.reduceEqDiff];refine hK5 _ _ ?_;refine awp_prune [1,2,6,9,10,11,26,27,28] ?_;simp only[zP,Nat.reduceEqDiff,reduceIte];refine awp_seq_k fun K6 hK6=>?_;refine awp_block ?_;refine aS fun K hK=>?_;simp -dsimp [hb',hki];apply hK;clear hK K;refine aS fun K hK=>?_;simp -dsimp;refine callK_may _ (fun hm=>hcf) (by simp) ?_;simp -dsimp;apply hK;clear hK K;refine awp_cond rfl (fun hc3=>?_) (fun hc3=>?_)
    ·have hbp:badP j a b=(a==b|| !conf j a b):=by unfold badP;rw[beq_d]
     have hany:(l.take i).any (badP j a)=true:=by
      rw[List.any_eq_true];exact⟨b,List.mem_of_getElem? hb,by rw[hbp];simpa using hc3⟩
     refine aS fun K hK=>?_;simp -dsimp;apply hK;clear hK K;exact awp_ret (by simp[touredB_ff hc0 (by rw[hte,hany];simp)])
    ·have hbp:badP j a b=(a==b|| !conf j a b):=by unfold badP;rw[beq_d]
     refine awp_skip ?_;simp only[zT,reduceIte,Nat.reduceEqDiff];refine hK6 _ _ ?_;refine awp_prune [1,2,6,9,10,11,26,27,28] ?_;simp only[zP,Nat.reduceEqDiff,reduceIte];refine aR fun K hK=>?_;simp -dsimp [wk];apply hK;clear hK K;simp only[zT,reduceIte,Nat.reduceEqDiff];have hbf:badP j a b=false:=by rw[hbp];simpa using hc3
     exact⟨k+1,⟨by omega,by rw[any_take hb,k2,hbf];rfl⟩,by omega,sub_rb [some 0] rfl (by simp) (by simp)⟩
   ·have hki:¬k<i:=by simpa [hil]using hc2
    have hany:=any_of_take (l:=l.take i) (k:=k) (by rw[List.length_take];omega) k2;refine awp_exit ?_;simp only[zT,reduceIte,Nat.reduceEqDiff];refine hK3 _ _ ?_;refine awp_prune [1,2,9,10,11] ?_;simp only[zP,Nat.reduceEqDiff,reduceIte];refine aR fun K hK=>?_;simp -dsimp [wi];apply hK;clear hK K;simp only[zT,reduceIte,Nat.reduceEqDiff];refine⟨i+1,⟨by omega,fun i' h=>?_⟩,by omega,sub_rb [some 0] rfl (by simp) (by simp)⟩
    rcases Nat.lt_succ_iff_lt_or_eq.1 h with h|rfl
    ·exact i2 i' h
    ·rw[hte,hr,hany];rfl
 ·skip
  try simp at hc0
  have hall:(List.range l.length).all (tourEl j l)=true:=by
   simp only[List.all_eq_true,List.mem_range];exact fun i' h=>i2 i' (by omega)
  refine awp_exit ?_;simp only[zT,reduceIte,Nat.reduceEqDiff];refine hK1 _ _ ?_;refine awp_prune [1] ?_;simp only[zP,Nat.reduceEqDiff,reduceIte];refine aS fun K hK=>?_;simp -dsimp;refine callK_intro _ (c_within _ _ _) (by simp) ?_;simp -dsimp;apply hK;clear hK K;exact awp_ret (by simp[touredB,hall])
theorem c_isNaN (a:Int):PureCall Tryz.prog 324 [I a] (Bo false):=by
 refine PureCall.of_body Tryz.func324 rfl (by decide) (by simp[Tryz.ntmps324]) ?_;simp only[Tryz.ntmps324,Tryz.results324];refine aS fun K hK=>?_;simp -dsimp;apply hK;clear hK K;refine aS fun K hK=>?_;simp -dsimp;apply hK;clear hK K;exact awp_ret (by simp)
theorem c_Less (a b:Int):PureCall Tryz.prog 264 [I a,I b] (Bo (decide (a<b))):=by
 refine PureCall.of_body Tryz.func264 rfl (by decide) (by simp[Tryz.ntmps264]) ?_;simp only[Tryz.ntmps264,Tryz.results264];refine aS fun K hK=>?_;simp -dsimp;apply hK;clear hK K;refine aS fun K hK=>?_;simp -dsimp;refine callK_intro _ (c_isNaN a) (by simp) ?_;simp -dsimp;refine callK_may _ (fun hm=>c_isNaN b) (by simp) ?_;simp -dsimp;apply hK;clear hK K;exact awp_ret (by simp)
def fallsAt (l:List Int) (i:Nat):Bool:=decide (at0 l i<at0 l (i-1:Nat))
def sortedB (l:List Int):Bool:=(List.range l.length).all fun i=> !(decide (0<i)&&fallsAt l i)
theorem c_IsSorted (l : List Int) (hn:l.length≤1000):PureCall Tryz.prog 180 [iL l] (Bo (sortedB l)):=by
  have w0:IntKind.i64.wrap ((l.length:Int)-1)=(l.length:Int)-1:=wrap_in (by omega) (by omega)
  refine PureCall.of_body Tryz.func180 rfl (by decide) (by simp[Tryz.ntmps180]) ?_
  simp only[Tryz.ntmps180,Tryz.results180]
  refine aS fun K hK=>?_
  simp -dsimp
  apply hK;clear hK K
  refine awp_seq_k fun K1 hK1=>?_
  refine aS fun K hK=>?_
  simp -dsimp [w0]
  apply hK;clear hK K
  refine awp_block ?_
  refine awp_prune [0,3] ?_
  simp only[zP,Nat.reduceEqDiff,reduceIte]
  refine awp_loop_l [0] (α:=Nat) (fun k=>[(3,I ((k:Int)-1))]) (fun k=>[]) (fun k=>k≤l.length∧∀i,k≤i→i<l.length→0<i→fallsAt l i=false) (fun k=>k) l.length ?_ ?_ ?_
  · exact⟨Nat.le_refl _,fun i h1 h2=>by omega⟩
  · exact sub_same (by simp)
  rintro k ⟨k1,k2⟩
  simp only[zP,Nat.reduceEqDiff,reduceIte]
  refine awp_seq_k fun K2 hK2=>?_
  refine aS fun K hK=>?_
  simp -dsimp
  apply hK;clear hK K
  refine awp_cond rfl (fun hc0=>?_) (fun hc0=>?_)
  · skip
    skip
    have hk : 1 < k := by have:(0:Int)<(k:Int)-1:=by simpa using hc0
                          omega
    have ga:=at0_nat (l:=l) (k:=k-1) (by omega)
    have gb:=at0_nat (l:=l) (k:=k-1-1) (by omega)
    have wk:IntKind.i64.wrap ((k:Int)-1-1)=((k-1:Nat):Int)-1:=by rw[wrap_in (by omega) (by omega)];omega
    have t1:((k:Int)-1).toNat=k-1:=by omega
    have t2:(((k-1:Nat):Int)-1).toNat=k-1-1:=by omega
    have p1:(1:Int)≤(k:Int):=by omega
    have p2:(1:Int)≤((k-1:Nat):Int):=by omega
    refine awp_skip ?_
    simp only[zT,reduceIte,Nat.reduceEqDiff]
    refine hK2 _ _ ?_
    refine awp_prune [0,3] ?_
    simp only[zP,Nat.reduceEqDiff,reduceIte]
    refine awp_seq_k fun K3 hK3=>?_
    refine awp_block ?_
    refine awp_sd mixed rfl fun K hK=>?_
    simp -dsimp [wk,t1,t2,ga,gb,p1,p2]
    refine callK_intro _ (c_Less _ _) (by simp) ?_
    simp -dsimp [wk,t1,t2,ga,gb,p1,p2]
    refine hK _ _ _ (by decide+kernel) ?_;clear hK K
    refine awp_cond rfl (fun hc1=>?_) (fun hc1=>?_)
    · skip
      have hfa:fallsAt l (k-1)=decide (at0 l (k-1:Nat)<at0 l (k-1-1:Nat)):=rfl
      refine aS fun K hK=>?_
      simp -dsimp
      apply hK;clear hK K
      have hb:sortedB l=false:=by
        unfold sortedB
        rw[List.all_eq_false]
        exact⟨k-1,List.mem_range.2 (by omega),by rw[hfa];simp[hc1];omega⟩
      exact awp_ret (by simp[hb])
    · skip
      have hfa:fallsAt l (k-1)=decide (at0 l (k-1:Nat)<at0 l (k-1-1:Nat)):=rfl
      refine awp_skip ?_
      simp only[zT,reduceIte,Nat.reduceEqDiff]
      refine hK3 _ _ ?_
      refine awp_prune [0,3] ?_
      simp only[zP,Nat.reduceEqDiff,reduceIte]
      refine aR fun K hK=>?_
      simp -dsimp [wk]
      apply hK;clear hK K
      simp only[zT,reduceIte,Nat.reduceEqDiff]
      refine⟨k-1,⟨by omega,fun i h1 h2 h3=>?_⟩,by omega,sub_rb [] rfl (by simp) (by simp)⟩
      by_cases hik:i=k-1
      · rw[hik,hfa];simpa using hc1
      · exact k2 i (by omega) h2 h3
  · skip
    skip
    have hk:¬1<k:=by
      have h9:decide ((1:Int)<(k:Int))=false:=hc0
      have:=of_decide_eq_false h9
      omega
    refine awp_exit ?_
    simp only[zT,reduceIte,Nat.reduceEqDiff]
    refine hK1 _ _ ?_
    refine awp_prune [] ?_
    simp only[zP,Nat.reduceEqDiff,reduceIte]
    refine aS fun K hK=>?_
    simp -dsimp
    apply hK;clear hK K
    have hb:sortedB l=true:=by
      unfold sortedB
      simp only[List.all_eq_true,List.mem_range]
      intro i hi
      by_cases h0:0<i
      · rw[k2 i (by omega) hi h0];simp
      · simp[h0]
    exact awp_ret (by simp[hb])
end Go.Street
end
section
namespace Go.Street
open Go.AM Go.Proofs
structure Bs where
 best:Option (List Int)
 least:Int
def bestAV:Option (List Int)→AV
 |none=> .v (.slice none 0 0)
 |some t=>iL t
@[simp] theorem bestAV_none:bestAV none= .v (.slice none 0 0):=rfl
@[simp] theorem bestAV_some (t:List Int):bestAV (some t)=iL t:=rfl
@[simp] theorem bestAV_ren (g:List (Option Nat)) (n:Nat) (b:Option (List Int)):renAV g n (bestAV b)=bestAV b:=by
 cases b<;>cases n<;>rfl
abbrev bRow (s:Bs):Option ARow:=some (.els 1 [[bestAV s.best]])
abbrev lRow (s:Bs):Option ARow:=some (.els 1 [[I s.least]])
def bAV (j:Jn) (l:List Int):Nat→AV
 |0=> .vptr [.any]
 |n+1=> .vptr [.clo 181 [.vptr [.clo 183 [.ptr 0 0 0, .ptr 1 0 0, .iptr [iL l], .iptr j.cells,bAV j l n]]]]
theorem bAV_ren (j:Jn) (l:List Int) (G:List (Option Nat)) (h0:newName G 0=some 0) (h1:newName G 1=some 1):∀n k,4*n+1≤k→renAV G k (bAV j l n)=bAV j l n
 |0,k,h=>by
  obtain⟨k,rfl⟩:∃m,k=m+1:=⟨k-1,by omega⟩;show AV.vptr [renAV G k .any]=_
  cases k<;>rfl
 | n+1,k,h=>by
  obtain⟨k,rfl⟩:∃m,k=m+4:=⟨k-4,by omega⟩;have ih:=bAV_ren j l G h0 h1 n k (by omega);have p0:renAV G k (.ptr 0 0 0)= .ptr 0 0 0:=by
   have e:renAV G k (.ptr 0 0 0)=match newName G 0 with|some q=> .ptr q 0 0|none=> .any:=by cases k<;>rfl
   rw[e,h0]
  have p1:renAV G k (.ptr 1 0 0)= .ptr 1 0 0:=by
   have e:renAV G k (.ptr 1 0 0)=match newName G 1 with|some q=> .ptr q 0 0|none=> .any:=by cases k<;>rfl
   rw[e,h1]
  have p2:renAV G k (.iptr [iL l])= .iptr [iL l]:=by cases k<;>rfl
  have p3:renAV G k (.iptr j.cells)= .iptr j.cells:=by cases k<;>rfl
  show AV.vptr [.clo 181 [.vptr [.clo 183 [renAV G k (.ptr 0 0 0),renAV G k (.ptr 1 0 0),renAV G k (.iptr [iL l]),renAV G k (.iptr j.cells),renAV G k (bAV j l n)]]]]=_;rw[ih,p0,p1,p2,p3];rfl
theorem bAV_renC (j:Jn) (l:List Int) (H:Nat→Option ARow):∀n k,4*n+1≤k→renC H [0,1] k (bAV j l n)=bAV j l n
 |0,k,h=>by
  obtain⟨k,rfl⟩:∃m,k=m+1:=⟨k-1,by omega⟩;show AV.vptr [renC H [0,1] k .any]=_
  cases k<;>rfl
 |n+1,k,h=>by
  obtain⟨k,rfl⟩:∃m,k=m+1+4:=⟨k-5,by omega⟩;have ih:=bAV_renC j l H n (k+1) (by omega);have p0:renC H [0,1] (k+1) (.ptr 0 0 0)= .ptr 0 0 0:=rfl;have p1:renC H [0,1] (k+1) (.ptr 1 0 0)= .ptr 1 0 0:=rfl;have p2:renC H [0,1] (k+1) (.iptr [iL l])= .iptr [iL l]:=rfl;have p3:renC H [0,1] (k+1) (.iptr j.cells)= .iptr j.cells:=rfl;show AV.vptr [.clo 181 [.vptr [.clo 183 [renC H [0,1] (k+1) (.ptr 0 0 0),renC H [0,1] (k+1) (.ptr 1 0 0),renC H [0,1] (k+1) (.iptr [iL l]),renC H [0,1] (k+1) (.iptr j.cells),renC H [0,1] (k+1) (bAV j l n)]]]]=_;rw[ih,p0,p1,p2,p3];rfl
def hopeB (s:Bs) (len:Int):Bool:=s.best.isSome&&decide (s.least≤len)
def lastI (t:List Int):Int:=at0 t ((t.length:Int)-1)
def stepLen (j:Jn) (t:List Int) (len x:Int):Int:=len+clr j (lastI t) x+(strm j x).Least
def lpF (g:Bs→Int→Option Bs):List Int→Bs→Option Bs
 |[],s=>some s
 |x::l,s=>(g s x).bind (lpF g l)
def orG (s:Bs) (len:Int) (r:Option Bs):Option Bs:=if hopeB s len then some s else r
def srF (j:Jn) (l:List Int):Nat→Bs→List Int→Int→Option Bs
 |0,_,_,_=>none
 | n+1,s,t,len=>
  if hopeB s len then none
  else if t.length=l.length then
   some (if s.best.isNone||decide (len+clr j (lastI t) (at0 t 0)<s.least)then⟨some t,len+clr j (lastI t) (at0 t 0)⟩else s)
  else lpF (fun s x=>if x∈t then some s else orG s (stepLen j t len x) (srF j l n s (t++[x]) (stepLen j t len x))) l s
theorem lpF_append (g:Bs→Int→Option Bs):∀(a b:List Int) (s:Bs),lpF g (a++b) s=(lpF g a s).bind (lpF g b)
 |[],b,s=>rfl
 |x::a,b,s=>by
  simp only[List.cons_append,lpF]
  cases g s x with
  |none=>rfl
  |some s1=>simp only[Option.bind_some];exact lpF_append g a b s1
theorem lpF_take {g:Bs→Int→Option Bs} {l:List Int} {s s':Bs} (h:lpF g l s=some s') (k:Nat):∃sk,lpF g (l.take k) s=some sk∧lpF g (l.drop k) sk=some s':=by
 rw[←List.take_append_drop k l,lpF_append]at h
 cases hk:lpF g (l.take k) s with
 |none=>rw[hk]at h;cases h
 |some sk=>rw[hk]at h;exact⟨sk,rfl,h⟩
theorem lpF_step {g:Bs→Int→Option Bs} {l:List Int} {s sk:Bs} {k:Nat} {x:Int} (h:lpF g (l.take k) s=some sk) (hx:l[k]?=some x):lpF g (l.take (k+1)) s=g sk x:=by
 rw[List.take_add_one,hx,lpF_append,h];simp only[Option.toList_some,Option.bind_some,lpF]
 cases g sk x<;>rfl
structure BsOk (s:Bs):Prop where
 ne:∀t,s.best=some t→t≠[]
 lo:-10000≤s.least
 hi:s.least≤10000
structure TrOk (j:Jn) (t:List Int) (len:Int):Prop where
 n1:1≤t.length
 n2:t.length≤12
 bd:∀x∈t,0≤x∧x<j.n
 lo:-200*(t.length:Int)≤len
 hi:len≤200*(t.length:Int)
theorem TrOk.last {j:Jn} {t:List Int} {len:Int} (h:TrOk j t len):t[t.length-1]?=some (lastI t)∧0≤lastI t∧lastI t<j.n:=by
 have h1:=h.n1;have:=at0_nat (l:=t) (k:=t.length-1) (by omega);have e:lastI t=at0 t (t.length-1:Nat):=by unfold lastI;congr 1;omega
 rw[←e]at this;exact⟨this,h.bd _ (List.mem_of_getElem? this)⟩
theorem TrOk.snoc {j:Jn} (ho:JOk j) {t:List Int} {len x:Int} (h:TrOk j t len) (hn:t.length≤11) (x0:0≤x) (x1:x<j.n):TrOk j (t++[x]) (stepLen j t len x):=by
 obtain⟨_,l0,l1⟩:=h.last;have h1:=ho.cl (lastI t) x l0 l1 x0 x1;have h2:=ho.strm x x0 x1;have:=h.lo;have:=h.hi;refine⟨by simp,by simp;omega,fun y hy=>?_,?_,?_⟩
 ·rcases List.mem_append.1 hy with hy|hy
  ·exact h.bd y hy
  ·simp at hy;subst hy;exact⟨x0,x1⟩
 ·simp only[stepLen,List.length_append,List.length_singleton];omega
 ·simp only[stepLen,List.length_append,List.length_singleton];omega
theorem srF_ok {j:Jn} (ho:JOk j) {l:List Int} (hl:∀x∈l,0≤x∧x<j.n):∀(n:Nat) (s:Bs) (t:List Int) (len:Int) (s':Bs),srF j l n s t len=some s'→BsOk s→TrOk j t len→t.length+n≤12→BsOk s'
 |0,s,t,len,s',h,_,_,_=>by cases h
 | n + 1,s,t,len,s',h,hs,ht,hn=>by
  simp only[srF]at h
  split at h
  ·cases h
  ·split at h
   ·simp only[Option.some.injEq]at h;subst h
    split
    ·obtain⟨_,l0,l1⟩:=ht.last;have h1:=ht.n1;have g0:=at0_nat (l:=t) (k:=0) (by omega);have h0:=ht.bd _ (List.mem_of_getElem? g0);have hc:=ho.cl (lastI t) (at0 t 0) l0 l1 h0.1 h0.2;have:=ht.lo;have:=ht.hi;have:=ht.n2;refine⟨fun u hu=>?_,?_,?_⟩
     ·simp only[Option.some.injEq]at hu;subst hu;intro e;rw[e]at h1;simp at h1
     ·simp only;omega
     ·simp only;omega
    ·exact hs
   ·have gen:∀(m:List Int) (s s':Bs),(∀x∈m,x∈l)→BsOk s→lpF (fun s x=>if x∈t then some s else orG s (stepLen j t len x) (srF j l n s (t++[x]) (stepLen j t len x))) m s=some s'→BsOk s':=by
     intro m
     induction m with
     |nil=>intro s s' _ hs h;simp only[lpF,Option.some.injEq]at h;subst h;exact hs
     | cons x m ih=>
      intro s s' hm hs h;simp only[lpF,Option.bind_eq_some_iff]at h;obtain⟨s1,h1,h2⟩:=h;refine ih s1 s' (fun y hy=>hm y (by simp[hy])) ?_ h2
      split at h1
      ·simp only[Option.some.injEq]at h1;subst h1;exact hs
      ·have hx:=hl x (hm x (by simp));unfold orG at h1
       split at h1
       ·simp only[Option.some.injEq]at h1;subst h1;exact hs
       exact srF_ok ho hl n s _ _ s1 h1 hs (ht.snoc ho (by omega) hx.1 hx.2) (by simp;omega)
    exact gen l s s' (fun x hx=>hx) hs h
theorem orG_ok {j:Jn} (ho:JOk j) {l:List Int} (hl:∀x∈l,0≤x∧x<j.n) (n:Nat) (s:Bs) (t:List Int) (len:Int) (s':Bs) (h:orG s len (srF j l n s t len)=some s') (hs:BsOk s) (ht:TrOk j t len) (hn:t.length+n≤12):BsOk s':=by
 unfold orG at h
 split at h
 ·simp only[Option.some.injEq]at h;subst h;exact hs
 ·exact srF_ok ho hl n s t len s' h hs ht hn
abbrev srArgs (j:Jn) (l t:List Int) (len:Int) (b:AV):List AV:=[iL t,I len, .ptr 0 0 0, .ptr 1 0 0, .iptr [iL l], .iptr j.cells,b]
abbrev brArgs (j:Jn) (l t:List Int) (len:Int) (b:AV):List AV:=[iL t,I len, .vptr [.clo 183 [.ptr 0 0 0, .ptr 1 0 0, .iptr [iL l], .iptr j.cells,b]]]
end Go.Street
end
section
namespace Go.Street
open Go.AM Go.Proofs
theorem o_Clone (t:List Int) (hne:t≠[]) (hn:t.length≤1000):OwnCall Tryz.prog 77 [iL t] 0 t.length 1 (t.map nCell):=by
 have f1:Fits t.length 9:=fits_of (by omega) (by omega);refine OwnCall.of_body Tryz.func77 rfl (by decide) (by simp[Tryz.ntmps77]) (by simp) (by simpa using hne) ?_;simp only[Tryz.ntmps77,Tryz.results77];refine aS fun K hK=>?_;simp -dsimp;apply hK;clear hK K;refine awp_seq_k fun K1 hK1=>?_;refine aS fun K hK=>?_;simp -dsimp [hne];apply hK;clear hK K;refine awp_cond rfl (fun hc0=>?_) (fun hc0=>?_)
 ·simp at hc0
 ·refine awp_skip ?_;simp only[zT,reduceIte,Nat.reduceEqDiff];refine hK1 _ _ ?_;refine awp_prune [0] ?_;simp only[zP,Nat.reduceEqDiff,reduceIte];refine aS fun K hK=>?_;simp -dsimp [hne,f1];apply hK;clear hK K;exact awp_ret ⟨2,0,rfl,by simp,by simp⟩
theorem br_eat (j:Jn) (l t t':List Int) (len:Int) (B:AV) (s s':Bs) (hB:∀H k,37≤k→renC H [0,1] k B=B) (hne:t.length=t'.length)
  (h:MutCall Tryz.prog 181 (brArgs j l t' len B) [bRow s,lRow s] [] (.tup []) [bRow s',lRow s'] []):
  MutCall Tryz.prog 181 [.row 2 0 t.length,I len, .vptr [.clo 183 [.ptr 0 0 0, .ptr 1 0 0, .iptr [iL l], .iptr j.cells,B]]] [bRow s,lRow s] [some (.els 1 (t'.map nCell))] (.tup []) [bRow s',lRow s'] []:=by
 refine MutCall.eat 40 2 rfl ?_ ?_ h
 ·simp[List.range,List.range.loop]
 ·simp[List.range,List.range.loop,hB,hne]
theorem ne_slice_nil (t e:TypeId) (hu:(Tryz.prog).underlying t=some (.slice e)) (a:Option Addr) (n c:Nat) (w:World):(binOp .neq t (.slice a n c) (.slice none 0 0)).run Tryz.prog w= .ok (.bool (!a.isNone)) w:=by
 have hq:(Op.equal t (.slice a n c) (.slice none 0 0)).run Tryz.prog w= .ok a.isNone w:=by
  show(Op.equalIn (Op.maxDepth-1+1) t _ _).run _ w=_
  cases a<;>simp[Op.equalIn,run_underlying hu]
 simp[binOp,hq]
theorem m_search (j : Jn) (l : List Int) (n : Nat) (hf:Fit j) (ho:JOk j) (hl:∀x∈l,0≤x∧x<j.n) (hll:l.length≤9)
    (hb:∀s t len s',orG s len (srF j l n s t len)=some s'→BsOk s→TrOk j t len→t.length+n≤10→MutCall Tryz.prog 181 (brArgs j l t len (bAV j l n)) [bRow s,lRow s] [] (.tup []) [bRow s',lRow s'] [])
    (s:Bs) (t:List Int) (len:Int) (s':Bs) (hsr:srF j l (n+1) s t len=some s') (hs:BsOk s) (ht:TrOk j t len) (htn:t.length+(n+1)≤10):
    MutCall Tryz.prog 183 (srArgs j l t len (bAV j l (n+1))) [bRow s,lRow s] [] (.tup []) [bRow s',lRow s'] []:=by
  have hh:hopeB s len=false:=by
    cases hq:hopeB s len with
    |false=>rfl
    |true=>simp[srF,hq]at hsr
  simp only[srF,hh,Bool.false_eq_true,if_false]at hsr
  have h1:=ht.n1;have h2:=ht.n2;have hlo:=ht.lo;have hhi:=ht.hi
  obtain⟨gla,la0,la1⟩:=ht.last
  have g0:t[0]?=some (at0 t 0):=at0_nat (l:=t) (k:=0) (by omega)
  have hb0:=ht.bd _ (List.mem_of_getElem? g0)
  have gr:=(ho.sqr.row la0 la1).1
  have gc0:=ho.sqr.get la0 la1 hb0.1 hb0.2
  have hc0b:=ho.cl (lastI t) (at0 t 0) la0 la1 hb0.1 hb0.2
  have wt:IntKind.i64.wrap ((t.length:Int)-1)=((t.length-1:Nat):Int):=by rw[wrap_in (by omega) (by omega)];omega
  have wl0:IntKind.i64.wrap (len+clr j (lastI t) (at0 t 0))=len+clr j (lastI t) (at0 t 0):=wrap_in (by omega) (by omega)
  have hne:t≠[]:=by intro e;rw[e]at h1;simp at h1
  have hslo:=hs.lo;have hshi:=hs.hi
  have hne2:∀u,s.best=some u→u≠[]:=hs.ne
  show MutCall Tryz.prog 183 [iL t,I len, .ptr 0 0 0, .ptr 1 0 0, .iptr [iL l], .iptr j.cells, .vptr [.clo 181 [.vptr [.clo 183 [.ptr 0 0 0, .ptr 1 0 0, .iptr [iL l], .iptr j.cells,bAV j l n]]]]] [bRow s,lRow s] [] (.tup []) [bRow s',lRow s'] []
  have hB1:∀k,36≤k→renAV [some 0,some 1] k (bAV j l n)=bAV j l n:=fun k hk=>bAV_ren j l _ rfl rfl n k (by omega)
  have hB2:∀k,36≤k→renAV [some 0,some 1,some 3] k (bAV j l n)=bAV j l n:=fun k hk=>bAV_ren j l _ rfl rfl n k (by omega)
  have hB3:∀H k,37≤k→renC H [0,1] k (bAV j l n)=bAV j l n:=fun H k hk=>bAV_renC j l H n k (by omega)
  generalize bAV j l n=B at hb hB1 hB2 hB3 ⊢
  obtain⟨la,hla⟩:∃la,la=lastI t:=⟨_,rfl⟩
  rw[←hla]at gla la0 la1 gr gc0 hc0b wl0
  refine MutCall.of_bodyG [2,3] Tryz.func183 rfl (by decide) (by simp[Tryz.ntmps183]) rfl rfl ?_
  intro J hJ
  simp only[Tryz.ntmps183,Tryz.results183]
  refine gS fun K hK=>?_
  simp -dsimp [wt,gla]
  apply hK;clear hK K
  refine gwp_seq_k fun K1 hK1=>?_
  rcases hbs:s.best with _|u
  · skip
    refine gS fun K hK=>?_
    simp -dsimp [hbs]
    refine⟨fun w=>eqg_slice _ _ _ _ _ _ _ _ _ _ w,_,fun w=>ne_slice_nil _ _ us_int _ _ _ w,?_⟩
    simp -dsimp [hbs]
    apply hK;clear hK K
    refine gwp_cond rfl (fun hc0=>?_) (fun hc0=>?_)
    · skip
      skip
      simp at hc0
    · skip
      skip
      refine gwp_skip ?_
      simp only[zT,reduceIte,Nat.reduceEqDiff]
      refine hK1 _ _ ?_
      refine gwp_prune [0,1,2,3,4,5,6,9] (Or.inr (by simp)) ?_
      simp only[zP,Nat.reduceEqDiff,reduceIte]
      refine gwp_seq_k fun K2 hK2=>?_
      refine gS fun K hK=>?_
      simp -dsimp
      apply hK;clear hK K
      refine gwp_cond rfl (fun hc1=>?_) (fun hc1=>?_)
      · skip
        skip
        have htl : t.length = l.length := by have:=of_decide_eq_true (by rw[←beq_d];exact hc1:decide ((t.length:Int)=(l.length:Int))=true)
                                             omega
        rw[if_pos htl]at hsr
        simp only[Option.some.injEq]at hsr
        rw[←hla]at hsr
        refine gwp_seq_k fun K3 hK3=>?_
        refine gwp_sd mixed rfl (by decide) rfl rfl fun K hK=>?_
        simp -dsimp [g0,gr,gc0,la0,hb0.1,wl0]
        refine hK _ _ _ (by decide+kernel) ?_;clear hK K
        refine gS fun K hK=>?_
        simp -dsimp [hbs]
        apply hK;clear hK K
        refine gwp_cond rfl (fun hc2=>?_) (fun hc2=>?_)
        · skip
          skip
          refine gR fun K hK=>?_
          simp -dsimp
          apply hK;clear hK K
          simp only[zT,reduceIte,Nat.reduceEqDiff]
          refine hK3 _ _ ?_
          simp only[hbs,Option.isNone_none,Bool.true_or,if_true]at hsr
          subst hsr
          exact gwp_ret ⟨[some 0,some 1],rfl,by simp[hB1],by simp,by simp[hB1],by simp[resP,tupOf]⟩
        · skip
          skip
          simp at hc2
      · skip
        skip
        have htl : ¬ t.length = l.length := by have:=of_decide_eq_false (by rw[←beq_d];exact hc1:decide ((t.length:Int)=(l.length:Int))=false)
                                               omega
        rw[if_neg htl]at hsr
        refine gwp_skip ?_
        simp only[zT,reduceIte,Nat.reduceEqDiff]
        refine hK2 _ _ ?_
        refine gwp_prune [0,1,2,3,4,5,6,9] (Or.inr (by simp)) ?_
        simp only[zP,Nat.reduceEqDiff,reduceIte]
        refine gS fun K hK=>?_
        simp -dsimp
        apply hK;clear hK K
        refine gwp_block ?_
        refine gwp_prune [0,1,2,3,5,6,9,54,55,56] (Or.inr (by simp)) ?_
        simp only[zP,Nat.reduceEqDiff,reduceIte]
        refine gwp_loop_l [0,1,2,3,5,6,9,54,55] (α:=Nat×Bs) (fun x=>[(56,I x.1)]) (fun x=>[bRow x.2,lRow x.2]) (fun x=>x.1≤l.length∧lpF (fun s x=>if x∈t then some s else orG s (stepLen j t len x) (srF j l n s (t++[x]) (stepLen j t len x))) (l.take x.1) s=some x.2∧BsOk x.2) (fun x=>l.length-x.1) (0,s) ?_ ?_ ?_
        · exact⟨Nat.zero_le _,rfl,hs⟩
        · exact gsub (sub_rb [some 0,some 1] rfl (by simp[hB1]) (by simp)) (by simp)
        rintro⟨k,st⟩ ⟨k1,k2,k3⟩
        simp only at k1 k2 k3 ⊢
        simp only[zP,Nat.reduceEqDiff,reduceIte]
        refine gS fun K hK=>?_
        simp -dsimp
        apply hK;clear hK K
        refine gwp_seq_k fun K4 hK4=>?_
        refine gwp_cond rfl (fun hc3=>?_) (fun hc3=>?_)
        · skip
          skip
          have hkl:k<l.length:=by simpa using hc3
          have gx:=at0_nat hkl
          have hxb:=hl _ (List.mem_of_getElem? gx)
          have wk:=zW k (by omega)
          obtain⟨s1,hs1,_⟩:=lpF_take hsr (k+1)
          generalize at0 l k=x at gx hxb
          have hst:=lpF_step k2 gx
          rw[hs1]at hst
          refine gwp_skip ?_
          simp only[zT,reduceIte,Nat.reduceEqDiff]
          refine hK4 _ _ ?_
          refine gwp_prune [0,1,2,3,5,6,9,54,55,56] (Or.inr (by simp)) ?_
          simp only[zP,Nat.reduceEqDiff,reduceIte]
          refine gwp_seq_k fun K5 hK5=>?_
          refine gwp_block ?_
          refine gS fun K hK=>?_
          simp -dsimp [gx]
          apply hK;clear hK K
          refine gS fun K hK=>?_
          simp -dsimp
          refine callK_intro _ (c_Contains t x (by omega)) (by simp) ?_
          simp -dsimp
          apply hK;clear hK K
          refine gwp_cond rfl (fun hc4=>?_) (fun hc4=>?_)
          · skip
            skip
            have hxt:¬x∈t:=by simpa using hc4
            rw[if_neg hxt]at hst
            have gcx:=ho.sqr.get la0 la1 hxb.1 hxb.2
            have hcx:=ho.cl la x la0 la1 hxb.1 hxb.2
            have hsx:=ho.strm x hxb.1 hxb.2
            have gsx:=strm_get hxb.1 hxb.2
            have wx1:IntKind.i64.wrap (len+clr j la x)=len+clr j la x:=wrap_in (by omega) (by omega)
            have wx2:IntKind.i64.wrap (len+clr j la x+(strm j x).Least)=len+clr j la x+(strm j x).Least:=wrap_in (by omega) (by omega)
            have f1:Fits (t.length+1) 9:=fits_of (by omega) (by omega)
            have htr:=ht.snoc ho (by omega) hxb.1 hxb.2
            have hk3:=orG_ok ho hl n st _ _ s1 hst.symm k3 htr (by simp;omega)
            have hbr:=br_eat j l (t++[x]) (t++[x]) _ B st s1 hB3 rfl (hb st _ _ s1 hst.symm k3 htr (by simp;omega))
            have hsl:stepLen j t len x=len+clr j la x+(strm j x).Least:=by rw[hla];rfl
            rw[hsl]at hbr
            refine gwp_draw mixed rfl (by decide) rfl rfl fun K hK=>?_
            simp -dsimp [f1,gr,gcx,la0,hxb.1,gsx,wx1,wx2]
            refine callK_own (o_Clone t hne (by omega)) ?_
            simp -dsimp [f1,gr,gcx,la0,hxb.1,gsx,wx1,wx2]
            refine callK_mut [0,1] [3] [some 0,some 1,none,none] (hbr) (by decide) rfl (by simp[hB2]) (by simp[hB2]) rfl (by simp) ?_
            simp -dsimp [f1,gr,gcx,la0,hxb.1,gsx,wx1,wx2]
            refine hK _ _ _ (by decide+kernel) ?_;clear hK K
            simp only[zT,reduceIte,Nat.reduceEqDiff]
            refine hK5 _ _ ?_
            refine gwp_prune [0,1,2,3,5,6,9,54,55,56] (Or.inr (by simp)) ?_
            simp only[zP,Nat.reduceEqDiff,reduceIte]
            refine gR fun K hK=>?_
            simp -dsimp [wk]
            apply hK;clear hK K
            simp only[zT,reduceIte,Nat.reduceEqDiff]
            exact⟨(k+1,s1),⟨by omega,hs1,hk3⟩,by simp only;omega,gsub (sub_rb [some 0,some 1] rfl (by simp[hB1]) (by simp)) (by simp)⟩
          · skip
            skip
            refine gwp_skip ?_
            simp only[zT,reduceIte,Nat.reduceEqDiff]
            refine hK5 _ _ ?_
            refine gwp_prune [0,1,2,3,5,6,9,54,55,56] (Or.inr (by simp)) ?_
            simp only[zP,Nat.reduceEqDiff,reduceIte]
            refine gR fun K hK=>?_
            simp -dsimp [wk]
            apply hK;clear hK K
            simp only[zT,reduceIte,Nat.reduceEqDiff]
            have hxt:x∈t:=by simpa using hc4
            rw[if_pos hxt]at hst
            simp only[Option.some.injEq]at hst
            subst hst
            exact⟨(k+1,s1),⟨by omega,hs1,k3⟩,by simp only;omega,gsub (sub_rb [some 0,some 1] rfl (by simp[hB1]) (by simp)) (by simp)⟩
        · skip
          skip
          refine gwp_exit ?_
          try simp only[zT,reduceIte,Nat.reduceEqDiff]
          have hkk:¬k<l.length:=by simpa using hc3
          have htk:l.take k=l:=List.take_of_length_le (by omega)
          rw[htk,hsr]at k2
          simp only[Option.some.injEq]at k2
          subst k2
          exact⟨[some 0,some 1],rfl,by simp[hB1],by simp,by simp[hB1],by simp[resP,tupOf]⟩
  · skip
    refine gS fun K hK=>?_
    simp -dsimp [hbs,hne2 u hbs]
    apply hK;clear hK K
    refine gwp_cond rfl (fun hc0=>?_) (fun hc0=>?_)
    · skip
      skip
      exfalso;simp[hopeB,hbs]at hh hc0;omega
    · skip
      skip
      refine gwp_skip ?_
      simp only[zT,reduceIte,Nat.reduceEqDiff]
      refine hK1 _ _ ?_
      refine gwp_prune [0,1,2,3,4,5,6,9] (Or.inr (by simp)) ?_
      simp only[zP,Nat.reduceEqDiff,reduceIte]
      refine gwp_seq_k fun K6 hK6=>?_
      refine gS fun K hK=>?_
      simp -dsimp
      apply hK;clear hK K
      refine gwp_cond rfl (fun hc1=>?_) (fun hc1=>?_)
      · skip
        skip
        have htl : t.length = l.length := by have:=of_decide_eq_true (by rw[←beq_d];exact hc1:decide ((t.length:Int)=(l.length:Int))=true)
                                             omega
        rw[if_pos htl]at hsr
        simp only[Option.some.injEq]at hsr
        rw[←hla]at hsr
        refine gwp_seq_k fun K7 hK7=>?_
        refine gwp_sd mixed rfl (by decide) rfl rfl fun K hK=>?_
        simp -dsimp [g0,gr,gc0,la0,hb0.1,wl0]
        refine hK _ _ _ (by decide+kernel) ?_;clear hK K
        refine gS fun K hK=>?_
        simp -dsimp [hbs,hne2 u hbs]
        apply hK;clear hK K
        refine gwp_cond rfl (fun hc2=>?_) (fun hc2=>?_)
        · skip
          skip
          refine gR fun K hK=>?_
          simp -dsimp
          apply hK;clear hK K
          simp only[zT,reduceIte,Nat.reduceEqDiff]
          refine hK7 _ _ ?_
          simp only[hbs,Option.isNone_some,Bool.false_or,hc2,if_true]at hsr
          subst hsr
          exact gwp_ret ⟨[some 0,some 1],rfl,by simp[hB1],by simp,by simp[hB1],by simp[resP,tupOf]⟩
        · skip
          skip
          refine gwp_skip ?_
          simp only[zT,reduceIte,Nat.reduceEqDiff]
          refine hK7 _ _ ?_
          simp only[hbs,Option.isNone_some,Bool.false_or,hc2,Bool.false_eq_true,if_false]at hsr
          subst hsr
          exact gwp_ret ⟨[some 0,some 1],rfl,by simp[hB1],by simp,by simp[hB1],by simp[resP,tupOf]⟩
      · skip
        skip
        have htl : ¬ t.length = l.length := by have:=of_decide_eq_false (by rw[←beq_d];exact hc1:decide ((t.length:Int)=(l.length:Int))=false)
                                               omega
        rw[if_neg htl]at hsr
        refine gwp_skip ?_
        simp only[zT,reduceIte,Nat.reduceEqDiff]
        refine hK6 _ _ ?_
        refine gwp_prune [0,1,2,3,4,5,6,9] (Or.inr (by simp)) ?_
        simp only[zP,Nat.reduceEqDiff,reduceIte]
        refine gS fun K hK=>?_
        simp -dsimp
        apply hK;clear hK K
        refine gwp_block ?_
        refine gwp_prune [0,1,2,3,5,6,9,54,55,56] (Or.inr (by simp)) ?_
        simp only[zP,Nat.reduceEqDiff,reduceIte]
        refine gwp_loop_l [0,1,2,3,5,6,9,54,55] (α:=Nat×Bs) (fun x=>[(56,I x.1)]) (fun x=>[bRow x.2,lRow x.2]) (fun x=>x.1≤l.length∧lpF (fun s x=>if x∈t then some s else orG s (stepLen j t len x) (srF j l n s (t++[x]) (stepLen j t len x))) (l.take x.1) s=some x.2∧BsOk x.2) (fun x=>l.length-x.1) (0,s) ?_ ?_ ?_
        · exact⟨Nat.zero_le _,rfl,hs⟩
        · exact gsub (sub_rb [some 0,some 1] rfl (by simp[hB1]) (by simp)) (by simp)
        rintro⟨k,st⟩ ⟨k1,k2,k3⟩
        simp only at k1 k2 k3 ⊢
        simp only[zP,Nat.reduceEqDiff,reduceIte]
        refine gS fun K hK=>?_
        simp -dsimp
        apply hK;clear hK K
        refine gwp_seq_k fun K8 hK8=>?_
        refine gwp_cond rfl (fun hc3=>?_) (fun hc3=>?_)
        · skip
          skip
          have hkl:k<l.length:=by simpa using hc3
          have gx:=at0_nat hkl
          have hxb:=hl _ (List.mem_of_getElem? gx)
          have wk:=zW k (by omega)
          obtain⟨s1,hs1,_⟩:=lpF_take hsr (k+1)
          generalize at0 l k=x at gx hxb
          have hst:=lpF_step k2 gx
          rw[hs1]at hst
          refine gwp_skip ?_
          simp only[zT,reduceIte,Nat.reduceEqDiff]
          refine hK8 _ _ ?_
          refine gwp_prune [0,1,2,3,5,6,9,54,55,56] (Or.inr (by simp)) ?_
          simp only[zP,Nat.reduceEqDiff,reduceIte]
          refine gwp_seq_k fun K9 hK9=>?_
          refine gwp_block ?_
          refine gS fun K hK=>?_
          simp -dsimp [gx]
          apply hK;clear hK K
          refine gS fun K hK=>?_
          simp -dsimp
          refine callK_intro _ (c_Contains t x (by omega)) (by simp) ?_
          simp -dsimp
          apply hK;clear hK K
          refine gwp_cond rfl (fun hc4=>?_) (fun hc4=>?_)
          · skip
            skip
            have hxt:¬x∈t:=by simpa using hc4
            rw[if_neg hxt]at hst
            have gcx:=ho.sqr.get la0 la1 hxb.1 hxb.2
            have hcx:=ho.cl la x la0 la1 hxb.1 hxb.2
            have hsx:=ho.strm x hxb.1 hxb.2
            have gsx:=strm_get hxb.1 hxb.2
            have wx1:IntKind.i64.wrap (len+clr j la x)=len+clr j la x:=wrap_in (by omega) (by omega)
            have wx2:IntKind.i64.wrap (len+clr j la x+(strm j x).Least)=len+clr j la x+(strm j x).Least:=wrap_in (by omega) (by omega)
            have f1:Fits (t.length+1) 9:=fits_of (by omega) (by omega)
            have htr:=ht.snoc ho (by omega) hxb.1 hxb.2
            have hk3:=orG_ok ho hl n st _ _ s1 hst.symm k3 htr (by simp;omega)
            have hbr:=br_eat j l (t++[x]) (t++[x]) _ B st s1 hB3 rfl (hb st _ _ s1 hst.symm k3 htr (by simp;omega))
            have hsl:stepLen j t len x=len+clr j la x+(strm j x).Least:=by rw[hla];rfl
            rw[hsl]at hbr
            refine gwp_draw mixed rfl (by decide) rfl rfl fun K hK=>?_
            simp -dsimp [f1,gr,gcx,la0,hxb.1,gsx,wx1,wx2]
            refine callK_own (o_Clone t hne (by omega)) ?_
            simp -dsimp [f1,gr,gcx,la0,hxb.1,gsx,wx1,wx2]
            refine callK_mut [0,1] [3] [some 0,some 1,none,none] (hbr) (by decide) rfl (by simp[hB2]) (by simp[hB2]) rfl (by simp) ?_
            simp -dsimp [f1,gr,gcx,la0,hxb.1,gsx,wx1,wx2]
            refine hK _ _ _ (by decide+kernel) ?_;clear hK K
            simp only[zT,reduceIte,Nat.reduceEqDiff]
            refine hK9 _ _ ?_
            refine gwp_prune [0,1,2,3,5,6,9,54,55,56] (Or.inr (by simp)) ?_
            simp only[zP,Nat.reduceEqDiff,reduceIte]
            refine gR fun K hK=>?_
            simp -dsimp [wk]
            apply hK;clear hK K
            simp only[zT,reduceIte,Nat.reduceEqDiff]
            exact⟨(k+1,s1),⟨by omega,hs1,hk3⟩,by simp only;omega,gsub (sub_rb [some 0,some 1] rfl (by simp[hB1]) (by simp)) (by simp)⟩
          · skip
            skip
            refine gwp_skip ?_
            simp only[zT,reduceIte,Nat.reduceEqDiff]
            refine hK9 _ _ ?_
            refine gwp_prune [0,1,2,3,5,6,9,54,55,56] (Or.inr (by simp)) ?_
            simp only[zP,Nat.reduceEqDiff,reduceIte]
            refine gR fun K hK=>?_
            simp -dsimp [wk]
            apply hK;clear hK K
            simp only[zT,reduceIte,Nat.reduceEqDiff]
            have hxt:x∈t:=by simpa using hc4
            rw[if_pos hxt]at hst
            simp only[Option.some.injEq]at hst
            subst hst
            exact⟨(k+1,s1),⟨by omega,hs1,k3⟩,by simp only;omega,gsub (sub_rb [some 0,some 1] rfl (by simp[hB1]) (by simp)) (by simp)⟩
        · skip
          skip
          refine gwp_exit ?_
          try simp only[zT,reduceIte,Nat.reduceEqDiff]
          have hkk:¬k<l.length:=by simpa using hc3
          have htk:l.take k=l:=List.take_of_length_le (by omega)
          rw[htk,hsr]at k2
          simp only[Option.some.injEq]at k2
          subst k2
          exact⟨[some 0,some 1],rfl,by simp[hB1],by simp,by simp[hB1],by simp[resP,tupOf]⟩
end Go.Street
end
section
namespace Go.Street
open Go.AM Go.Proofs
section
variable {P:Program} {ops:Array Oper} {Q:Exit→Act→List Frame→World→Prop} {a:Act} {cs cs':List Frame} {w w':World} {rest:List Nat} {i:Nat} {o:Oper} {v:Value}
theorem wpOpsS_val (ho:ops[i]?=some o) (hg:o.guard=none) (hr:(execOp a.eval o).run P w= .ok (.value v) w') (h:wpOpsS P ops Q rest (a.put o.dst v) cs w'):wpOpsS P ops Q (i::rest) a cs w:=by
 simp only[wpOpsS,ho,Region.wanted,hg,if_true,hr,Oper.upon_value];exact h
theorem wpOpsS_skip (ho:ops[i]?=some o) (hg:o.guard=none) (hr:(execOp a.eval o).run P w= .ok .skip w') (h:wpOpsS P ops Q rest (a.put o.dst undef) cs w'):wpOpsS P ops Q (i::rest) a cs w:=by
 simp only[wpOpsS,ho,Region.wanted,hg,if_true,hr,Oper.upon_skip];exact h
theorem wpOpsS_rec0 (ho:ops[i]?=some o) (hg:o.guard=none) (hr:(execOp a.eval o).run P w= .ok .recover w') (hc:recoverD cs=none) (h:wpOpsS P ops Q rest (a.put o.dst .nilIface) cs w'):wpOpsS P ops Q (i::rest) a cs w:=by
 simp only[wpOpsS,ho,Region.wanted,hg,if_true,hr,hc];exact h
theorem wpOpsS_rec1 (ho:ops[i]?=some o) (hg:o.guard=none) (hr:(execOp a.eval o).run P w= .ok .recover w') (hc:recoverD cs=some (v,cs')) (h:wpOpsS P ops Q rest (a.put o.dst v) cs' w'):wpOpsS P ops Q (i::rest) a cs w:=by
 simp only[wpOpsS,ho,Region.wanted,hg,if_true,hr,hc];exact h
end
theorem eg_nil (w:World):(eqGuard .neq 20 (.tmp 4) (.const .nilIface) .nilIface .nilIface).run Tryz.prog w= .ok () w:=by simp[eqGuard]
theorem eg_hop (w:World):(eqGuard .neq 20 (.tmp 4) (.const .nilIface) (.iface 331 (.agg #[])) .nilIface).run Tryz.prog w= .ok () w:=by simp[eqGuard]
theorem ne_nil (w:World):(binOp .neq 20 .nilIface .nilIface).run Tryz.prog w= .ok (.bool false) w:=by kernel_rfl
theorem ne_hop (w:World):(binOp .neq 20 (.iface 331 (.agg #[])) .nilIface).run Tryz.prog w= .ok (.bool true) w:=by kernel_rfl
theorem as_hop (w:World):(Instr.typeAssert (.iface 331 (.agg #[])) 20 331 true).run Tryz.prog w= .ok (.tuple #[.agg #[], .bool true]) w:=by kernel_rfl
theorem op_bin {o:Oper} {op:BinOp} {t t':TypeId} {x y:Operand} {a b:Value} (ev:Operand→Value) {v:Value} {w:World} (ho:o.op= .binOp op t x y t') (hx:ev x=a) (hy:ev y=b)
  (h1:(eqGuard op t x y a b).run Tryz.prog w= .ok () w) (h2:(binOp op t a b).run Tryz.prog w= .ok v w):(execOp ev o).run Tryz.prog w= .ok (.value v) w:=by
 subst hx hy;simp[execOp,ho,h1,h2]
theorem op_as {o:Oper} {t t':TypeId} {x:Operand} {a:Value} (ev:Operand→Value) {v:Value} {w:World} (ho:o.op= .typeAssert x t t' true) (hx:ev x=a)
  (h2:(Instr.typeAssert a t t' true).run Tryz.prog w= .ok v w):(execOp ev o).run Tryz.prog w= .ok (.value v) w:=by
 subst hx;simp[execOp,ho,h2]
theorem al_hop (w:World):(Instr.alloc 331 true (.tuple #[])).run Tryz.prog w= .ok (.pointer (some ⟨w.heap.size,0,none⟩)) (w.alloc (.cells #[] 331)):=by kernel_rfl
theorem st_hop (w:World) (b:Nat):(Instr.storeAt 331 (.pointer (some ⟨b,0,none⟩)) (.agg #[])).run Tryz.prog w= .ok () w:=by kernel_rfl
theorem op_al {o:Oper} {t:TypeId} (ev:Operand→Value) {v:Value} {w w':World} (ho:o.op= .alloc t)
  (h2:(Instr.alloc t true (.tuple #[])).run Tryz.prog w= .ok v w'):(execOp ev o).run Tryz.prog w= .ok (.value v) w':=by
 simp[execOp,ho,h2]
theorem op_st {o:Oper} {t:TypeId} {x y:Operand} {a b:Value} (ev:Operand→Value) {w w':World} (ho:o.op= .store t x y) (hx:ev x=a) (hy:ev y=b)
  (h2:(Instr.storeAt t a b).run Tryz.prog w= .ok () w'):(execOp ev o).run Tryz.prog w= .ok .skip w':=by
 subst hx hy;simp[execOp,ho,h2]
theorem m_rec (w:World):CallsD Tryz.prog 182 #[] .returning w (fun e u' w'=>e= .returned (.tuple #[])∧u'= .returning∧w'=w):=by
 refine callsD_of_wpS Tryz.func182 rfl fun c₀ cs hu=>?_;have hu':recoverD (c₀::cs)=none:=by simp[recoverD,hu]
 refine wpS_seq (wpS_region (wpOpsS_rec0 rfl rfl rfl hu' (wpOpsS_val rfl rfl rfl ?_)));refine wpS_seq (wpS_region (wpOpsS_val rfl rfl rfl (wpOpsS_val (v:= .bool false) (w':=w) rfl rfl (op_bin _ rfl rfl rfl (eg_nil w) (ne_nil w)) ?_)));refine wpS_cond (t:=false) rfl (wpS_of_wp (wp_skip ?_));exact⟨rfl, .returning,by rw[←hu], .tuple #[],by simp[results],rfl,rfl,rfl⟩
theorem m_rec1 (w:World):CallsD Tryz.prog 182 #[] (.panicking [{v:= .iface 331 (.agg #[]),recovered:=false}]) w (fun e u' w'=>e= .returned (.tuple #[])∧u'= .panicking [{v:= .iface 331 (.agg #[]),recovered:=true}]∧w'=w.alloc (.cells #[] 331)):=by
 refine callsD_of_wpS Tryz.func182 rfl fun c₀ cs hu=>?_;have hu':recoverD (c₀::cs)=some (.iface 331 (.agg #[]),{c₀ with mode:= .panicking [{v:= .iface 331 (.agg #[]),recovered:=true}]}::cs):=by simp[recoverD,hu]
 refine wpS_seq (wpS_region (wpOpsS_rec1 rfl rfl rfl hu' (wpOpsS_val rfl rfl rfl ?_)));refine wpS_seq (wpS_region (wpOpsS_val rfl rfl rfl (wpOpsS_val (v:= .bool true) (w':=w) rfl rfl (op_bin _ rfl rfl rfl (eg_hop w) (ne_hop w)) ?_)));refine wpS_cond (t:=true) rfl ?_;refine wpS_seq (wpS_region ?_);refine wpOpsS_val rfl rfl rfl (wpOpsS_val (v:= .tuple #[.agg #[], .bool true]) (w':=w) rfl rfl (op_as _ rfl rfl (as_hop w)) ?_);refine wpOpsS_val rfl rfl rfl (wpOpsS_val rfl rfl rfl (wpOpsS_val rfl rfl rfl ?_));refine wpOpsS_val (v:= .pointer (some ⟨w.heap.size,0,none⟩)) (w':=w.alloc (.cells #[] 331)) rfl rfl (op_al _ rfl (al_hop w)) ?_;refine wpOpsS_skip (w':=w.alloc (.cells #[] 331)) rfl rfl (op_st _ rfl rfl rfl (st_hop _ _)) ?_;refine wpOpsS_val rfl rfl rfl ?_;refine wpS_seq (wpS_region (wpOpsS_val rfl rfl rfl (wpOpsS_val (v:= .bool false) rfl rfl rfl ?_)));refine wpS_cond (t:=false) rfl (wpS_of_wp (wp_skip ?_));exact⟨rfl,_,rfl, .tuple #[],by simp[results],rfl,rfl,rfl⟩
theorem m_searchP (j:Jn) (l:List Int) (B:AV) (hB1:renAV [some 0,some 1] 40 B=B) (s:Bs) (t:List Int) (len:Int) (hs:BsOk s) (ht:TrOk j t len) (hh:hopeB s len=true):
  MutPanic Tryz.prog 183 [iL t,I len, .ptr 0 0 0, .ptr 1 0 0, .iptr [iL l], .iptr j.cells,B] [bRow s,lRow s] [] (.iface 331 (.agg #[])) [bRow s,lRow s] []:=by
 have h1:=ht.n1;have h2:=ht.n2;obtain⟨gla,la0,la1⟩:=ht.last;have wt:IntKind.i64.wrap ((t.length:Int)-1)=((t.length-1:Nat):Int):=by rw[wrap_in (by omega) (by omega)];omega
 rcases hbs:s.best with _|u
 ·simp[hopeB,hbs]at hh
 have hle:s.least≤len:=by simpa [hopeB,hbs]using hh
 refine MutPanic.of_bodyG [2,3] Tryz.func183 rfl (by decide) (by simp[Tryz.ntmps183]) rfl rfl ?_;intro J hJ;simp only[Tryz.ntmps183,Tryz.results183];refine gS fun K hK=>?_;simp -dsimp [wt,gla];apply hK;clear hK K;refine gwp_seq_k fun K1 hK1=>?_;refine gS fun K hK=>?_;simp -dsimp [hbs,hs.ne u hbs];apply hK;clear hK K;refine gwp_cond rfl (fun hc0=>?_) (fun hc0=>?_)
 ·refine gwp_panic3 (v1:= .agg #[]) (v2:= .iface 331 (.agg #[])) (by decide) rfl rfl rfl rfl rfl rfl rfl rfl (by decide) (by decide) rfl rfl ?_ ?_ ?_ ?_
  ·intro ev w
   kernel_rfl
  ·intro ev w e;simp[execOp,e,Instr.makeInterface]
  ·intro ev w e;simp[execOp,e,Instr.panic]
  ·refine⟨rfl,[some 0,some 1],rfl,by simp,by simp,by simp[hB1]⟩
 ·exfalso;simp at hc0;omega
theorem op_load {o:Oper} {t:TypeId} {x:Operand} {ad:Addr} (ev:Operand→Value) {v:Value} {w:World} (ho:o.op= .load t x) (hx:ev x= .pointer (some ad))
  (h:(loadVar t ad).run Tryz.prog w= .ok v w):(execOp ev o).run Tryz.prog w= .ok (.value v) w:=by
 simp[execOp,ho,hx,Instr.loadAt,Instr.sureAddr,h]
theorem held_alloc {S0:Nat→Prop} {w:World} {ρ:Nat→Option AM.Loc} {H:Hp} {c:Array Value} {t:TypeId} (h:Held S0 w ρ H):Held S0 (w.alloc (.cells c t)) ρ H:=by
 have hs:(w.alloc (.cells c t)).heap.size=w.heap.size+1:=by simp
 have hb:∀b,b<w.heap.size→(w.alloc (.cells c t)).heap[b]?=w.heap[b]?:=fun b hb=>(Go.AM.ext_alloc (fun _=>False) w _).block b hb (fun h=>h);refine⟨⟨h.wf.inj,fun r l b h1 h2=>?_,h.wf.given,fun b hb=>?_,fun _ _=>trivial⟩,fun r row hr=>?_,h.dead⟩
 ·obtain⟨k1,k2,k3⟩:=h.wf.own r l b h1 h2;exact⟨by omega,k2,k3⟩
 ·have:=h.wf.low b hb;omega
 ·obtain⟨l,k1,k2⟩:=h.rows r row hr;exact⟨l,k1,k2.ext (by omega) (fun b hb' hn=>⟨hb b hb',hn⟩) (fun r h=>h) (fun r l _ h=>h) (fun b hb'=>hb b (h.wf.own r l b k1 hb').1)⟩
section
variable {P:Program} {ops:Array Oper} {Q:Exit→Act→World→Prop} {a:Act} {w w':World} {rest:List Oper} {o:Oper} {v:Value}
theorem wpl_val (hg:o.guard=none) (hr:(execOp a.eval o).run P w= .ok (.value v) w') (h:wpList P ops Q rest (a.put o.dst v) w'):wpList P ops Q (o::rest) a w:=by
 refine wpList_plain hg fun K hK=>?_;unfold Oper.wp;rw[hr];exact hK _ _ h
theorem wpl_defer (hg:o.guard=none) {d:Deferred} (hr:(execOp a.eval o).run P w= .ok (.defer d) w') (h:wpList P ops Q rest ({a with defers:=d::a.defers}.put o.dst undef) w'):wpList P ops Q (o::rest) a w:=by
 refine wpList_plain hg fun K hK=>?_;unfold Oper.wp;rw[hr];exact hK _ _ h
theorem wpl_enter (hg:o.guard=none) {f:FuncId} {args:Array Value} {R:Ending→World→Prop} (hr:(execOp a.eval o).run P w= .ok (.enter f args) w') (hc:Calls P f args w' R)
  (h1:∀v w'',R (.returned v) w''→wpList P ops Q rest (a.put o.dst v) w'') (h2:∀ch w'',R (.panicked ch) w''→Q (.panic ch) a w'') (h3:∀w'',¬R .outgrown w''):wpList P ops Q (o::rest) a w:=by
 refine wpList_plain hg fun K hK=>?_;unfold Oper.wp;rw[hr,Oper.upon_enter];refine Calls.mono hc fun e w'' hr=>?_
 cases e with
 |returned v=>exact hK _ _ (h1 v w'' hr)
 |panicked ch=>exact h2 ch w'' hr
 |outgrown=>exact absurd hr (h3 w'')
end
theorem m_branch_of {x0 x1:AV} {caps:List AV} {Hk Hk':Hp} (h:MutCall Tryz.prog 183 ([x0,x1]++caps) Hk [] (.tup []) Hk' []∨MutPanic Tryz.prog 183 ([x0,x1]++caps) Hk [] (.iface 331 (.agg #[])) Hk' []):
    MutCall Tryz.prog 181 [x0,x1, .vptr [.clo 183 caps]] Hk [] (.tup []) Hk' []:=by
  have hlen:Hk.length=Hk'.length:=by rcases h with h|h;exact h.2.1;exact h.2.1
  refine⟨fun w vs=>by simp[callFunc,Tryz.func181];rfl,hlen,?_⟩
  intro S0 w ρ vs hh hl hrep
  rw[List.append_nil]at hh hrep
  simp only[List.append_nil]
  match vs,hl with
  |[v0,v1,v2],_=>
  have r0:=hrep 0 _ _ rfl rfl
  have r1:=hrep 1 _ _ rfl rfl
  have r2:=hrep 2 _ _ rfl rfl
  obtain⟨ad,u,rfl,hld,hu⟩:=load_vptr_run (P:=Tryz.prog) (t:=329) (by simp) r2 (by simp)
  have hu':RepV w (Sx S0 ρ) ρ (fun r=>r<Hk.length) (.clo 183 caps) u:=by simpa using hu
  obtain⟨cv,rfl,hcl,hcap⟩:=clo_cells hu'
  have hreps:∀(i:Nat) c x,([x0,x1]++caps)[i]?=some c→([v0,v1]++cv)[i]?=some x→RepV w (Sx S0 ρ) ρ (fun r=>r<Hk.length) c x:=by
    intro i c x h1 h2
    match i with
    |0=>simp at h1 h2;subst h1 h2;exact r0
    |1=>simp at h1 h2;subst h1 h2;exact r1
    |i+2=>exact hcap i c x (by simpa using h1) (by simpa using h2)
  refine calls_of_wp_defers Tryz.func181 rfl ?_
  have hcf:(callFunc 183 (([v0,v1]++cv).toArray)).run Tryz.prog w= .ok (.enter 183 ([v0,v1]++cv).toArray) w:=by simp[callFunc,Tryz.func183];rfl
  refine wp_seq (wp_region_lit (wpl_defer rfl (d:=⟨.fn (.func 182) #[], #[]⟩) (w':=w) (by simp[execOp,resolve,Deferred.ofValue,Act.eval]) (wpList_nil ?_)))
  refine wp_region_lit (wpl_val rfl (w':=w) (op_load _ rfl rfl hld) (wpl_val rfl (w':=w) rfl (wpl_val rfl (w':=w) rfl ?_)))
  have hdf:∀w,(invoke (.fn (.func 182) #[]) #[]).run Tryz.prog w= .ok (.enter 182 #[]) w:=fun w=>by simp[invoke,callFunc,Tryz.func182];rfl
  refine wpl_enter (w':=w) (f:=183) (args:=([v0,v1]++cv).toArray) (R:=fun e w'=>(e= .panicked [{v:= .iface 331 (.agg #[]),recovered:=false}]∨e= .returned (.tuple #[]))∧∃ρ',Held S0 w' ρ' Hk'∧
        (∀r l,r<Hk.length→ρ' r=some l→ρ r=some l)∧(∀b,own ρ' b→own ρ b∨w.heap.size≤b)∧Ext (own ρ) w w') rfl ?_ ?_ ?_ ?_ ?_
  · rw[←hcf]
    simp[execOp,resolve,Deferred.ofValue,invoke,Act.eval,Act.put,Tryz.ntmps181]
  · rcases h with h|h
    · refine Calls.mono (h.2.2 S0 w ρ _ (by simpa using hh) (by simp[hcl]) (by simpa using hreps)) ?_
      rintro e w' ⟨v,ρ',rfl,k1,k2,k3⟩
      have:v= .tuple #[]:=by
        obtain⟨us,rfl,hu,_⟩:=tup_cells k2
        cases us with
        |nil=>rfl
        |cons _ _=>simp at hu
      subst this
      exact⟨Or.inr rfl,ρ',by simpa using k1,k3⟩
    · refine Calls.mono (h.2.2 S0 w ρ _ (by simpa using hh) (by simp[hcl]) (by simpa using hreps)) ?_
      rintro e w' ⟨rfl,ρ',k⟩
      exact⟨Or.inl rfl,ρ',by simpa using k⟩
  · rintro v w'' ⟨hv,ρ',k1,k2,k3,k4⟩
    refine wpList_nil ?_
    refine leaves_cons (by simp) (hdf _) ((m_rec w'').mono ?_)
    rintro e u' w3 ⟨rfl,rfl,rfl⟩
    refine⟨.tuple #[],?_, .tuple #[],ρ',rfl,k1, .tup [] [] rfl (by simp),k2,k3,k4⟩
    simp[results]
  · rintro ch w'' ⟨hv,ρ',k1,k2,k3,k4⟩
    have hv':ch=[{v:= .iface 331 (.agg #[]),recovered:=false}]:=by
      rcases hv with hv|hv
      · simpa using hv
      · cases hv
    subst hv'
    refine leaves_cons (by simp) (hdf _) ((m_rec1 w'').mono ?_)
    rintro e u' w3 ⟨rfl,rfl,rfl⟩
    refine⟨.tuple #[],?_, .tuple #[],ρ',rfl,held_alloc k1, .tup [] [] rfl (by simp),k2,k3,k4.trans (Go.AM.ext_alloc _ _ _)⟩
    simp[results]
  · rintro w'' ⟨h1,_⟩
    rcases h1 with h1|h1<;>cases h1
end Go.Street
end
section
namespace Go.Street
open Go.AM Go.Proofs
theorem m_branch (j:Jn) (l:List Int) (hf:Fit j) (ho:JOk j) (hl:∀x∈l,0≤x∧x<j.n) (hll:l.length≤9) (n:Nat):
  ∀s t len s',orG s len (srF j l n s t len)=some s'→BsOk s→TrOk j t len→t.length+n≤10→MutCall Tryz.prog 181 (brArgs j l t len (bAV j l n)) [bRow s,lRow s] [] (.tup []) [bRow s',lRow s'] []:=by
 induction n with
 | zero=>
  intro s t len s' h hs ht hn
  cases hh:hopeB s len with
  |true=>
   have e:s=s':=by simpa [orG,hh]using h
   subst e;exact m_branch_of (x0:=iL t) (x1:=I len) (caps:=[.ptr 0 0 0, .ptr 1 0 0, .iptr [iL l], .iptr j.cells,bAV j l 0]) (Or.inr (m_searchP j l _ (bAV_ren j l _ rfl rfl 0 40 (by omega)) s t len hs ht hh))
  |false=>
   have h':srF j l 0 s t len=some s':=by simpa [orG,hh]using h
   cases h'
 | succ n ih=>
  intro s t len s' h hs ht hn
  cases hh:hopeB s len with
  |true=>
   have e:s=s':=by simpa [orG,hh]using h
   subst e;exact m_branch_of (x0:=iL t) (x1:=I len) (caps:=[.ptr 0 0 0, .ptr 1 0 0, .iptr [iL l], .iptr j.cells,bAV j l (n+1)]) (Or.inr (m_searchP j l _ (bAV_ren j l _ rfl rfl (n+1) 40 (by have:=ht.n1;omega)) s t len hs ht hh))
  |false=>
   have h':srF j l (n+1) s t len=some s':=by simpa [orG,hh]using h
   exact m_branch_of (x0:=iL t) (x1:=I len) (caps:=[.ptr 0 0 0, .ptr 1 0 0, .iptr [iL l], .iptr j.cells,bAV j l (n+1)]) (Or.inl (m_search j l n hf ho hl hll ih s t len s' h' hs ht hn))
abbrev srRow (l:List Int) (c:List AV):Option ARow:=some (.els 1 [[.clo 183 [.ptr 0 0 0, .ptr 1 0 0, .iptr [iL l], .iptr c, .ptr 3 0 0]]])
abbrev vbRow:Option ARow:=some (.els 1 [[.clo 181 [.ptr 2 0 0]]])
theorem renC_ptr3 (H:Nat→Option ARow) (h3:H 3=vbRow) (k:Nat):renC H [0,1] (k+1) (.ptr 3 0 0)= .vptr [renC H [0,1] k (.clo 181 [.ptr 2 0 0])]:=by
 have e:newName ([0,1].map some) 3=none:=by decide
 simp only[renC,e,h3];rfl
theorem renC_ptr2 (l:List Int) (c:List AV) (H:Nat→Option ARow) (h2:H 2=srRow l c) (k:Nat):renC H [0,1] (k+1) (.ptr 2 0 0)= .vptr [renC H [0,1] k (.clo 183 [.ptr 0 0 0, .ptr 1 0 0, .iptr [iL l], .iptr c, .ptr 3 0 0])]:=by
 have e:newName ([0,1].map some) 2=none:=by decide
 simp only[renC,e,h2];rfl
theorem renC_clo (H:Nat→Option ARow) (g:List Nat) (k:Nat) (f:FuncId) (cs:List AV):renC H g (k+1) (.clo f cs)= .clo f (cs.map (renC H g k)):=rfl
theorem renC_iptr (H:Nat→Option ARow) (g:List Nat) (k:Nat) (cs:List AV):renC H g k (.iptr cs)= .iptr cs:=by cases k<;>rfl
theorem renC_ptr01 (H:Nat→Option ARow) (k:Nat):renC H [0,1] (k+1) (.ptr 0 0 0)= .ptr 0 0 0∧renC H [0,1] (k+1) (.ptr 1 0 0)= .ptr 1 0 0:=⟨rfl,rfl⟩
theorem renC_search (j:Jn) (l:List Int) (H:Nat→Option ARow) (h2:H 2=srRow l j.cells) (k:Nat):renC H [0,1] (k+3) (.ptr 2 0 0)= .vptr [.clo 183 [.ptr 0 0 0, .ptr 1 0 0, .iptr [iL l], .iptr j.cells,renC H [0,1] (k+1) (.ptr 3 0 0)]]:=by
 rw[renC_ptr2 l j.cells H h2 (k+2),renC_clo];simp only[List.map_cons,List.map_nil,renC_iptr,(renC_ptr01 H k).1,(renC_ptr01 H k).2]
theorem eat_bAV (j:Jn) (l:List Int) (H:Nat→Option ARow) (h2:H 2=srRow l j.cells) (h3:H 3=vbRow):∀n,renC H [0,1] (4*n+1) (.ptr 3 0 0)=bAV j l n
 |0=>by rw[renC_ptr3 H h3];rfl
 |n+1=>by
  have ih:=eat_bAV j l H h2 h3 n;rw[show 4*(n+1)+1=(4*n+4)+1 by omega,renC_ptr3 H h3,renC_clo];simp only[List.map_cons,List.map_nil];rw[renC_search j l H h2 (4*n),ih]
  rfl
theorem br_eat0 (j:Jn) (l:List Int) (x:Int) (len:Int) (s s':Bs)
  (h:MutCall Tryz.prog 181 (brArgs j l [x] len (bAV j l 9)) [bRow s,lRow s] [] (.tup []) [bRow s',lRow s'] []):
  MutCall Tryz.prog 181 [.row 4 0 1,I len, .ptr 2 0 0] [bRow s,lRow s] [srRow l j.cells,vbRow,some (.els 1 [nCell x])] (.tup []) [bRow s',lRow s'] []:=by
 refine MutCall.eat 39 2 rfl ?_ ?_ h
 ·simp[List.range,List.range.loop]
 ·have e:=renC_search j l (hget ([bRow s,lRow s]++[srRow l j.cells,vbRow,some (.els 1 [nCell x])])) rfl 36;have e2:=eat_bAV j l (hget ([bRow s,lRow s]++[srRow l j.cells,vbRow,some (.els 1 [nCell x])])) rfl rfl 9;rw[show 4*9+1=36+1 by omega]at e2;rw[e2]at e;show [renC _ [0,1] 39 (.row 4 0 1),renC _ [0,1] 39 (I len),renC _ [0,1] 39 (.ptr 2 0 0)]=_;rw[show(39:Nat)=36+3 by omega,e]
  rfl
end Go.Street
end
section
namespace Go.Street
open Go.AM Go.Proofs
theorem c_Tour_t (j:Jn) (l:List Int) (hf:Fit j) (hj:jnB j=true) (ht:touredB j l=true) (hs:sortedB l=true) (s':Bs) (t:List Int)
  (h:orG ⟨none,0⟩ (strm j (at0 l 0)).Least (srF j l 9 ⟨none,0⟩ [at0 l 0] (strm j (at0 l 0)).Least)=some s') (hb:s'.best=some t):PureCall Tryz.prog 100 [j.av,iL l] (.tup [iL t,I s'.least,I 0]):=by
 have ho:=jnB_ok hj;have hc:=c_Check j hf;rw[hj]at hc;have htb:2≤l.length∧l.length≤9∧∀x∈l,0≤x∧x<j.n:=by
  simp only[touredB,Bool.and_eq_true,List.all_eq_true,List.mem_range,inr_iff]at ht;refine⟨by omega,by omega,fun x hx=>?_⟩;obtain⟨k,hk⟩:=List.getElem?_of_mem hx;have:=ht.1 k (List.getElem?_eq_some_iff.1 hk).1;simp only[tourEl,at0_of hk,Bool.and_eq_true,inr_iff]at this;omega
 have hto:=c_toured j l hf ho.sqr (by omega);have hso:=c_IsSorted l (by omega);rw[ht]at hto;rw[hs]at hso;have g0:l[0]?=some (at0 l 0):=at0_nat (l:=l) (k:=0) (by omega);have hx:=htb.2.2 _ (List.mem_of_getElem? g0);generalize hxe:at0 l 0=x at g0 hx h;have gs:=strm_get hx.1 hx.2;have hst:=ho.strm x hx.1 hx.2;have hbr:=br_eat0 j l x (strm j x).Least ⟨none,0⟩ s' (m_branch j l hf ho htb.2.2 (by omega) 9 ⟨none,0⟩ [x] (strm j x).Least s' h ⟨by simp,by simp,by simp⟩ ⟨by simp,by simp,by simpa using hx,by omega,by simp;omega⟩ (by simp));refine PureCall.of_bodyG Tryz.func100 rfl (by decide) (by simp[Tryz.ntmps100]) ?_;intro J hJ;simp only[Tryz.ntmps100,Tryz.results100];refine gS fun K hK=>?_;simp -dsimp;apply hK;clear hK K;refine gS fun K hK=>?_;simp -dsimp;apply hK;clear hK K;refine gwp_seq_k fun K1 hK1=>?_;refine gS fun K hK=>?_;simp -dsimp;refine callK_intro _ (hc) (by simp) ?_;simp -dsimp;refine callK_may _ (fun hm=>hto) (by simp) ?_;simp -dsimp;refine callK_may _ (fun hm=>hso) (by simp) ?_;simp -dsimp;apply hK;clear hK K;refine gwp_cond rfl (fun hc0=>?_) (fun hc0=>?_)
 ·simp at hc0
 ·refine gwp_skip ?_;simp only[zT,reduceIte,Nat.reduceEqDiff];refine hK1 _ _ ?_;refine gwp_prune [3,7] (Or.inr (by simp)) ?_;simp only[zP,Nat.reduceEqDiff,reduceIte];refine gS fun K hK=>?_;simp -dsimp;apply hK;clear hK K;refine gS fun K hK=>?_;simp -dsimp;apply hK;clear hK K;refine gS fun K hK=>?_;simp -dsimp;apply hK;clear hK K;refine gS fun K hK=>?_;simp -dsimp;apply hK;clear hK K;refine gS fun K hK=>?_;simp -dsimp;apply hK;clear hK K;refine gwp_weak (gsub (sub_rf (T':=[(3, .iptr [iL l]),(7, .iptr j.cells),(8, .ptr 0 0 0),(9, .ptr 1 0 0),(11, .ptr 3 0 0)]) (H':=[bRow ⟨none,0⟩,lRow ⟨none,0⟩,srRow l j.cells,vbRow]) [some 3,some 4,some 5,some 6] rfl (by simp) (by simp)) (by simp)) ?_
  ·refine gwp_flag (by decide) ?_;refine gwp_sd mixed rfl (by decide) rfl rfl fun K hK=>?_;simp -dsimp [g0,gs,hx.1];refine callK_mut [0,1] [2,3,4] [some 0,some 1,none,none,none] (hbr) (by decide) rfl (by simp) (by simp) rfl (by simp) ?_;simp -dsimp [g0,gs,hx.1];refine hK _ _ _ (by decide+kernel) ?_;clear hK K;refine gwp_sd mixed rfl (by decide) rfl rfl fun K hK=>?_;simp -dsimp [hb];refine hK _ _ _ (by decide+kernel) ?_;clear hK K;exact gwp_ret (by simp[hb,resP,tupOf])
end Go.Street
end
