import Derived.Test.YtlgdbddegopphaaGreatO6
set_option maxRecDepth 100000
set_option maxHeartbeats 8000000
set_option linter.unusedVariables false
set_option linter.unusedSimpArgs false
section
namespace Go.Tram.Lk
open Go.AM Go.Proofs
theorem a1g {nt:Nat} {T:Tm} {H:Hp} (q:Nat) {ag:Bool} {kts:List KT} {kvs kvs':List (List KC×AV)} (hr:g8 H q=some (.mpa ag kts kvs)) (hp:kvs.Perm kvs'):Sub nt T H T (p9 H q (some (.mpa ag kts kvs'))):=by
 rintro w0 B S0 a w ⟨⟨ρ,L,hc,hL⟩,hext⟩;have hql:=W4 hr;refine⟨⟨ρ,L,⟨hc.wf,hc.size,hc.defers,hc.tmps,fun r' row hr'=>?_,fun r' hr'=>?_⟩,fun r' hr'=>by rw[O4 _ _ _ hql];exact hL r' hr'⟩,hext⟩
 ·rw[y5 _ _ _ _ (by omega)]at hr'
  split at hr'
  ·rename_i e';subst e';simp only[qb]at hr';subst hr';obtain⟨l,hl,n8⟩:=hc.rows r' _ hr;exact⟨l,hl,b9C hp n8⟩
  ·exact hc.rows r' row hr'
 ·rw[y5 _ _ _ _ (by omega)]at hr'
  split at hr'
  ·cases hr'
  ·exact hc.dead r' hr'
section
variable (s:j0) (fo si up:Kvs) (nx nd:j8) (cs:List Car) (ps:List Int)
theorem b9Q {name e:Int} (he:e≠0) (hf:c7 Tryz.prog 50 [.ptr 0 0 0,I name] lkK (lkD s fo si up nx nd cs ps) (.tup [.agg a3M,I e]) lkK (lkD s fo si up nx nd cs ps)):
  c7 Tryz.prog 29 [.ptr 0 0 0,I name] lkK (lkD s fo si up nx nd cs ps) (I e) lkK (lkD s fo si up nx nd cs ps):=by
 refine oG [0] Tryz.func29 Tryz.ntmps29 Tryz.results29 ?_;intro J hJ;refine gW ?_;refine gW ?_ fun K hK=>by simp -dsimp;refine cM [0] [1,2,3,4,5,6] (hf) ?_;simp -dsimp;exact hK
 refine a8 fun K1 hK1=>?_;refine gW ?_;refine c3 rfl (fun hc0=>?_) (fun hc0=>?_)
 ·refine gW ?_;exact d9 (gT [some 0,some 7,some 8,some 9,some 10,some 11,some 12])
 ·simp[he]at hc0
theorem a8M {name e:Int} (he:e≠0) (hf:c7 Tryz.prog 50 [.ptr 0 0 0,I name] lkK (lkD s fo si up nx nd cs ps) (.tup [.agg a3M,I e]) lkK (lkD s fo si up nx nd cs ps)):
  c7 Tryz.prog 30 [.ptr 0 0 0,I name] lkK (lkD s fo si up nx nd cs ps) (I e) lkK (lkD s fo si up nx nd cs ps):=by
 refine oG [0] Tryz.func30 Tryz.ntmps30 Tryz.results30 ?_;intro J hJ;refine gW ?_;refine gW ?_ fun K hK=>by simp -dsimp;refine cM [0] [1,2,3,4,5,6] (hf) ?_;simp -dsimp;exact hK
 refine a8 fun K1 hK1=>?_;refine gW ?_;refine c3 rfl (fun hc0=>?_) (fun hc0=>?_)
 ·refine gW ?_;exact d9 (gT [some 0,some 7,some 8,some 9,some 10,some 11,some 12])
 ·simp[he]at hc0
theorem a8S {name e:Int} (he:e≠0) (hf:c7 Tryz.prog 50 [.ptr 0 0 0,I name] lkK (lkD s fo si up nx nd cs ps) (.tup [.agg a3M,I e]) lkK (lkD s fo si up nx nd cs ps)):
  c7 Tryz.prog 56 [.ptr 0 0 0,I name] lkK (lkD s fo si up nx nd cs ps) (I e) lkK (lkD s fo si up nx nd cs ps):=by
 refine oG [0] Tryz.func56 Tryz.ntmps56 Tryz.results56 ?_;intro J hJ;refine gW ?_;refine gW ?_ fun K hK=>by simp -dsimp;refine cM [0] [1,2,3,4,5,6] (hf) ?_;simp -dsimp;exact hK
 refine a8 fun K1 hK1=>?_;refine gW ?_;refine c3 rfl (fun hc0=>?_) (fun hc0=>?_)
 ·refine gW ?_;exact d9 (gT [some 0,some 7,some 8,some 9,some 10,some 11,some 12])
 ·simp[he]at hc0
theorem a6t {name e:Int} (he:e≠0) (hf:c7 Tryz.prog 50 [.ptr 0 0 0,I name] lkK (lkD s fo si up nx nd cs ps) (.tup [.agg a3M,I e]) lkK (lkD s fo si up nx nd cs ps)):
  c7 Tryz.prog 22 [.ptr 0 0 0,I name] lkK (lkD s fo si up nx nd cs ps) (I e) lkK (lkD s fo si up nx nd cs ps):=by
 refine oG [0] Tryz.func22 Tryz.ntmps22 Tryz.results22 ?_;intro J hJ;refine gW ?_;refine a8 fun K1 hK1=>?_;refine gW ?_ fun K hK=>by simp -dsimp;refine cM [0] [1,2,3,4,5,6] (hf) ?_;simp -dsimp;exact hK
 refine gW ?_;refine c3 rfl (fun hc0=>?_) (fun hc0=>?_)
 ·refine gW ?_;exact d9 (gT [some 0,some 7,some 8,some 9,some 10,some 11,some 12])
 ·simp[he]at hc0
theorem a9u {name:Int} {c:Car} (hf:c7 Tryz.prog 50 [.ptr 0 0 0,I name] lkK (lkD s fo si up nx nd cs ps) (.tup [c.av,I 0]) lkK (lkD s fo si up nx nd cs ps)):
  c7 Tryz.prog 22 [.ptr 0 0 0,I name] lkK (lkD s fo si up nx nd cs ps) (I 0) lkK (lkD s fo si up nx nd (a5r cs name) ps):=by
 have hd:=a2J cs name;refine oG [0] Tryz.func22 Tryz.ntmps22 Tryz.results22 ?_;intro J hJ;refine gW ?_;refine a8 fun K1 hK1=>?_;refine gW ?_ fun K hK=>by simp -dsimp;refine cM [0] [1,2,3,4,5,6] (hf) ?_;simp -dsimp;exact hK
 refine gW ?_;refine c3 rfl (fun hc0=>?_) (fun hc0=>?_)
 ·simp at hc0
 ·refine c5 ?_;refine zQ (hK1 _ _ ?_);refine gP [0,1] ?_;refine gW ?_ fun K hK=>by simp -dsimp [c5B,hd];exact hK
  refine gW ?_;exact d9 ⟨[some 0,some 7,some 8,some 9,some 10,some 11,some 12],rfl,by simp,by simp[hd],by simp,by simp[N6,r9]⟩
theorem c3M {name:Int} {c:Car} (hl:c.Way.length<=1000) (hl0:1<=c.Way.length) (h:c.Front=(c.Way.length:Int)-1) (hf:c7 Tryz.prog 50 [.ptr 0 0 0,I name] lkK (lkD s fo si up nx nd cs ps) (.tup [c.av,I 0]) lkK (lkD s fo si up nx nd cs ps)):
  c7 Tryz.prog 29 [.ptr 0 0 0,I name] lkK (lkD s fo si up nx nd cs ps) (I 5) lkK (lkD s fo si up nx nd cs ps):=by
 have wl:IntKind.i64.wrap ((c.Way.length:Int)-1)=(c.Way.length:Int)-1:=c4 (by omega) (by omega);refine oG [0] Tryz.func29 Tryz.ntmps29 Tryz.results29 ?_;intro J hJ;refine gW ?_;refine gW ?_ fun K hK=>by simp -dsimp;refine cM [0] [1,2,3,4,5,6] (hf) ?_;simp -dsimp;exact hK
 refine a8 fun K1 hK1=>?_;refine gW ?_;refine c3 rfl (fun hc0=>?_) (fun hc0=>?_)
 ·simp at hc0
 ·refine c5 ?_;refine zQ (hK1 _ _ ?_);refine gP [0,1,5] ?_;refine a8 fun K2 hK2=>?_;refine gW ?_ fun K hK=>by simp -dsimp [wl];exact hK
  refine c3 rfl (fun hc1=>?_) (fun hc1=>?_)
  ·refine gW ?_;exact d9 (gT [some 0,some 7,some 8,some 9,some 10,some 11,some 12])
  ·simp[h]at hc1
theorem c2X {name:Int} {c:Car} (hl:c.Way.length<=1000) (hl0:1<=c.Way.length) (hb:0<=c.Front/\c.Front<c.Way.length) (h:c.Front≠(c.Way.length:Int)-1) (hn:c.Name=name) (hs:Srt cs) (hf:c7 Tryz.prog 50 [.ptr 0 0 0,I name] lkK (lkD s fo si up nx nd cs ps) (.tup [c.av,I 0]) lkK (lkD s fo si up nx nd cs ps)):
  c7 Tryz.prog 29 [.ptr 0 0 0,I name] lkK (lkD s fo si up nx nd cs ps) (I 0) lkK (lkD s fo si up nx nd (B5 cs {c with Front:=c.Front+1}) ps):=by
 have wl:IntKind.i64.wrap ((c.Way.length:Int)-1)=(c.Way.length:Int)-1:=c4 (by omega) (by omega);have wf:IntKind.i64.wrap (c.Front+1)=c.Front+1:=c4 (by omega) (by omega);subst hn;have p9:(O1 (o3 cs) (kOf c.Name) {c with Front:=c.Front+1}.av).Perm _:=P3 {c with Front:=c.Front+1} hs;refine oG [0] Tryz.func29 Tryz.ntmps29 Tryz.results29 ?_;intro J hJ;refine gW ?_;refine gW ?_ fun K hK=>by simp -dsimp;refine cM [0] [1,2,3,4,5,6] (hf) ?_;simp -dsimp;exact hK
 refine a8 fun K1 hK1=>?_;refine gW ?_;refine c3 rfl (fun hc0=>?_) (fun hc0=>?_)
 ·simp at hc0
 ·refine c5 ?_;refine zQ (hK1 _ _ ?_);refine gP [0,1,5] ?_;refine a8 fun K2 hK2=>?_;refine gW ?_ fun K hK=>by simp -dsimp [wl];exact hK
  refine c3 rfl (fun hc1=>?_) (fun hc1=>?_)
  ·simp[h]at hc1
  ·refine c5 ?_;refine zQ (hK2 _ _ ?_);refine gP [0,1,5] ?_;refine gW ?_ fun K hK=>by simp -dsimp [wf];exact hK
   refine gD ?_;refine gW ?_;refine p8 (G0 (a1g 9 rfl p9) (by simp)) ?_;exact d9 (gT [some 0,some 7,some 8,some 9,some 10,some 11,some 12])
theorem b4J {name:Int} {c:Car} (h:c.Front=0) (hf:c7 Tryz.prog 50 [.ptr 0 0 0,I name] lkK (lkD s fo si up nx nd cs ps) (.tup [c.av,I 0]) lkK (lkD s fo si up nx nd cs ps)):
  c7 Tryz.prog 30 [.ptr 0 0 0,I name] lkK (lkD s fo si up nx nd cs ps) (I 5) lkK (lkD s fo si up nx nd cs ps):=by
 refine oG [0] Tryz.func30 Tryz.ntmps30 Tryz.results30 ?_;intro J hJ;refine gW ?_;refine gW ?_ fun K hK=>by simp -dsimp;refine cM [0] [1,2,3,4,5,6] (hf) ?_;simp -dsimp;exact hK
 refine a8 fun K1 hK1=>?_;refine gW ?_;refine c3 rfl (fun hc0=>?_) (fun hc0=>?_)
 ·simp at hc0
 ·refine c5 ?_;refine zQ (hK1 _ _ ?_);refine gP [0,1,5] ?_;refine a8 fun K2 hK2=>?_;refine gW ?_;refine c3 rfl (fun hc1=>?_) (fun hc1=>?_)
  ·refine gW ?_;exact d9 (gT [some 0,some 7,some 8,some 9,some 10,some 11,some 12])
  ·simp[h]at hc1
theorem b3v {name:Int} {c:Car} (hl:c.Way.length<=1000) (hb:0<=c.Front/\c.Front<c.Way.length) (hn:c.Name=name) (hs:Srt cs) (hf:c7 Tryz.prog 50 [.ptr 0 0 0,I name] lkK (lkD s fo si up nx nd cs ps) (.tup [c.av,I 0]) lkK (lkD s fo si up nx nd cs ps)):
  c7 Tryz.prog 56 [.ptr 0 0 0,I name] lkK (lkD s fo si up nx nd cs ps) (I 0) lkK (lkD s fo si up nx nd (B5 cs {c with Way:=c.Way.take (c.Front.toNat+1)}) ps):=by
 subst hn;have wf:IntKind.i64.wrap (c.Front+1)=c.Front+1:=c4 (by omega) (by omega);have tf:(c.Front+1).toNat=c.Front.toNat+1:=by omega
 have l0:0<=c.Front+1:=by omega
 have l1:c.Front+1<=(c.Way.length:Int):=by omega
 have l2:c.Front.toNat+1<=c.Way.length:=by omega
 have htl:(c.Way.take (c.Front.toNat+1)).length=c.Front.toNat+1:=by simp;omega
 have hcl:=a2m (c.Way.take (c.Front.toNat+1)) (by intro e;rw[e]at htl;simp at htl) (by omega);rw[htl]at hcl;have p9:(O1 (o3 cs) (kOf c.Name) {c with Way:=c.Way.take (c.Front.toNat+1)}.av).Perm _:=P3 {c with Way:=c.Way.take (c.Front.toNat+1)} hs;have hmt:List.take (c.Front.toNat+1) (List.map Move.cells c.Way)=List.map Move.cells (c.Way.take (c.Front.toNat+1)):=by rw[List.map_take]
 generalize c.Way.take (c.Front.toNat+1)=W at*
 have htk:List.take (c.Front.toNat+1) (List.map Move.cells W)=List.map Move.cells W:=qg (by simp;omega);refine oG [0] Tryz.func56 Tryz.ntmps56 Tryz.results56 ?_;intro J hJ;refine gW ?_;refine gW ?_ fun K hK=>by simp -dsimp;refine cM [0] [1,2,3,4,5,6] (hf) ?_;simp -dsimp;exact hK
 refine a8 fun K1 hK1=>?_;refine gW ?_;refine c3 rfl (fun hc0=>?_) (fun hc0=>?_)
 ·simp at hc0
 ·refine c5 ?_;refine zQ (hK1 _ _ ?_);refine gP [0,1,5] ?_;refine gW ?_ fun K hK=>by simp -dsimp [wf,tf,l0,l1,l2,hmt];refine cM [] [] (hcl) ?_;simp -dsimp [wf,tf,l0,l1,l2,hmt];exact hK
  refine gU (T':=[(0, .ptr 0 0 0),(1,I c.Name),(5, .ptr 7 0 0)]) (H':=lkK++(lkD s fo si up nx nd cs ps++[some (.els 4 [{c with Way:=W}.cells])])) [some 0,some 7,some 8,some 9,some 10,some 11,some 12,some 13] ?_ (hH:=by simp[htk,htl])
  ·refine gD ?_ fun K hK=>by simp -dsimp [p9];exact hK
   refine gW ?_;refine p8 (G0 (a1g 3 rfl p9) (by simp)) ?_;exact d9 (gT [some 0,some 1,some 2,some 3,some 4,some 5,some 6])
end
end Go.Tram.Lk
end
section
namespace Go.Tram.Lk
open Go.AM Go.Proofs
section
variable (s:j0) (fo si up:Kvs) (nx nd:j8) (cs:List Car) (ps:List Int)
theorem b3y {name:Int} {c:Car} (hl:c.Way.length<=1000) (hb:0<=c.Front/\c.Front<c.Way.length) (h:c.Front≠0) (hn:c.Name=name) (hs:Srt cs) (hf:c7 Tryz.prog 50 [.ptr 0 0 0,I name] lkK (lkD s fo si up nx nd cs ps) (.tup [c.av,I 0]) lkK (lkD s fo si up nx nd cs ps)):
  c7 Tryz.prog 30 [.ptr 0 0 0,I name] lkK (lkD s fo si up nx nd cs ps) (I 0) lkK (lkD s fo si up nx nd (B5 cs {c with Way:=c.Way.drop 1,Front:=c.Front-1}) ps):=by
 subst hn;have wf:IntKind.i64.wrap (c.Front-1)=c.Front-1:=c4 (by omega) (by omega);have l2:1<=c.Way.length:=by omega
 have htl:(c.Way.drop 1).length=c.Way.length-1:=by simp
 have hcl:=a2m (c.Way.drop 1) (by intro e;rw[e]at htl;simp at htl;omega) (by omega);rw[htl]at hcl;have p9:(O1 (o3 cs) (kOf c.Name) {c with Way:=c.Way.drop 1,Front:=c.Front-1}.av).Perm _:=P3 {c with Way:=c.Way.drop 1,Front:=c.Front-1} hs;have hmt:List.drop 1 (List.map Move.cells c.Way)=List.map Move.cells (c.Way.drop 1):=by rw[List.map_drop]
 generalize c.Way.drop 1=W at*
 have htk:List.take (c.Way.length-1) (List.map Move.cells W)=List.map Move.cells W:=qg (by simp;omega);refine oG [0] Tryz.func30 Tryz.ntmps30 Tryz.results30 ?_;intro J hJ;refine gW ?_;refine gW ?_ fun K hK=>by simp -dsimp;refine cM [0] [1,2,3,4,5,6] (hf) ?_;simp -dsimp;exact hK
 refine a8 fun K1 hK1=>?_;refine gW ?_;refine c3 rfl (fun hc0=>?_) (fun hc0=>?_)
 ·simp at hc0
 ·refine c5 ?_;refine zQ (hK1 _ _ ?_);refine gP [0,1,5] ?_;refine a8 fun K2 hK2=>?_;refine gW ?_;refine c3 rfl (fun hc1=>?_) (fun hc1=>?_)
  ·simp[h]at hc1
  ·refine c5 ?_;refine zQ (hK2 _ _ ?_);refine gP [0,1,5] ?_;refine gD ?_ fun K hK=>by simp -dsimp [wf,l2,hmt];refine cM [] [] (hcl) ?_;simp -dsimp [wf,l2,hmt];exact hK
   refine gU (T':=[(0, .ptr 0 0 0),(1,I c.Name),(5, .ptr 7 0 0)]) (H':=lkK++(lkD s fo si up nx nd cs ps++[some (.els 4 [{c with Way:=W,Front:=c.Front-1}.cells])])) [some 0,some 7,some 8,some 9,some 10,some 11,some 12,some 13] ?_ (hH:=by simp[htk,htl])
   ·refine gD ?_ fun K hK=>by simp -dsimp [p9];exact hK
    refine gW ?_;refine p8 (G0 (a1g 3 rfl p9) (by simp)) ?_;exact d9 (gT [some 0,some 1,some 2,some 3,some 4,some 5,some 6])
theorem c1X {name e:Int} (m:Move) (he:e=1∨e=2) (hf:c7 Tryz.prog 50 [.ptr 0 0 0,I name] lkK (lkD s fo si up nx nd cs ps) (.tup [.agg a3M,I e]) lkK (lkD s fo si up nx nd cs ps)):
  c7 Tryz.prog 21 [.ptr 0 0 0,I name,m.av] lkK (lkD s fo si up nx nd cs ps) (.tup [G7 ⟨0,0⟩,I e]) lkK (lkD s fo si up nx nd cs ps):=by
 have h1:((e==1)||(e==2))=true:=by rcases he with rfl|rfl<;>rfl
 have h2:e=1∨e=2:=he
 rcases he with rfl|rfl
 all_goals skip
 ·refine oG [0] Tryz.func21 Tryz.ntmps21 Tryz.results21 ?_;intro J hJ;refine gW ?_;refine gW ?_ fun K hK=>by simp -dsimp;refine cM [0] [1,2,3,4,5,6] (hf) ?_;simp -dsimp;exact hK
  refine a8 fun K1 hK1=>?_;refine gW ?_;refine c3 rfl (fun hc0=>?_) (fun hc0=>?_)
  ·refine gW ?_;refine gU (T':=[(0, .ptr 0 0 0),(6, .iptr [I 0,I 0]),(7,I 1)]) (H':=lkK++lkD s fo si up nx nd cs ps) [some 0,some 9,some 10,some 11,some 12,some 13,some 14] ?_;exact d9 (gT [some 0,some 1,some 2,some 3,some 4,some 5,some 6])
  ·simp at hc0
 ·refine oG [0] Tryz.func21 Tryz.ntmps21 Tryz.results21 ?_;intro J hJ;refine gW ?_;refine gW ?_ fun K hK=>by simp -dsimp;refine cM [0] [1,2,3,4,5,6] (hf) ?_;simp -dsimp;exact hK
  refine a8 fun K1 hK1=>?_;refine gW ?_;refine c3 rfl (fun hc0=>?_) (fun hc0=>?_)
  ·refine gW ?_;refine gU (T':=[(0, .ptr 0 0 0),(6, .iptr [I 0,I 0]),(7,I 2)]) (H':=lkK++lkD s fo si up nx nd cs ps) [some 0,some 9,some 10,some 11,some 12,some 13,some 14] ?_;exact d9 (gT [some 0,some 1,some 2,some 3,some 4,some 5,some 6])
  ·simp at hc0
theorem b8h {name:Int} (c:Car) (m:Move) (hN:s.Plan.Rails.length<=1000) (hr:inr m.Rail 0 ((s.Plan.Rails.length:Int)-1)=false) (hf:c7 Tryz.prog 50 [.ptr 0 0 0,I name] lkK (lkD s fo si up nx nd cs ps) (.tup [c.av,I 0]) lkK (lkD s fo si up nx nd cs ps)):
  c7 Tryz.prog 21 [.ptr 0 0 0,I name,m.av] lkK (lkD s fo si up nx nd cs ps) (.tup [G7 ⟨0,0⟩,I 2]) lkK (lkD s fo si up nx nd cs ps):=by
 have wl:IntKind.i64.wrap ((s.Plan.Rails.length:Int)-1)=(s.Plan.Rails.length:Int)-1:=c4 (by omega) (by omega);have hw:=x4 m.Rail 0 ((s.Plan.Rails.length:Int)-1);rw[hr]at hw;refine oG [0] Tryz.func21 Tryz.ntmps21 Tryz.results21 ?_;intro J hJ;refine gW ?_;refine gW ?_ fun K hK=>by simp -dsimp;refine cM [0] [1,2,3,4,5,6] (hf) ?_;simp -dsimp;exact hK
 refine a8 fun K1 hK1=>?_;refine gW ?_;refine c3 rfl (fun hc0=>?_) (fun hc0=>?_)
 ·simp at hc0
 ·refine c5 ?_;refine zQ (hK1 _ _ ?_);refine gP [0,1,5,6,8,9] ?_;refine a8 fun K2 hK2=>?_;refine gD ?_ fun K hK=>by simp -dsimp [wl];refine cI (hw) ?_;simp -dsimp [wl];exact hK
  refine c3 rfl (fun hc1=>?_) (fun hc1=>?_)
  ·refine gW ?_;refine gU (T':=[(0, .ptr 0 0 0),(6, .iptr [I 0,I 0]),(7,I 2)]) (H':=lkK++lkD s fo si up nx nd cs ps) [some 0,some 9,some 10,some 11,some 12,some 13,some 14] ?_;exact d9 (gT [some 0,some 1,some 2,some 3,some 4,some 5,some 6])
  ·simp at hc1
theorem b8m {name:Int} (c:Car) (m:Move) (hN:s.Plan.Rails.length<=1000) (hr:inr m.Rail 0 ((s.Plan.Rails.length:Int)-1)=false) (hf:c7 Tryz.prog 50 [.ptr 0 0 0,I name] lkK (lkD s fo si up nx nd cs ps) (.tup [(.agg a3M),I 4]) lkK (lkD s fo si up nx nd cs ps)):
  c7 Tryz.prog 21 [.ptr 0 0 0,I name,m.av] lkK (lkD s fo si up nx nd cs ps) (.tup [G7 ⟨0,0⟩,I 2]) lkK (lkD s fo si up nx nd cs ps):=by
 have wl:IntKind.i64.wrap ((s.Plan.Rails.length:Int)-1)=(s.Plan.Rails.length:Int)-1:=c4 (by omega) (by omega);have hw:=x4 m.Rail 0 ((s.Plan.Rails.length:Int)-1);rw[hr]at hw;refine oG [0] Tryz.func21 Tryz.ntmps21 Tryz.results21 ?_;intro J hJ;refine gW ?_;refine gW ?_ fun K hK=>by simp -dsimp;refine cM [0] [1,2,3,4,5,6] (hf) ?_;simp -dsimp;exact hK
 refine a8 fun K1 hK1=>?_;refine gW ?_;refine c3 rfl (fun hc0=>?_) (fun hc0=>?_)
 ·simp at hc0
 ·refine c5 ?_;refine zQ (hK1 _ _ ?_);refine gP [0,1,5,6,8,9] ?_;refine a8 fun K2 hK2=>?_;refine gD ?_ fun K hK=>by simp -dsimp [wl];refine cI (hw) ?_;simp -dsimp [wl];exact hK
  refine c3 rfl (fun hc1=>?_) (fun hc1=>?_)
  ·refine gW ?_;refine gU (T':=[(0, .ptr 0 0 0),(6, .iptr [I 0,I 0]),(7,I 2)]) (H':=lkK++lkD s fo si up nx nd cs ps) [some 0,some 9,some 10,some 11,some 12,some 13,some 14] ?_;exact d9 (gT [some 0,some 1,some 2,some 3,some 4,some 5,some 6])
  ·simp at hc1
theorem c0B {name:Int} (m:Move) (hN:s.Plan.Rails.length<=1000) (hr:inr m.Rail 0 ((s.Plan.Rails.length:Int)-1)=true) (hf:c7 Tryz.prog 50 [.ptr 0 0 0,I name] lkK (lkD s fo si up nx nd cs ps) (.tup [.agg a3M,I 4]) lkK (lkD s fo si up nx nd cs ps)):
  c7 Tryz.prog 21 [.ptr 0 0 0,I name,m.av] lkK (lkD s fo si up nx nd cs ps) (.tup [G7 ⟨0,0⟩,I 4]) lkK (lkD s fo si up nx nd cs ps):=by
 have wl:IntKind.i64.wrap ((s.Plan.Rails.length:Int)-1)=(s.Plan.Rails.length:Int)-1:=c4 (by omega) (by omega);have hw:=x4 m.Rail 0 ((s.Plan.Rails.length:Int)-1);rw[hr]at hw;refine oG [0] Tryz.func21 Tryz.ntmps21 Tryz.results21 ?_;intro J hJ;refine gW ?_;refine gW ?_ fun K hK=>by simp -dsimp;refine cM [0] [1,2,3,4,5,6] (hf) ?_;simp -dsimp;exact hK
 refine a8 fun K1 hK1=>?_;refine gW ?_;refine c3 rfl (fun hc0=>?_) (fun hc0=>?_)
 ·simp at hc0
 ·refine c5 ?_;refine zQ (hK1 _ _ ?_);refine gP [0,1,5,6,8,9] ?_;refine a8 fun K2 hK2=>?_;refine gD ?_ fun K hK=>by simp -dsimp [wl];refine cI (hw) ?_;simp -dsimp [wl];exact hK
  refine c3 rfl (fun hc1=>?_) (fun hc1=>?_)
  ·simp at hc1
  ·refine c5 ?_;refine zQ (hK2 _ _ ?_);refine gP [0,1,5,6,8,9] ?_;refine a8 fun K3 hK3=>?_;refine gW ?_;refine c3 rfl (fun hc2=>?_) (fun hc2=>?_)
   ·refine gW ?_;refine gU (T':=[(0, .ptr 0 0 0),(6, .iptr [I 0,I 0]),(7,I 4)]) (H':=lkK++lkD s fo si up nx nd cs ps) [some 0,some 9,some 10,some 11,some 12,some 13,some 14] ?_;exact d9 (gT [some 0,some 1,some 2,some 3,some 4,some 5,some 6])
   ·simp at hc2
theorem b7F {name:Int} {c:Car} {m:Move} {nx2 nd2:j8} (hn:c.Name=name) (hs:Srt cs) (hN:s.Plan.Rails.length<=1000) (hr:inr m.Rail 0 ((s.Plan.Rails.length:Int)-1)=true) (hf:c7 Tryz.prog 50 [.ptr 0 0 0,I name] lkK (lkD s fo si up nx nd cs ps) (.tup [c.av,I 0]) lkK (lkD s fo si up nx nd cs ps))
  (hg:∀X:Value,c7 Tryz.prog 51 [.ptr 0 0 0,c.av,m.av] (stK X s fo si up ps.length) (stD s cs ps nx nd) (.tup [(r5 c m).av,G7 ⟨0,0⟩]) (stK X s fo si up ps.length) (stD s cs (a3C s c m ps) nx2 nd2++grR (r5 c m).cells ⟨0,0⟩)):
  c7 Tryz.prog 21 [.ptr 0 0 0,I name,m.av] lkK (lkD s fo si up nx nd cs ps) (.tup [G7 ⟨0,0⟩,I 0]) lkK (lkD s fo si up nx2 nd2 (B5 cs (r5 c m)) (a3C s c m ps)):=by
 subst hn;have wl:IntKind.i64.wrap ((s.Plan.Rails.length:Int)-1)=(s.Plan.Rails.length:Int)-1:=c4 (by omega) (by omega);have hw:=x4 m.Rail 0 ((s.Plan.Rails.length:Int)-1);rw[hr]at hw;have hpl:(a3C s c m ps).length=ps.length:=by unfold a3C;split<;>simp
 have p9:(O1 (o3 cs) (kOf c.Name) (r5 c m).av).Perm _:=P3 (r5 c m) hs;generalize a3C s c m ps=ps2 at*
 generalize B5 cs (r5 c m)=cs2 at*
 refine oG [0] Tryz.func21 Tryz.ntmps21 Tryz.results21 ?_;intro J hJ;refine gW ?_;refine gW ?_ fun K hK=>by simp -dsimp;refine cM [0] [1,2,3,4,5,6] (hf) ?_;simp -dsimp;exact hK
 refine a8 fun K1 hK1=>?_;refine gW ?_;refine c3 rfl (fun hc0=>?_) (fun hc0=>?_)
 ·simp at hc0
 ·refine c5 ?_;refine zQ (hK1 _ _ ?_);refine gP [0,1,5,6,8,9] ?_;refine a8 fun K2 hK2=>?_;refine gD ?_ fun K hK=>by simp -dsimp [wl];refine cI (hw) ?_;simp -dsimp [wl];exact hK
  refine c3 rfl (fun hc1=>?_) (fun hc1=>?_)
  ·simp at hc1
  ·refine c5 ?_;refine zQ (hK2 _ _ ?_);refine gP [0,1,5,6,8,9] ?_;refine a8 fun K3 hK3=>?_;refine gW ?_;refine c3 rfl (fun hc2=>?_) (fun hc2=>?_)
   ·simp at hc2
   ·refine c5 ?_;refine zQ (hK3 _ _ ?_);refine gP [0,1,5,6,8] ?_;refine a0e 9 0 rfl rfl fun X=>?_;simp only[p9,List.set_cons_zero]
    ·refine gD ?_ fun K hK=>by simp -dsimp;refine cM [9,10] [11,12,13,14] (hg X) ?_;simp -dsimp;exact hK
     refine a8 fun K4 hK4=>?_;refine gW ?_;refine c8 ?_;refine gW ?_;refine c3 rfl (fun hc3=>?_) (fun hc3=>?_)
     ·refine gD ?_ fun K hK=>by simp -dsimp [p9];exact hK
      refine gW ?_;refine p8 (G0 (a1g 16 rfl p9) (by simp)) ?_;refine p8 (G0 (C9 9 0 rfl rfl) (by simp)) ?_;refine gU (T':=[(0, .ptr 0 0 0),(6, .iptr [I 0,I 0]),(7,I 0)]) (H':=lkK++lkD s fo si up nx2 nd2 cs2 ps2) [some 0,some 9,some 10,some 16,some 17,some 18,some 19] ?_ (hH:=by simp[hpl]);exact d9 (gT [some 0,some 1,some 2,some 3,some 4,some 5,some 6])
     ·simp at hc3
theorem c1U {name:Int} {c:Car} {m:Move} {nx2 nd2:j8} {r:b3q} (hk:r.Kind=1) (hN:s.Plan.Rails.length<=1000) (hr:inr m.Rail 0 ((s.Plan.Rails.length:Int)-1)=true) (hf:c7 Tryz.prog 50 [.ptr 0 0 0,I name] lkK (lkD s fo si up nx nd cs ps) (.tup [c.av,I 0]) lkK (lkD s fo si up nx nd cs ps))
  (hg:∀X:Value,c7 Tryz.prog 51 [.ptr 0 0 0,c.av,m.av] (stK X s fo si up ps.length) (stD s cs ps nx nd) (.tup [.agg a3M,G7 r]) (stK X s fo si up ps.length) (stD s cs ps nx2 nd2++grR a3M r)):
  c7 Tryz.prog 21 [.ptr 0 0 0,I name,m.av] lkK (lkD s fo si up nx nd cs ps) (.tup [G7 r,I 7]) lkK (lkD s fo si up nx2 nd2 cs ps):=by
 obtain⟨k,v⟩:=r;simp only at hk;have wl:IntKind.i64.wrap ((s.Plan.Rails.length:Int)-1)=(s.Plan.Rails.length:Int)-1:=c4 (by omega) (by omega);have hw:=x4 m.Rail 0 ((s.Plan.Rails.length:Int)-1);rw[hr]at hw;refine oG [0] Tryz.func21 Tryz.ntmps21 Tryz.results21 ?_;intro J hJ;refine gW ?_;refine gW ?_ fun K hK=>by simp -dsimp;refine cM [0] [1,2,3,4,5,6] (hf) ?_;simp -dsimp;exact hK
 refine a8 fun K1 hK1=>?_;refine gW ?_;refine c3 rfl (fun hc0=>?_) (fun hc0=>?_)
 ·simp at hc0
 ·refine c5 ?_;refine zQ (hK1 _ _ ?_);refine gP [0,1,5,6,8,9] ?_;refine a8 fun K2 hK2=>?_;refine gD ?_ fun K hK=>by simp -dsimp [wl];refine cI (hw) ?_;simp -dsimp [wl];exact hK
  refine c3 rfl (fun hc1=>?_) (fun hc1=>?_)
  ·simp at hc1
  ·refine c5 ?_;refine zQ (hK2 _ _ ?_);refine gP [0,1,5,6,8,9] ?_;refine a8 fun K3 hK3=>?_;refine gW ?_;refine c3 rfl (fun hc2=>?_) (fun hc2=>?_)
   ·simp at hc2
   ·refine c5 ?_;refine zQ (hK3 _ _ ?_);refine gP [0,1,5,6,8] ?_;refine a0e 9 0 rfl rfl fun X=>?_;simp only[p9,List.set_cons_zero]
    ·refine gD ?_ fun K hK=>by simp -dsimp;refine cM [9,10] [11,12,13,14] (hg X) ?_;simp -dsimp;exact hK
     refine a8 fun K4 hK4=>?_;refine gW ?_;refine c8 ?_;refine gW ?_;refine c3 rfl (fun hc3=>?_) (fun hc3=>?_)
     ·simp[hk]at hc3
     ·refine gW ?_;refine c3 rfl (fun hc4=>?_) (fun hc4=>?_)
      ·refine gW ?_;refine p8 (G0 (C9 9 0 rfl rfl) (by simp)) ?_;refine gU (T':=[(0, .ptr 0 0 0),(6, .iptr [I k,I v]),(7,I 7)]) (H':=lkK++lkD s fo si up nx2 nd2 cs ps) [some 0,some 9,some 10,some 16,some 17,some 18,some 19] ?_;exact d9 (gT [some 0,some 1,some 2,some 3,some 4,some 5,some 6])
      ·simp[hk]at hc4
theorem c1t {name:Int} {c:Car} {m:Move} {nx2 nd2:j8} {r:b3q} (hk:r.Kind≠0/\r.Kind≠1) (hN:s.Plan.Rails.length<=1000) (hr:inr m.Rail 0 ((s.Plan.Rails.length:Int)-1)=true) (hf:c7 Tryz.prog 50 [.ptr 0 0 0,I name] lkK (lkD s fo si up nx nd cs ps) (.tup [c.av,I 0]) lkK (lkD s fo si up nx nd cs ps))
  (hg:∀X:Value,c7 Tryz.prog 51 [.ptr 0 0 0,c.av,m.av] (stK X s fo si up ps.length) (stD s cs ps nx nd) (.tup [.agg a3M,G7 r]) (stK X s fo si up ps.length) (stD s cs ps nx2 nd2++grR a3M r)):
  c7 Tryz.prog 21 [.ptr 0 0 0,I name,m.av] lkK (lkD s fo si up nx nd cs ps) (.tup [G7 r,I 6]) lkK (lkD s fo si up nx2 nd2 cs ps):=by
 obtain⟨k,v⟩:=r;simp only at hk;have wl:IntKind.i64.wrap ((s.Plan.Rails.length:Int)-1)=(s.Plan.Rails.length:Int)-1:=c4 (by omega) (by omega);have hw:=x4 m.Rail 0 ((s.Plan.Rails.length:Int)-1);rw[hr]at hw;refine oG [0] Tryz.func21 Tryz.ntmps21 Tryz.results21 ?_;intro J hJ;refine gW ?_;refine gW ?_ fun K hK=>by simp -dsimp;refine cM [0] [1,2,3,4,5,6] (hf) ?_;simp -dsimp;exact hK
 refine a8 fun K1 hK1=>?_;refine gW ?_;refine c3 rfl (fun hc0=>?_) (fun hc0=>?_)
 ·simp at hc0
 ·refine c5 ?_;refine zQ (hK1 _ _ ?_);refine gP [0,1,5,6,8,9] ?_;refine a8 fun K2 hK2=>?_;refine gD ?_ fun K hK=>by simp -dsimp [wl];refine cI (hw) ?_;simp -dsimp [wl];exact hK
  refine c3 rfl (fun hc1=>?_) (fun hc1=>?_)
  ·simp at hc1
  ·refine c5 ?_;refine zQ (hK2 _ _ ?_);refine gP [0,1,5,6,8,9] ?_;refine a8 fun K3 hK3=>?_;refine gW ?_;refine c3 rfl (fun hc2=>?_) (fun hc2=>?_)
   ·simp at hc2
   ·refine c5 ?_;refine zQ (hK3 _ _ ?_);refine gP [0,1,5,6,8] ?_;refine a0e 9 0 rfl rfl fun X=>?_;simp only[p9,List.set_cons_zero]
    ·refine gD ?_ fun K hK=>by simp -dsimp;refine cM [9,10] [11,12,13,14] (hg X) ?_;simp -dsimp;exact hK
     refine a8 fun K4 hK4=>?_;refine gW ?_;refine c8 ?_;refine gW ?_;refine c3 rfl (fun hc3=>?_) (fun hc3=>?_)
     ·simp[hk]at hc3
     ·refine gW ?_;refine c3 rfl (fun hc4=>?_) (fun hc4=>?_)
      ·simp[hk]at hc4
      ·refine c5 ?_;refine zQ (hK4 _ _ ?_);refine gP [0,6,10] ?_;refine gW ?_;refine p8 (G0 (C9 9 0 rfl rfl) (by simp)) ?_;refine gU (T':=[(0, .ptr 0 0 0),(6, .iptr [I k,I v]),(7,I 6)]) (H':=lkK++lkD s fo si up nx2 nd2 cs ps) [some 0,some 9,some 10,some 16,some 17,some 18,some 19] ?_;exact d9 (gT [some 0,some 1,some 2,some 3,some 4,some 5,some 6])
end
end Go.Tram.Lk
end
section
namespace Go.Tram.Lk
open Go.AM Go.Proofs
def b6l (s:j0) (cs:List Car) (c:Car):Option Int:=a4c cs c (fun _ n=>c.Way.any fun m=>D8 s m n)
section
variable {s:j0} {fo si up:Kvs} (hru:b1C s fo si up)
include hru
theorem b9d (ps:List Int) (nx:j8) (m n:Move):a9 Tryz.prog 144 (.agg m.cells::H7 [[.iptr (stC s fo si up ps nx)],n.cells]) (Bo (D8 s m n)):=by
 have h:=b0x hru (.mpc true a1p (nxK s nx)) .any m n;unfold d5 at h;show a9 Tryz.prog 144 [.agg m.cells, .iptr [.iptr (stC s fo si up ps nx)], .iptr n.cells] _;refine oB Tryz.func144 Tryz.ntmps144 Tryz.results144 ?_;refine aW ?_ fun K hK=>by simp -dsimp [d5];exact hK
 refine aD ?_ fun K hK=>by simp -dsimp [d5];refine cI (h) ?_;simp -dsimp [d5];exact hK
 exact a6 (by simp)
theorem b6f (ps:List Int) (nx:j8) (c x:Car) (n:Move) (hl:c.Way.length<=1000):a9 Tryz.prog 143 [x.av,n.av, .iptr c.cells, .iptr [.iptr (stC s fo si up ps nx)]] (Bo (c.Way.any fun m=>D8 s m n)):=by
 have h:=N9 c.Way 144 [[.iptr (stC s fo si up ps nx)],n.cells] (fun m=>D8 s m n) (fun m _=>b9d hru ps nx m n) (by omega);refine oB Tryz.func143 Tryz.ntmps143 Tryz.results143 ?_;refine aW ?_ fun K hK=>by simp -dsimp [d5];exact hK
 refine aW ?_ fun K hK=>by simp -dsimp [d5];refine cI (h) ?_;simp -dsimp [d5];exact hK
 exact a6 (by simp)
variable (X:Value) {cs:List Car} (hcs:b3U s cs) (ps:List Int) (nx nd:j8) (c:Car)
include hcs
theorem b2H (hl:c.Way.length<=1000) (hn:b6l s cs c=none):c7 Tryz.prog 105 [.ptr 0 0 0,c.av] (stK X s fo si up ps.length) (stD s cs ps nx nd) (G7 ⟨0,0⟩) (stK X s fo si up ps.length) (stD s cs ps nx nd++[some (.els 2 [[I 0,I 0]])]):=by
 have ho:=b9v X s fo si up cs ps nx nd c 5 143 (fun _ n=>c.Way.any fun m=>D8 s m n) hcs.srt hcs.len hcs.bd (fun x _ n _=>b6f hru ps nx c x n hl) hn;refine z9 ?_;refine c7.of_bodyD 4 [0] Tryz.func105 rfl (by decide) (by simp[Tryz.ntmps105]) (by simp[Tryz.ntmps105]) rfl rfl a0E rfl (by decide) rfl rfl rfl rfl fun K hK=>?_;simp only[Tryz.ntmps105,Tryz.results105];simp -dsimp;apply hK;clear hK K;intro J hJ;refine gW ?_ fun K hK=>by simp -dsimp;refine cM [0,1] [2,3,4,5,6,7] (ho) ?_;simp -dsimp;exact hK
 refine gW ?_;exact d9 (gT [some 0,some 1,some 9,some 10,some 11,some 12,some 8])
theorem b0i {k:Int} (hl:c.Way.length<=1000) (hn:b6l s cs c=some k):c7 Tryz.prog 105 [.ptr 0 0 0,c.av] (stK X s fo si up ps.length) (stD s cs ps nx nd) (G7 ⟨5,k⟩) (stK X s fo si up ps.length) (stD s cs ps nx nd++[some (.els 2 [[I 5,I k]])]):=by
 have ho:=b7L X s fo si up cs ps nx nd c 5 143 (fun _ n=>c.Way.any fun m=>D8 s m n) hcs.srt hcs.len hcs.bd (fun x _ n _=>b6f hru ps nx c x n hl) hn;refine z9 ?_;refine c7.of_bodyD 4 [0] Tryz.func105 rfl (by decide) (by simp[Tryz.ntmps105]) (by simp[Tryz.ntmps105]) rfl rfl a0E rfl (by decide) rfl rfl rfl rfl fun K hK=>?_;simp only[Tryz.ntmps105,Tryz.results105];simp -dsimp;apply hK;clear hK K;intro J hJ;refine a2w ?_;refine a1c (List.cons_ne_nil _ _) rfl (by decide) rfl rfl rfl fun K hK=>?_;simp only[List.dropLast];simp -dsimp;refine hK _ _ (v8 [0,1] [2,3,4,5,6,7] [some 0,some 1,none,none,none,none,none,none,none,some 2,some 3,some 4,some 5] (ho) rfl (by simp[a3g]) rfl (by simp) (by simp) rfl (by simp) (by simp) (by simp) ?_);clear hK K;refine⟨8,[I 0,I 0], .int .i64 5, .int .i64 k,rfl,rfl,by simp,rfl,rfl,rfl,?_⟩;exact⟨[some 0,some 1,some 9,some 10,some 11,some 12,some 8],rfl,by simp,by simp,by simp,by simp[N6,r9]⟩
end
end Go.Tram.Lk
end
section
namespace Go.Tram.Lk
open Go.AM Go.Proofs
theorem a5q (p:Plan) (l:List Move) (hv:d8 p=true) (hlen:l.length<=1000) (h:wayB p l=false):a9 Tryz.prog 126 [p.av,a1t l] (.tup [I 0,I 2]):=by
 have hop:=V8 p hv;have hh:=b9b p l hv (by omega);rw[h]at hh;generalize net p=sh at hop hh;refine oB Tryz.func126 Tryz.ntmps126 Tryz.results126 ?_;refine aW ?_;refine aW ?_ fun K hK=>by simp -dsimp;refine cI (hop) ?_;simp -dsimp;exact hK
 refine a5 fun K1 hK1=>?_;refine aW ?_ fun K hK=>by simp -dsimp;refine cY (fun hm=>hh) ?_;simp -dsimp;exact hK
 refine a7 rfl (fun hc0=>?_) (fun hc0=>?_)
 ·refine aW ?_;exact a6 (by simp)
 ·simp at hc0
def a9Q (l:List Move) (n:Nat):Kvs:=(l.take n).foldl (fun kv m=>M9 kv (kI m.Rail) tB) []
theorem a5S {l:List Move} {n:Nat} {x:Move} (h:l[n]?=some x):a9Q l (n+1)=M9 (a9Q l n) (kI x.Rail) tB:=by
 unfold a9Q;rw[qz,h];simp
theorem a2Z {l:List Move} {n:Nat} {x:Move} (h:l[n]?=some x):B4 (l.take (n+1))=B4 (l.take n)++[x.Rail]:=by
 unfold B4;rw[qz,h];simp
theorem b1o (l:List Move) (r:Int):∀n≤l.length,s8 (a9Q l n) (kI r)=if r∈B4 (l.take n)then some tB else none
 |0,_=>by simp[a9Q,B4,s8]
 | n+1,h=>by
  obtain⟨x,hx⟩:=gx (l:=l) (i:=n) h;rw[a5S hx,a2Z hx,E9,b1o l r n (by omega)]
  by_cases e:r=x.Rail
  ·rw[if_pos (by rw[e]),if_pos (by rw[e];simp)]
  ·rw[if_neg (fun h=>e (by simpa [kI]using h))]
   by_cases e2:r∈B4 (l.take n)
   ·rw[if_pos e2,if_pos (List.mem_append_left _ e2)]
   ·rw[if_neg e2,if_neg (by simp[e2,e])]
theorem b8S {l:List Move} {n:Nat} {x:Move} (hx:l[n]?=some x) (h:(B4 (l.take n)).Nodup) (hn:x.Rail∉B4 (l.take n)):(B4 (l.take (n+1))).Nodup:=by
 rw[a2Z hx,List.nodup_append];refine⟨h,by simp,fun a ha b hb e=>hn ?_⟩;simp only[List.mem_singleton]at hb;rw[<-hb,<-e];exact ha
theorem c0T {l:List Move} {n:Nat} {x:Move} (hx:l[n]?=some x) (hn:x.Rail∈B4 (l.take n)):¬(B4 l).Nodup:=by
 intro h;have h1:(B4 (l.take (n+1))).Nodup:=by
  have e:B4 (l.take (n+1))=(B4 l).take (n+1):=by unfold B4;rw[List.map_take]
  rw[e];exact h.sublist (List.take_sublist _ _)
 rw[a2Z hx,List.nodup_append]at h1;exact h1.2.2 _ hn _ (by simp) rfl
theorem b0V (s:j0) (fo si up:Kvs) (x y:AV) (l:List Move) (hv:d8 s.Plan=true) (hl:l.length<=1000):a9 Tryz.prog 84 [.iptr (d5 s fo si up x y),a1t l] (Bo (a5n s l)):=by
 have hw:=x4 l.length 1 20;obtain⟨q,hwl⟩:∃q,a9 Tryz.prog 126 [s.Plan.av,a1t l] (.tup [I q,I (if wayB s.Plan l then 0 else 2)]):=by
  cases h:wayB s.Plan l with
  |true=>exact⟨_,by simpa using a5u s.Plan l hv h⟩
  |false=>exact⟨_,by simpa using a5q s.Plan l hv hl h⟩
 refine oB Tryz.func84 Tryz.ntmps84 Tryz.results84 ?_;refine aW ?_ fun K hK=>by simp -dsimp [d5];exact hK
 refine a5 fun K1 hK1=>?_;refine aW ?_ fun K hK=>by simp -dsimp [d5];refine cI (hw) ?_;simp -dsimp [d5];exact hK
 refine a7 rfl (fun hc0=>?_) (fun hc0=>?_)
 ·have hin:inr (l.length:Int) 1 20=false:=by simpa using hc0
  have hf:a5n s l=false:=by unfold a5n inr at*;by_cases h1:1<=l.length<;>by_cases h2:l.length<=20<;>simp_all<;>omega
  refine aW ?_ fun K hK=>by simp -dsimp [d5];exact hK
  exact a6 (by simp[hf])
 ·have hin:inr (l.length:Int) 1 20=true:=by simpa using hc0
  have hin2:1<=l.length/\l.length<=20:=by unfold inr at hin;simp at hin;omega
  refine b9 ?_;refine zQ (hK1 _ _ ?_);refine aP [0,1] ?_;refine aW ?_ fun K hK=>by simp -dsimp [d5];exact hK
  refine a5 fun K2 hK2=>?_;refine aW ?_ fun K hK=>by simp -dsimp [d5];exact hK
  refine b8 ?_;refine aP [0,1,5,15,16,17] ?_;refine c6 [0,1,5,15,16] (α:=Nat) (fun k=>[(17,I k)]) (fun k=>[some (.map false [.i .i64] (a9Q l k))]) (fun k=>k<=l.length/\(B4 (l.take k)).Nodup) (fun k=>l.length-k) 0 ?_ ?_ ?_
  ·exact⟨qp _,by simp[B4]⟩
  ·exact g7 [some 0] rfl (by simp) (by simp[a9Q])
  rintro k ⟨k1,k2⟩;refine zN ?_;refine aW ?_ fun K hK=>by simp -dsimp [d5];exact hK
  refine a5 fun K3 hK3=>?_;refine a7 rfl (fun hc1=>?_) (fun hc1=>?_)
  ·have hk:k<l.length:=by first|omega|(simp at hc1;omega)
   obtain⟨m,hm⟩:=gx (l:=l) (i:=k) hk;have wk:=zW k (by omega);have hg:=b1o l m.Rail k k1;have hsu:=a5S hm;refine b9 ?_;refine zQ (hK3 _ _ ?_);refine aP [0,1,5,15,16,17] ?_;refine a5 fun K4 hK4=>?_;refine b8 ?_;refine aW ?_ fun K hK=>by simp -dsimp [d5,hm];exact hK
   refine a5 fun K5 hK5=>?_;refine aW ?_ fun K hK=>by simp -dsimp [d5];refine d7 (Bo (decide (m.Rail∈B4 (l.take k)))) (fun hm=>by rw[hg];by_cases hq:m.Rail∈B4 (l.take k)<;>simp[hq]) ?_;simp -dsimp [d5];exact hK
   refine a7 rfl (fun hc2=>?_) (fun hc2=>?_)
   ·have hq:m.Rail∈B4 (l.take k):=by simpa using hc2
    have hf:a5n s l=false:=by simp[a5n,c0T hm hq]
    refine aW ?_ fun K hK=>by simp -dsimp [d5];exact hK
    exact a6 (by simp[hf])
   ·have hq:m.Rail∉B4 (l.take k):=by simpa using hc2
    refine b9 ?_;refine zQ (hK5 _ _ ?_);refine aP [0,1,5,7,15,16,17] ?_;refine aV ?_ fun K hK=>by simp -dsimp [d5];exact hK
    refine zQ (hK4 _ _ ?_);refine aP [0,1,5,15,16,17] ?_;refine aV ?_ fun K hK=>by simp -dsimp [d5,wk];exact hK
    refine zQ ?_;exact⟨k+1,⟨by omega,b8S hm k2 hq⟩,by omega,g7 [some 0] rfl (by simp) (by simp[hsu])⟩
  ·have hk:k=l.length:=by first|omega|(simp at hc1;omega)
   subst hk;rw[List.take_length]at k2;have hf:a5n s l=wayB s.Plan l:=by simp[a5n,k2,hin2]
   refine d4 ?_;refine zQ (hK2 _ _ ?_);refine aP [0,1] ?_;refine aW ?_ fun K hK=>by simp -dsimp [d5];refine cI (hwl) ?_;simp -dsimp [d5];exact hK
   refine aW ?_ fun K hK=>by simp -dsimp [d5];exact hK
   exact a6 (by rw[hf];cases wayB s.Plan l<;>simp)
end Go.Tram.Lk
end
section
namespace Go.Tram.Lk
open Go.AM Go.Proofs
theorem b1f (s:j0) (fo si up:Kvs) (x y:AV) (c:Car) (hv:d8 s.Plan=true) (hp:s.Profiles.length<=100000) (hl:c.Way.length<=1000):a9 Tryz.prog 43 [.iptr (d5 s fo si up x y),c.av] (Bo (a1k s c)):=by
 have wp:IntKind.i64.wrap ((s.Profiles.length:Int)-1)=(s.Profiles.length:Int)-1:=c4 (by omega) (by omega);have wl:IntKind.i64.wrap ((c.Way.length:Int)-1)=(c.Way.length:Int)-1:=c4 (by omega) (by omega);have h1:=x4 c.Name 1 1000000;have h2:=x4 c.Profile 0 ((s.Profiles.length:Int)-1);have h3:=b0V s fo si up x y c.Way hv hl;have h4:=x4 c.Front 0 ((c.Way.length:Int)-1);unfold d5 at h3;have hc:a1k s c=(inr c.Name 1 1000000&&(inr c.Profile 0 (s.Profiles.length-1)&&(a5n s c.Way&&inr c.Front 0 (c.Way.length-1)))):=rfl;generalize inr c.Name 1 1000000=b1 at*
 generalize inr c.Profile 0 ((s.Profiles.length:Int)-1)=b2 at*
 generalize a5n s c.Way=b3 at*
 generalize inr c.Front 0 ((c.Way.length:Int)-1)=b4 at*
 rw[hc];refine oB Tryz.func43 Tryz.ntmps43 Tryz.results43 ?_;refine aW ?_ fun K hK=>by simp -dsimp [d5];exact hK
 refine aD ?_ fun K hK=>by simp -dsimp [d5,wp,wl];refine cI (h1) ?_;simp -dsimp [d5,wp,wl];refine cY (fun hm=>h2) ?_;simp -dsimp [d5,wp,wl];refine cY (fun hm=>h3) ?_;simp -dsimp [d5,wp,wl];refine cY (fun hm=>h4) ?_;simp -dsimp [d5,wp,wl];exact hK
 exact a6 (by cases b1<;>cases b2<;>cases b3<;>cases b4<;>simp)
def a6J (s:j0) (a b:Car) (m n:Move):Bool:=H6 s m.Rail a.Profile n.Rail b.Profile||D8 s m n
theorem b4Q (s:j0) (a b:Car):a0W s a b=a.Way.all fun m=>b.Way.all fun n=> !a6J s a b m n:=by
 unfold a0W a6J
 congr 1;funext m;congr 1;funext n
 rw[Bool.not_or]
theorem s7 {α:Type} {l:List α} {p:α->Bool} {k:Nat} {x:α} (hx:l[k]?=some x) (h:(l.take k).all p=true) (hp:p x=true):(l.take (k+1)).all p=true:=by
 rw[qz,hx,List.all_append,h];simp[hp]
theorem N3 {α:Type} {l:List α} {p:α->Bool} {k:Nat} {x:α} (hx:l[k]?=some x) (hp:p x=false):l.all p=false:=by
 rw[List.all_eq_false];exact⟨x,qd hx,by simp[hp]⟩
theorem b7x {s:j0} {fo si up:Kvs} (hru:b1C s fo si up) (x y:AV) (a b:Car) (hla:a.Way.length<=1000) (hlb:b.Way.length<=1000):a9 Tryz.prog 44 [.iptr (d5 s fo si up x y),a.av,b.av] (Bo (a0W s a b)):=by
 have hf:=fun m n=>b5p hru x y a b m n;have hg:=fun m n=>b0x hru x y m n;unfold d5 at hf hg;rw[b4Q];refine oB Tryz.func44 Tryz.ntmps44 Tryz.results44 ?_;refine aW ?_ fun K hK=>by simp -dsimp [d5];exact hK
 refine a5 fun K1 hK1=>?_;refine aW ?_ fun K hK=>by simp -dsimp [d5];exact hK
 refine b8 ?_;refine aP [0,4,5,12,13,14] ?_;refine c6 [0,4,5,12,13] (α:=Nat) (fun k=>[(14,I k)]) (fun _=>[some (.els 4 [a.cells]),some (.els 4 [b.cells])]) (fun k=>k<=a.Way.length/\((a.Way.take k).all fun m=>b.Way.all fun n=> !a6J s a b m n)=true) (fun k=>a.Way.length-k) 0 ?_ ?_ ?_
 ·exact⟨qp _,by simp⟩
 ·exact c9 (by simp)
 rintro k ⟨k1,k2⟩;refine zN ?_;refine aW ?_ fun K hK=>by simp -dsimp [d5];exact hK
 refine a5 fun K2 hK2=>?_;refine a7 rfl (fun hc0=>?_) (fun hc0=>?_)
 ·have hk:k<a.Way.length:=by first|omega|(simp at hc0;omega)
  obtain⟨m,hm⟩:=gx (l:=a.Way) (i:=k) hk;have wk:=zW k (by omega);refine b9 ?_;refine zQ (hK2 _ _ ?_);refine aP [0,4,5,12,13,14] ?_;refine a5 fun K3 hK3=>?_;refine b8 ?_;refine aW ?_ fun K hK=>by simp -dsimp [d5,hm];exact hK
  refine aW ?_ fun K hK=>by simp -dsimp [d5];exact hK
  refine b8 ?_;refine aP [0,4,5,8,12,13,14,19,20,21] ?_;refine c6 [0,4,5,8,12,13,14,19,20] (α:=Nat) (fun j=>[(21,I j)]) (fun _=>[some (.els 4 [a.cells]),some (.els 4 [b.cells]),some (.els 2 [m.cells])]) (fun j=>j<=b.Way.length/\((b.Way.take j).all fun n=> !a6J s a b m n)=true) (fun j=>b.Way.length-j) 0 ?_ ?_ ?_
  ·exact⟨qp _,by simp⟩
  ·exact c9 (by simp)
  rintro j ⟨j1,j2⟩;refine zN ?_;refine aW ?_ fun K hK=>by simp -dsimp [d5];exact hK
  refine a5 fun K4 hK4=>?_;refine a7 rfl (fun hc1=>?_) (fun hc1=>?_)
  ·have hj:j<b.Way.length:=by first|omega|(simp at hc1;omega)
   obtain⟨n,hn⟩:=gx (l:=b.Way) (i:=j) hj;have wj:=zW j (by omega);refine b9 ?_;refine zQ (hK4 _ _ ?_);refine aP [0,4,5,8,12,13,14,19,20,21] ?_;refine a5 fun K5 hK5=>?_;refine b8 ?_;refine aW ?_ fun K hK=>by simp -dsimp [d5,hn];exact hK
   refine aW ?_ fun K hK=>by simp -dsimp [d5];refine cI (hf m n) ?_;simp -dsimp [d5];refine cY (fun hm=>hg m n) ?_;simp -dsimp [d5];exact hK
   refine a7 rfl (fun hc2=>?_) (fun hc2=>?_)
   ·have hq:a6J s a b m n=true:=by unfold a6J;simpa using hc2
    have hf2:(a.Way.all fun m=>b.Way.all fun n=> !a6J s a b m n)=false:=N3 hm (N3 hn (by rw[hq];rfl));refine aW ?_ fun K hK=>by simp -dsimp [d5];exact hK
    exact a6 (by simp[hf2])
   ·have hq:a6J s a b m n=false:=by unfold a6J;simpa using hc2
    refine b9 ?_;refine zQ (hK5 _ _ ?_);refine aP [0,4,5,8,12,13,14,19,20,21] ?_;refine aV ?_ fun K hK=>by simp -dsimp [d5,wj];exact hK
    refine zQ ?_;exact⟨j+1,⟨by omega,s7 hn j2 (by rw[hq];rfl)⟩,by omega,aB [some 0,some 1,some 2]⟩
  ·have hj:j=b.Way.length:=by first|omega|(simp at hc1;omega)
   subst hj;rw[List.take_length]at j2;refine d4 ?_;refine zQ (hK3 _ _ ?_);refine aP [0,4,5,12,13,14] ?_;refine aV ?_ fun K hK=>by simp -dsimp [d5,wk];exact hK
   refine zQ ?_;exact⟨k+1,⟨by omega,s7 hm k2 j2⟩,by omega,aB [some 0,some 1]⟩
 ·have hk:k=a.Way.length:=by first|omega|(simp at hc0;omega)
  subst hk;rw[List.take_length]at k2;refine d4 ?_;refine zQ (hK1 _ _ ?_);refine aP [] ?_;refine aW ?_ fun K hK=>by simp -dsimp [d5];exact hK
  exact a6 (by simp[k2])
end Go.Tram.Lk
end
section
namespace Go.Tram.Lk
open Go.AM Go.Proofs
section
variable (s:j0) (fo si up:Kvs) (nx nd:j8) (cs:List Car) (ps:List Int)
theorem b0O {name e:Int} (he:e≠0) (hf:c7 Tryz.prog 50 [.ptr 0 0 0,I name] lkK (lkD s fo si up nx nd cs ps) (.tup [.agg a3M,I e]) lkK (lkD s fo si up nx nd cs ps)):
  c7 Tryz.prog 57 [.ptr 0 0 0,I name] lkK (lkD s fo si up nx nd cs ps) (.tup [G7 ⟨0,0⟩,I e]) lkK (lkD s fo si up nx nd cs ps):=by
 refine oG [0] Tryz.func57 Tryz.ntmps57 Tryz.results57 ?_;intro J hJ;refine gW ?_;refine gW ?_ fun K hK=>by simp -dsimp;refine cM [0] [1,2,3,4,5,6] (hf) ?_;simp -dsimp;exact hK
 refine a8 fun K1 hK1=>?_;refine gW ?_;refine c3 rfl (fun hc0=>?_) (fun hc0=>?_)
 ·refine gW ?_;refine gU (T':=[(0, .ptr 0 0 0),(4, .iptr [I 0,I 0]),(5,I e)]) (H':=lkK++lkD s fo si up nx nd cs ps) [some 0,some 8,some 9,some 10,some 11,some 12,some 13] ?_;exact d9 (gT [some 0,some 1,some 2,some 3,some 4,some 5,some 6])
 ·simp[he]at hc0
theorem b8W {name:Int} {c:Car} (hl:c.Way.length<=1000) (hl0:1<=c.Way.length) (h:c.Front≠(c.Way.length:Int)-1) (hf:c7 Tryz.prog 50 [.ptr 0 0 0,I name] lkK (lkD s fo si up nx nd cs ps) (.tup [c.av,I 0]) lkK (lkD s fo si up nx nd cs ps)):
  c7 Tryz.prog 57 [.ptr 0 0 0,I name] lkK (lkD s fo si up nx nd cs ps) (.tup [G7 ⟨0,0⟩,I 5]) lkK (lkD s fo si up nx nd cs ps):=by
 have wl:IntKind.i64.wrap ((c.Way.length:Int)-1)=(c.Way.length:Int)-1:=c4 (by omega) (by omega);refine oG [0] Tryz.func57 Tryz.ntmps57 Tryz.results57 ?_;intro J hJ;refine gW ?_;refine gW ?_ fun K hK=>by simp -dsimp;refine cM [0] [1,2,3,4,5,6] (hf) ?_;simp -dsimp;exact hK
 refine a8 fun K1 hK1=>?_;refine gW ?_;refine c3 rfl (fun hc0=>?_) (fun hc0=>?_)
 ·simp at hc0
 ·refine c5 ?_;refine zQ (hK1 _ _ ?_);refine gP [0,1,4,6] ?_;refine a8 fun K2 hK2=>?_;refine gW ?_ fun K hK=>by simp -dsimp [wl];exact hK
  refine c3 rfl (fun hc1=>?_) (fun hc1=>?_)
  ·refine gW ?_;refine gU (T':=[(0, .ptr 0 0 0),(4, .iptr [I 0,I 0]),(5,I 5)]) (H':=lkK++lkD s fo si up nx nd cs ps) [some 0,some 8,some 9,some 10,some 11,some 12,some 13] ?_;exact d9 (gT [some 0,some 1,some 2,some 3,some 4,some 5,some 6])
  ·simp[h]at hc1
end
end Go.Tram.Lk
end
section
namespace Go.Tram.Lk
open Go.AM Go.Proofs
section
variable (s:j0) (fo si up:Kvs) (nx nd:j8) (cs:List Car) (ps:List Int)
theorem b5s {name:Int} {c:Car} {W:List Move} (hn:c.Name=name) (hs:Srt cs) (hv:d8 s.Plan=true) (hl:c.Way.length<=1000) (hl0:1<=c.Way.length) (h:c.Front=(c.Way.length:Int)-1) (hWl:W.length=c.Way.length) (hk:a5n s W=true)
  (ht:c7 Tryz.prog 104 [a1t c.Way] [] [] (.row 0 0 W.length) [] [some (.els 2 (W.map Move.cells))])
  (hf:c7 Tryz.prog 50 [.ptr 0 0 0,I name] lkK (lkD s fo si up nx nd cs ps) (.tup [c.av,I 0]) lkK (lkD s fo si up nx nd cs ps))
  (htn:∀X:Value,c7 Tryz.prog 105 [.ptr 0 0 0,{c with Way:=W}.av] (stK X s fo si up ps.length) (stD s cs ps nx nd) (G7 ⟨0,0⟩) (stK X s fo si up ps.length) (stD s cs ps nx nd++[some (.els 2 [[I 0,I 0]])])):
  c7 Tryz.prog 57 [.ptr 0 0 0,I name] lkK (lkD s fo si up nx nd cs ps) (.tup [G7 ⟨0,0⟩,I 0]) lkK (lkD s fo si up nx nd (B5 cs {c with Way:=W}) ps):=by
 subst hn;have wl:IntKind.i64.wrap ((c.Way.length:Int)-1)=(c.Way.length:Int)-1:=c4 (by omega) (by omega);have hw:=fun x y=>b0V s fo si up x y W hv (by omega);rw[hk]at hw;unfold d5 at hw;have p9:(O1 (o3 cs) (kOf c.Name) {c with Way:=W}.av).Perm _:=P3 {c with Way:=W} hs;have htk:List.take W.length (List.map Move.cells W)=List.map Move.cells W:=qg (by simp);generalize B5 cs {c with Way:=W}=cs2 at*
 refine oG [0] Tryz.func57 Tryz.ntmps57 Tryz.results57 ?_;intro J hJ;refine gW ?_;refine gW ?_ fun K hK=>by simp -dsimp;refine cM [0] [1,2,3,4,5,6] (hf) ?_;simp -dsimp;exact hK
 refine a8 fun K1 hK1=>?_;refine gW ?_;refine c3 rfl (fun hc0=>?_) (fun hc0=>?_)
 ·simp at hc0
 ·refine c5 ?_;refine zQ (hK1 _ _ ?_);refine gP [0,1,4,6] ?_;refine a8 fun K2 hK2=>?_;refine gW ?_ fun K hK=>by simp -dsimp [wl];exact hK
  refine c3 rfl (fun hc1=>?_) (fun hc1=>?_)
  ·simp[h]at hc1
  ·refine c5 ?_;refine zQ (hK2 _ _ ?_);refine gP [0,1,4,6] ?_;refine gW ?_ fun K hK=>by simp -dsimp;refine cM [] [] (ht) ?_;simp -dsimp;exact hK
   refine a8 fun K3 hK3=>?_;refine gU (T':=[(0, .ptr 0 0 0),(1,I c.Name),(4, .ptr 7 0 0),(6, .ptr 8 0 0)]) (H':=lkK++(lkD s fo si up nx nd cs ps++[some (.els 2 [[I 0,I 0]]),some (.els 4 [{c with Way:=W}.cells])])) [some 0,some 8,some 9,some 10,some 11,some 12,some 13,some 7,some 14] ?_ (hH:=by simp[htk])
   ·refine gD ?_ fun K hK=>by simp -dsimp;refine cI (hw _ _) ?_;simp -dsimp;exact hK
    refine c3 rfl (fun hc2=>?_) (fun hc2=>?_)
    ·simp at hc2
    ·refine c5 ?_;refine zQ (hK3 _ _ ?_);refine gP [0,1,4,6] ?_;refine a8 fun K4 hK4=>?_;refine a0e 1 0 rfl rfl fun X=>?_;simp only[p9,List.set_cons_zero]
     ·refine gD ?_ fun K hK=>by simp -dsimp;refine cM [1,2] [3,4,5,6] (htn X) ?_;simp -dsimp;exact hK
      refine gW ?_;refine c3 rfl (fun hc3=>?_) (fun hc3=>?_)
      ·simp at hc3
      ·refine c5 ?_;refine zQ (hK4 _ _ ?_);refine gP [0,1,4,6] ?_;refine gD ?_ fun K hK=>by simp -dsimp [p9];exact hK
       refine gW ?_;refine p8 (G0 (a1g 9 rfl p9) (by simp)) ?_;refine p8 (G0 (C9 1 0 rfl rfl) (by simp)) ?_;refine gU (T':=[(0, .ptr 0 0 0),(4, .iptr [I 0,I 0]),(5,I 0)]) (H':=lkK++lkD s fo si up nx nd cs2 ps) [some 0,some 1,some 2,some 9,some 10,some 11,some 12] ?_;exact d9 (gT [some 0,some 1,some 2,some 3,some 4,some 5,some 6])
theorem b8a {name:Int} {c:Car} {W:List Move} (hn:c.Name=name) (hv:d8 s.Plan=true) (hl:c.Way.length<=1000) (hl0:1<=c.Way.length) (h:c.Front=(c.Way.length:Int)-1) (hWl:W.length=c.Way.length) (hk:a5n s W=false)
  (ht:c7 Tryz.prog 104 [a1t c.Way] [] [] (.row 0 0 W.length) [] [some (.els 2 (W.map Move.cells))])
  (hf:c7 Tryz.prog 50 [.ptr 0 0 0,I name] lkK (lkD s fo si up nx nd cs ps) (.tup [c.av,I 0]) lkK (lkD s fo si up nx nd cs ps)):
  c7 Tryz.prog 57 [.ptr 0 0 0,I name] lkK (lkD s fo si up nx nd cs ps) (.tup [G7 ⟨0,0⟩,I 7]) lkK (lkD s fo si up nx nd cs ps):=by
 subst hn;have wl:IntKind.i64.wrap ((c.Way.length:Int)-1)=(c.Way.length:Int)-1:=c4 (by omega) (by omega);have hw:=fun x y=>b0V s fo si up x y W hv (by omega);rw[hk]at hw;unfold d5 at hw;have htk:List.take W.length (List.map Move.cells W)=List.map Move.cells W:=qg (by simp);refine oG [0] Tryz.func57 Tryz.ntmps57 Tryz.results57 ?_;intro J hJ;refine gW ?_;refine gW ?_ fun K hK=>by simp -dsimp;refine cM [0] [1,2,3,4,5,6] (hf) ?_;simp -dsimp;exact hK
 refine a8 fun K1 hK1=>?_;refine gW ?_;refine c3 rfl (fun hc0=>?_) (fun hc0=>?_)
 ·simp at hc0
 ·refine c5 ?_;refine zQ (hK1 _ _ ?_);refine gP [0,1,4,6] ?_;refine a8 fun K2 hK2=>?_;refine gW ?_ fun K hK=>by simp -dsimp [wl];exact hK
  refine c3 rfl (fun hc1=>?_) (fun hc1=>?_)
  ·simp[h]at hc1
  ·refine c5 ?_;refine zQ (hK2 _ _ ?_);refine gP [0,1,4,6] ?_;refine gW ?_ fun K hK=>by simp -dsimp;refine cM [] [] (ht) ?_;simp -dsimp;exact hK
   refine a8 fun K3 hK3=>?_;refine gU (T':=[(0, .ptr 0 0 0),(1,I c.Name),(4, .ptr 7 0 0),(6, .ptr 8 0 0)]) (H':=lkK++(lkD s fo si up nx nd cs ps++[some (.els 2 [[I 0,I 0]]),some (.els 4 [{c with Way:=W}.cells])])) [some 0,some 8,some 9,some 10,some 11,some 12,some 13,some 7,some 14] ?_ (hH:=by simp[htk])
   ·refine gD ?_ fun K hK=>by simp -dsimp;refine cI (hw _ _) ?_;simp -dsimp;exact hK
    refine c3 rfl (fun hc2=>?_) (fun hc2=>?_)
    ·refine gW ?_;refine gU (T':=[(0, .ptr 0 0 0),(4, .iptr [I 0,I 0]),(5,I 7)]) (H':=lkK++lkD s fo si up nx nd cs ps) [some 0,some 1,some 2,some 3,some 4,some 5,some 6] ?_;exact d9 (gT [some 0,some 1,some 2,some 3,some 4,some 5,some 6])
    ·simp at hc2
theorem b6u {name:Int} {c:Car} {W:List Move} {r:b3q} (hn:c.Name=name) (hv:d8 s.Plan=true) (hl:c.Way.length<=1000) (hl0:1<=c.Way.length) (h:c.Front=(c.Way.length:Int)-1) (hWl:W.length=c.Way.length) (hk:a5n s W=true) (hrk:r.Kind≠0)
  (ht:c7 Tryz.prog 104 [a1t c.Way] [] [] (.row 0 0 W.length) [] [some (.els 2 (W.map Move.cells))])
  (hf:c7 Tryz.prog 50 [.ptr 0 0 0,I name] lkK (lkD s fo si up nx nd cs ps) (.tup [c.av,I 0]) lkK (lkD s fo si up nx nd cs ps))
  (htn:∀X:Value,c7 Tryz.prog 105 [.ptr 0 0 0,{c with Way:=W}.av] (stK X s fo si up ps.length) (stD s cs ps nx nd) (G7 r) (stK X s fo si up ps.length) (stD s cs ps nx nd++[some (.els 2 [[I r.Kind,I r.Car]])])):
  c7 Tryz.prog 57 [.ptr 0 0 0,I name] lkK (lkD s fo si up nx nd cs ps) (.tup [G7 r,I 6]) lkK (lkD s fo si up nx nd cs ps):=by
 subst hn;have wl:IntKind.i64.wrap ((c.Way.length:Int)-1)=(c.Way.length:Int)-1:=c4 (by omega) (by omega);have hw:=fun x y=>b0V s fo si up x y W hv (by omega);rw[hk]at hw;unfold d5 at hw;have htk:List.take W.length (List.map Move.cells W)=List.map Move.cells W:=qg (by simp);refine oG [0] Tryz.func57 Tryz.ntmps57 Tryz.results57 ?_;intro J hJ;refine gW ?_;refine gW ?_ fun K hK=>by simp -dsimp;refine cM [0] [1,2,3,4,5,6] (hf) ?_;simp -dsimp;exact hK
 refine a8 fun K1 hK1=>?_;refine gW ?_;refine c3 rfl (fun hc0=>?_) (fun hc0=>?_)
 ·simp at hc0
 ·refine c5 ?_;refine zQ (hK1 _ _ ?_);refine gP [0,1,4,6] ?_;refine a8 fun K2 hK2=>?_;refine gW ?_ fun K hK=>by simp -dsimp [wl];exact hK
  refine c3 rfl (fun hc1=>?_) (fun hc1=>?_)
  ·simp[h]at hc1
  ·refine c5 ?_;refine zQ (hK2 _ _ ?_);refine gP [0,1,4,6] ?_;refine gW ?_ fun K hK=>by simp -dsimp;refine cM [] [] (ht) ?_;simp -dsimp;exact hK
   refine a8 fun K3 hK3=>?_;refine gU (T':=[(0, .ptr 0 0 0),(1,I c.Name),(4, .ptr 7 0 0),(6, .ptr 8 0 0)]) (H':=lkK++(lkD s fo si up nx nd cs ps++[some (.els 2 [[I 0,I 0]]),some (.els 4 [{c with Way:=W}.cells])])) [some 0,some 8,some 9,some 10,some 11,some 12,some 13,some 7,some 14] ?_ (hH:=by simp[htk])
   ·refine gD ?_ fun K hK=>by simp -dsimp;refine cI (hw _ _) ?_;simp -dsimp;exact hK
    refine c3 rfl (fun hc2=>?_) (fun hc2=>?_)
    ·simp at hc2
    ·refine c5 ?_;refine zQ (hK3 _ _ ?_);refine gP [0,1,4,6] ?_;refine a8 fun K4 hK4=>?_;refine a0e 1 0 rfl rfl fun X=>?_;simp only[p9,List.set_cons_zero]
     ·refine gD ?_ fun K hK=>by simp -dsimp;refine cM [1,2] [3,4,5,6] (htn X) ?_;simp -dsimp;exact hK
      refine gW ?_;refine c3 rfl (fun hc3=>?_) (fun hc3=>?_)
      ·refine gW ?_;refine p8 (G0 (C9 1 0 rfl rfl) (by simp)) ?_;refine gU (T':=[(0, .ptr 0 0 0),(4, .iptr [I r.Kind,I r.Car]),(5,I 6)]) (H':=lkK++lkD s fo si up nx nd cs ps) [some 0,some 1,some 2,some 9,some 10,some 11,some 12] ?_;exact d9 (gT [some 0,some 1,some 2,some 3,some 4,some 5,some 6])
      ·simp[hrk]at hc3
end
end Go.Tram.Lk
end
section
namespace Go.Tram.Lk
open Go.AM Go.Proofs
def c5k (l:List Move) (k:Nat):List AV:=[I ((l.length:Int)-1-k),(y4 l (l.length-1-k)).av]
def bwL (l:List Move):List (List AV):=(List.range l.length).map (c5k l)
theorem c2W (l:List Move):∀z∈bwL l,z.length=2:=by
 intro z hz;obtain⟨q,_,rfl⟩:=List.mem_map.1 hz
 rfl
theorem b4X {l:List Move} {k:Nat} (h:k<l.length):(bwL l)[k]?=some (c5k l k):=by
 unfold bwL;rw[qe,List.getElem?_range h];rfl
@[simp] theorem c3f (l:List Move):(bwL l).length=l.length:=by simp[bwL]
theorem b2I (l:List Move):a9 Tryz.prog 141 [a1t l] (.clo 178 [.iptr [a1t l]]):=by
 refine oB Tryz.func141 Tryz.ntmps141 Tryz.results141 ?_;refine aW ?_;refine aW ?_;exact a6 (by simp)
theorem b0q (u:List Move) (hn:u.length<=1000):X3 Tryz.prog 178 [.iptr [a1t u]] (bwL u):=by
 have wl:IntKind.i64.wrap ((u.length:Int)-1)=(u.length:Int)-1:=c4 (by omega) (by omega);refine J9.of_body Tryz.func178 rfl (by decide) (by simp[Tryz.ntmps178]) (by simp[Tryz.ntmps178]) (by simp[Tryz.results178]) ?_;intro J l hmk hY;simp only[Tryz.ntmps178,Tryz.results178];refine gW ?_ fun K hK=>by simp -dsimp [wl];exact hK
 refine c8 ?_;refine s9 [0,1,3,999999] (Or.inl (by decide)) ?_;refine zN ?_;refine e9 [0,1] (α:=Nat) (fun k=>[(3,I ((u.length:Int)-1-k)),(999999,Z8 k)]) (fun k=>[]) (fun k=>k<=u.length) (fun k=>u.length-k) 0 ?_ ?_ ?_
 ·exact qp _
 ·exact G0 (c9 (by simp)) (by simp)
 rintro k k1;refine zN ?_;refine a8 fun K1 hK1=>?_;refine gW ?_;refine c3 rfl (fun hc0=>?_) (fun hc0=>?_)
 ·have hk:k<u.length:=by first|omega|(simp at hc0;omega)
  have wk:IntKind.i64.wrap ((u.length:Int)-1-k-1)=(u.length:Int)-1-(k+1:Nat):=by rw[c4 (by omega) (by omega)];omega
  have hx:u[u.length-1-k]?=some (y4 u (u.length-1-k)):=by unfold y4;rw[qc (by omega)];rfl
  have tk:((u.length:Int)-1-k).toNat=u.length-1-k:=by omega
  have p0:0<=(u.length:Int)-1-k:=by omega
  have p1:(u.length:Int)-1-k<u.length:=by omega
  have p2:(k:Int)<=(u.length:Int)-1:=by omega
  refine c5 ?_;refine zQ (hK1 _ _ ?_);refine s9 [0,1,3,999999] (Or.inl (by decide)) ?_;refine zN ?_;refine a8 fun K2 hK2=>?_;refine c8 ?_;refine b5I hmk hY rfl (by decide) rfl rfl fun K hK=>?_;simp -dsimp [hx,tk,p0,p1,p2];refine a7e (b4X hk) ?_ ?_
  ·apply hK;clear hK K;refine c3 rfl (fun hc1=>?_) (fun hc1=>?_)
   ·simp at hc1
   ·refine c5 ?_;refine zQ (hK2 _ _ ?_);refine s9 [0,1,3,999999] (Or.inl (by decide)) ?_;refine zN ?_;refine gV ?_ fun K hK=>by simp -dsimp [wk];exact hK
    refine zQ ?_;exact⟨k+1,by omega,by omega,gB []⟩
  ·apply hK;clear hK K;refine c3 rfl (fun hc1=>?_) (fun hc1=>?_)
   ·exact d9 (by simp)
   ·simp at hc1
 ·have hke:k=u.length:=by first|omega|(simp at hc0;omega)
  subst hke;refine o5 ?_
  try simp only[zT,reduceIte,Nat.reduceEqDiff]
  simp
def F1 (l:List Move):List Move:=l.reverse.map b2f
@[simp] theorem a2n (l:List Move):(F1 l).length=l.length:=by simp[F1]
theorem a8e {l:List Move} {k:Nat} (h:k<l.length):(F1 l)[k]?=some (b2f (y4 l (l.length-1-k))):=by
 unfold F1 y4;rw[qe,List.getElem?_reverse h,qc (by omega)];rfl
theorem b8b (l:List Move) (hn:l.length<=1000):c7 Tryz.prog 104 [a1t l] [] [] (.row 0 0 (F1 l).length) [] [some (.els 2 ((F1 l).map Move.cells))]:=by
 have hb:=b2I l;have hit:=b0q l hn;refine oG [] Tryz.func104 Tryz.ntmps104 Tryz.results104 ?_;intro J hJ;refine gW ?_;refine gW ?_;refine a8 fun K1 hK1=>?_;refine gW ?_ fun K hK=>by simp -dsimp;refine cI (hb) ?_;simp -dsimp;exact hK
 refine c8 ?_;refine gP [3,7] ?_;refine a1e hJ [3,7] (fun n=>[some (.els 1 [[.row 1 0 n]]),some (.els 2 (((F1 l).take n).map Move.cells))]) (fun n=>n<=l.length) rfl (hit) rfl (by simp) (by decide) (by decide) (by decide) (c2W _) ?_ ?_ ?_ ?_
 ·exact qp _
 ·exact(a2f 0 0 0 2 (es:=[[.v (.slice none 0 0)]]) (e:=[.v (.slice none 0 0)]) (by simp) (by simp) (by simp)).trans (c9 (by simp))
 ·intro n xv hxn hi l1 J1 hJ1;have hnl:n<l.length:=by have:=(qa.1 hxn).1;simpa using this
  obtain rfl:c5k l n=xv:=by rw[b4X hnl]at hxn;simpa using hxn
  have hop:=c4t (y4 l (l.length-1-n));have f1:R2 (n+1) 17:=n7 (by omega) (by omega);have hts:(F1 l).take (n+1)=(F1 l).take n++[b2f (y4 l (l.length-1-n))]:=by rw[qz,a8e hnl];rfl
  have htl:((F1 l).take n).length=n:=by rw[qm,a2n];omega
  generalize (F1 l).take n=L' at hts htl ⊢;subst htl;simp only[c5k];simp only[List.zip_cons_cons,List.zip_nil_left,List.zip_nil_right,List.cons_append,List.nil_append];refine gV ?_;simp only[a9q];intro J2 hJ2;refine gP [3,5,7] ?_;refine c8 ?_;refine gE ?_ fun K hK=>by simp -dsimp [f1];refine cI (hop) ?_;simp -dsimp [f1];exact hK
  simp only[Z3,H5,a4w,reduceIte,Nat.reduceEqDiff,eq_self];refine⟨hnl,g7 [some 0,some 3] rfl (by simp) (by simp[hts])⟩
 ·intro hdone;refine zQ (hK1 _ _ ?_);refine gP [3] ?_;refine gW ?_;have hte:List.take l.length (List.map Move.cells (F1 l))=List.map Move.cells (F1 l):=qg (by simp);rw[hte];exact d9 (gT [some 1])
end Go.Tram.Lk
end
section
namespace Go.Tram.Lk
open Go.AM Go.Proofs
theorem b0Y (t:List Int) (hne:t≠[]) (hn:t.length<=1000):c7 Tryz.prog 41 [.lst 1 (t.map f9)] [] [] (.row 0 0 t.length) [] [some (.els 1 (t.map f9))]:=by
 have f1:R2 t.length 9:=n7 (by omega) (by omega);refine oG [] Tryz.func41 Tryz.ntmps41 Tryz.results41 ?_;intro J hJ;refine gW ?_;refine a8 fun K1 hK1=>?_;refine gW ?_ fun K hK=>by simp -dsimp [hne];exact hK
 refine c3 rfl (fun hc0=>?_) (fun hc0=>?_)
 ·simp at hc0
 ·refine c5 ?_;refine zQ (hK1 _ _ ?_);refine gP [0] ?_;refine gW ?_ fun K hK=>by simp -dsimp [hne,f1];exact hK
  exact d9 (gT [some 0])
section
variable (s:j0) (fo si up:Kvs) (nx nd:j8) (cs:List Car) (ps:List Int)
theorem b1J (hne:ps≠[]) (hn:ps.length<=1000):c7 Tryz.prog 16 [.ptr 0 0 0] lkK (lkD s fo si up nx nd cs ps) (.row 7 0 ps.length) lkK (lkD s fo si up nx nd cs ps++[some (.els 1 (ps.map f9))]):=by
 have htp:List.take ps.length (ps.map f9)=ps.map f9:=qg (by simp);have hcl:=b0Y ps hne hn;refine oG [0] Tryz.func16 Tryz.ntmps16 Tryz.results16 ?_;intro J hJ;refine gW ?_;refine a8 fun K1 hK1=>?_;refine gW ?_ fun K hK=>by simp -dsimp;refine cI (L8 _) ?_;simp -dsimp;exact hK
 refine c3 rfl (fun hc0=>?_) (fun hc0=>?_)
 ·simp at hc0
 ·refine c5 ?_;refine zQ (hK1 _ _ ?_);refine gP [0] ?_;refine gW ?_ fun K hK=>by simp -dsimp [htp];refine a3e [] [] [none,none,none,none,none,none,none,some 0] (hcl) (by decide) rfl (by simp[htp]) (by simp) rfl (by simp) (by simp) (by simp) ?_;simp -dsimp [htp];exact hK
  exact d9 (gT [some 0,some 1,some 2,some 3,some 4,some 5,some 6,some 7])
end
end Go.Tram.Lk
end
section
namespace Go.Tram.Lk
open Go.AM Go.Proofs
def a2s (l:List Car):List (List AV):=l.map Car.cells
@[simp] theorem c5f (l:List Car):(a2s l).length=l.length:=by simp[a2s]
@[simp high] theorem c5h (l:List Car) (g:List (Option Nat)) (n:Nat):(a2s l).map (fun e=>e.map (p5 g n))=a2s l:=by
 unfold a2s;rw[List.map_map];refine List.map_congr_left fun c _=>?_
 cases n<;>simp[p5]
@[simp high] theorem c4S (l:List Car) (H:Nat->Option n9) (g:List (Option Nat)) (n:Nat):(a2s l).map (fun e=>e.map (Z7 H g n))=a2s l:=by
 unfold a2s;rw[List.map_map];refine List.map_congr_left fun c _=>?_
 cases n<;>simp[Z7]
section
variable (s:j0) (fo si up:Kvs) (nx nd:j8) (cs:List Car) (ps:List Int)
theorem c4g (hcs:b3U s cs):c7 Tryz.prog 14 [.ptr 0 0 0] lkK (lkD s fo si up nx nd cs ps) (.row 7 0 cs.length) lkK (lkD s fo si up nx nd cs ps++[some (.els 4 (a2s cs))]):=by
 have hcl:=hcs.len;have hnm:=fun X:Value=>Q5 cs hcs.srt hcs.len (fun x hx=>(hcs.bd x hx).1) (.fptr X 1 0 0) (.row 3 0 ps.length) (ruR s fo si up 4 5) (ptR ps) (nxR s nx) (ndR s nd);refine oG [0] Tryz.func14 Tryz.ntmps14 Tryz.results14 ?_;intro J hJ;refine gW ?_;refine a8 fun K1 hK1=>?_;refine gW ?_ fun K hK=>by simp -dsimp;refine cI (L8 _) ?_;simp -dsimp;exact hK
 refine c3 rfl (fun hc0=>?_) (fun hc0=>?_)
 ·simp at hc0
 ·refine c5 ?_;refine zQ (hK1 _ _ ?_);refine gP [0] ?_;refine gW ?_;refine a8 fun K2 hK2=>?_;refine a0e 1 0 rfl rfl fun X=>?_;simp only[p9,List.set_cons_zero]
  ·refine gW ?_ fun K hK=>by simp -dsimp;refine cM [1,2] [3,4,5,6] (hnm X) ?_;simp -dsimp;exact hK
   refine c8 ?_;refine gP [0,3,14,15,16] ?_;refine e9 [0,14,15] (α:=Nat) (fun k=>[(16,I k),(3, .row 12 0 k)]) (fun k=>[some (.els 1 [[.ptr 1 0 0]]),some (.els 3 [[.fptr X 2 0 0, .mp 7, .row 8 0 ps.length]]),ruR s fo si up 9 10,none,none,none,none,caR cs,ptR ps,nxR s nx,ndR s nd,some (.els 1 (nmL cs)),some (.els 4 (a2s (cs.take k)))]) (fun k=>k<=cs.length) (fun k=>cs.length-k) 0 ?_ ?_ ?_
   ·exact qp _
   ·exact G0 ((V7 3 4 (by simp)).trans (g7 [some 0,some 1,some 2,none,none,none,none,some 7,some 8,some 9,some 10,some 11,some 12] rfl (by simp) (by simp[a2s]))) (by simp)
   rintro k k1;refine zN ?_;refine gW ?_;refine a8 fun K3 hK3=>?_;refine c3 rfl (fun hc1=>?_) (fun hc1=>?_)
   ·skip
    try simp at hc1
    have hkn:k<cs.length:=by first|omega|(simp at hc1;omega)
    obtain⟨y,hy⟩:=gx (l:=cs) (i:=k) hkn;have hym:=qd hy;have hyk:A4 (o3 cs) (kOf y.Name)=some y.av:=by rw[k7,E2 hcs.srt hym];rfl
    have wk:=zW k (by omega);obtain⟨hnl2,hng⟩:=qa.1 (k9 hy);have hyl:=(hcs.bd y hym).2;have hcln:=a2m y.Way (by have:=(i9 (hcs.car y hym)).2.2.1.1;intro e;rw[e]at this;simp at this) hyl;have hsu:a2s (cs.take (k+1))=a2s (cs.take k)++[y.cells]:=by unfold a2s;rw[qz,hy];simp
    have hmin:min k cs.length=k:=by omega
    have htk:List.take k (a2s (cs.take k))=a2s (cs.take k):=qg (by simp;omega);have hty:List.take y.Way.length (List.map Move.cells y.Way)=List.map Move.cells y.Way:=qg (by simp);have f1:R2 (k+1) 49:=n7 (by omega) (by omega);refine c5 ?_;refine zQ (hK3 _ _ ?_);refine gP [0,3,14,15,16] ?_;refine a8 fun K4 hK4=>?_;refine c8 ?_;refine gW ?_ fun K hK=>by simp -dsimp [k9 hy,hkn,hng];exact hK
    refine gW ?_ fun K hK=>by simp -dsimp;refine d7 (y.av) (fun hm=>by rw[hyk];rfl) ?_;simp -dsimp;exact hK
    refine gW ?_ fun K hK=>by simp -dsimp;refine cM [] [] (hcln) ?_;simp -dsimp;exact hK
    refine a2c (by decide) ?_;refine gV ?_ fun K hK=>by simp -dsimp [f1,htk,hmin];exact hK
    refine zQ (hK4 _ _ ?_);refine gP [0,3,14,15,16] ?_;refine gV ?_ fun K hK=>by simp -dsimp [wk];exact hK
    refine zQ ?_;exact⟨k+1,by omega,by omega,G0 (a5F [some 0,some 1,some 2,none,none,none,none,some 7,some 8,some 9,some 10,some 11,some 16] rfl (by repeat' (first|exact trivial|exact .inr (by simp)|refine⟨?_,?_⟩)) (by simp[hsu,hty])) (by simp)⟩
   ·skip
    try simp at hc1
    have hke:k=cs.length:=by first|omega|(simp at hc1;omega)
    subst hke;rw[List.take_length];refine o5 ?_;refine zQ (hK2 _ _ ?_);refine gP [0,3] ?_;refine gW ?_;refine p8 (G0 (C9 1 0 rfl rfl) (by simp)) ?_;exact d9 (gT [some 0,some 1,some 2,some 7,some 8,some 9,some 10,some 12])
end
end Go.Tram.Lk
end
section
namespace Go.AM
theorem c7.pure {P:Program} {f:FuncId} {args:List AV} {res res':AV} {Hn:Hp} (h:c7 P f args [] [] res [] Hn) (e:frz (g8 Hn) 6 res=res'):a9 P f args res':=by
 subst e;obtain⟨h1,_,h3⟩:=h;refine Or.inl ⟨h1,fun S0 w vs hlow hl hrep=>?_⟩;have hh:a6W S0 w (fun _=>none) ([]++[]):=⟨⟨(by intro r r' l l' b h;cases h),(by intro r l b h;cases h),(by intro r l h;cases h),hlow,fun _ _=>trivial⟩,fun r row hr=>by cases r<;>simp[g8]at hr,fun r _=>rfl⟩;have hsx:∀b,Sx S0 (fun _=>none) b->S0 b:=by
  rintro b (h|⟨r,l,h1,_⟩)
  ·exact h
  ·cases h1
 refine(h3 S0 w _ vs hh hl fun i c x hc hx=> .pure _ _ ((hrep i c x hc hx).ext (qo _) fun b _ hn=>⟨rfl,fun k=>hn (hsx b k)⟩)).mono ?_;rintro en w' ⟨v,ρ',rfl,hh',hr,_,hfresh,hx⟩;refine⟨v,rfl,a4b hh'.wf (S':=S0) (fun b hn k=>hn (Or.inl k)) (fun r l b row _ hl hb k=>(hh'.wf.own r l b hl hb).2.1 k) 6 res v (fun r _ row hr=>hh'.rows r row hr) hr,hx.mono ?_⟩;rintro b _ ⟨r,l,h1,_⟩
 cases h1
end Go.AM
end
section
namespace Go.AM
def c5g:AV->Bool
 | .v _=>true
 |_=>false
def b0t:AV->Bool
 | .v _=>true
 | .lst sz els=>decide (1<=sz)&&els.all fun e=>e.all c5g
 |_=>false
theorem b7l {w:World} {S S':Nat->Prop} {x:AV} {y:Value} (hx:c5g x=true) (h:r8 w S x y):r8 w S' x y:=by
 cases x with
 |v c=>cases h;exact .v _
 |_=>simp[c5g]at hx
theorem a7W {w:World} {S S':Nat->Prop} (hs:∀b c t s,¬S b->w.heap[b]?=some (.cells c t s)->¬S' b) {x:AV} {y:Value} (hx:b0t x=true) (h:r8 w S x y):r8 w S' x y:=by
 cases x with
 |v c=>cases h;exact .v _
 | lst sz els=>
  simp only[b0t,qh,decide_eq_true_eq,qn]at hx
  cases h with
  |lstNil=>exact .lstNil _ _ _
  | lst _ _ b off cap vs hS hb hcap hel hl hv h=>
   cases els with
   |nil=>exact .lstNil _ _ _
   | cons e els=>
    have he:1<=e.length:=by rw[hel e (by simp)];exact hx.1
    have hv0:0<vs.length:=by
     rw[<-hl,List.flatten_cons,List.length_append];omega
    have hc:=(hv 0 _ (qc hv0)).1;obtain⟨c,t,s,hb'⟩:∃c t s,w.heap[b]?=some (.cells c t s):=by
     unfold World.cell? at hc
     cases hh:w.heap[b]? with
     |none=>simp[hh]at hc
     |some o=>cases o with
      |cells c t s=>exact⟨c,t,s,rfl⟩
      |_=>simp[hh]at hc
    refine .lst _ _ b off cap vs (hs b c t s hS hb') hb hcap hel hl hv fun i c x hi hx'=>?_;refine b7l ?_ (h i c x hi hx');have hm:=qd hi;rw[List.mem_flatten]at hm;obtain⟨e',he',hc'⟩:=hm;exact hx.2 e' he' c hc'
 |_=>simp[b0t]at hx
def bkM (gs:List Nat):AV->AV
 | .v x=> .v x
 | .row i k n=>if i<gs.length then .row (bkN gs i) k n else .any
 | .ptr i k o=>if i<gs.length then .ptr (bkN gs i) k o else .any
 | .mp i=>if i<gs.length then .mp (bkN gs i)else .any
 | .agg cs=>if cs.all b0t then .agg cs else .any
 | .lst sz els=>if b0t (.lst sz els)then .lst sz els else .any
 |_=> .any
theorem b0v {w:World} {ρ ρ1:Nat->Option Loc} {L1 L:Nat->Prop} {S1 S:Nat->Prop} {gs:List Nat} (hn:gs.Nodup) (hL:∀r∈gs,L r) (hs:∀b c t s,¬S1 b->w.heap[b]?=some (.cells c t s)->¬S b)
  {x:AV} {y:Value} (h:e8 w S1 ρ1 L1 x y):e8 w S (bkρ gs ρ ρ1) L (bkM gs x) y:=by
 cases x with
 | agg cs=>
  simp only[bkM]
  split
  ·rename_i hf;rw[qn]at hf;obtain⟨vs,rfl,hl,hc⟩:=A2 h;refine .agg _ vs hl (fun u hu=>?_) (fun i c u h1 h2=>?_)
   ·obtain⟨i,hi,rfl⟩:=List.getElem_of_mem hu;exact(hc i _ _ (qc (by omega)) (qc hi)).1
   ·have h3:=(hc i c u h1 h2).2;have hfc:=hf c (qd h1)
    cases h3 with
    |pure _ _ h3=>exact .pure _ _ (a7W hs hfc h3)
    |_=>simp[b0t]at hfc
  ·exact .pure _ _ (.any _)
 | lst sz els=>
  simp only[bkM]
  split
  ·rename_i hf
   cases h with
   |pure _ _ h3=>exact .pure _ _ (a7W hs hf h3)
  ·exact .pure _ _ (.any _)
 |v c=>exact b1t (S0:=S1) (x:= .v c) hn hL h
 |row i k n=>exact b1t (S0:=S1) (x:= .row i k n) hn hL h
 |ptr i k n=>exact b1t (S0:=S1) (x:= .ptr i k n) hn hL h
 |mp i=>exact b1t (S0:=S1) (x:= .mp i) hn hL h
 |_=>exact .pure _ _ (.any _)
def a6b (gs:List Nat):n9->n9
 | .els sz es=> .els sz (es.map fun e=>e.map (bkM gs))
 | .map ag kts kvs=> .map ag kts kvs
 | .itr ag kts left cur=> .itr ag kts left cur
 | .mpa ag kts kvs=> .mpa ag kts (kvs.map fun p=>(p.1,bkM gs p.2))
def a9O (gs us kp:List Nat) (n:Nat) (T T':Tm):Tm:=us.map (fun t=>(t,bkM gs (i8 T' t)))++kp.map (fun t=>(t,p5 (b5j gs n) 40 (i8 T t)))
def b3z (gs:List Nat) (H H':Hp):Hp:=(List.range H.length).map fun r=>match gs.findIdx? (· ==r)with
 |some i=>(g8 H' i).map (a6b gs)
 |none=>(g8 H r).map (C2 (b5j gs H.length))
def b7T (gs fs:List Nat) (H:Hp):Hp:=(List.range H.length).map fun r=>if gs.contains r||fs.contains r then g8 H r else none
theorem a8k (gs fs:List Nat) (H:Hp) (r:Nat):g8 (b7T gs fs H) r=if r<H.length then(if gs.contains r||fs.contains r then g8 H r else none)else none:=by
 unfold b7T;rw[J3]
 by_cases h:r<H.length
 ·rw[if_pos h,List.getElem?_range h]
 ·rw[if_neg h,List.getElem?_eq_none (by simpa using h)]
def c4s (fs:List Nat) (H:Hp):Bool:=fs.all fun r=>match g8 H r with|some (.map _ _ _)=>true|_=>false
theorem b6Q {J:Jt} (hJ:JOk J) {nt:Nat} {kp0:List Nat} {kv:Nat->Value} {T:Tm} {H:Hp} {a:Act} {w:World} (hs:SG J nt kp0 kv T H a w) (gs fs us kp:List Nat) (Tf:Tm) (Hx Hf:Hp) (hlt:∀r∈gs,r<H.length) (hnd:gs.Nodup) (hfm:c4s fs H=true) (hHx:b7T gs fs H=Hx) (hT:a4V Hx (gs.map some) T Tf) (hH:a2i Hx (gs.map some)=Hf)
  (hkk:∀t∈kp0,t∈kp):∃J1,JOk J1/\(∀kn,b0o J kn->b0o J1 kn)/\SG J1 nt kp (fun t=>a.tmps.getD t undef) Tf Hf a w/\
   ∀T' H' a' w',a9T H'=true->SG J1 nt kp (fun t=>a.tmps.getD t undef) T' H' a' w'->i8 (a9O gs us kp H.length T T') 999999=i8 T 999999->SG J nt kp0 kv (a9O gs us kp H.length T T') (b3z gs H H') a' w':=by
 obtain⟨⟨S0,ρ,L,hc,hL,hj,hm⟩,hk⟩:=hs;have hgi:∀(i j q:Nat),(gs.map some)[i]?=some (some q)->(gs.map some)[j]?=some (some q)->i=j:=by
  intro i j q h1 h2;simp only[qe,qf,qb]at h1 h2;obtain⟨_,h1,rfl⟩:=h1;obtain⟨_,h2,rfl⟩:=h2;exact(List.getElem?_inj (qa.1 h1).1 hnd).1 (h1.trans h2.symm)
 let hid:Nat->Prop:=fun r=>r∉gs/\r∉fs
 let Sh:Nat->Prop:=fun b=>S0 b∨∃r l,hid r/\ρ r=some l/\l.b=some b
 let ρx:Nat->Option Loc:=fun r=>if gs.contains r||fs.contains r then ρ r else none
 have hx1:∀{r l},ρx r=some l->ρ r=some l/\¬hid r:=by
  intro r l h;simp only[ρx]at h
  split at h
  ·rename_i hg;refine⟨h,fun hh=>?_⟩;simp only[Bool.or_eq_true,List.contains_eq_mem,decide_eq_true_eq]at hg
   rcases hg with hg|hg
   ·exact hh.1 hg
   ·exact hh.2 hg
  ·cases h
 have hx2:∀{r l},ρ r=some l->¬hid r->ρx r=some l:=by
  intro r l h hn;simp only[ρx];rw[if_pos]
  ·exact h
  ·simp only[Bool.or_eq_true,List.contains_eq_mem,decide_eq_true_eq]
   by_cases h1:r∈gs
   ·exact Or.inl h1
   ·by_cases h2:r∈fs
    ·exact Or.inr h2
    ·exact absurd ⟨h1,h2⟩ hn
 have hSS:∀b,Sx Sh ρx b↔Sx S0 ρ b:=by
  intro b;constructor
  ·rintro((h|⟨r,l,_,h1,h2⟩)|⟨r,l,h1,h2⟩)
   ·exact Or.inl h
   ·exact Or.inr ⟨r,l,h1,h2⟩
   ·exact Or.inr ⟨r,l,(hx1 h1).1,h2⟩
  ·rintro(h|⟨r,l,h1,h2⟩)
   ·exact Or.inl (Or.inl h)
   ·by_cases hh:hid r
    ·exact Or.inl (Or.inr ⟨r,l,hh,h1,h2⟩)
    ·exact Or.inr ⟨r,l,hx2 h1 hh,h2⟩
 have hcx:N8 a0s Sh nt w ρx L (i8 T) (g8 Hx) (a2u a):=by
  subst hHx;refine⟨⟨fun r r' l l' b h1 h2 k1 k2=>hc.wf.inj r r' l l' b (hx1 h1).1 (hx1 h2).1 k1 k2,fun r l b h1 k1=>?_,fun r l h1=>hc.wf.given r l (hx1 h1).1,fun b hb=>?_,fun _ _=>trivial⟩,hc.size,hc.defers,fun t=>?_,fun r row hr=>?_,fun r hr=>?_⟩
  ·obtain⟨p1,p2,p3⟩:=hc.wf.own r l b (hx1 h1).1 k1;refine⟨p1,?_,p3⟩;rintro(h|⟨r',l',hh,h2,k2⟩)
   ·exact p2 h
   ·have:=hc.wf.inj r r' l l' b (hx1 h1).1 h2 k1 k2;subst this;exact(hx1 h1).2 hh
  ·rcases hb with h|⟨r,l,_,h1,h2⟩
   ·exact hc.wf.low b h
   ·exact(hc.wf.own r l b h1 h2).1
  ·exact(hc.tmps t).ext (qo _) (fun b _ hn=>⟨rfl,fun h=>hn ((hSS b).1 h)⟩) (fun _ h=>h) (fun r l _ h=>(hx1 h).1)
  ·rw[a8k]at hr
   split at hr
   ·split at hr
    ·rename_i hg;obtain⟨l,hl,n8⟩:=hc.rows r row hr;refine⟨l,by simp only[ρx];rw[if_pos hg];exact hl,n8.ext (qo _) (fun b _ hn=>⟨rfl,fun h=>hn ((hSS b).1 h)⟩) (fun _ h=>h) (fun r l _ h=>(hx1 h).1) (fun _ _=>rfl)⟩
    ·cases hr
   ·cases hr
  ·rw[a8k]at hr;simp only[ρx]
   split
   ·rename_i hg;rw[if_pos hg]at hr
    split at hr
    ·exact hc.dead r hr
    ·rename_i hlr
     cases h:ρ r with
     |none=>rfl
     |some l=>exact absurd (hL r (hc.wf.given r l h)) hlr
   ·rfl
 have hf:=b6w (gs.map some) hgi hT hH hcx
 let B1:Nat->Prop:=fun b=>own (n6 ρx (gs.map some)) b∨w.heap.size<=b
 have hrg:∀{r:Nat} {l:Loc},n6 ρx (gs.map some) r=some l->∃q∈gs,ρ q=some l:=by
  intro r l h;obtain⟨q,h1,h2⟩:=i6 h;simp only[qe,qf,qb]at h1;obtain⟨_,h1,rfl⟩:=h1;exact⟨_,qd h1,(hx1 h2).1⟩
 have hJ1:JOk (c0K B1 Sh w J):=b8F fun b h=>Or.inr h;refine⟨c0K B1 Sh w J,hJ1,?_,?_,?_⟩
 ·rintro kn hkn y S0' O w' ⟨rfl,hx,ho⟩ x hx';have hB1:∀b,B1 b->own ρ b∨w.heap.size<=b:=by
   rintro b (⟨r,l,h1,h2⟩|h)
   ·obtain⟨q,_,h3⟩:=hrg h1;exact Or.inl ⟨q,l,h3,h2⟩
   ·exact Or.inr h
  refine(hkn _ _ _ _ hj x hx').ext hx.size fun b hb hn=>⟨hx.block b hb fun h=>?_,?_⟩
  ·rcases hB1 b h with h|h
   ·exact hn (Or.inr h)
   ·omega
  ·rintro((h|⟨r,l,_,h1,h2⟩)|h)
   ·exact hn (Or.inl h)
   ·exact hn (Or.inr ⟨r,l,h1,h2⟩)
   ·rcases hB1 b (ho b h)with h|h
    ·exact hn (Or.inr h)
    ·omega
 ·subst hH;obtain⟨Ds,q1,q2,q3⟩:=hm;exact⟨⟨Sh,n6 ρx (gs.map some),fun r=>r<(gs.map some).length,hf.inB (fun _ _=>trivial) (fun _ _=>trivial),fun r h=>by simpa [a2i]using h,⟨rfl,Ext.refl _ _,fun b h=>Or.inl h⟩,Ds,q1,q2,fun D hD=>⟨Or.inl (q3 D hD).1,(q3 D hD).2⟩⟩,fun _ _=>rfl⟩
 rintro T' H' a' w' hni ⟨⟨S0',ρ1,L1,hc1,hL1,⟨rfl,hx1',ho1⟩,hm1⟩,hk1⟩ hy;have hot:∀{r:Nat} {l:Loc} {b:Nat},r∉gs->ρ r=some l->l.b=some b->¬B1 b:=by
  rintro r l b hr h1 h2 (⟨q,l',h3,h4⟩|h)
  ·obtain⟨q',hq,h5⟩:=hrg h3;exact hr (hc.wf.inj r q' l l' b h1 h5 h2 h4▸hq)
  ·exact absurd (hc.wf.own r l b h1 h2).1 (Nat.not_lt.2 h)
 have hcase:∀{r:Nat} {l:Loc},bkρ gs ρ ρ1 r=some l->(∃i,gs[i]?=some r/\gs.findIdx? (· ==r)=some i/\ρ1 i=some l)∨(r∉gs/\ρ r=some l):=by
  intro r l h;unfold bkρ at h
  split at h
  ·rename_i i hi;exact Or.inl ⟨i,(a9N hi).2,hi,h⟩
  ·rename_i hi;exact Or.inr ⟨b6d hi,h⟩
 have hSx:∀b,b<w.heap.size->¬Sx S0 ρ b->w'.heap[b]?=w.heap[b]?/\¬Sx S0 (bkρ gs ρ ρ1) b:=by
  intro b hb hn;have hnB:¬B1 b:=by
   rintro(⟨r,l,h1,h2⟩|h)
   ·obtain⟨q,_,h3⟩:=hrg h1;exact hn (Or.inr ⟨q,l,h3,h2⟩)
   ·omega
  refine⟨hx1'.block b hb hnB,?_⟩;rintro(h|⟨r,l,h1,h2⟩)
  ·exact hn (Or.inl h)
  ·rcases hcase h1 with⟨i,_,_,h3⟩|⟨_,h3⟩
   ·exact hnB (ho1 b ⟨i,l,h3,h2⟩)
   ·exact hn (Or.inr ⟨r,l,h3,h2⟩)
 have hkind:∀b c t s,¬Sx Sh ρ1 b->w'.heap[b]?=some (.cells c t s)->¬Sx S0 (bkρ gs ρ ρ1) b:=by
  rintro b c t s hn hbc (h|⟨r,l,h1,h2⟩)
  ·exact hn (Or.inl (Or.inl h))
  ·rcases hcase h1 with⟨i,_,_,h3⟩|⟨hng,h3⟩
   ·exact hn (Or.inr ⟨i,l,h3,h2⟩)
   ·by_cases hrf:r∈fs
    ·have hmp:=qn.1 hfm r hrf
     split at hmp
     ·rename_i ag kts kvs hget';obtain⟨l',hl',b',hb',hmr⟩:=hc.rows r _ hget';rw[h3]at hl';simp only[qb]at hl';subst hl';rw[h2]at hb';simp only[qb]at hb';subst hb';obtain⟨es,clock,hq,_⟩:=hmr;have hold:=hx1'.block b (hc.wf.own r l b h3 h2).1 (hot hng h3 h2);rw[hold,hq]at hbc
      cases hbc
     ·cases hmp
    ·exact hn (Or.inl (Or.inr ⟨r,l,⟨hng,hrf⟩,h3,h2⟩))
 have hgf:∀{r:Nat},(∃q,(b5j gs H.length)[r]?=some (some q))->r<H.length/\r∉gs/\bkρ gs ρ ρ1 r=ρ r/\n6 ρ (b5j gs H.length) r=ρ r:=by
  rintro r ⟨q,hq⟩;have h0:=hq;rw[b7K]at hq
  split at hq
  ·rename_i hr
   split at hq
   ·cases hq
   ·rename_i hg;simp only[qb]at hq;subst hq;have hg':r∉gs:=by simpa using hg
    refine⟨hr,hg',?_,by simp only[n6,h0]⟩;unfold bkρ
    split
    ·rename_i i hi;exact absurd (qd (a9N hi).2) hg'
    ·rfl
  ·cases hq
 have keep:∀x y,e8 w (Sx S0 ρ) ρ L x y->e8 w' (Sx S0 (bkρ gs ρ ρ1)) (bkρ gs ρ ρ1) (fun r=>r<H.length) (p5 (b5j gs H.length) 40 x) y:=by
  intro x y h;refine(F6 (g:=b5j gs H.length) (S':=Sx S0 ρ) (fun _ h=>h) 40 x y h).ext hx1'.size hSx (fun r hr=>(hgf hr).1) (fun r l hr hl=>?_);rw[(hgf hr).2.2.2,<-(hgf hr).2.2.1];exact hl
 refine⟨⟨S0,bkρ gs ρ ρ1,fun r=>r<H.length,⟨⟨?_,?_,?_,fun b h=>qq (hc.wf.low b h) hx1'.size,?_⟩,hc1.size,rfl,?_,?_,?_⟩,?_,?_,?_⟩,fun t ht=>(hk1 t (hkk t ht)).trans (hk t ht)⟩
 ·intro r r' l l' b h1 h2 k1 k2
  rcases hcase h1 with⟨i,hi,hi',h3⟩|⟨hi,h3⟩<;>rcases hcase h2 with⟨j,hj,hj',h4⟩|⟨hj,h4⟩
  ·have:=hc1.wf.inj i j l l' b h3 h4 k1 k2;subst this;rw[hi]at hj;exact Option.some.inj hj
  ·exact absurd (ho1 b ⟨i,l,h3,k1⟩) (hot hj h4 k2)
  ·exact absurd (ho1 b ⟨j,l',h4,k2⟩) (hot hi h3 k1)
  ·exact hc.wf.inj r r' l l' b h3 h4 k1 k2
 ·intro r l b h1 k1
  rcases hcase h1 with⟨i,hi,_,h3⟩|⟨hi,h3⟩
  ·obtain⟨p1,p2,_⟩:=hc1.wf.own i l b h3 k1;exact⟨p1,fun h=>p2 (Or.inl h),trivial⟩
  ·obtain⟨p1,p2,p3⟩:=hc.wf.own r l b h3 k1;exact⟨qq p1 hx1'.size,p2,p3⟩
 ·intro r l h1
  rcases hcase h1 with⟨i,hi,_,h3⟩|⟨hi,h3⟩
  ·exact hlt r (qd hi)
  ·exact hL r (hc.wf.given r l h3)
 ·intro b h
  trivial
 ·have gen:∀(l:Tm),(∀p∈l,e8 w' (Sx S0 (bkρ gs ρ ρ1)) (bkρ gs ρ ρ1) (fun r=>r<H.length) p.2 (a'.tmps.getD p.1 undef))->∀t,e8 w' (Sx S0 (bkρ gs ρ ρ1)) (bkρ gs ρ ρ1) (fun r=>r<H.length) (i8 l t) (a'.tmps.getD t undef):=by
   intro l
   induction l with
   |nil=>intro _ t;exact .pure _ _ (.any _)
   |cons p l ih=>
    intro h t;obtain⟨i,x⟩:=p;simp only[i8]
    split
    ·rename_i e;subst e;exact h (_,x) (by simp)
    ·exact ih (fun p hp=>h p (by simp[hp])) t
  refine gen _ fun p hp=>?_;unfold a9O at hp;rw[List.mem_append]at hp
  rcases hp with hp|hp
  ·obtain⟨t,_,rfl⟩:=List.mem_map.1 hp;exact b0v hnd hlt hkind (hc1.tmps t)
  ·obtain⟨t,ht,rfl⟩:=List.mem_map.1 hp;show e8 _ _ _ _ (p5 _ 40 (i8 T t)) (a'.tmps.getD t undef);rw[hk1 t ht];exact keep _ _ (hc.tmps t)
 ·intro r row hr;unfold b3z at hr;rw[J3]at hr
  split at hr
  ·rename_i q hq;have hqr:q=r:=by
    by_cases h:r<H.length
    ·rw[List.getElem?_range h]at hq;exact(Option.some.inj hq).symm
    ·rw[List.getElem?_eq_none (by simpa using h)]at hq;cases hq
   subst hqr
   split at hr
   ·rename_i i hi;obtain⟨row1,h1,rfl⟩:=qf.1 hr;obtain⟨l,hl,n8⟩:=hc1.rows i row1 h1;refine⟨l,by unfold bkρ;rw[hi];exact hl,?_⟩
    cases row1 with
    |map ag kts kvs=>exact n8
    |mpa ag kts kvs=>obtain⟨b,h1,h2⟩:=n8;exact⟨b,h1,h2.map _ (fun x y h=>b0v hnd hlt hkind h) rfl⟩
    |itr ag kts left cur=>
     exact(a6v hni i _ _ _ _ h1).elim
    |els sz es=>
     obtain⟨k1,k2,k3,k4⟩:=n8;refine⟨k1,?_,fun hb=>by rw[k3 hb];rfl,fun b hb=>?_⟩
     ·intro e he;simp only[List.mem_map]at he;obtain⟨e',he',rfl⟩:=he;simpa using k2 e' he'
     ·obtain⟨c,t,q1,q2,q3,q4⟩:=k4 b hb;refine⟨c,t,q1,q2,by simpa using q3,fun i av hi=>?_⟩;rw[<-List.map_flatten]at hi;simp only[qe,qf]at hi;obtain⟨av0,hi,rfl⟩:=hi;obtain⟨x,p1,p2,p3⟩:=q4 i av0 hi;exact⟨x,p1,p2,b0v hnd hlt hkind p3⟩
   ·rename_i hi;obtain⟨row1,h1,rfl⟩:=qf.1 hr;obtain⟨l,hl,n8⟩:=hc.rows q row1 h1;have hng:=b6d hi;refine⟨l,by unfold bkρ;rw[hi];exact hl,?_⟩;refine(a2U (g:=b5j gs H.length) (S':=Sx S0 ρ) (fun _ h=>h) n8).ext hx1'.size hSx (fun r hr=>(hgf hr).1) (fun r l hr hl=>?_) (fun b hb=>?_)
    ·rw[(hgf hr).2.2.2,<-(hgf hr).2.2.1];exact hl
    ·exact hx1'.block b (hc.wf.own q l b hl hb).1 (hot hng hl hb)
  ·cases hr
 ·intro r hr;unfold b3z at hr;rw[J3]at hr
  by_cases h:r<H.length
  ·rw[List.getElem?_range h]at hr;simp only at hr;unfold bkρ
   split at hr
   ·rename_i i hi;simp only[hi];exact hc1.dead i (by simpa using hr)
   ·rename_i hi;simp only[hi];exact hc.dead r (by simpa using hr)
  ·unfold bkρ
   split
   ·rename_i i hi;exact absurd (hlt r (qd (a9N hi).2)) h
   ·cases hρ:ρ r with
    |none=>rfl
    |some l=>exact absurd (hL r (hc.wf.given r l hρ)) h
 ·intro r hr;simpa [b3z]using hr
 ·rw[hy];refine hJ _ _ _ _ _ _ hj hc.wf.low hc.owned (hx1'.mono fun b hb h=>?_) ?_
  ·rcases h with⟨r,l,h1,h2⟩|h
   ·obtain⟨q,_,h3⟩:=hrg h1;exact⟨q,l,h3,h2⟩
   ·omega
  ·rintro b ⟨r,l,h1,h2⟩
   rcases hcase h1 with⟨i,_,_,h3⟩|⟨_,h3⟩
   ·refine⟨(hc1.wf.own i l b h3 h2).1,?_⟩
    rcases ho1 b ⟨i,l,h3,h2⟩with⟨r',l',h4,h5⟩|h
    ·obtain⟨q,_,h6⟩:=hrg h4;exact Or.inl ⟨q,l',h6,h5⟩
    ·exact Or.inr h
   ·exact⟨qq (hc.wf.own r l b h3 h2).1 hx1'.size,Or.inl ⟨r,l,h3,h2⟩⟩
 ·obtain⟨Ds,q1,q2,q3⟩:=hm1;refine⟨Ds,q1,q2,fun D hD=>?_⟩;obtain⟨p1,p2,p3⟩:=q3 D hD;refine⟨?_,p2,p3⟩
  rcases p1 with h|⟨r,l,hh,h1,h2⟩
  ·exact h
  ·exfalso;have hold:=hx1'.block D (hc.wf.own r l D h1 h2).1 (hot hh.1 h1 h2);rw[p3]at hold
   cases hgr:g8 H r with
   |none=>rw[hc.dead r hgr]at h1;cases h1
   | some row=>
    obtain⟨l',hl',n8⟩:=hc.rows r row hgr;rw[h1]at hl';simp only[qb]at hl';subst hl'
    cases row with
    |els sz es=>
     obtain⟨_,_,_,e4⟩:=n8;obtain⟨c,t,k1,_⟩:=e4 D h2;have k1':w.heap[D]?=some (.cells c t (0,0)):=k1;rw[k1']at hold
     cases hold
    |map ag kts kvs=>
     obtain⟨b',hb',es,clock,hq,_⟩:=n8;rw[h2]at hb';simp only[qb]at hb';subst hb';have hq':w.heap[D]?=some (.map es clock):=hq;rw[hq']at hold
     cases hold
    |mpa ag kts kvs=>
     obtain⟨b',hb',vs,ks,⟨es,clock,hq,_⟩,_⟩:=n8;rw[h2]at hb';simp only[qb]at hb';subst hb';have hq':w.heap[D]?=some (.map es clock):=hq;rw[hq']at hold
     cases hold
    |itr ag kts left cur=>
     obtain⟨b',hb',_,mb,since,seen,c0,es,clock,hq,_⟩:=n8;rw[h2]at hb';simp only[qb]at hb';subst hb';have hq':w.heap[D]?=some (.mapIter (some mb) since seen c0):=hq;rw[hq']at hold
     cases hold
def c4e (P:Program) (ro:Option Nat) (J:Jt) (nt:Nat) (kp0:List Nat) (dsts:List (Option Tmp)) (o:Oper) (b:Code) (Q:Exit->Tm->Hp->Prop) (T:Tm) (H:Hp):Prop:=
 ∃(gs fs us kp:List Nat) (Tf:Tm) (Hx Hf:Hp) (R:Tm->Hp->Prop),(∀r∈gs,r<H.length)/\gs.Nodup/\c4s fs H=true/\b7T gs fs H=Hx/\a4V Hx (gs.map some) T Tf/\a2i Hx (gs.map some)=Hf/\(∀t∈kp0,t∈kp)/\z6 kp dsts=true/\
  (∀J1,JOk J1->(∀kn,b0o J kn->b0o J1 kn)->∀K:Tm->Hp->Prop,(∀T' H',GWp P ro J1 nt kp b T' H' (fun e T' H'=>e= .normal/\a9T H'=true/\R T' H')->K T' H')->H4 P nt dsts [o] Tf Hf K)/\
  ∀T' H',R T' H'->i8 (a9O gs us kp H.length T T') 999999=i8 T 999999/\Q .normal (a9O gs us kp H.length T T') (b3z gs H H')
theorem c4p {P:Program} {ro:Option Nat} {J:Jt} {nt:Nat} {kp:List Nat} {T:Tm} {H:Hp} {Q:Exit->Tm->Hp->Prop} {id:Nat} {ops:List Oper} {b:Code} {dsts:List (Option Tmp)} (hne:ops≠[]) (hd:ops.map (·.dst)=dsts) (hnt:nt<=999999) (hkp:z6 kp dsts=true) (hnd:ops.all o4=true)
  (h:∀K:Tm->Hp->Prop,(∀T' H',c4e P ro J nt kp dsts (ops.getLast hne) b Q T' H'->K T' H')->H4 P nt dsts ops.dropLast T H K):GWp P ro J nt kp (.seq (.region id ops.toArray false) b) T H Q:=by
 intro hJ kv a w hs;have e:=List.dropLast_concat_getLast hne;have hall:=qn.1 hnd;have hdj:∀j:Nat,dsts[j]?=(ops.toArray[j]?).map (·.dst):=by intro j;rw[<-hd,qe,List.getElem?_toArray]
 let QQ:Exit->Act->World->Prop:=fun e a' w'=>e= .normal/\b.wpIn (fr ro) 0 P (fun e a' w'=>∃T' H',Q e T' H'/\SG J nt kp kv T' H' a' w') a' w'
 refine wpIn_seq (wpIn_mono (Q:=QQ) (wpIn_region_lit ?_) ?_)
 ·have key:=A6 (ro:=ro) (kp:=kp) (kv:=kv) (QQ:=QQ) (tail:=[ops.getLast hne]) hJ hnt (ops:=ops.toArray) (dsts:=dsts) (K:=fun T' H'=>c4e P ro J nt kp dsts (ops.getLast hne) b Q T' H')
   hdj hkp ?_ ops.dropLast (fun o' ho'=>⟨hall o' (List.dropLast_subset _ ho'),by rw[<-hd];exact qu (List.dropLast_subset _ ho')⟩) T H a w (h _ fun T' H' h=>h) hs
  ·rw[e]at key;exact key
  rintro T1 H1 a1 w1 ⟨gs,fs,us,kp',Tf,Hx,Hf,R,q1,q2,q3,q4,q5,q6,q7,q8,hin,hout⟩ hs1;obtain⟨J1,hJ1,hkn,hs2,back⟩:=b6Q hJ hs1 gs fs us kp' Tf Hx Hf q1 q2 q3 q4 q5 q6 q7;have key2:=A6 (ro:=ro) (kp:=kp') (QQ:=QQ) (tail:=[]) hJ1 hnt (ops:=ops.toArray) (dsts:=dsts) (K:=fun T' H'=>GWp P ro J1 nt kp' b T' H' (fun e T' H'=>e= .normal/\a9T H'=true/\R T' H'))
   hdj q8 ?_ [ops.getLast hne] (fun o' ho'=>by
    simp only[List.mem_singleton]at ho';subst ho';exact⟨hall _ (List.getLast_mem hne),by rw[<-hd];exact qu (List.getLast_mem hne)⟩) Tf Hf a1 w1 (hin J1 hJ1 hkn _ fun T' H' h=>h) hs2
  ·simpa using key2
  intro T2 H2 a2 w2 hb hs3;show QQ .normal a2 w2;refine⟨rfl,wpIn_mono (hb hJ1 _ a2 w2 hs3) ?_⟩;rintro e' a' w' ⟨T',H',⟨rfl,hni,hR⟩,s⟩;obtain⟨hy,ho⟩:=hout T' H' hR;exact⟨_,_,ho,back T' H' a' w' hni s hy⟩
 ·rintro e' a' w' ⟨rfl,h⟩;exact h
def c6o (P:Program) (ro:Option Nat) (J:Jt) (nt:Nat) (kp:List Nat) (dsts:List (Option Tmp)) (l:List Oper) (y:Code) (Q:Exit->Tm->Hp->Prop) (T:Tm) (H:Hp):Prop:=
 ∃T2 H2,(∀kv a w,SG J nt kp kv T H a w->SG J nt kp kv T2 H2 a w)/\∀K:Tm->Hp->Prop,(∀T' H',GWp P ro J nt kp y T' H' Q->K T' H')->H4 P nt dsts l T2 H2 K
theorem c2B {P:Program} {ro:Option Nat} {J:Jt} {nt:Nat} {kp:List Nat} {T:Tm} {H:Hp} {Q:Exit->Tm->Hp->Prop} {id:Nat} {ops:List Oper} {y:Code} {dsts:List (Option Tmp)} (n:Nat) (hd:ops.map (·.dst)=dsts) (hnt:nt<=999999) (hkp:z6 kp dsts=true) (hnd:ops.all o4=true)
  (h:∀K:Tm->Hp->Prop,(∀T' H',c6o P ro J nt kp dsts (ops.drop n) y Q T' H'->K T' H')->H4 P nt dsts (ops.take n) T H K):GWp P ro J nt kp (.seq (.region id ops.toArray false) y) T H Q:=by
 intro hJ kv a w hs;have hall:=qn.1 hnd;have hdj:∀j:Nat,dsts[j]?=(ops.toArray[j]?).map (·.dst):=by intro j;rw[<-hd,qe,List.getElem?_toArray]
 have hsub:∀{o'},o'∈ops->o4 o'=true/\o'.dst∈dsts:=fun {o'} ho'=>⟨hall o' ho',by rw[<-hd];exact qu ho'⟩
 let QQ:Exit->Act->World->Prop:=fun e a' w'=>e= .normal/\y.wpIn (fr ro) 0 P (fun e a' w'=>∃T' H',Q e T' H'/\SG J nt kp kv T' H' a' w') a' w'
 refine wpIn_seq (wpIn_mono (Q:=QQ) (wpIn_region_lit ?_) ?_)
 ·have key:=A6 (ro:=ro) (kp:=kp) (kv:=kv) (QQ:=QQ) (tail:=ops.drop n) hJ hnt (ops:=ops.toArray) (dsts:=dsts) (K:=fun T' H'=>c6o P ro J nt kp dsts (ops.drop n) y Q T' H')
   hdj hkp ?_ (ops.take n) (fun o' ho'=>hsub (List.mem_of_mem_take ho')) T H a w (h _ fun T' H' h=>h) hs
  ·rw[List.take_append_drop]at key;exact key
  rintro T1 H1 a1 w1 ⟨T2,H2,hsg,hk⟩ hs1;have key2:=A6 (ro:=ro) (kp:=kp) (kv:=kv) (QQ:=QQ) (tail:=[]) hJ hnt (ops:=ops.toArray) (dsts:=dsts) (K:=fun T' H'=>GWp P ro J nt kp y T' H' Q)
   hdj hkp ?_ (ops.drop n) (fun o' ho'=>hsub (List.mem_of_mem_drop ho')) T2 H2 a1 w1 (hk _ fun T' H' h=>h) (hsg _ _ _ hs1)
  ·rw[List.append_nil]at key2;exact key2
  intro T3 H3 a3 w3 hb hs3;show QQ .normal a3 w3;exact⟨rfl,hb hJ _ _ _ hs3⟩
 ·rintro e' a' w' ⟨rfl,h⟩;exact h
theorem b7E {J:Jt} {nt:Nat} {kp:List Nat} {kv:Nat->Value} {T:Tm} {H:Hp} {a:Act} {w:World} {kn:List (List KC×AV×Value)} (t:Nat) {x:List KC×AV×Value} {k:Value} (hx:x∈kn) (hkn:b0o J kn) (ht:i8 T t= .tup [.v k, .v x.2.2]) (hne:t≠999999)
  (hs:SG J nt kp kv T H a w):SG J nt kp kv (a2t T (some t) (.tup [.v k,x.2.1])) H a w:=by
 obtain⟨⟨S0,ρ,L,hc,hL,hj,hm⟩,hk⟩:=hs;refine⟨⟨S0,ρ,L,⟨hc.wf,hc.size,hc.defers,fun i=>?_,hc.rows,hc.dead⟩,hL,?_,hm⟩,hk⟩
 ·rw[x5]
  split
  ·rename_i e;simp only[qb]at e;subst e;have h1:=hc.tmps t;rw[ht]at h1;obtain⟨vs,h2,hl,hcs⟩:=L5 h1;rw[h2]
   match vs,hl with
   |[p,q],_=>
    have hp:=j5 (hcs 0 _ p rfl rfl);have hq:=j5 (hcs 1 _ q rfl rfl);subst hp hq;refine .tup _ _ rfl fun i c u h1 h2=>?_
    match i,h1,h2 with
    |0,h1,h2=>simp at h1 h2;subst h1 h2;exact .pure _ _ (.v _)
    |1,h1,h2=>simp at h1 h2;subst h1 h2;exact .pure _ _ (hkn _ _ _ _ hj x hx)
  ·exact hc.tmps i
 ·rw[x5,if_neg (fun e=>hne (by simpa using e))];exact hj
theorem b5y {nt:Nat} {T:Tm} {H:Hp} (q j:Nat) {sz:Nat} {e:List AV} {x:Value} {r i o:Nat} (hr:g8 H q=some (.els sz [e])) (hj:e[j]?=some (.fptr x r i o)):Sub nt T H T (p9 H q (some (.els sz [e.set j (.v x)]))):=by
 rintro w0 B S0 a w ⟨⟨ρ,L,hc,hL⟩,hext⟩;have hql:=W4 hr;refine⟨⟨ρ,L,⟨hc.wf,hc.size,hc.defers,hc.tmps,fun r' row hr'=>?_,fun r' hr'=>?_⟩,fun r' hr'=>by rw[O4 _ _ _ hql];exact hL r' hr'⟩,hext⟩
 ·rw[y5 _ _ _ _ (by omega)]at hr'
  split at hr'
  ·rename_i e';subst e';simp only[qb]at hr';subst hr';obtain⟨l,hl,n8⟩:=hc.rows r' _ hr;refine⟨l,hl,a3W n8 (by simp) fun k a' ha=>?_⟩
   by_cases hkj:k=j
   ·subst hkj;have hkl:k<e.length:=(qa.1 hj).1;rw[List.getElem?_set_self hkl]at ha;simp only[qb]at ha;subst ha;refine⟨_,hj,fun y _ hy=>?_⟩
    cases hy with
    |pure _ _ h=>cases h
    |fptr _ _ _ _ h=>exact .pure _ _ (.v _)
   ·rw[List.getElem?_set_ne (fun e=>hkj e.symm)]at ha;exact⟨a',ha,fun _ _ h=>h⟩
  ·exact hc.rows r' row hr'
 ·rw[y5 _ _ _ _ (by omega)]at hr'
  split at hr'
  ·cases hr'
  ·exact hc.dead r' hr'
theorem b4w {nt:Nat} {T:Tm} {H:Hp} (q j q' j':Nat) {sz sz':Nat} {e e':List AV} {x:Value} {r i o:Nat} (hr:g8 H q=some (.els sz [e])) (hj:e[j]?=some (.v x)) (hr':g8 H q'=some (.els sz' [e'])) (hj':e'[j']?=some (.fptr x r i o)):Sub nt T H T (p9 H q (some (.els sz [e.set j (.fptr x r i o)]))):=by
 rintro w0 B S0 a w ⟨⟨ρ,L,hc,hL⟩,hext⟩;have hql:=W4 hr;have hx:e8 w (Sx S0 ρ) ρ L (.fptr x r i o) x:=by
  obtain⟨l,hl,_,_,e3,e4⟩:=hc.rows q' _ hr'
  cases hb:l.b with
  |none=>cases e3 hb
  |some b=>
   obtain⟨cc,t,k1,k2,k3,k4⟩:=e4 b hb;simp only[List.flatten_cons,List.flatten_nil,List.append_nil]at k4;obtain⟨x',p1,p2,p3⟩:=k4 j' _ hj'
   cases p3 with
   |pure _ _ h=>cases h
   |fptr _ _ _ _ h=>exact .fptr _ _ _ _ h
 refine⟨⟨ρ,L,⟨hc.wf,hc.size,hc.defers,hc.tmps,fun r' row hr'=>?_,fun r' hr'=>?_⟩,fun r' hr'=>by rw[O4 _ _ _ hql];exact hL r' hr'⟩,hext⟩
 ·rw[y5 _ _ _ _ (by omega)]at hr'
  split at hr'
  ·rename_i e';subst e';simp only[qb]at hr';subst hr';obtain⟨l,hl,n8⟩:=hc.rows r' _ hr;refine⟨l,hl,a3W n8 (by simp) fun k a' ha=>?_⟩
   by_cases hkj:k=j
   ·subst hkj;have hkl:k<e.length:=(qa.1 hj).1;rw[List.getElem?_set_self hkl]at ha;simp only[qb]at ha;subst ha;refine⟨_,hj,fun y _ hy=>?_⟩
    cases hy with
    |pure _ _ h=>cases h;exact hx
   ·rw[List.getElem?_set_ne (fun e=>hkj e.symm)]at ha;exact⟨a',ha,fun _ _ h=>h⟩
  ·exact hc.rows r' row hr'
 ·rw[y5 _ _ _ _ (by omega)]at hr'
  split at hr'
  ·cases hr'
  ·exact hc.dead r' hr'
end Go.AM
end
section
namespace Go.Tram.Lk
open Go.AM Go.Proofs
@[simp high] theorem c3K (l:List Car) (gs:List Nat):(o3 l).map (fun p=>(p.1,bkM gs p.2))=o3 l:=by
 unfold o3;rw[List.map_map];refine List.map_congr_left fun c _=>?_;simp[bkM,b0t,c5g,List.all_map]
theorem b5f {l:List Car} {c:Car} (h:∀x∈l,x.Name≠c.Name):O1 (o3 l) (kOf c.Name) c.av=o3 (l++[c]):=by
 induction l with
 |nil=>rfl
 |cons x l ih=>
  have ih:=ih fun y hy=>h y (by simp[hy]);unfold o3 at ih ⊢;rw[List.map_cons,O1,if_neg,ih]
  ·rfl
  ·intro e;have:=h x (by simp);simp at e;exact this e.symm
theorem b5l {k:List KC} {a:AV} {l:List Car} (h:(k,a)∈o3 l):∃c∈l,k=kOf c.Name/\a=c.av:=by
 unfold o3 at h;obtain⟨c,hc,e⟩:=List.mem_map.1 h;simp only[qr]at e;exact⟨c,hc,e.1.symm,e.2.symm⟩
section
variable (X:Value) (s:j0) (fo si up:Kvs) (cs:List Car) (ps:List Int) (nx nd:j8)
abbrev Ent:=List KC×AV×Value
def b9B (x:Ent):List KC×Value:=(x.1,x.2.2)
def b3W (x:Ent):List KC×AV:=(x.1,x.2.1)
structure c5n (cs:List Car) (kn left:List Ent) (ds:List Car):Prop where
 mem:∀y∈left,y∈kn
 perm:(o3 ds++left.map b3W).Perm (o3 cs)
theorem a6p {α:Type}:∀{l:List α} {i:Nat} {y:α},l[i]?=some y->(y::l.eraseIdx i).Perm l
 |[],i,y,h=>by simp at h
 |x::l,0,y,h=>by simp at h;subst h;simp
 |x::l,i+1,y,h=>by
  have ih:=a6p (l:=l) (i:=i) (y:=y) (by simpa using h);rw[List.eraseIdx_cons_succ];exact(List.Perm.swap _ _ _).trans (ih.cons x)
theorem c5n.car {cs:List Car} {kn left:List Ent} {ds:List Car} (h:c5n cs kn left ds) (hs:Srt cs) {i:Nat} {y:Ent} (hy:left[i]?=some y):∃c∈cs,y=(kOf c.Name,c.av,y.2.2)/\(∀x∈ds,x.Name≠c.Name)/\c5n cs kn (left.eraseIdx i) (ds++[c]):=by
 have hm:b3W y∈o3 cs:=h.perm.mem_iff.1 (List.mem_append_right _ (qu (qd hy)));obtain⟨c,hc,e1,e2⟩:=b5l hm;have hye:b3W y=(kOf c.Name,c.av):=by unfold b3W;simp only[e1,e2]
 have hp:((left.eraseIdx i).map b3W++[b3W y]).Perm (left.map b3W):=by
  have:=(List.perm_append_comm (l₁:=(left.eraseIdx i)) (l₂:=[y])).trans (a6p hy);simpa using this.map b3W
 refine⟨c,hc,?_,?_,⟨fun z hz=>h.mem z (List.mem_of_mem_eraseIdx hz),?_⟩⟩
 ·obtain⟨a,b,v⟩:=y;simp only at e1 e2;rw[e1,e2]
 ·intro x hx e;have hn:=a6l hs;have hn2:((o3 ds++left.map b3W).map (·.1)).Nodup:=(h.perm.map (·.1)).nodup_iff.2 hn
  rw[List.map_append,List.nodup_append]at hn2;refine hn2.2.2 (kOf x.Name) ?_ (kOf c.Name) ?_ (by rw[e])
  ·rw[a2H];exact qu (f:=fun c:Car=>kOf c.Name) hx
  ·rw[List.map_map];have:=qu (f:=(fun x:List KC×AV=>x.1)∘b3W) (qd hy);simpa [hye]using this
 ·have e3:o3 (ds++[c])=o3 ds++[b3W y]:=by rw[hye];simp[o3]
  rw[e3,List.append_assoc];exact((List.perm_append_comm.trans hp).append_left _).trans h.perm
theorem b7C (hcs:b3U s cs) (hne:ps≠[]) (hn:ps.length<=1000):c7 Tryz.prog 66 [.ptr 0 0 0] (stK X s fo si up ps.length) (stD s cs ps nx nd) (.ptr 6 0 0) (stK X s fo si up ps.length) (stD s cs ps nx nd++[some (.els 3 [[.ptr 1 0 0, .mp 7, .row 8 0 ps.length]]),caR cs,ptR ps]):=by
 have htp:List.take ps.length (ps.map f9)=ps.map f9:=qg (by simp);have hcl:=b0Y ps hne hn;refine z9 ?_;refine oG [0] Tryz.func66 Tryz.ntmps66 Tryz.results66 ?_;intro J hJ;refine gW ?_;refine b8l 2 rfl (by simp) (by simp[o3]) fun kn hkp hkn=>?_;simp only[p9,List.cons_append,List.nil_append]
 ·refine gD ?_ fun K hK=>by simp -dsimp [htp];refine a3e [] [] [none,none,none,none,none,none,none,some 0] (hcl) (by decide) rfl (by simp[htp]) (by simp) rfl (by simp) (by simp) (by simp) ?_;simp -dsimp [htp];exact hK
  refine a8 fun K1 hK1=>?_;refine p8 (G0 (a9R 6 (row':= .mpa false [.i .i64] []) (by simp) (by simp) fun _ _ _ _ _=>b0G) (by simp)) ?_;refine p8 (G0 (b5y 8 0 rfl rfl) (by simp)) ?_;simp only[p9,List.set_cons_zero]
  ·refine c4p (List.cons_ne_nil _ _) rfl (by decide) rfl rfl fun K hK=>?_;simp only[List.dropLast];simp -dsimp;refine hK _ _ ⟨[8,6,7],[2],[3],[0],[(3, .ptr 0 0 0),(21, .mpc false [.i .i64] (kn.map b9B))],[none,none,some (.map false [.i .i64] (kn.map b9B)),none,none,none,some (.mpa false [.i .i64] []),ptR ps,some (.els 3 [[.v X, .mp 6, .row 7 0 ps.length]])],[some (.els 3 [[.v X, .mp 1, .row 2 0 ps.length]]),some (.mpa false [.i .i64] []),ptR ps],fun T' H'=>Go.AM.i8 T' 3= .ptr 0 0 0/\∃ds:List Car,(o3 ds).Perm (o3 cs)/\H'=[some (.els 3 [[.v X, .mp 1, .row 2 0 ps.length]]),some (.mpa false [.i .i64] (o3 ds)),ptR ps],by simp,by decide,rfl,rfl,⟨.inr (by simp), .inr (by simp),trivial⟩,by simp,by decide,by decide,?_,?_⟩<;>clear hK K
   ·intro J1 hJ1 hkn1 K hK;simp only[List.getLast];simp -dsimp;apply hK;clear hK K;refine c8 ?_;refine gP [0,3,22] ?_;refine e9 [0,3,22] (α:=List Ent×Option Ent×List Car) (fun x=>[]) (fun x=>[some (.els 3 [[.v X, .mp 1, .row 2 0 ps.length]]),some (.mpa false [.i .i64] (o3 x.2.2)),ptR ps,some (.itr false [.i .i64] (x.1.map b9B) (x.2.1.map b9B))]) (fun x=>c5n cs kn x.1 x.2.2) (fun x=>x.1.length) (kn,none,[]) ?_ ?_ ?_
    ·exact⟨fun y hy=>hy,by show(o3 []++kn.map b3W).Perm (o3 cs);exact hkp⟩
    ·exact G0 (c9 (by simp)) (by simp)
    rintro⟨left,cur,ds⟩ ix;simp only at ix ⊢;refine zN ?_;refine c4d (.tmp 22) 3 rfl (by decide) rfl rfl rfl rfl (by simp) (by simp) rfl (fun hl0 K hK=>?_) (fun i e hie K hK=>?_)
    ·obtain rfl:left=[]:=by simpa using hl0
     simp -dsimp;apply hK;clear hK K;refine a8 fun K2 hK2=>?_;refine c3 rfl (fun hc0=>?_) (fun hc0=>?_)
     ·simp at hc0
     ·refine p8 (G0 (g7 (T':=[(3, .ptr 0 0 0)]) (H':=[some (.els 3 [[.v X, .mp 1, .row 2 0 ps.length]]),some (.mpa false [.i .i64] (o3 ds)),ptR ps]) [some 0,some 1,some 2] rfl (by simp) (by simp)) (by simp)) ?_;refine o5 ?_;refine zQ ?_;exact⟨trivial,rfl,by simp,ds,by simpa using ix.perm,rfl⟩
    ·obtain⟨y,hy,rfl⟩:∃y,left[i]?=some y/\b9B y=e:=by simpa using hie
     obtain⟨c,hc,hye,hnew,hci⟩:=ix.car hcs.srt hy;have hym:=ix.mem y (qd hy);have hcl2:=(hcs.bd c hc).2;have hcln:=a2m c.Way (by have:=(i9 (hcs.car c hc)).2.2.1.1;intro e;rw[e]at this;simp at this) hcl2;have hty:List.take c.Way.length (List.map Move.cells c.Way)=List.map Move.cells c.Way:=qg (by simp);have hks:O1 (o3 ds) (kOf c.Name) (.agg [I c.Name,I c.Profile,a1t c.Way,I c.Front])=o3 (ds++[c]):=b5f hnew;obtain⟨yk,ya,yv⟩:=y;simp only[qr,and_true]at hye;obtain⟨rfl,rfl⟩:=hye;simp only[b9B];simp -dsimp;apply hK;clear hK K;refine a8 fun K3 hK3=>?_;refine c3 rfl (fun hc0=>?_) (fun hc0=>?_)
     ·refine c5 ?_;refine zQ (hK3 _ _ ?_);refine gP [0,3,22] ?_;refine c8 ?_;refine c2B 1 rfl (by decide) rfl rfl fun K hK=>?_;simp only[List.take_succ_cons,List.take_zero,List.drop_succ_cons,List.drop_zero];simp -dsimp;refine hK _ _ ⟨_,_,fun kv a w hs=>b7E 25 hym (hkn1 _ (a4X _ _)) rfl (by decide) hs,?_⟩;clear hK K;intro K hK;simp -dsimp;apply hK;clear hK K;refine gW ?_ fun K hK=>by simp -dsimp;refine cM [] [] (hcln) ?_;simp -dsimp;exact hK
      refine gU (T':=[(3, .ptr 0 0 0),(4,I c.Name),(5, .ptr 4 0 0),(22, .ptr 3 0 0)]) (H':=[some (.els 3 [[.v X, .mp 1, .row 2 0 ps.length]]),some (.mpa false [.i .i64] (o3 ds)),ptR ps,some (.itr false [.i .i64] ((left.eraseIdx i).map b9B) (some (kOf c.Name,yv))),some (.els 4 [c.cells])]) [some 0,some 1,some 2,some 3,some 4] ?_ (hH:=by simp[hty,O3,b9B]);refine gE ?_ fun K hK=>by simp -dsimp [hks];exact hK
      refine zQ ?_;have hil:=(qa.1 hy).1;exact⟨(left.eraseIdx i,some (kOf c.Name,c.av,yv),ds++[c]),hci,by simp only[List.length_eraseIdx,if_pos hil];omega,gB [some 0,some 1,some 2,some 3] (hH:=by simp[b9B])⟩
     ·simp at hc0
   ·intro T' H' hR;obtain⟨hR,ds,hds,rfl⟩:=hR;have hg:b5j [8,6,7] 9=[some 0,some 1,some 2,some 3,some 4,some 5,none,none,none]:=rfl;have hr:List.range 9=[0,1,2,3,4,5,6,7,8]:=rfl;have e1:bkM [8,6,7] (.ptr 0 0 0)= .ptr 8 0 0:=rfl;have e2:a6b [8,6,7] (.mpa false [.i .i64] (o3 ds))= .mpa false [.i .i64] (o3 ds):=by simp[a6b]
    have e3:a6b [8,6,7] (.els 1 (ps.map f9))= .els 1 (ps.map f9):=by simp[a6b,f9,bkM]
    have e4:a6b [8,6,7] (.els 3 [[.v X, .mp 1, .row 2 0 ps.length]])= .els 3 [[.v X, .mp 6, .row 7 0 ps.length]]:=rfl;have f0:List.findIdx? (fun x=>x==0) [8,6,7]=none:=rfl;have f1:List.findIdx? (fun x=>x==1) [8,6,7]=none:=rfl;have f2:List.findIdx? (fun x=>x==2) [8,6,7]=none:=rfl;have f3:List.findIdx? (fun x=>x==3) [8,6,7]=none:=rfl;have f4:List.findIdx? (fun x=>x==4) [8,6,7]=none:=rfl;have f5:List.findIdx? (fun x=>x==5) [8,6,7]=none:=rfl;have f6:List.findIdx? (fun x=>x==6) [8,6,7]=some 1:=rfl;have f7:List.findIdx? (fun x=>x==7) [8,6,7]=some 2:=rfl;have f8:List.findIdx? (fun x=>x==8) [8,6,7]=some 0:=rfl;refine⟨by simp[a9O],?_⟩;simp only[a9O,b3z,e1,Option.map_some,f0,f1,f2,f3,f4,f5,f6,f7,f8,g8,e2,e3,e4,List.length_cons,List.length_nil,Nat.reduceAdd,Nat.zero_add,hg,hr,List.map_cons,List.map_nil,List.cons_append,List.nil_append,hR];refine zQ (hK1 _ _ ?_);refine gP [0,3] ?_;refine gW ?_;refine b6W 2 (o3 cs) (a4X _ _) rfl (by simp) hkp hkn ?_;refine p8 (G0 (a1g 6 rfl hds) (by simp)) ?_;refine p8 (G0 (b4w 8 0 0 0 rfl rfl rfl rfl) (by simp)) ?_;refine p8 (G0 (C9 8 0 rfl rfl) (by simp)) ?_;exact d9 (gT [some 0,some 1,some 2,some 3,some 4,some 5,some 8,some 6,some 7])
end
end Go.Tram.Lk
end
section
namespace Go.Tram.Lk
open Go.AM Go.Proofs
def cwC (c:Car):List AV:=if c.Way=[]then c0C c else c.cells
def cwA (c:Car):AV:= .agg (cwC c)
theorem a7p {c:Car} (h:c.Way=[]):cwC c=c0C c:=if_pos h
theorem b1n {c:Car} (h:c.Way≠[]):cwC c=c.cells:=if_neg h
def GrT (s:j0) (fo si up:Kvs) (cs:List Car) (ps:List Int) (nx nd:j8) (c:Car) (m:Move) (M:j8×j8):Prop:=∀X:Value,
 ((u7 s ⟨cs,ps⟩ c m).Kind=0->c7 Tryz.prog 51 [.ptr 0 0 0,cwA c,m.av] (stK X s fo si up ps.length) (stD s cs ps nx nd) (.tup [(r5 c m).av,G7 ⟨0,0⟩]) (stK X s fo si up ps.length) (stD s cs (a3C s c m ps) M.1 M.2++grR (r5 c m).cells ⟨0,0⟩))/\
 ((u7 s ⟨cs,ps⟩ c m).Kind≠0->c7 Tryz.prog 51 [.ptr 0 0 0,cwA c,m.av] (stK X s fo si up ps.length) (stD s cs ps nx nd) (.tup [.agg a3M,G7 (u7 s ⟨cs,ps⟩ c m)]) (stK X s fo si up ps.length) (stD s cs ps M.1 M.2++grR a3M (u7 s ⟨cs,ps⟩ c m)))
open Classical in
noncomputable def gM (s:j0) (fo si up:Kvs) (cs:List Car) (ps:List Int) (nx nd:j8) (c:Car) (m:Move):j8×j8:=if h:∃M,GrT s fo si up cs ps nx nd c m M then h.choose else([],[])
theorem c1P {s:j0} {fo si up:Kvs} (hru:b1C s fo si up) {cs:List Car} (hcs:b3U s cs) {ps:List Int} (nx nd:j8) {c:Car} {m:Move} (hs:Q2 s=true) (hpl:ps.length=s.Plan.Nodes.length) (hw:c.Way≠[]->wayB s.Plan c.Way=true) (hm:C6 s.Plan m=true) (hl:c.Way.length<=1000):GrT s fo si up cs ps nx nd c m (gM s fo si up cs ps nx nd c m):=by
 have h:∃M,GrT s fo si up cs ps nx nd c m M:=by
  unfold GrT cwA
  by_cases hne:c.Way=[]<;>by_cases hr:(u7 s ⟨cs,ps⟩ c m).Kind=0
  ·obtain⟨a,b,h⟩:=b0D hru hcs nx nd hs hpl hw hm hl hne hr;exact⟨(a,b),fun X=>⟨fun _=>by rw[a7p hne];exact h X,fun h=>absurd hr h⟩⟩
  ·obtain⟨a,b,h⟩:=a9w hru hcs nx nd hs hpl hw hm hl hne hr;exact⟨(a,b),fun X=>⟨fun h=>absurd h hr,fun _=>by rw[a7p hne];exact h X⟩⟩
  ·obtain⟨a,b,h⟩:=a4E hru hcs nx nd hs hpl hw hm hl hne hr;exact⟨(a,b),fun X=>⟨fun _=>by rw[b1n hne];exact h X,fun h=>absurd hr h⟩⟩
  ·obtain⟨a,b,h⟩:=a4M hru hcs nx nd hs hpl hw hm hl hne hr;exact⟨(a,b),fun X=>⟨fun h=>absurd h hr,fun _=>by rw[b1n hne];exact h X⟩⟩
 unfold gM;rw[dif_pos h];exact h.choose_spec
def E7 (s:j0) (cs:List Car):List Move->List Int->Car->b3q×List Int×Car
 |[],ps,c=>(⟨0,0⟩,ps,c)
 |m::l,ps,c=>if (u7 s ⟨cs,ps⟩ c m).Kind=0 then E7 s cs l (a3C s c m ps) (r5 c m)else(u7 s ⟨cs,ps⟩ c m,ps,c)
noncomputable def enterM (s:j0) (fo si up:Kvs) (cs:List Car):List Move->List Int->j8->j8->Car->j8×j8
 |[],ps,nx,nd,c=>(nx,nd)
 |m::l,ps,nx,nd,c=>if (u7 s ⟨cs,ps⟩ c m).Kind=0 then enterM s fo si up cs l (a3C s c m ps) (gM s fo si up cs ps nx nd c m).1 (gM s fo si up cs ps nx nd c m).2 (r5 c m)else gM s fo si up cs ps nx nd c m
theorem b7Y (s:j0) (c:Car) (m:Move) (ps:List Int):(a3C s c m ps).length=ps.length:=by unfold a3C;split<;>simp
structure a7L (s:j0) (fo si up:Kvs) (cs:List Car) (ps0:List Int) (nx0 nd0:j8) (c0:Car) (way:List Move) (k:Nat) (c:Car) (ps:List Int) (nx nd:j8):Prop where
 le:k<=way.length
 name:c.Name=c0.Name
 prof:c.Profile=c0.Profile
 front:c.Front=c0.Front
 wy:c.Way=way.take k
 len:ps.length=ps0.length
 law:E7 s cs way ps0 c0=E7 s cs (way.drop k) ps c
 memo:enterM s fo si up cs way ps0 nx0 nd0 c0=enterM s fo si up cs (way.drop k) ps nx nd c
theorem a7L.zero (s:j0) (fo si up:Kvs) (cs:List Car) (ps0:List Int) (nx0 nd0:j8) {c0:Car} (way:List Move) (h:c0.Way=[]):a7L s fo si up cs ps0 nx0 nd0 c0 way 0 c0 ps0 nx0 nd0:=
 ⟨qp _,rfl,rfl,rfl,by simpa using h,rfl,rfl,rfl⟩
section
variable {s:j0} {fo si up:Kvs} {cs:List Car} {ps0 ps:List Int} {nx0 nd0 nx nd:j8} {c0 c:Car} {way:List Move} {k:Nat} {m:Move}
theorem a7L.drop (hm:way[k]?=some m):way.drop k=m::way.drop (k+1):=by
 obtain⟨h1,h2⟩:=qa.1 hm;rw[List.drop_eq_getElem_cons h1,h2]
theorem a7L.ok (h:a7L s fo si up cs ps0 nx0 nd0 c0 way k c ps nx nd) (hm:way[k]?=some m) (hr:(u7 s ⟨cs,ps⟩ c m).Kind=0):a7L s fo si up cs ps0 nx0 nd0 c0 way (k+1) (r5 c m) (a3C s c m ps) (gM s fo si up cs ps nx nd c m).1 (gM s fo si up cs ps nx nd c m).2:=by
 refine⟨(qa.1 hm).1,h.name,h.prof,h.front,?_,by rw[b7Y];exact h.len,?_,?_⟩
 ·show c.Way++[m]=_;rw[h.wy,qz,hm];rfl
 ·rw[h.law,a7L.drop hm,E7,if_pos hr]
 ·rw[h.memo,a7L.drop hm,enterM,if_pos hr]
theorem a7L.no (h:a7L s fo si up cs ps0 nx0 nd0 c0 way k c ps nx nd) (hm:way[k]?=some m) (hr:(u7 s ⟨cs,ps⟩ c m).Kind≠0):E7 s cs way ps0 c0=(u7 s ⟨cs,ps⟩ c m,ps,c)/\enterM s fo si up cs way ps0 nx0 nd0 c0=gM s fo si up cs ps nx nd c m:=by
 refine⟨?_,?_⟩
 ·rw[h.law,a7L.drop hm,E7,if_neg hr]
 ·rw[h.memo,a7L.drop hm,enterM,if_neg hr]
theorem a7L.fin (h:a7L s fo si up cs ps0 nx0 nd0 c0 way way.length c ps nx nd):E7 s cs way ps0 c0=(⟨0,0⟩,ps,c)/\enterM s fo si up cs way ps0 nx0 nd0 c0=(nx,nd):=by
 refine⟨?_,?_⟩
 ·rw[h.law,List.drop_length];rfl
 ·rw[h.memo,List.drop_length];rfl
theorem a7L.wayB (h:a7L s fo si up cs ps0 nx0 nd0 c0 way k c ps nx nd) (hw:Go.Tram.wayB s.Plan way=true) (hne:c.Way≠[]):Go.Tram.wayB s.Plan c.Way=true:=by
 rw[h.wy]at hne ⊢;refine b1E hw ?_
 cases k with
 |zero=>simp at hne
 |succ k=>omega
end
section
variable (s:j0) (fo si up:Kvs) (nx nd:j8) (cs:List Car) (ps:List Int) (name profile:Int) (way:List Move)
theorem b6O (hv:d8 s.Plan=true) (hp:s.Profiles.length<=100000) (hl:way.length<=1000) (hc:a1k s ⟨name,profile,way,0⟩=false):
  c7 Tryz.prog 28 [.ptr 0 0 0,I name,I profile,a1t way] lkK (lkD s fo si up nx nd cs ps) (.tup [G7 ⟨0,0⟩,I 2]) lkK (lkD s fo si up nx nd cs ps):=by
 have hcar:=fun x y=>b1f s fo si up x y ⟨name,profile,way,0⟩ hv hp hl;rw[hc]at hcar;unfold d5 at hcar;refine oG [0] Tryz.func28 Tryz.ntmps28 Tryz.results28 ?_;intro J hJ;refine gW ?_;refine a8 fun K1 hK1=>?_;refine gW ?_ fun K hK=>by simp -dsimp;refine cI (L8 _) ?_;simp -dsimp;exact hK
 refine c3 rfl (fun hc0=>?_) (fun hc0=>?_)
 ·simp at hc0
 ·refine c5 ?_;refine zQ (hK1 _ _ ?_);refine gP [0,1,2,3,8] ?_;refine a8 fun K2 hK2=>?_;refine gW ?_ fun K hK=>by simp -dsimp;refine cI (hcar _ _) ?_;simp -dsimp;exact hK
  refine c3 rfl (fun hc1=>?_) (fun hc1=>?_)
  ·refine gW ?_;refine gU (T':=[(0, .ptr 0 0 0),(8, .iptr [I 0,I 0]),(9,I 2)]) (H':=lkK++lkD s fo si up nx nd cs ps) [some 0,some 1,some 2,some 3,some 4,some 5,some 6] ?_;exact d9 (gT [some 0,some 1,some 2,some 3,some 4,some 5,some 6])
  ·simp at hc1
theorem b6A (hv:d8 s.Plan=true) (hp:s.Profiles.length<=100000) (hl:way.length<=1000) (hc:a1k s ⟨name,profile,way,0⟩=true) {c1:Car} (hm:V5 cs name=some c1):
  c7 Tryz.prog 28 [.ptr 0 0 0,I name,I profile,a1t way] lkK (lkD s fo si up nx nd cs ps) (.tup [G7 ⟨0,0⟩,I 5]) lkK (lkD s fo si up nx nd cs ps):=by
 have hcar:=fun x y=>b1f s fo si up x y ⟨name,profile,way,0⟩ hv hp hl;rw[hc]at hcar;unfold d5 at hcar;have hcc:A4 (o3 cs) (kOf name)=some c1.av:=by rw[k7,hm];rfl
 refine oG [0] Tryz.func28 Tryz.ntmps28 Tryz.results28 ?_;intro J hJ;refine gW ?_;refine a8 fun K1 hK1=>?_;refine gW ?_ fun K hK=>by simp -dsimp;refine cI (L8 _) ?_;simp -dsimp;exact hK
 refine c3 rfl (fun hc0=>?_) (fun hc0=>?_)
 ·simp at hc0
 ·refine c5 ?_;refine zQ (hK1 _ _ ?_);refine gP [0,1,2,3,8] ?_;refine a8 fun K2 hK2=>?_;refine gW ?_ fun K hK=>by simp -dsimp;refine cI (hcar _ _) ?_;simp -dsimp;exact hK
  refine c3 rfl (fun hc1=>?_) (fun hc1=>?_)
  ·simp at hc1
  ·refine c5 ?_;refine zQ (hK2 _ _ ?_);refine gP [0,1,2,3,8] ?_;refine a8 fun K3 hK3=>?_;refine gW ?_ fun K hK=>by simp -dsimp;refine d7 (.tup [c1.av,Bo true]) (fun hm=>by rw[hcc];rfl) ?_;simp -dsimp;exact hK
   refine gW ?_;refine c3 rfl (fun hc2=>?_) (fun hc2=>?_)
   ·refine gW ?_;refine gU (T':=[(0, .ptr 0 0 0),(8, .iptr [I 0,I 0]),(9,I 5)]) (H':=lkK++lkD s fo si up nx nd cs ps) [some 0,some 1,some 2,some 3,some 4,some 5,some 6] ?_;exact d9 (gT [some 0,some 1,some 2,some 3,some 4,some 5,some 6])
   ·simp at hc2
end
end Go.Tram.Lk
end
section
namespace Go.Tram.Lk
open Go.AM Go.Proofs
section
variable {s:j0} {fo si up:Kvs} (hru:b1C s fo si up) (nx nd:j8) {cs:List Car} (hcs:b3U s cs) {ps:List Int} {name profile:Int} {way:List Move}
include hru hcs
theorem b6i (hs:Q2 s=true) (hpl:ps.length=s.Plan.Nodes.length) (hp:s.Profiles.length<=100000) (hc:a1k s ⟨name,profile,way,0⟩=true) (hm:V5 cs name=none) (h100:cs.length<100) {c0:Car} (hc0e:c0=⟨name,profile,[],(way.length:Int)-1⟩)
  {r:b3q} {e:Int} {cs2:List Car} {ps2:List Int} {M:j8×j8} (hM:enterM s fo si up cs way ps nx nd c0=M) (h1:∀r1 ps1 c1,E7 s cs way ps c0=(r1,ps1,c1)->r1.Kind≠0->r=r1/\e=6/\cs2=cs/\ps2=ps) (h2:∀ps1 c1,E7 s cs way ps c0=(⟨0,0⟩,ps1,c1)->r=⟨0,0⟩/\e=0/\cs2=B5 cs c1/\ps2=ps1):
  c7 Tryz.prog 28 [.ptr 0 0 0,I name,I profile,a1t way] lkK (lkD s fo si up nx nd cs ps) (.tup [G7 r,I e]) lkK (lkD s fo si up M.1 M.2 cs2 ps2):=by
 obtain⟨hv,_,_,_⟩:=l9 hs;obtain⟨_,_,⟨hw1,hw2,_,hwb⟩,_⟩:=i9 hc;simp only at hw1 hw2 hwb;have hNl:1<=s.Plan.Nodes.length/\s.Plan.Nodes.length<=300:=(j9 hv).1;have hcar:=fun x y=>b1f s fo si up x y ⟨name,profile,way,0⟩ hv hp (by simp only;omega);rw[hc]at hcar;unfold d5 at hcar;have hcc:A4 (o3 cs) (kOf name)=none:=by rw[k7,hm];rfl
 have hcl:(o3 cs).length=cs.length:=by simp[o3]
 have hcop:=fun X=>b7C X s fo si up cs ps nx nd hcs (by intro h;rw[h]at hpl;simp at hpl;omega) (by omega);have wl:IntKind.i64.wrap ((way.length:Int)-1)=(way.length:Int)-1:=c4 (by omega) (by omega);have h100':¬(100:Int)<=(cs.length:Int):=by omega
 have hcw0:cwC c0=[I name,I profile,L7,I ((way.length:Int)-1)]:=by rw[hc0e,a7p rfl];rfl
 refine oG [0] Tryz.func28 Tryz.ntmps28 Tryz.results28 ?_;intro J hJ;refine gW ?_;refine a8 fun K1 hK1=>?_;refine gW ?_ fun K hK=>by simp -dsimp;refine cI (L8 _) ?_;simp -dsimp;exact hK
 refine c3 rfl (fun hc0=>?_) (fun hc0=>?_)
 ·simp at hc0
 ·refine c5 ?_;refine zQ (hK1 _ _ ?_);refine gP [0,1,2,3,8] ?_;refine a8 fun K2 hK2=>?_;refine gW ?_ fun K hK=>by simp -dsimp;refine cI (hcar _ _) ?_;simp -dsimp;exact hK
  refine c3 rfl (fun hc1=>?_) (fun hc1=>?_)
  ·simp at hc1
  ·refine c5 ?_;refine zQ (hK2 _ _ ?_);refine gP [0,1,2,3,8] ?_;refine a8 fun K3 hK3=>?_;refine gW ?_ fun K hK=>by simp -dsimp;refine d7 (.tup [.agg a3M,Bo false]) (fun hm=>by rw[hcc];rfl) ?_;simp -dsimp;exact hK
   refine gW ?_;refine c3 rfl (fun hc2=>?_) (fun hc2=>?_)
   ·simp at hc2
   ·refine c5 ?_;refine zQ (hK3 _ _ ?_);refine gP [0,1,2,3,8] ?_;refine a8 fun K4 hK4=>?_;refine gW ?_ fun K hK=>by simp -dsimp [hcl,b2M];exact hK
    refine c3 rfl (fun hc3=>?_) (fun hc3=>?_)
    ·simp at hc3;omega
    ·refine c5 ?_;refine zQ (hK4 _ _ ?_);refine gP [0,1,2,3,8] ?_;refine a0e 1 0 rfl rfl fun X=>?_;simp only[p9,List.set_cons_zero]
     ·refine gW ?_ fun K hK=>by simp -dsimp;refine cM [1,2] [3,4,5,6] (hcop X) ?_;simp -dsimp;exact hK
      refine gW ?_ fun K hK=>by simp -dsimp [wl];exact hK
      refine a8 fun K5 hK5=>?_;refine gW ?_;refine c8 ?_;refine gP [0,1,8,12,13,70,71,72] ?_;refine e9 [0,1,8,12,13,70,71] (α:=Nat×Car×List Int×j8×j8) (fun x=>[(72,I x.1)]) (fun x=>[some (.els 1 [[.ptr 1 0 0]]),some (.els 3 [[.fptr X 2 0 0, .mp 9, .row 10 0 ps.length]]),ruR s fo si up 11 12,none,none,none,none,some (.els 2 [[I 0,I 0]]),none,caR cs,ptR ps,nxR s x.2.2.2.1,ndR s x.2.2.2.2,some (.els 3 [[.ptr 2 0 0, .mp 14, .row 15 0 ps.length]]),caR cs,ptR x.2.2.1,some (.els 4 [cwC x.2.1])]) (fun x=>a7L s fo si up cs ps nx nd c0 way x.1 x.2.1 x.2.2.1 x.2.2.2.1 x.2.2.2.2) (fun x=>way.length-x.1) (0,c0,ps,nx,nd) ?_ ?_ ?_
      ·exact a7L.zero s fo si up cs ps nx nd way (by rw[hc0e])
      ·exact gB [some 0,some 1,some 2,none,none,none,none,some 7,none,some 9,some 10,some 11,some 12,some 13,some 14,some 15,some 16] (hH:=by simp[hcw0])
      rintro⟨k,c,qs,nx1,nd1⟩ hi;simp only at hi ⊢;refine zN ?_;refine gW ?_;refine a8 fun K6 hK6=>?_;refine c3 rfl (fun hc4=>?_) (fun hc4=>?_)
      ·have hk:k<way.length:=by first|omega|(simp at hc4;omega)
       obtain⟨m,hmg⟩:=gx (l:=way) (i:=k) hk;have hmm:C6 s.Plan m=true:=by have:=E3 hwb k hk;unfold y4 at this;rw[hmg]at this;exact this
       have wk:=zW k (by omega);have hcwl:c.Way.length=k:=by rw[hi.wy,qm];omega
       have hspec:=c1P hru hcs nx1 nd1 hs (by rw[hi.len,hpl]) (hi.wayB hwb) hmm (by omega);have hgl:=hi.len;unfold GrT at hspec;refine c5 ?_;refine zQ (hK6 _ _ ?_);refine gP [0,1,8,12,13,70,71,72] ?_;refine a8 fun K7 hK7=>?_;refine c8 ?_;refine gW ?_ fun K hK=>by simp -dsimp [hmg];exact hK
       refine gW ?_;refine a0e 13 0 rfl rfl fun X2=>?_;simp only[p9,List.set_cons_zero];have hg:=hspec X2;unfold cwA at hg;rw[hi.len]at hg
       rcases Decidable.em (c.Way=[])with hne|hne<;>rcases Decidable.em ((u7 s ⟨cs,qs⟩ c m).Kind=0)with hr|hr
       all_goals first|have hg2:=hg.1 hr|have hg2:=hg.2 hr
       all_goals first|rw[a7p hne]at hg2 ⊢ |rw[b1n hne]at hg2 ⊢
       ·refine gW ?_ fun K hK=>by simp -dsimp;refine cM [13,2] [14,15,11,12] (hg2) ?_;simp -dsimp;exact hK
        refine gW ?_;refine c3 rfl (fun hc5=>?_) (fun hc5=>?_)
        ·simp at hc5
        ·refine c5 ?_;refine zQ (hK7 _ _ ?_);refine gP [0,1,8,12,13,70,71,72] ?_;refine gV ?_ fun K hK=>by simp -dsimp [wk];exact hK
         refine zQ ?_;exact⟨(k+1,r5 c m,a3C s c m qs,(gM s fo si up cs qs nx1 nd1 c m).1,(gM s fo si up cs qs nx1 nd1 c m).2),hi.ok hmg hr,by simp only;omega,G0 ((C9 13 0 rfl rfl).trans (g7 [some 0,some 1,some 2,none,none,none,none,some 7,none,some 9,some 10,some 21,some 22,some 13,some 19,some 20,some 16] rfl (by simp) (by simp[cwC,r5]))) (by simp)⟩
       ·refine gW ?_ fun K hK=>by simp -dsimp;refine cM [13,2] [14,15,11,12] (hg2) ?_;simp -dsimp;exact hK
        refine gW ?_;refine c3 rfl (fun hc5=>?_) (fun hc5=>?_)
        ·refine gW ?_;obtain⟨g1,g2⟩:=hi.no hmg hr;obtain⟨rfl,rfl,rfl,rfl⟩:=h1 _ _ _ g1 hr;rw[g2]at hM;subst hM;refine p8 (G0 (C9 1 0 rfl rfl) (by simp)) ?_;refine gU (T':=[(0, .ptr 0 0 0),(8, .iptr [I (u7 s ⟨cs2,qs⟩ c m).Kind,I (u7 s ⟨cs2,qs⟩ c m).Car]),(9,I 6)]) (H':=lkK++lkD s fo si up (gM s fo si up cs2 qs nx1 nd1 c m).1 (gM s fo si up cs2 qs nx1 nd1 c m).2 cs2 ps2) [some 0,some 1,some 2,some 9,some 10,some 21,some 22] ?_;exact d9 (gT [some 0,some 1,some 2,some 3,some 4,some 5,some 6])
        ·simp[hr]at hc5
       ·refine gW ?_ fun K hK=>by simp -dsimp;refine cM [13,2] [14,15,11,12] (hg2) ?_;simp -dsimp;exact hK
        refine gW ?_;refine c3 rfl (fun hc5=>?_) (fun hc5=>?_)
        ·simp at hc5
        ·refine c5 ?_;refine zQ (hK7 _ _ ?_);refine gP [0,1,8,12,13,70,71,72] ?_;refine gV ?_ fun K hK=>by simp -dsimp [wk];exact hK
         refine zQ ?_;exact⟨(k+1,r5 c m,a3C s c m qs,(gM s fo si up cs qs nx1 nd1 c m).1,(gM s fo si up cs qs nx1 nd1 c m).2),hi.ok hmg hr,by simp only;omega,G0 ((C9 13 0 rfl rfl).trans (g7 [some 0,some 1,some 2,none,none,none,none,some 7,none,some 9,some 10,some 21,some 22,some 13,some 19,some 20,some 16] rfl (by simp) (by simp[cwC,r5]))) (by simp)⟩
       ·refine gW ?_ fun K hK=>by simp -dsimp;refine cM [13,2] [14,15,11,12] (hg2) ?_;simp -dsimp;exact hK
        refine gW ?_;refine c3 rfl (fun hc5=>?_) (fun hc5=>?_)
        ·refine gW ?_;obtain⟨g1,g2⟩:=hi.no hmg hr;obtain⟨rfl,rfl,rfl,rfl⟩:=h1 _ _ _ g1 hr;rw[g2]at hM;subst hM;refine p8 (G0 (C9 1 0 rfl rfl) (by simp)) ?_;refine gU (T':=[(0, .ptr 0 0 0),(8, .iptr [I (u7 s ⟨cs2,qs⟩ c m).Kind,I (u7 s ⟨cs2,qs⟩ c m).Car]),(9,I 6)]) (H':=lkK++lkD s fo si up (gM s fo si up cs2 qs nx1 nd1 c m).1 (gM s fo si up cs2 qs nx1 nd1 c m).2 cs2 ps2) [some 0,some 1,some 2,some 9,some 10,some 21,some 22] ?_;exact d9 (gT [some 0,some 1,some 2,some 3,some 4,some 5,some 6])
        ·simp[hr]at hc5
      ·have hk:k=way.length:=by have:=hi.le;first|omega|(simp at hc4;omega)
       subst hk;obtain⟨g1,g2⟩:=hi.fin;obtain⟨rfl,rfl,rfl,rfl⟩:=h2 _ _ g1;rw[g2]at hM;subst hM;have hgl:=hi.len;have hwy:=hi.wy;rw[List.take_length]at hwy;have hcn:c.Name=name:=by rw[hi.name,hc0e]
       subst hcn;have p9:(O1 (o3 cs) (kOf c.Name) c.av).Perm _:=P3 c hcs.srt;have hcne:c.Way≠[]:=by rw[hwy];intro h;rw[h]at hw1;simp at hw1
       rw[b1n hcne];refine o5 ?_;refine zQ (hK5 _ _ ?_);refine gP [0,1,8,12,13] ?_;refine gD ?_;refine gW ?_;refine gW ?_;refine p8 (G0 (a1g 14 rfl p9) (by simp)) ?_;refine gU (T':=[(0, .ptr 0 0 0),(8, .iptr [I 0,I 0]),(9,I 0)]) (H':=lkK++lkD s fo si up nx1 nd1 (B5 cs c) ps2) [some 0,some 13,some 2,some 14,some 15,some 11,some 12] ?_ (hH:=by simp[hgl]);exact d9 (gT [some 0,some 1,some 2,some 3,some 4,some 5,some 6])
end
end Go.Tram.Lk
end
section
namespace Go.Tram.Lk
open Go.AM
structure Act where
 Kind:Int
 Name:Int
 Profile:Int
 Way:List Move
 M:Move
 deriving Inhabited
@[simp] def Act.cells (a:Act):List AV:=[I a.Kind,I a.Name,I a.Profile,a1t a.Way,I a.M.Rail,Bo a.M.Back]
abbrev Act.av (a:Act):AV:= .agg a.cells
abbrev Ans:=Sta×b3q×Int
abbrev nay (x:Sta) (e:Int):Ans:=(x,⟨0,0⟩,e)
def b5C (x:Sta) (c:Car):Sta:=⟨B5 x.Cars c,x.Points⟩
def a5m (x:Sta) (n:Int) (k:Car->Ans):Ans:=if inr n 1 1000000=false then nay x 2 else match V5 x.Cars n with
 |none=>nay x 4
 |some c=>k c
def b6e (s:j0) (x:Sta) (n:Int) (m:Move):Ans:=if inr n 1 1000000=false∨inr m.Rail 0 ((s.Plan.Rails.length:Int)-1)=false then nay x 2 else match V5 x.Cars n with
 |none=>nay x 4
 |some c=>if (u7 s x c m).Kind=0 then(⟨B5 x.Cars (r5 c m),a3C s c m x.Points⟩,⟨0,0⟩,0)else(x,u7 s x c m,if (u7 s x c m).Kind=1 then 7 else 6)
def goS (x:Sta) (n:Int):Ans:=a5m x n fun c=>if c.Front=(c.Way.length:Int)-1 then nay x 5 else(b5C x {c with Front:=c.Front+1},⟨0,0⟩,0)
def a3q (x:Sta) (n:Int):Ans:=a5m x n fun c=>if c.Front=0 then nay x 5 else(b5C x {c with Way:=c.Way.drop 1,Front:=c.Front-1},⟨0,0⟩,0)
def a5U (x:Sta) (n:Int):Ans:=a5m x n fun c=>(b5C x {c with Way:=c.Way.take (c.Front.toNat+1)},⟨0,0⟩,0)
def b0s (s:j0) (x:Sta) (n:Int):Ans:=a5m x n fun c=>if c.Front≠(c.Way.length:Int)-1 then nay x 5 else if a5n s (F1 c.Way)=false then nay x 7 else match b6l s x.Cars {c with Way:=F1 c.Way}with
 |some k=>(x,⟨5,k⟩,6)
 |none=>(b5C x {c with Way:=F1 c.Way},⟨0,0⟩,0)
def a2K (x:Sta) (n:Int):Ans:=a5m x n fun _=>(⟨a5r x.Cars n,x.Points⟩,⟨0,0⟩,0)
def P8 (n p:Int) (way:List Move):Car:=⟨n,p,[],(way.length:Int)-1⟩
def Z0 (s:j0) (x:Sta) (n p:Int) (way:List Move):Ans:=if a1k s ⟨n,p,way,0⟩=false then nay x 2 else match V5 x.Cars n with
 |some _=>nay x 5
 |none=>if (E7 s x.Cars way x.Points (P8 n p way)).1.Kind=0 then(⟨B5 x.Cars (E7 s x.Cars way x.Points (P8 n p way)).2.2,(E7 s x.Cars way x.Points (P8 n p way)).2.1⟩,⟨0,0⟩,0)else(x,(E7 s x.Cars way x.Points (P8 n p way)).1,6)
def O0 (s:j0) (x:Sta) (a:Act):Ans:=
 if a.Kind=1 then Z0 s x a.Name a.Profile a.Way else if a.Kind=2 then b6e s x a.Name a.M else if a.Kind=3 then goS x a.Name else if a.Kind=4 then a3q x a.Name
 else if a.Kind=5 then a5U x a.Name else if a.Kind=6 then b0s s x a.Name else if a.Kind=7 then a2K x a.Name else nay x 0
theorem X0 {P:Ans->Prop} {x:Sta} {n:Int} {k:Car->Ans} (h1:∀e,P (nay x e)) (h2:∀c,c∈x.Cars->c.Name=n->inr n 1 1000000=true->V5 x.Cars n=some c->P (k c)):P (a5m x n k):=by
 unfold a5m
 split
 ·exact h1 _
 ·rename_i hn
  split
  ·exact h1 _
  ·rename_i c hc;obtain⟨g1,g2⟩:=G3 hc;exact h2 c g1 g2 (by simpa using hn) hc
theorem a8J {s:j0} {x:Sta} (hx:R1 s x) {c:Car} (hc:c∈x.Cars):∀o∈x.Cars,o.Name=c.Name->o=c:=fun o ho e=>b5G hx.srt ho hc e
theorem b5q {p:Plan} {m:Move}:C6 p m=inr m.Rail 0 ((p.Rails.length:Int)-1):=rfl
theorem b0n {s:j0} (hs:Q2 s=true) {x:Sta} (hx:R1 s x) {c:Car} (hc:c∈x.Cars) {way:List Move} {f:Int} (h1:1<=way.length) (hw:wayB s.Plan way=true) (hsub:way.Sublist c.Way) (hl:∀y∈O9 s.Plan way (way.length-1),y∈O9 s.Plan c.Way (c.Way.length-1)) (hf:0<=f/\f<=(way.length:Int)-1):R1 s (b5C x {c with Way:=way,Front:=f}):=by
 have hck:=hx.carOk hc;have h2:=b2P hs hck (way:=way) (f:=f) (fun _=>hw) hsub hl;obtain⟨n1,p1,⟨_,k2,_,_⟩,_⟩:=i9 (hx.car c hc);refine b1i hx h2 ?_;simp only[a1k,a5n,qh,decide_eq_true_eq,g6];exact⟨n1,p1,⟨h1,Nat.le_trans hsub.length_le k2,h2.nod,hw⟩,hf⟩
theorem c4z {s:j0} (hs:Q2 s=true) {x:Sta} (hx:R1 s x) (n:Int):R1 s (goS x n).1:=by
 unfold goS;refine X0 (P:=fun q=>R1 s q.1) (fun _=>hx) fun c hc _ _ _=>?_
 split
 ·exact hx
 ·rename_i h;obtain⟨_,_,⟨k1,k2,k3,k4⟩,f1,f2⟩:=i9 (hx.car c hc);exact b0n hs hx hc k1 k4 (List.Sublist.refl _) (fun _ h=>h) ⟨by omega,by omega⟩
theorem b2g {s:j0} (hs:Q2 s=true) {x:Sta} (hx:R1 s x) (n:Int):R1 s (a3q x n).1:=by
 unfold a3q;refine X0 (P:=fun q=>R1 s q.1) (fun _=>hx) fun c hc _ _ _=>?_
 split
 ·exact hx
 ·rename_i h;obtain⟨_,_,⟨k1,k2,k3,k4⟩,f1,f2⟩:=i9 (hx.car c hc);exact b0n hs hx hc (by rw[qx];omega) (b7w k4 (by omega)) (List.drop_sublist _ _) (fun _ h=>c1l h) ⟨by omega,by rw[qx];omega⟩
theorem b9t {s:j0} (hs:Q2 s=true) {x:Sta} (hx:R1 s x) (n:Int):R1 s (a5U x n).1:=by
 unfold a5U;refine X0 (P:=fun q=>R1 s q.1) (fun _=>hx) fun c hc _ _ _=>?_;obtain⟨_,_,⟨k1,k2,k3,k4⟩,f1,f2⟩:=i9 (hx.car c hc);exact b0n hs hx hc (by rw[qm];omega) (b1E k4 (by omega)) (List.take_sublist _ _) (fun _ h=>c1L h) ⟨by omega,by rw[qm];omega⟩
theorem b6H {s:j0} {x:Sta} (hx:R1 s x) (n:Int):R1 s (a2K x n).1:=by
 unfold a2K;exact X0 (P:=fun q=>R1 s q.1) (fun _=>hx) fun c hc _ _ _=>c4w n hx
theorem b9M {s:j0} (hs:Q2 s=true) {x:Sta} (hx:R1 s x) (n:Int) (m:Move):R1 s (b6e s x n m).1:=by
 unfold b6e
 split
 ·exact hx
 ·rename_i h0
  split
  ·exact hx
  ·rename_i c hc;obtain⟨hc,hn⟩:=G3 hc
   split
   ·rename_i hr;have hm:C6 s.Plan m=true:=by rw[b5q];cases h:inr m.Rail 0 ((s.Plan.Rails.length:Int)-1)with|true=>rfl|false=>exact absurd (Or.inr h) h0
    have hfr:=a1n hr;obtain⟨g1,g2⟩:=a7g hs hx (hx.carOk hc) (a8J hx hc) hm hfr;obtain⟨n1,p1,⟨k1,k2,k3,k4⟩,f1,f2⟩:=i9 (hx.car c hc);refine b1i g1 g2 ?_;have hgl:(r5 c m).Way.length=c.Way.length+1:=by simp[r5]
    simp only[a1k,a5n,qh,decide_eq_true_eq,g6];refine⟨n1,p1,⟨by omega,by have:=hfr.long;omega,g2.nod,g2.way (by intro e;rw[e]at hgl;simp at hgl)⟩,f1,?_⟩;show c.Front<=_;omega
   ·exact hx
theorem c2O {p:Plan} (hv:d8 p=true) {m k:Move} (hm:C6 p m=true) (hk:C6 p k=true) (hf:G6 p m k=true):F8 p (b2f k)=F8 p m/\F9 p (b2f k) (b2f m)=F9 p m k:=by
 rw[a6Q hv hm hk]at hf;obtain⟨i,hi,h1,h2,h3,_⟩:=a8Z hv hm hf;have hn:n5 p (b2f k)=n5 p m:=by rw[h3];unfold n5;rw[b6N,h2]
 refine⟨by unfold F8;rw[hn],?_⟩;unfold F9;rw[b6N,c1n,h1,h2,b4T]
theorem b5P {l:List Move} {i:Nat} (h:i<l.length):y4 (F1 l) i=b2f (y4 l (l.length-1-i)):=by
 unfold y4;rw[a8e h];rfl
theorem c2v {p:Plan} (hv:d8 p=true) {l:List Move} (hw:wayB p l=true) {y:R0} (h:y∈O9 p (F1 l) ((F1 l).length-1)):y∈O9 p l (l.length-1):=by
 obtain⟨i,hi,h1,h2⟩:=a0V.1 h;rw[a2n]at hi;rw[b5P (by omega)]at h1 h2;rw[b5P (by omega)]at h2;have hf:=a6H hw (i:=l.length-2-i) (by omega);have e1:l.length-2-i+1=l.length-1-i:=by omega
 have e2:l.length-1-(i+1)=l.length-2-i:=by omega
 rw[e1]at hf;rw[e2]at h2;obtain⟨g1,g2⟩:=c2O hv (E3 hw _ (by omega)) (E3 hw _ (by omega)) hf;refine a0V.2 ⟨l.length-2-i,by omega,by rw[<-g1];exact h1,?_⟩;rw[e1,h2,g2]
theorem c0Z {s:j0} (hs:Q2 s=true) {x:Sta} (hx:R1 s x) (n:Int):R1 s (b0s s x n).1:=by
 unfold b0s;refine X0 (P:=fun q=>R1 s q.1) (fun _=>hx) fun c hc _ _ _=>?_
 split
 ·exact hx
 rename_i hfr
 split
 ·exact hx
 rename_i hwk
 split
 ·exact hx
 rename_i hto;have hwk:a5n s (F1 c.Way)=true:=by simpa using hwk
 have hck:=hx.carOk hc;obtain⟨n1,p1,⟨k1,k2,k3,k4⟩,f1,f2⟩:=i9 (hx.car c hc);have hwk2:=hwk;simp only[a5n,qh,decide_eq_true_eq]at hwk2;obtain⟨w1,w2,w3,w4⟩:=hwk2;have hv:=(l9 hs).1;have hco:a3K s x {c with Way:=F1 c.Way}:=by
  refine⟨fun _=>w4,w3,w2,fun y hy=>?_,fun o ho hne=>?_⟩
  ·have e:E0 s {c with Way:=F1 c.Way}=O9 s.Plan (F1 c.Way) ((F1 c.Way).length-1):=G4 (c:={c with Way:=F1 c.Way}) w4;rw[e]at hy;refine hck.held y ?_;rw[G4 k4];exact c2v hv k4 hy
  ·have hap:=hck.apart o ho hne;rw[U7]at hap ⊢;intro m hm k hk;have hm':m∈F1 c.Way:=hm;unfold F1 at hm';obtain⟨m0,hm0,rfl⟩:=List.mem_map.1 hm';refine⟨(hap m0 (List.mem_reverse.1 hm0) k hk).1,?_⟩;unfold b6l at hto;have:=V0.1 hto o ho hne k hk;rw[List.any_eq_false]at this;simpa using this _ hm
 refine b1i hx hco ?_;simp only[a1k,qh,g6];refine⟨n1,p1,hwk,f1,?_⟩;show c.Front<=_;simp only[a2n];exact f2
theorem a4K {s:j0} (hs:Q2 s=true) {cs:List Car}:∀(l:List Move) (ps:List Int) (c:Car),R1 s ⟨cs,ps⟩->a3K s ⟨cs,ps⟩ c->(∀o∈cs,o.Name≠c.Name)->(∀m∈l,C6 s.Plan m=true)->(E7 s cs l ps c).1.Kind=0->
  R1 s ⟨cs,(E7 s cs l ps c).2.1⟩/\a3K s ⟨cs,(E7 s cs l ps c).2.1⟩ (E7 s cs l ps c).2.2/\(E7 s cs l ps c).2.2={c with Way:=c.Way++l}
 |[],ps,c,h1,h2,_,_,_=>⟨h1,h2,by simp[E7]⟩
 |m::l,ps,c,h1,h2,h3,h4,h5=>by
  rw[E7]at h5 ⊢
  split at h5
  ·rename_i hr;rw[if_pos hr];obtain⟨g1,g2⟩:=a7g hs h1 h2 (fun o ho e=>absurd e (h3 o ho)) (h4 m (by simp)) (a1n hr);obtain⟨q1,q2,q3⟩:=a4K hs l (a3C s c m ps) (r5 c m) g1 g2 h3 (fun k hk=>h4 k (by simp[hk])) h5;refine⟨q1,q2,?_⟩;rw[q3];simp[r5]
  ·rename_i hr;exact absurd h5 hr
theorem b2m {s:j0} (hs:Q2 s=true) {x:Sta} (hx:R1 s x) (n p:Int) (way:List Move):R1 s (Z0 s x n p way).1:=by
 unfold Z0
 split
 ·exact hx
 rename_i hc
 split
 ·exact hx
 rename_i hn
 split
 ·rename_i hk;have hc:a1k s ⟨n,p,way,0⟩=true:=by simpa using hc
  obtain⟨n1,p1,⟨k1,k2,k3,k4⟩,f1,f2⟩:=i9 hc;obtain⟨q1,q2,q3⟩:=a4K hs way x.Points (P8 n p way) hx (a8z s x _ _ _) (fun o ho e=>(a1E.1 hn) o ho e) (fun m hm=>by
   obtain⟨i,hi,rfl⟩:=List.getElem_of_mem hm;have:=E3 k4 i hi;unfold y4 at this;rw[qc hi]at this;exact this) hk
  refine b1i q1 q2 ?_;rw[q3];have e:({P8 n p way with Way:=(P8 n p way).Way++way}:Car)=⟨n,p,way,(way.length:Int)-1⟩:=by simp[P8]
  rw[e];simp only[a1k,a5n,qh,decide_eq_true_eq,g6];simp only at k1 k2 k3 k4;exact⟨n1,p1,⟨k1,k2,k3,k4⟩,by omega,by omega⟩
 ·exact hx
theorem c1a {s:j0} (hs:Q2 s=true) {x:Sta} (hx:R1 s x) (a:Act):R1 s (O0 s x a).1:=by
 unfold O0
 split
 ·exact b2m hs hx _ _ _
 split
 ·exact b9M hs hx _ _
 split
 ·exact c4z hs hx _
 split
 ·exact b2g hs hx _
 split
 ·exact b9t hs hx _
 split
 ·exact c0Z hs hx _
 split
 ·exact b6H hx _
 ·exact hx
end Go.Tram.Lk
end
section
namespace Go.Tram.Lk
open Go.AM Go.Proofs
def Y0 (l:List Car) (i:Nat):Car:=l[i]?.getD default
def a7N (pts:List Int) (y:R0):Bool:=decide (pts[y.Node.toNat]?.getD 0=y.Leg)
def a6R (s:j0) (c x:Car):Bool:= !decide (x.Name=c.Name)&&a0W s x c
def b4u (s:j0) (cars:List Car) (pts:List Int) (i:Nat):Bool:=a1k s (Y0 cars i)&&((cars.take i).all (a6R s (Y0 cars i))&&(E0 s (Y0 cars i)).all (a7N pts))
def S5 (s:j0) (cars:List Car) (pts:List Int):Bool:=decide (cars.length<=100)&&(a5o s.Plan pts&&(List.range cars.length).all (b4u s cars pts))
theorem D2 {p:Nat->Bool} {k:Nat} (h:(List.range k).all p=true) (hp:p k=true):(List.range (k+1)).all p=true:=by
 rw[List.range_succ,List.all_append,h];simp[hp]
theorem Z9 {p:Nat->Bool} {n k:Nat} (hk:k<n) (hp:p k=false):(List.range n).all p=false:=by
 rw[List.all_eq_false];exact⟨k,List.mem_range.2 hk,by simp[hp]⟩
theorem c0V {s:j0} (h:Q2 s=true):b1C s (Z4 s) (O2 (o7 s)) (R4 (o7 s)):=by
 obtain⟨_,_,_,h4⟩:=l9 h;simp only[a9p,qh,decide_eq_true_eq]at h4;exact c5R h4.2.2
theorem a6j {p:Plan} {k:Nat} (h:k<p.Nodes.length):(x9 p)[k]?=some (if (p.node k).Kind=4 then 1 else 0):=by
 unfold x9 Plan.node;rw[qe,qc h];simp[h]
theorem b9g (s:j0) (cars:List Car) (pts:List Int) (h:Q2 s=true) (hN:s.Plan.Rails.length<=20) (hc:cars.length<=1000) (hw:∀c∈cars,c.Way.length<=1000) (hpn:pts.length<=1000) (hpb:∀x∈pts,-9223372036854775808<=x/\x<=9223372036854775807):
  a9 Tryz.prog 17 [s.av, .lst 4 (cars.map Car.cells), .lst 1 (pts.map f9)] (Bo (S5 s cars pts)):=by
 have ho:a9 Tryz.prog 31 [s.av] (.tup [.iptr (d5 s (Z4 s) (O2 (o7 s)) (R4 (o7 s)) (.mpc true a1p []) (.mpc true a1p [])),Bo true]):=(b1K s h hN).pure (by simp[frz,g8,d5]);have hru:=c0V h;obtain⟨hv,hpf,_,_⟩:=l9 h;have hpl:s.Profiles.length<=100000:=by simp only[N4,qh,decide_eq_true_eq]at hpf;omega
 have hNl:1<=s.Plan.Nodes.length/\s.Plan.Nodes.length<=300:=(j9 hv).1;have hpt:=b9p s hv (Z4 s) (O2 (o7 s)) (R4 (o7 s)) (.mpc true a1p []) (.mpc true a1p []);have hcar:=fun c hl=>b1f s (Z4 s) (O2 (o7 s)) (R4 (o7 s)) (.mpc true a1p []) (.mpc true a1p []) c hv hpl hl;have hap:=fun a b ha hb=>b7x hru (.mpc true a1p []) (.mpc true a1p []) a b ha hb;have hlg:=fun c hw=>c3N hv (Z4 s) (O2 (o7 s)) (R4 (o7 s)) (.mpc true a1p []) (.mpc true a1p []) c hw;have hfl:(x9 s.Plan).length=s.Plan.Nodes.length:=by simp[x9]
 have hfg:=fun k=>a6j (p:=s.Plan) (k:=k);have hwi:=fun x:Int=>x4 x 1 2;generalize Z4 s=fo at*
 generalize O2 (o7 s)=si at*
 generalize R4 (o7 s)=up at*
 unfold d5 at*
 generalize x9 s.Plan=fp at*
 refine oB Tryz.func17 Tryz.ntmps17 Tryz.results17 ?_;refine aW ?_;refine aW ?_ fun K hK=>by simp -dsimp;refine cI (ho) ?_;simp -dsimp;exact hK
 refine a5 fun K1 hK1=>?_;refine aW ?_;refine a7 rfl (fun hc0=>?_) (fun hc0=>?_)
 ·have hf:S5 s cars pts=false:=by
   simp at hc0;unfold S5 a5o
   rcases hc0 with hc0|hc0
   ·rw[decide_eq_false (by omega)];rfl
   ·rw[decide_eq_false (p:=pts.length=s.Plan.Nodes.length) (by omega)];simp
  refine aW ?_;exact a6 (by simp[hf])
 ·have h0:cars.length<=100/\pts.length=s.Plan.Nodes.length:=by simp at hc0;omega
  refine b9 ?_;refine zQ (hK1 _ _ ?_);refine aP [1,2,7] ?_;refine a5 fun K2 hK2=>?_;refine aW ?_ fun K hK=>by simp -dsimp;refine cI (hpt) ?_;simp -dsimp;exact hK
  refine b8 ?_;refine aP [1,2,7,39,40,41] ?_;refine c6 [1,2,7,39,40] (α:=Nat) (fun k=>[(41,I k)]) (fun k=>[some (.els 4 [s.cells])]) (fun k=>k<=pts.length/\((List.range k).all fun i=>ptB (s.Plan.node i) (pts[i]?.getD 0))=true) (fun k=>pts.length-k) 0 ?_ ?_ ?_
  ·exact⟨qp _,by simp⟩
  ·exact c9 (by simp)
  rintro k ⟨k1,k2⟩;refine zN ?_;refine aW ?_;refine a5 fun K3 hK3=>?_;refine a7 rfl (fun hc1=>?_) (fun hc1=>?_)
  ·have hk:k<pts.length:=by simp[hfl]at hc1;omega
   obtain⟨x,hx⟩:=gx (l:=pts) (i:=k) hk;have hxe:=(qa.1 hx).2;have hg:=hfg k (by omega);have wk:=zW k (by omega);have hkp:ptB (s.Plan.node k) (pts[k]?.getD 0)=if (s.Plan.node k).Kind=4 then inr x 1 2 else decide (x=0):=by rw[hx];rfl
   refine b9 ?_;refine zQ (hK3 _ _ ?_);refine aP [1,2,7,39,40,41] ?_;refine a5 fun K4 hK4=>?_;refine b8 ?_;refine aW ?_ fun K hK=>by simp -dsimp [hg];exact hK
   refine aW ?_ fun K hK=>by simp -dsimp [hx,hk,hxe];refine j7 (f9 x) (fun _=>by simp[hx]) ?_;simp -dsimp [hx,hk,hxe];refine j7 (f9 x) (fun _=>by simp[hx]) ?_;simp -dsimp [hx,hk,hxe];refine cY (fun hm=>hwi x) ?_;simp -dsimp [hx,hk,hxe];exact hK
   refine a7 rfl (fun hc2=>?_) (fun hc2=>?_)
   ·have hpx:ptB (s.Plan.node k) (pts[k]?.getD 0)=false:=by
     rw[hkp]
     by_cases hq:(s.Plan.node k).Kind=4<;>simp[hq]at hc2 ⊢
     ·exact hc2
     ·exact hc2
    have hf:S5 s cars pts=false:=by
     unfold S5 a5o;rw[Z9 hk hpx];simp
    refine aW ?_;exact a6 (by simp[hf])
   ·have hpx:ptB (s.Plan.node k) (pts[k]?.getD 0)=true:=by
     rw[hkp]
     by_cases hq:(s.Plan.node k).Kind=4<;>simp[hq]at hc2 ⊢
     ·exact hc2
     ·exact hc2
    refine b9 ?_;refine zQ (hK4 _ _ ?_);refine aP [1,2,7,39,40,41] ?_;refine aV ?_ fun K hK=>by simp -dsimp [wk];exact hK
    refine zQ ?_;exact⟨k+1,⟨by omega,D2 k2 hpx⟩,by omega,aB [some 0]⟩
  ·have hke:k=pts.length:=by simp[hfl]at hc1;omega
   subst hke;have hpts:a5o s.Plan pts=true:=by unfold a5o;rw[k2,decide_eq_true h0.2];rfl
   refine d4 ?_;refine zQ (hK2 _ _ ?_);refine aP [1,2,7] ?_;refine a5 fun K5 hK5=>?_;refine aW ?_;refine b8 ?_;refine aP [1,2,7,68,69,70] ?_;refine c6 [1,2,7,68,69] (α:=Nat) (fun k=>[(70,I k)]) (fun k=>[some (.els 4 [s.cells])]) (fun k=>k<=cars.length/\(List.range k).all (b4u s cars pts)=true) (fun k=>cars.length-k) 0 ?_ ?_ ?_
   ·exact⟨qp _,by simp⟩
   ·exact c9 (by simp)
   rintro k ⟨k1,k3⟩;refine zN ?_;refine aW ?_;refine a5 fun K6 hK6=>?_;refine a7 rfl (fun hc3=>?_) (fun hc3=>?_)
   ·have hk:k<cars.length:=by simp at hc3;omega
    obtain⟨c,hcg⟩:=gx (l:=cars) (i:=k) hk;have hca:Y0 cars k=c:=by unfold Y0;rw[hcg];rfl
    have hcl:=hw c (qd hcg);have wk:=zW k (by omega);have hrf:b4u s cars pts k=false->S5 s cars pts=false:=by
     intro h1;unfold S5;rw[Z9 hk h1];simp
    refine b9 ?_;refine zQ (hK6 _ _ ?_);refine aP [1,2,7,68,69,70] ?_;refine a5 fun K7 hK7=>?_;refine b8 ?_;refine aW ?_ fun K hK=>by simp -dsimp [hcg];exact hK
    refine a5 fun K8 hK8=>?_;refine aW ?_ fun K hK=>by simp -dsimp;refine cI (hcar c hcl) ?_;simp -dsimp;exact hK
    refine a7 rfl (fun hc4=>?_) (fun hc4=>?_)
    ·have hcb:a1k s c=false:=by simpa using hc4
     have hf:=hrf (by unfold b4u;rw[hca,hcb];rfl);refine aW ?_;exact a6 (by simp[hf])
    ·have hcb:a1k s c=true:=by simpa using hc4
     refine b9 ?_;refine zQ (hK8 _ _ ?_);refine aP [1,2,7,11,12,68,69,70] ?_;refine a5 fun K9 hK9=>?_;refine aW ?_ fun K hK=>by simp -dsimp [k1];exact hK
     refine b8 ?_;refine aP [1,2,7,12,68,69,70,81,82,83] ?_;refine c6 [1,2,7,12,68,69,70,81,82] (α:=Nat) (fun j=>[(83,I j)]) (fun j=>[some (.els 4 [s.cells]),some (.els 4 [c.cells])]) (fun j=>j<=k/\((cars.take j).all (a6R s c))=true) (fun j=>k-j) 0 ?_ ?_ ?_
     ·exact⟨qp _,by simp⟩
     ·exact c9 (by simp)
     rintro j ⟨j1,j2⟩;refine zN ?_;refine aW ?_;refine a5 fun K10 hK10=>?_;refine a7 rfl (fun hc5=>?_) (fun hc5=>?_)
     ·have hj:j<k:=by simp at hc5;omega
      obtain⟨x,hxg⟩:=gx (l:=cars) (i:=j) (by omega);have hxl:=hw x (qd hxg);have wj:=zW j (by omega);have hxt:(cars.take k)[j]?=some x:=by rw[qk,if_pos hj];exact hxg
      refine b9 ?_;refine zQ (hK10 _ _ ?_);refine aP [1,2,7,12,68,69,70,81,82,83] ?_;refine a5 fun K11 hK11=>?_;refine b8 ?_;refine aW ?_ fun K hK=>by simp -dsimp [hxg,hj];exact hK
      refine aW ?_ fun K hK=>by simp -dsimp;refine cY (fun hm=>hap x c hxl hcl) ?_;simp -dsimp;exact hK
      refine a7 rfl (fun hc6=>?_) (fun hc6=>?_)
      ·have hpb2:a6R s c x=false:=by
        unfold a6R;simp at hc6 ⊢;intro hq;exact hc6.resolve_left hq
       have hf:=hrf (by unfold b4u;rw[hca,N3 hxt hpb2];simp);refine aW ?_;exact a6 (by simp[hf])
      ·have hpb2:a6R s c x=true:=by
        unfold a6R;simpa using hc6
       refine b9 ?_;refine zQ (hK11 _ _ ?_);refine aP [1,2,7,12,68,69,70,81,82,83] ?_;refine aV ?_ fun K hK=>by simp -dsimp [wj];exact hK
       refine zQ ?_;exact⟨j+1,⟨by omega,s7 hxg j2 hpb2⟩,by omega,aB [some 0,some 1]⟩
     ·have hje:j=k:=by simp at hc5;omega
      subst hje;have hwb:=(i9 hcb).2.2.1.2.2.2;refine d4 ?_;refine zQ (hK9 _ _ ?_);refine aP [1,2,7,12,68,69,70] ?_;refine aW ?_ fun K hK=>by simp -dsimp;refine cI (hlg c hwb) ?_;simp -dsimp;exact hK
      refine b8 ?_;refine aP [1,2,7,68,69,70,102,103,104] ?_;refine c6 [1,2,7,68,69,70,102,103] (α:=Nat) (fun n=>[(104,I n)]) (fun n=>[some (.els 4 [s.cells]),some (.els 4 [c.cells])]) (fun n=>n<=(E0 s c).length/\(((E0 s c).take n).all (a7N pts))=true) (fun n=>(E0 s c).length-n) 0 ?_ ?_ ?_
      ·exact⟨qp _,by simp⟩
      ·exact c9 (by simp)
      rintro n ⟨n1,n2⟩;refine zN ?_;refine aW ?_;refine a5 fun K12 hK12=>?_;refine a7 rfl (fun hc7=>?_) (fun hc7=>?_)
      ·have hn:n<(E0 s c).length:=by simp at hc7;omega
       obtain⟨y,hyg⟩:∃y,(E0 s c)[n]?=some y:=⟨_,qc hn⟩;have hyl:=b4A h hwb (by rw[<-G4 hwb];exact qd hyg);obtain⟨v,hvg⟩:∃v,pts[y.Node.toNat]?=some v:=⟨_,qc (by omega)⟩;have hll:(E0 s c).length<=1000:=by rw[G4 hwb];have:=a3L s.Plan c.Way (c.Way.length-1);omega
       have wn:=zW n (by omega);have hyp:0<=y.Node/\y.Node<pts.length:=by omega
       have hlb:a7N pts y=decide (v=y.Leg):=by unfold a7N;rw[hvg];rfl
       refine b9 ?_;refine zQ (hK12 _ _ ?_);refine aP [1,2,7,68,69,70,102,103,104] ?_;refine a5 fun K13 hK13=>?_;refine b8 ?_;refine aW ?_ fun K hK=>by simp -dsimp [hyg];exact hK
       refine aD ?_ fun K hK=>by simp -dsimp [hvg,hyp.1,hyp.2];exact hK
       refine a7 rfl (fun hc8=>?_) (fun hc8=>?_)
       ·have hve:=(qa.1 hvg).2;have hl2:a7N pts y=false:=by rw[hlb];simpa [hve]using hc8
        have hf:=hrf (by unfold b4u;rw[hca,N3 hyg hl2];simp);refine aW ?_;exact a6 (by simp[hf])
       ·have hve:=(qa.1 hvg).2;have hl2:a7N pts y=true:=by rw[hlb];simpa [hve]using hc8
        refine b9 ?_;refine zQ (hK13 _ _ ?_);refine aP [1,2,7,68,69,70,102,103,104] ?_;refine aV ?_ fun K hK=>by simp -dsimp [wn];exact hK
        refine zQ ?_;exact⟨n+1,⟨by omega,s7 hyg n2 hl2⟩,by omega,aB [some 0,some 1]⟩
      ·have hne:n=(E0 s c).length:=by simp at hc7;omega
       subst hne;rw[List.take_length]at n2;refine d4 ?_;refine zQ (hK7 _ _ ?_);refine aP [1,2,7,68,69,70] ?_;refine aV ?_ fun K hK=>by simp -dsimp [wk];exact hK
       refine zQ ?_;exact⟨j+1,⟨by omega,D2 k3 (by unfold b4u;rw[hca,hcb,j2,n2];rfl)⟩,by omega,aB [some 0]⟩
   ·have hke:k=cars.length:=by simp at hc3;omega
    subst hke;refine d4 ?_;refine zQ (hK5 _ _ ?_);refine aP [] ?_;refine aW ?_;exact a6 (by simp[S5,h0.1,hpts,k3])
end Go.Tram.Lk
end
section
namespace Go.Tram.Lk
open Go.AM Go.Proofs
def LvT (f:FuncId) (args:List AV) (s:j0) (x:Sta) (nx nd:j8) (res:AV) (y:Sta) (M:j8×j8):Prop:=
 c7 Tryz.prog f (.ptr 0 0 0::args) lkK (lkD s (Z4 s) (O2 (o7 s)) (R4 (o7 s)) nx nd x.Cars x.Points) res lkK (lkD s (Z4 s) (O2 (o7 s)) (R4 (o7 s)) M.1 M.2 y.Cars y.Points)
abbrev c5D (q:Ans):AV:= .tup [G7 q.2.1,I q.2.2]
abbrev b3Y (q:Ans):AV:=I q.2.2
structure a7w (s:j0) (x:Sta):Prop where
 set:Q2 s=true
 st:R1 s x
 few:x.Cars.length<=99
 rl:s.Plan.Rails.length<=1000
section
variable {s:j0} {x:Sta} (h:a7w s x) (nx nd:j8)
include h
theorem a7w.cs:b3U s x.Cars:=⟨h.st.srt,by have:=h.few;omega,h.st.car⟩
theorem a7w.pl:x.Points.length=s.Plan.Nodes.length:=by
 have:=h.st.pts;simp only[a5o,qh,decide_eq_true_eq]at this;exact this.1
theorem a7w.nl:1<=s.Plan.Nodes.length/\s.Plan.Nodes.length<=300:=(j9 (l9 h.set).1).1
theorem b4l (n:Int) (m:Move):∃M,LvT 21 [I n,m.av] s x nx nd (c5D (b6e s x n m)) (b6e s x n m).1 M:=by
 unfold LvT b6e;have hR:=h.rl
 cases hn:inr n 1 1000000 with
 |false=>
  rw[if_pos (Or.inl rfl)];exact⟨(nx,nd),c1X s _ _ _ nx nd x.Cars x.Points m (Or.inr rfl) (P1 s _ _ _ nx nd x.Cars x.Points n hn)⟩
 | true=>
  cases hr:inr m.Rail 0 ((s.Plan.Rails.length:Int)-1)with
  |false=>
   rw[if_pos (Or.inr rfl)]
   cases hc:V5 x.Cars n with
   |none=>exact⟨(nx,nd),b8m s _ _ _ nx nd x.Cars x.Points default m hR hr (F2 s _ _ _ nx nd x.Cars x.Points n hn hc)⟩
   |some c=>exact⟨(nx,nd),b8h s _ _ _ nx nd x.Cars x.Points c m hR hr (Q3 s _ _ _ nx nd x.Cars x.Points n hn hc)⟩
  | true=>
   rw[if_neg (by simp)]
   cases hc:V5 x.Cars n with
   |none=>exact⟨(nx,nd),c0B s _ _ _ nx nd x.Cars x.Points m hR hr (F2 s _ _ _ nx nd x.Cars x.Points n hn hc)⟩
   | some c=>
    have hf:=Q3 s (Z4 s) (O2 (o7 s)) (R4 (o7 s)) nx nd x.Cars x.Points n hn hc;obtain⟨hcm,hcn⟩:=G3 hc;obtain⟨_,_,⟨k1,k2,k3,k4⟩,_⟩:=i9 (h.st.car c hcm);have hne:c.Way≠[]:=by intro e;rw[e]at k1;simp at k1
    have hm:C6 s.Plan m=true:=hr;simp only
    split
    ·rename_i hk;obtain⟨a,b,hg⟩:=a4E (c0V h.set) h.cs nx nd h.set h.pl (fun _=>k4) hm (by omega) hne hk;exact⟨(a,b),b7F s _ _ _ nx nd x.Cars x.Points hcn h.st.srt hR hr hf hg⟩
    ·rename_i hk;obtain⟨a,b,hg⟩:=a4M (c0V h.set) h.cs nx nd h.set h.pl (fun _=>k4) hm (by omega) hne hk;refine⟨(a,b),?_⟩
     split
     ·rename_i h1;exact c1U s _ _ _ nx nd x.Cars x.Points h1 hR hr hf hg
     ·rename_i h1;exact c1t s _ _ _ nx nd x.Cars x.Points ⟨hk,h1⟩ hR hr hf hg
theorem c2t (n:Int) (k:Car->Ans) (hk:∀c,c∈x.Cars->c.Name=n->inr n 1 1000000=true->V5 x.Cars n=some c->∃M,LvT 29 [I n] s x nx nd (b3Y (k c)) (k c).1 M):∃M,LvT 29 [I n] s x nx nd (b3Y (a5m x n k)) (a5m x n k).1 M:=by
 have _:=h;unfold a5m
 cases hn:inr n 1 1000000 with
 |false=>
  rw[if_pos rfl];exact⟨(nx,nd),b9Q s _ _ _ nx nd x.Cars x.Points (e:=2) (by decide) (P1 s _ _ _ nx nd x.Cars x.Points n hn)⟩
 |true=>
  rw[if_neg (by simp)]
  cases hc:V5 x.Cars n with
  |none=>exact⟨(nx,nd),b9Q s _ _ _ nx nd x.Cars x.Points (e:=4) (by decide) (F2 s _ _ _ nx nd x.Cars x.Points n hn hc)⟩
  |some c=>obtain⟨g1,g2⟩:=G3 hc;exact hk c g1 g2 hn hc
theorem b3t (n:Int) (k:Car->Ans) (hk:∀c,c∈x.Cars->c.Name=n->inr n 1 1000000=true->V5 x.Cars n=some c->∃M,LvT 30 [I n] s x nx nd (b3Y (k c)) (k c).1 M):∃M,LvT 30 [I n] s x nx nd (b3Y (a5m x n k)) (a5m x n k).1 M:=by
 have _:=h;unfold a5m
 cases hn:inr n 1 1000000 with
 |false=>
  rw[if_pos rfl];exact⟨(nx,nd),a8M s _ _ _ nx nd x.Cars x.Points (e:=2) (by decide) (P1 s _ _ _ nx nd x.Cars x.Points n hn)⟩
 |true=>
  rw[if_neg (by simp)]
  cases hc:V5 x.Cars n with
  |none=>exact⟨(nx,nd),a8M s _ _ _ nx nd x.Cars x.Points (e:=4) (by decide) (F2 s _ _ _ nx nd x.Cars x.Points n hn hc)⟩
  |some c=>obtain⟨g1,g2⟩:=G3 hc;exact hk c g1 g2 hn hc
theorem b3c (n:Int) (k:Car->Ans) (hk:∀c,c∈x.Cars->c.Name=n->inr n 1 1000000=true->V5 x.Cars n=some c->∃M,LvT 56 [I n] s x nx nd (b3Y (k c)) (k c).1 M):∃M,LvT 56 [I n] s x nx nd (b3Y (a5m x n k)) (a5m x n k).1 M:=by
 have _:=h;unfold a5m
 cases hn:inr n 1 1000000 with
 |false=>
  rw[if_pos rfl];exact⟨(nx,nd),a8S s _ _ _ nx nd x.Cars x.Points (e:=2) (by decide) (P1 s _ _ _ nx nd x.Cars x.Points n hn)⟩
 |true=>
  rw[if_neg (by simp)]
  cases hc:V5 x.Cars n with
  |none=>exact⟨(nx,nd),a8S s _ _ _ nx nd x.Cars x.Points (e:=4) (by decide) (F2 s _ _ _ nx nd x.Cars x.Points n hn hc)⟩
  |some c=>obtain⟨g1,g2⟩:=G3 hc;exact hk c g1 g2 hn hc
theorem a9Z (n:Int) (k:Car->Ans) (hk:∀c,c∈x.Cars->c.Name=n->inr n 1 1000000=true->V5 x.Cars n=some c->∃M,LvT 22 [I n] s x nx nd (b3Y (k c)) (k c).1 M):∃M,LvT 22 [I n] s x nx nd (b3Y (a5m x n k)) (a5m x n k).1 M:=by
 have _:=h;unfold a5m
 cases hn:inr n 1 1000000 with
 |false=>
  rw[if_pos rfl];exact⟨(nx,nd),a6t s _ _ _ nx nd x.Cars x.Points (e:=2) (by decide) (P1 s _ _ _ nx nd x.Cars x.Points n hn)⟩
 |true=>
  rw[if_neg (by simp)]
  cases hc:V5 x.Cars n with
  |none=>exact⟨(nx,nd),a6t s _ _ _ nx nd x.Cars x.Points (e:=4) (by decide) (F2 s _ _ _ nx nd x.Cars x.Points n hn hc)⟩
  |some c=>obtain⟨g1,g2⟩:=G3 hc;exact hk c g1 g2 hn hc
theorem c3A (n:Int):∃M,LvT 29 [I n] s x nx nd (b3Y (goS x n)) (goS x n).1 M:=by
 refine c2t h nx nd n _ fun c hc hcn hn hck=>?_;have hf:=Q3 s (Z4 s) (O2 (o7 s)) (R4 (o7 s)) nx nd x.Cars x.Points n hn hck;obtain⟨_,_,⟨k1,k2,k3,k4⟩,f1,f2⟩:=i9 (h.st.car c hc)
 split
 ·rename_i hfr;exact⟨(nx,nd),c3M s _ _ _ nx nd x.Cars x.Points (by omega) k1 hfr hf⟩
 ·rename_i hfr;exact⟨(nx,nd),c2X s _ _ _ nx nd x.Cars x.Points (by omega) k1 ⟨f1,by omega⟩ hfr hcn h.st.srt hf⟩
theorem a7D (n:Int):∃M,LvT 30 [I n] s x nx nd (b3Y (a3q x n)) (a3q x n).1 M:=by
 refine b3t h nx nd n _ fun c hc hcn hn hck=>?_;have hf:=Q3 s (Z4 s) (O2 (o7 s)) (R4 (o7 s)) nx nd x.Cars x.Points n hn hck;obtain⟨_,_,⟨k1,k2,k3,k4⟩,f1,f2⟩:=i9 (h.st.car c hc)
 split
 ·rename_i hfr;exact⟨(nx,nd),b4J s _ _ _ nx nd x.Cars x.Points hfr hf⟩
 ·rename_i hfr;exact⟨(nx,nd),b3y s _ _ _ nx nd x.Cars x.Points (by omega) ⟨f1,by omega⟩ hfr hcn h.st.srt hf⟩
theorem b8V (n:Int):∃M,LvT 56 [I n] s x nx nd (b3Y (a5U x n)) (a5U x n).1 M:=by
 refine b3c h nx nd n _ fun c hc hcn hn hck=>?_;have hf:=Q3 s (Z4 s) (O2 (o7 s)) (R4 (o7 s)) nx nd x.Cars x.Points n hn hck;obtain⟨_,_,⟨k1,k2,k3,k4⟩,f1,f2⟩:=i9 (h.st.car c hc);exact⟨(nx,nd),b3v s _ _ _ nx nd x.Cars x.Points (by omega) ⟨f1,by omega⟩ hcn h.st.srt hf⟩
theorem b6b (n:Int):∃M,LvT 22 [I n] s x nx nd (b3Y (a2K x n)) (a2K x n).1 M:=by
 refine a9Z h nx nd n _ fun c hc hcn hn hck=>?_;have hf:=Q3 s (Z4 s) (O2 (o7 s)) (R4 (o7 s)) nx nd x.Cars x.Points n hn hck;exact⟨(nx,nd),a9u s _ _ _ nx nd x.Cars x.Points hf⟩
theorem c2f (n:Int):∃M,LvT 57 [I n] s x nx nd (c5D (b0s s x n)) (b0s s x n).1 M:=by
 unfold b0s a5m
 cases hn:inr n 1 1000000 with
 |false=>
  rw[if_pos rfl];exact⟨(nx,nd),b0O s _ _ _ nx nd x.Cars x.Points (e:=2) (by decide) (P1 s _ _ _ nx nd x.Cars x.Points n hn)⟩
 | true=>
  rw[if_neg (by simp)]
  cases hc:V5 x.Cars n with
  |none=>exact⟨(nx,nd),b0O s _ _ _ nx nd x.Cars x.Points (e:=4) (by decide) (F2 s _ _ _ nx nd x.Cars x.Points n hn hc)⟩
  |some c=>
   obtain⟨hcm,hcn⟩:=G3 hc;have hf:=Q3 s (Z4 s) (O2 (o7 s)) (R4 (o7 s)) nx nd x.Cars x.Points n hn hc;obtain⟨_,_,⟨k1,k2,k3,k4⟩,f1,f2⟩:=i9 (h.st.car c hcm);have hv:=(l9 h.set).1;have ht:=b8b c.Way (by omega);have hl:=a2n c.Way;simp only
   split
   ·rename_i hfr;exact⟨(nx,nd),b8W s _ _ _ nx nd x.Cars x.Points (by omega) k1 hfr hf⟩
   rename_i hfr;have hfr:c.Front=(c.Way.length:Int)-1:=by simpa using hfr
   split
   ·rename_i hk;exact⟨(nx,nd),b8a s _ _ _ nx nd x.Cars x.Points hcn hv (by omega) k1 hfr hl hk ht hf⟩
   rename_i hk;have hk:a5n s (F1 c.Way)=true:=by simpa using hk
   cases hto:b6l s x.Cars {c with Way:=F1 c.Way}with
   |some k=>exact⟨(nx,nd),b6u s _ _ _ nx nd x.Cars x.Points (r:=⟨5,k⟩) hcn hv (by omega) k1 hfr hl hk (by simp) ht hf fun X=>b0i (c0V h.set) X h.cs x.Points nx nd {c with Way:=F1 c.Way} (by simp only;omega) hto⟩
   |none=>exact⟨(nx,nd),b5s s _ _ _ nx nd x.Cars x.Points hcn h.st.srt hv (by omega) k1 hfr hl hk ht hf fun X=>b2H (c0V h.set) X h.cs x.Points nx nd {c with Way:=F1 c.Way} (by simp only;omega) hto⟩
theorem a7b (n p:Int) (way:List Move) (hl:way.length<=1000):∃M,LvT 28 [I n,I p,a1t way] s x nx nd (c5D (Z0 s x n p way)) (Z0 s x n p way).1 M:=by
 obtain⟨hv,hpf,_,_⟩:=l9 h.set;have hpl:s.Profiles.length<=100000:=by simp only[N4,qh,decide_eq_true_eq]at hpf;omega
 unfold Z0
 cases hc:a1k s ⟨n,p,way,0⟩with
 |false=>
  rw[if_pos rfl];exact⟨(nx,nd),b6O s _ _ _ nx nd x.Cars x.Points n p way hv hpl hl hc⟩
 | true=>
  rw[if_neg (by simp)]
  cases hm:V5 x.Cars n with
  |some c1=>exact⟨(nx,nd),b6A s _ _ _ nx nd x.Cars x.Points n p way hv hpl hl hc hm⟩
  | none=>
   simp only
   split
   ·rename_i hk;refine⟨_,b6i (c0V h.set) nx nd h.cs h.set h.pl hpl hc hm (by have:=h.few;omega) (c0:=P8 n p way) rfl (M:=_) rfl (fun r1 ps1 c1 he hne=>?_) (fun ps1 c1 he=>?_)⟩
    ·rw[he]at hk;exact absurd hk hne
    ·rw[he];exact⟨rfl,rfl,rfl,rfl⟩
   ·rename_i hk;refine⟨_,b6i (c0V h.set) nx nd h.cs h.set h.pl hpl hc hm (by have:=h.few;omega) (c0:=P8 n p way) rfl (M:=_) rfl (fun r1 ps1 c1 he hne=>?_) (fun ps1 c1 he=>?_)⟩
    ·rw[he];exact⟨rfl,rfl,rfl,rfl⟩
    ·rw[he]at hk;exact absurd rfl hk
end
end Go.Tram.Lk
end
section
namespace Go.Tram.Lk
open Go.AM Go.Proofs
theorem c0h {s:j0} (h:Q2 s=true):R1 s ⟨[],x9 s.Plan⟩:=by
 refine⟨List.Pairwise.nil,by simp,?_,by simp,by simp⟩;unfold a5o;simp only[qh,decide_eq_true_eq,qn,List.mem_range];have hl:(x9 s.Plan).length=s.Plan.Nodes.length:=by simp[x9]
 refine⟨hl,fun i hi=>?_⟩;rw[a6j (by omega)];unfold ptB;simp only[Option.getD_some]
 split<;>simp[inr]
theorem ex_foul:H6 E6 1 0 0 0=true:=by
 have h:(⟨0,0,1,0⟩:F5)∈A8 l5 [⟨100,0⟩]:=b2K (p:=l5) (x:=⟨100,0⟩) (a:=0) (b:=1) b0S (by decide+kernel) (by decide) (by decide+kernel) (by decide+kernel);unfold H6;rw[qy];exact⟨_,h,by decide⟩
def b7e:Sta:=⟨[⟨7,0,[⟨0,false⟩],0⟩],[0,1,0,0]⟩
def b8O:Sta:=⟨[⟨7,0,[⟨0,false⟩,⟨2,false⟩],0⟩],[0,2,0,0]⟩
def c5e:Sta:=⟨[⟨7,0,[⟨0,false⟩,⟨2,false⟩],1⟩],[0,2,0,0]⟩
def c4v:Sta:=⟨[⟨7,0,[⟨2,false⟩],0⟩],[0,2,0,0]⟩
theorem c5P:Z0 E6 ⟨[],x9 l5⟩ 7 0 [⟨0,false⟩]=(b7e,⟨0,0⟩,0):=by decide+kernel
theorem c5v:Z0 E6 b7e 8 0 [⟨1,true⟩]=(b7e,⟨3,7⟩,6):=by
 have hr:u7 E6 ⟨b7e.Cars,b7e.Points⟩ (P8 8 0 [⟨1,true⟩]) ⟨1,true⟩=⟨3,7⟩:=by
  have h1:endB E6 (P8 8 0 [⟨1,true⟩]) ⟨1,true⟩=false:=by decide+kernel
  have h2:b5Y (P8 8 0 [⟨1,true⟩]) ⟨1,true⟩=false:=by decide+kernel
  unfold u7;rw[h1,h2];simp[a4c,b7e,P8,ex_foul]
 have hc:a1k E6 ⟨8,0,[⟨1,true⟩],0⟩=true:=by decide+kernel
 have hk:V5 b7e.Cars 8=none:=by decide+kernel
 unfold Z0;rw[if_neg (by simp[hc]),hk];simp only[E7,hr];simp
theorem c5V:b6e E6 b7e 7 ⟨2,false⟩=(b8O,⟨0,0⟩,0):=by decide+kernel
theorem c5K:b6e E6 b8O 7 ⟨1,false⟩=(b8O,⟨1,0⟩,7):=by decide+kernel
theorem c6A:goS b8O 7=(c5e,⟨0,0⟩,0):=by decide+kernel
theorem c5J:a3q c5e 7=(c4v,⟨0,0⟩,0):=by decide+kernel
theorem c5z:a3q c4v 7=(c4v,⟨0,0⟩,5):=by decide+kernel
theorem b8u {w:World} {S:Nat->Prop} {sz:Nat} {els:List (List AV)} {y:Value} (h:r8 w S (.full sz els) y):r8 w S (.lst sz els) y:=by
 cases h with
 |full _ _ b off vs hS hb hel hl hv h=>exact .lst _ _ b off _ vs hS hb (qo _) hel hl hv h
theorem c0g {f:FuncId} {a b c:AV} {els:List (List AV)} {Hk Hd Hk' Hn:Hp} {res:AV} (h:c7 Tryz.prog f [a,b,c, .lst 2 els] Hk Hd res Hk' Hn):c7 Tryz.prog f [a,b,c, .full 2 els] Hk Hd res Hk' Hn:=by
 refine b6P h rfl fun i x x' h1 h2=>?_
 match i,h1,h2 with
 |0,h1,h2=>simp at h1 h2;subst h1 h2;exact Or.inl rfl
 |1,h1,h2=>simp at h1 h2;subst h1 h2;exact Or.inl rfl
 |2,h1,h2=>simp at h1 h2;subst h1 h2;exact Or.inl rfl
 |3,h1,h2=>simp at h1 h2;subst h1 h2;exact Or.inr ⟨rfl,fun w S y hy=>b8u hy⟩
 |n+4,h1,h2=>simp at h1
theorem b3F:a9 Tryz.prog 27 [] b5b:=by
 have h:=b3G;unfold Plan.av Plan.cells at h;refine oB Tryz.func27 Tryz.ntmps27 Tryz.results27 ?_;refine aW ?_;refine aW ?_ fun K hK=>by simp -dsimp;refine cI (h) ?_;simp -dsimp;exact hK
 exact a6 (by simp)
theorem b8d:a9 Tryz.prog 9 [] (Bo true):=by
 have hex:=b3F;have hnew:=b7N;have hs:=b1q;have s0:R1 E6 ⟨[],x9 l5⟩:=c0h hs;have lv0:a7w E6 ⟨[],x9 l5⟩:=⟨hs,s0,by decide,by decide⟩;obtain⟨M1,h1⟩:=a7b lv0 [] [] 7 0 [⟨0,false⟩] (by decide);have s1:=b2m hs s0 7 0 [⟨0,false⟩];rw[c5P]at h1 s1;have lv1:a7w E6 b7e:=⟨hs,s1,by decide,by decide⟩;obtain⟨M2,h2⟩:=a7b lv1 M1.1 M1.2 8 0 [⟨1,true⟩] (by decide);rw[c5v]at h2;obtain⟨M3,h3⟩:=b4l lv1 M2.1 M2.2 7 ⟨2,false⟩;have s2:=b9M hs s1 7 ⟨2,false⟩;rw[c5V]at h3 s2;have lv2:a7w E6 b8O:=⟨hs,s2,by decide,by decide⟩;obtain⟨M4,h4⟩:=b4l lv2 M3.1 M3.2 7 ⟨1,false⟩;rw[c5K]at h4;have h5:=b1J E6 (Z4 E6) (O2 (o7 E6)) (R4 (o7 E6)) M4.1 M4.2 b8O.Cars b8O.Points (by decide) (by decide);obtain⟨M6,h6⟩:=c3A lv2 M4.1 M4.2 7;have s3:=c4z hs s2 7;rw[c6A]at h6 s3;have lv3:a7w E6 c5e:=⟨hs,s3,by decide,by decide⟩;obtain⟨M7,h7⟩:=a7D lv3 M6.1 M6.2 7;have s4:=b2g hs s3 7;rw[c5J]at h7 s4;have lv4:a7w E6 c4v:=⟨hs,s4,by decide,by decide⟩;obtain⟨M8,h8⟩:=a7D lv4 M7.1 M7.2 7;rw[c5z]at h8;unfold LvT at h1 h2 h3 h4 h6 h7 h8;have h1:=c0g h1;have h2:=c0g h2;have hlive:b3M E6 [] [] ⟨[],x9 l5⟩=lkK++lkD E6 (Z4 E6) (O2 (o7 E6)) (R4 (o7 E6)) [] [] [] (x9 l5):=b5N E6 [] [] ⟨[],x9 l5⟩;rw[hlive]at hnew;have hp2:b8O.Points=[0,2,0,0]:=rfl;generalize Z4 E6=fo at*
 generalize O2 (o7 E6)=si at*
 generalize R4 (o7 E6)=up at*
 have e0:(x9 l5).length=4:=rfl;have e1:b7e.Points.length=4:=rfl;have e2:b8O.Points.length=4:=rfl;have e3:c5e.Points.length=4:=rfl;have e4:c4v.Points.length=4:=rfl;simp only at h1 h2 h3 h4 h6 h7 h8;rw[hp2]at h3 h4 h5 h6;refine a9.of_bodyG Tryz.func9 rfl (by decide) (by simp[Tryz.ntmps9]) ?_;intro J hJ;simp only[Tryz.ntmps9,Tryz.results9];refine gW ?_;refine gW ?_ fun K hK=>by simp -dsimp;refine cI (hex) ?_;simp -dsimp;refine cM [] [] (hnew) ?_;simp -dsimp;exact hK
 refine a8 fun K1 hK1=>?_;refine gW ?_;refine c3 rfl (fun hc0=>?_) (fun hc0=>?_)
 ·simp at hc0
 ·refine c5 ?_;refine zQ (hK1 _ _ ?_);refine gP [1] ?_;refine gW ?_ fun K hK=>by simp -dsimp;refine cM [0] [1,2,3,4,5,6] (h1) ?_;simp -dsimp;exact hK
  refine gW ?_ fun K hK=>by simp -dsimp;refine cM [0] [7,8,9,10,11,12] (h2) ?_;simp -dsimp;exact hK
  refine gW ?_ fun K hK=>by simp -dsimp;refine cM [0] [14,15,16,17,18,19] (h3) ?_;simp -dsimp;exact hK
  refine gW ?_ fun K hK=>by simp -dsimp;refine cM [0] [21,22,23,24,25,26] (h4) ?_;simp -dsimp;exact hK
  refine gW ?_ fun K hK=>by simp -dsimp;refine cM [0] [28,29,30,31,32,33] (h5) ?_;simp -dsimp;exact hK
  refine a8 fun K2 hK2=>?_;refine gW ?_;refine c3 rfl (fun hc1=>?_) (fun hc1=>?_)
  ·simp at hc1
  ·refine c5 ?_;refine zQ (hK2 _ _ ?_);refine gP [1,5,9] ?_;refine gW ?_ fun K hK=>by simp -dsimp;refine cM [0] [35,36,37,38,39,40] (h6) ?_;simp -dsimp;refine cM [0] [42,43,44,45,46,47] (h7) ?_;simp -dsimp;refine cM [0] [48,49,50,51,52,53] (h8) ?_;simp -dsimp;exact hK
   exact d9 (by simp[N6,r9])
end Go.Tram.Lk
end
section
namespace Go.Tram
open Go.AM Go.Proofs
theorem a7Y (f:Nat->Bool) (n:Nat):(List.range (n+1)).any f=((List.range n).any f||f n):=by
 rw[List.range_succ,List.any_append];simp
theorem b2r {f:Nat->Bool} {n k:Nat} (hk:k<n) (h:f k=true):(List.range n).any f=true:=qy.2 ⟨k,List.mem_range.2 hk,h⟩
theorem b7H (p:Plan) (a:Int) (x:Profile) (b:Int) (y:Profile) (hv:d8 p=true) (ha:inr a 0 (p.Rails.length-1)=true) (hb:inr b 0 (p.Rails.length-1)=true) (hx:z5 x=true) (hy:z5 y=true):
  a9 Tryz.prog 81 [p.av,I a,x.av,I b,y.av] (Bo (Y6 p a x b y)):=by
 have ia:=g6.1 ha;have ib:=g6.1 hb;have ra:=P9 hv (r:=a) (by omega) (by omega);have rb:=P9 hv (r:=b) (by omega) (by omega);have s30:=ra.s;have t30:=rb.s;have ca:=a9n p a (by omega) (by omega) (by omega);have cb:=a9n p b (by omega) (by omega) (by omega);rw[a7V];generalize hg:(fun i k=>Z5 (o9 (p.line a) a i) x (o9 (p.line b) b k) y)=g;have hgv:∀i k,Z5 (o9 (p.line a) a i) x (o9 (p.line b) b k) y=g i k:=fun i k=>by rw[<-hg]
 have hcf:∀i k:Nat,i<(p.rail a).Shape.length+1->k<(p.rail b).Shape.length+1->a9 Tryz.prog 122 [p.av,sAV a i,x.av,sAV b k,y.av] (Bo (g i k)):=by
  intro i k hi hk;rw[<-hgv];exact c0G p a i x b k y (by omega) (by omega) ra hi (by omega) (by omega) rb hk hx hy
 simp only[hgv];refine oB Tryz.func81 Tryz.ntmps81 Tryz.results81 ?_;refine aW ?_;refine a5 fun K1 hK1=>?_;refine aW ?_;refine b8 ?_;refine aP [1,3,5,7,9,11] ?_;refine c6 [1,3,5,7,9] (α:=Nat) (fun i=>[(11,I i)]) (fun _=>[some (.els 2 [p.cells]),some (.els 2 [x.cells]),some (.els 2 [y.cells])]) (fun i=>i<=(p.rail a).Shape.length+1/\((List.range i).any fun i=>(List.range ((p.rail b).Shape.length+1)).any fun k=>g i k)=false) (fun i=>(p.rail a).Shape.length+1-i) 0 ?_ ?_ ?_
 ·simp
 ·exact c9 (by simp)
 rintro i ⟨i1,i2⟩;refine zN ?_;refine a5 fun K2 hK2=>?_;refine aW ?_ fun K hK=>by simp -dsimp;refine cI (ca) ?_;simp -dsimp;exact hK
 refine a7 rfl (fun hc0=>?_) (fun hc0=>?_)
 ·skip
  try simp at hc0
  have wi:=zW i (by omega);refine b9 ?_;refine zQ (hK2 _ _ ?_);refine aP [1,3,5,7,9,11] ?_;refine a5 fun K3 hK3=>?_;refine b8 ?_;refine aW ?_;refine b8 ?_;refine aP [1,3,5,7,9,11,12] ?_;refine c6 [1,3,5,7,9,11] (α:=Nat) (fun k=>[(12,I k)]) (fun _=>[some (.els 2 [p.cells]),some (.els 2 [x.cells]),some (.els 2 [y.cells])]) (fun k=>k<=(p.rail b).Shape.length+1/\((List.range k).any fun k=>g i k)=false) (fun k=>(p.rail b).Shape.length+1-k) 0 ?_ ?_ ?_
  ·simp
  ·exact c9 (by simp)
  rintro k ⟨k1,k2⟩;refine zN ?_;refine a5 fun K4 hK4=>?_;refine aW ?_ fun K hK=>by simp -dsimp;refine cI (cb) ?_;simp -dsimp;exact hK
  refine a7 rfl (fun hc1=>?_) (fun hc1=>?_)
  ·skip
   try simp at hc1
   have wk:=zW k (by omega);refine b9 ?_;refine zQ (hK4 _ _ ?_);refine aP [1,3,5,7,9,11,12] ?_;refine a5 fun K5 hK5=>?_;refine b8 ?_;refine aW ?_ fun K hK=>by simp -dsimp;refine cI (hcf i k (by omega) (by omega)) ?_;simp -dsimp;exact hK
   refine a7 rfl (fun hc2=>?_) (fun hc2=>?_)
   ·skip
    try simp at hc2
    have hany:((List.range ((p.rail a).Shape.length+1)).any fun i=>(List.range ((p.rail b).Shape.length+1)).any fun k=>g i k)=true:=b2r (k:=i) (by omega) (b2r (k:=k) (by omega) hc2);refine aW ?_;exact a6 (by simp only[hany];simp)
   ·skip
    try simp at hc2
    refine b9 ?_;refine zQ (hK5 _ _ ?_);refine aP [1,3,5,7,9,11,12] ?_;refine aV ?_ fun K hK=>by simp -dsimp [wk];exact hK
    refine zQ ?_;exact⟨k+1,⟨by omega,by rw[a7Y,k2,hc2];rfl⟩,by omega,c9 (by simp)⟩
  ·skip
   try simp at hc1
   have hke:k=(p.rail b).Shape.length+1:=by omega
   subst hke;refine d4 ?_;refine zQ (hK3 _ _ ?_);refine aP [1,3,5,7,9,11] ?_;refine aV ?_ fun K hK=>by simp -dsimp [wi];exact hK
   refine zQ ?_;exact⟨i+1,⟨by omega,by rw[a7Y,i2,k2];rfl⟩,by omega,c9 (by simp)⟩
 ·skip
  try simp at hc0
  have hie:i=(p.rail a).Shape.length+1:=by omega
  subst hie;refine d4 ?_;refine zQ (hK1 _ _ ?_);refine aP [] ?_;refine aW ?_;exact a6 (by simp only[i2];simp)
theorem a9G (p:Plan) (l:List Profile) (hv:d8 p=true) (h:N4 l=true) (hN:p.Rails.length<=20):a9 Tryz.prog 37 [p.av, .lst 2 (l.map Profile.cells)] (.lst 4 ((A8 p l).map F5.cells)):=by
 have hl:1<=l.length/\l.length<=6/\∀x∈l,z5 x=true:=by simpa [N4]using h
 obtain⟨hl1,hl6,hpr⟩:=hl;have hcf:=fun a x b y=>b7H p a x b y hv;refine oB Tryz.func37 Tryz.ntmps37 Tryz.results37 ?_;refine aW ?_;refine aW ?_;refine a5 fun K1 hK1=>?_;refine aW ?_;refine b8 ?_;refine aP [1,2,5,6] ?_;refine c6 [1,2] (α:=Nat) (fun a=>[(6,I a),(5, .row 1 0 (fA p l a).length)]) (fun a=>[some (.els 2 [p.cells]),some (.els 4 ((fA p l a).map F5.cells))]) (fun a=>a<=p.Rails.length) (fun a=>p.Rails.length-a) 0 ?_ ?_ ?_
 ·simp
 ·exact(V7 5 4 (by simp)).trans (g7 [some 0,some 1] rfl (by simp[fA]) (by simp[fA]))
 rintro a a1;refine zN ?_;refine a5 fun K2 hK2=>?_;refine aW ?_;refine a7 rfl (fun hc0=>?_) (fun hc0=>?_)
 ·skip
  try simp at hc0
  have wa:=zW a (by omega);refine b9 ?_;refine zQ (hK2 _ _ ?_);refine aP [1,2,5,6] ?_;refine a5 fun K3 hK3=>?_;refine b8 ?_;refine aW ?_;refine b8 ?_;refine aP [1,2,5,6,7] ?_;refine c6 [1,2,6] (α:=Nat) (fun i=>[(7,I i),(5, .row 1 0 (fA p l a++fI p l a i).length)]) (fun i=>[some (.els 2 [p.cells]),some (.els 4 ((fA p l a++fI p l a i).map F5.cells))]) (fun i=>i<=l.length) (fun i=>l.length-i) 0 ?_ ?_ ?_
  ·simp
  ·exact g7 [some 0,some 1] rfl (by simp[fI]) (by simp[fI])
  rintro i i1;refine zN ?_;refine a5 fun K4 hK4=>?_;refine aW ?_;refine a7 rfl (fun hc1=>?_) (fun hc1=>?_)
  ·skip
   try simp at hc1
   have wi:=zW i (by omega);obtain⟨x,hx⟩:=gx (l:=l) (i:=i) hc1;have px:=hpr x (qd hx);refine b9 ?_;refine zQ (hK4 _ _ ?_);refine aP [1,2,5,6,7] ?_;refine a5 fun K5 hK5=>?_;refine b8 ?_;refine aW ?_;refine b8 ?_;refine aP [1,2,5,6,7,8] ?_;refine c6 [1,2,6,7] (α:=Nat) (fun d=>[(8,I ((a:Int)+d)),(5, .row 1 0 (fA p l a++fI p l a i++fB p l a i d).length)]) (fun d=>[some (.els 2 [p.cells]),some (.els 4 ((fA p l a++fI p l a i++fB p l a i d).map F5.cells))]) (fun d=>d<=p.Rails.length-a) (fun d=>p.Rails.length-a-d) 0 ?_ ?_ ?_
   ·simp
   ·exact g7 [some 0,some 1] rfl (by simp[fB]) (by simp[fB])
   rintro d d1;refine zN ?_;refine a5 fun K6 hK6=>?_;refine aW ?_;refine a7 rfl (fun hc2=>?_) (fun hc2=>?_)
   ·skip
    try simp at hc2
    have wd:IntKind.i64.wrap ((a:Int)+d+1)=(a:Int)+d+1:=c4 (by omega) (by omega);refine b9 ?_;refine zQ (hK6 _ _ ?_);refine aP [1,2,5,6,7,8] ?_;refine a5 fun K7 hK7=>?_;refine b8 ?_;refine aW ?_;refine b8 ?_;refine aP [1,2,5,6,7,8,9] ?_;refine c6 [1,2,6,7,8] (α:=Nat) (fun k=>[(9,I k),(5, .row 1 0 (fA p l a++fI p l a i++fB p l a i d++fK p l a i (a+d) k).length)]) (fun k=>[some (.els 2 [p.cells]),some (.els 4 ((fA p l a++fI p l a i++fB p l a i d++fK p l a i (a+d) k).map F5.cells))]) (fun k=>k<=l.length) (fun k=>l.length-k) 0 ?_ ?_ ?_
    ·simp
    ·exact g7 [some 0,some 1] rfl (by simp[fK]) (by simp[fK])
    rintro k k1;have hbd:=b2d p l (N:=20) (a:=a) (i:=i) (d:=d) (k:=k) hN (by omega) hc0 i1 (by omega) k1;have hsK:=b6k p l a i (a+d) k;have hsB:=b4O p l a i d;generalize hout:fA p l a++fI p l a i++fB p l a i d++fK p l a i (a+d) k=out at hbd ⊢;have f1:R2 (out.length+1) 33:=n7 (by omega) (by omega);have hot:=a7G out;refine zN ?_;refine a5 fun K8 hK8=>?_;refine aW ?_;refine a7 rfl (fun hc3=>?_) (fun hc3=>?_)
    ·skip
     try simp at hc3
     have wk:=zW k (by omega);obtain⟨y,hy⟩:=gx (l:=l) (i:=k) hc3;have py:=hpr y (qd hy);have hF:b1D p l a i (a+d) k=((decide ((a:Int)<a+d)||decide (i<=k))&&Y6 p a x ((a:Int)+d) y):=by unfold b1D;rw[b2l hx,b2l hy,Int.natCast_add,show decide (a<a+d)=decide ((a:Int)<a+d)from decide_eq_decide.2 (by omega)]
     refine b9 ?_;refine zQ (hK8 _ _ ?_);refine aP [1,2,5,6,7,8,9] ?_;refine a5 fun K9 hK9=>?_;refine b8 ?_;refine aD ?_ fun K hK=>by simp -dsimp [hx,hy];refine j7 x.cells (fun _=>by simp[hx]) ?_;simp -dsimp [hx,hy];refine j7 y.cells (fun _=>by simp[hy]) ?_;simp -dsimp [hx,hy];refine cY (fun hm=>hcf a x ((a:Int)+d) y (g6.2 (by omega)) (g6.2 (by omega)) px py) ?_;simp -dsimp [hx,hy];exact hK
     refine a7 rfl (fun hc4=>?_) (fun hc4=>?_)
     ·have hh:b1D p l a i (a+d) k=true:=hF.trans hc4;refine aV ?_ fun K hK=>by simp -dsimp [f1];exact hK
      refine zQ (hK9 _ _ ?_);refine aP [1,2,5,6,7,8,9] ?_;refine aV ?_ fun K hK=>by simp -dsimp [wk];exact hK
      refine zQ ?_;exact⟨k+1,by omega,by omega,g7 [some 0,some 2] rfl (by simp[hsK,hh,<-hout];omega) (by simp[hsK,hh,<-List.append_assoc,hout,hot])⟩
     ·have hh:b1D p l a i (a+d) k=false:=hF.trans hc4;refine b9 ?_;refine zQ (hK9 _ _ ?_);refine aP [1,2,5,6,7,8,9] ?_;refine aV ?_ fun K hK=>by simp -dsimp [wk];exact hK
      refine zQ ?_;exact⟨k+1,by omega,by omega,g7 [some 0,some 1] rfl (by simp only[hsK,hh,Bool.false_eq_true,if_false,List.append_nil,hout];simp) (by simp only[hsK,hh,Bool.false_eq_true,if_false,List.append_nil,hout];simp[hot])⟩
    ·skip
     try simp at hc3
     have hke:k=l.length:=by omega
     subst hke;refine d4 ?_;refine zQ (hK7 _ _ ?_);refine aP [1,2,5,6,7,8] ?_;refine aV ?_ fun K hK=>by simp -dsimp [wd];exact hK
     refine zQ ?_;exact⟨d+1,by omega,by omega,g7 [some 0,some 1] rfl (by simp[hsB,<-hout,Int.add_assoc]) (by simp[hsB,<-hout])⟩
   ·skip
    try simp at hc2
    have hde:d=p.Rails.length-a:=by omega
    subst hde;refine d4 ?_;refine zQ (hK5 _ _ ?_);refine aP [1,2,5,6,7] ?_;refine aV ?_ fun K hK=>by simp -dsimp [wi];exact hK
    refine zQ ?_;exact⟨i+1,by omega,by omega,g7 [some 0,some 1] rfl (by simp[a4H]) (by simp[a4H])⟩
  ·skip
   try simp at hc1
   have hie:i=l.length:=by omega
   subst hie;refine d4 ?_;refine zQ (hK3 _ _ ?_);refine aP [1,2,5,6] ?_;refine aV ?_ fun K hK=>by simp -dsimp [wa];exact hK
   refine zQ ?_;exact⟨a+1,by omega,by omega,g7 [some 0,some 1] rfl (by simp[a7h]) (by simp[a7h])⟩
 ·skip
  try simp at hc0
  have hae:a=p.Rails.length:=by omega
  subst hae;refine d4 ?_;refine zQ (hK1 _ _ ?_);refine aP [5] ?_;refine aW ?_;exact a6 (by simp[A8,a7G])
theorem c2I (x y:F5):x=y↔x.RailA=y.RailA/\x.ProfileA=y.ProfileA/\x.RailB=y.RailB/\x.ProfileB=y.ProfileB:=by
 cases x;cases y;simp
end Go.Tram
end
section
namespace Go.Tram.Lk
open Go.AM Go.Proofs
theorem b3A (x lo hi:Int):a9 Tryz.prog 35 [I x,I lo,I hi] (Bo (inr x lo hi)):=by
 refine oB Tryz.func35 Tryz.ntmps35 Tryz.results35 ?_;refine aW ?_;refine aW ?_;exact a6 (by simp_all [inr])
def usR (n:Nat) (L:List Int):List (List AV):=(List.range n).map fun(r:Nat)=>[Bo (decide ((r:Int)∈L))]
@[simp] theorem c5N (n:Nat) (L:List Int):(usR n L).length=n:=by simp[usR]
theorem b8N (n:Nat):List.replicate n [Bo false]=usR n []:=by
 unfold usR;apply List.ext_getElem?;intro i;rw[List.getElem?_replicate,qe]
 by_cases h:i<n
 ·rw[if_pos h,List.getElem?_range h];rfl
 ·rw[if_neg h,List.getElem?_eq_none (by simpa using h)];rfl
theorem c1T {n:Nat} {L:List Int} {r:Int} (h0:0<=r) (h1:r<n):(usR n L)[r.toNat]?=some [Bo (decide (r∈L))]:=by
 unfold usR;rw[qe,List.getElem?_range (by omega)];simp only[Option.map_some,Int.toNat_of_nonneg h0]
theorem c1Y {n:Nat} {L:List Int} {r:Int} (h0:0<=r) (h1:r<n):(usR n L).set r.toNat [Bo true]=usR n (L++[r]):=by
 unfold usR;apply List.ext_getElem?;intro i;rw[List.getElem?_set,qe,qe]
 by_cases h:i<n
 ·rw[List.getElem?_range h]
  by_cases e:r.toNat=i
  ·subst e;rw[if_pos rfl,if_pos (by simp;omega)];simp[Int.toNat_of_nonneg h0]
  ·rw[if_neg e];have:¬(i:Int)=r:=by omega
   simp[this]
 ·rw[List.getElem?_eq_none (by simpa using h)]
  split
  ·rw[if_neg (by simp;omega)];rfl
  ·rfl
@[simp high] theorem c5Q (n:Nat) (L:List Int) (g:List (Option Nat)) (k:Nat):(usR n L).map (fun e=>e.map (p5 g k))=usR n L:=by
 unfold usR;rw[List.map_map];refine List.map_congr_left fun r _=>?_
 cases k<;>simp[p5]
theorem c4Z (n:Nat) (L:List Int):(∀(x:List AV),x∈usR n L->∀(y:AV),y∈x->AV.noRef 2 y=true)=True:=by
 refine eq_true fun x hx y hy=>?_;unfold usR at hx;obtain⟨r,_,rfl⟩:=List.mem_map.1 hx;simp only[List.mem_singleton]at hy;subst hy;rfl
theorem c4Y (n:Nat) (L:List Int):List.take n (usR n L)=usR n L:=qg (by simp)
def sgR (l:List (List Move)) (i k:Nat):List Int:=(sgA l i++sgK l i k).map (·.2.Rail)
theorem b8C {l:List (List Move)} {i k:Nat} {x:List Move} {m:Move} (h:l[i]?=some x) (hm:x[k]?=some m):sgR l i (k+1)=sgR l i k++[m.Rail]:=by
 unfold sgR;rw[a6X l i k h hm,<-List.append_assoc,List.map_append];rfl
theorem c1k {l:List (List Move)} {i:Nat} {x:List Move} (h:l[i]?=some x):sgR l (i+1) 0=sgR l i x.length:=by
 unfold sgR;rw[a1C l i h];simp[sgK]
theorem b5K {p:Plan} {L:List (Nat×Move)} {i:Nat} {m:Move}:c0y p (L++[(i,m)])↔c0y p L/\C6 p m=true/\m.Rail∉L.map (·.2.Rail):=by
 unfold c0y;rw[List.map_append,List.nodup_append];constructor
 ·rintro⟨h1,h2,_,h3⟩;refine⟨⟨fun q hq=>h1 q (by simp[hq]),h2⟩,h1 (i,m) (by simp),fun hm=>h3 _ hm m.Rail (by simp) rfl⟩
 ·rintro⟨⟨h1,h2⟩,h3,h4⟩;refine⟨fun q hq=>?_,h2,by simp,fun a ha b hb e=>h4 ?_⟩
  ·rcases List.mem_append.1 hq with h|h
   ·exact h1 q h
   ·simp only[List.mem_singleton]at h;subst h;exact h3
  ·simp only[List.map_cons,List.map_nil,List.mem_singleton]at hb;rw[<-hb,<-e];exact ha
theorem c4L {p:Plan} {l:List (List Move)} {i k:Nat} {x:List Move} {m:Move} (hx:l[i]?=some x) (hm:x[k]?=some m) (h:¬(C6 p m=true/\m.Rail∉sgR l i k)):a9p p l=false:=by
 cases hs:a9p p l with
 |false=>rfl
 | true=>
  obtain⟨h1,h2⟩:=c0e hs hx hm;exfalso;refine h ⟨h2,fun hr=>?_⟩;obtain⟨q,hq,e⟩:=List.mem_map.1 hr;have hok:=(a0J.1 hs).2;have hil:=(qa.1 hx).1;have hnd:(sgR l i k).Nodup:=by
   have hsub:(sgA l i++sgK l i k).Sublist (sgA l l.length):=by
    have e1:sgA l (i+1)=sgA l i++sgK l i x.length:=a1C l i hx;have s1:(sgK l i k).Sublist (sgK l i x.length):=by
     unfold sgK;rw[hx];simp only[Option.getD_some,List.take_length];exact(List.take_sublist _ _).map _
    have s2:(sgA l (i+1)).Sublist (sgA l l.length):=by
     unfold sgA;have:List.range l.length=List.range (i+1)++(List.range (l.length-(i+1))).map (i+1+ ·):=by
      rw[<-List.range_add,Nat.add_sub_cancel' (by omega)]
     rw[this,List.flatMap_append];exact List.sublist_append_left _ _
    refine List.Sublist.trans ?_ s2;rw[e1];exact List.Sublist.append (List.Sublist.refl _) s1
   exact hok.2.sublist (hsub.map _)
  have:=b0f (p:=q) (sgA l i++sgK l i k) [] hnd hq;unfold O2 at h1;rw[<-e,this]at h1
  cases h1
theorem b8y (s:j0) (hR:s.Plan.Rails.length<=1000) (hp:s.Profiles.length<=1000) (hm:∀x∈s.Singles,x.length<=1000):a9 Tryz.prog 11 [s.av] (Bo (Q2 s)):=by
 have hvl:=c0H s.Plan;have hin:=b3A;have hmv:=fun m=>a9S s.Plan m (by omega);unfold Plan.av at hvl hmv;have hf1:R2 s.Plan.Rails.length 2:=n7 (by omega) (by omega);have hz:=b8N s.Plan.Rails.length;refine oB Tryz.func11 Tryz.ntmps11 Tryz.results11 ?_;refine aW ?_;refine a5 fun K1 hK1=>?_;refine aW ?_ fun K hK=>by simp -dsimp;refine cI (hvl) ?_;simp -dsimp;refine cY (fun hm=>hin s.Profiles.length 1 6) ?_;simp -dsimp;exact hK
 refine a7 rfl (fun hc0=>?_) (fun hc0=>?_)
 ·have hf:Q2 s=false:=by
   cases hs:Q2 s with
   |false=>rfl
   |true=>
    obtain⟨h1,h2,h3,h4⟩:=l9 hs;have h5:inr (s.Profiles.length:Int) 1 6=true:=by simp only[N4,qh,decide_eq_true_eq]at h2;rw[g6];omega
    exfalso;simp[h1,h5]at hc0;omega
  refine aW ?_;exact a6 (by simp[hf])
 ·obtain⟨hv,hpl,hsl⟩:d8 s.Plan=true/\inr (s.Profiles.length:Int) 1 6=true/\s.Singles.length<=30:=by
   cases h1:d8 s.Plan<;>cases h2:inr (s.Profiles.length:Int) 1 6<;>simp[h1,h2]at hc0 ⊢ <;>omega
  have hpl2:1<=s.Profiles.length/\s.Profiles.length<=6:=by rw[g6]at hpl;omega
  have hsb:Q2 s=(s.Profiles.all z5&&a9p s.Plan s.Singles):=by
   unfold Q2 N4;rw[hv,decide_eq_true hsl,decide_eq_true hpl2.1,decide_eq_true hpl2.2];simp
  refine b9 ?_;refine zQ (hK1 _ _ ?_);refine aP [1] ?_;refine a5 fun K2 hK2=>?_;refine aW ?_;refine b8 ?_;refine aP [1,3] ?_;refine c6 [1] (α:=Nat) (fun k=>[(3,I k)]) (fun k=>[some (.els 4 [s.cells])]) (fun k=>k<=s.Profiles.length/\(s.Profiles.take k).all z5=true) (fun k=>s.Profiles.length-k) 0 ?_ ?_ ?_
  ·exact⟨qp _,by simp⟩
  ·exact c9 (by simp)
  rintro k ⟨k1,k2⟩;refine zN ?_;refine a5 fun K3 hK3=>?_;refine aW ?_;refine a7 rfl (fun hc1=>?_) (fun hc1=>?_)
  ·have hk:k<s.Profiles.length:=by first|omega|(simp at hc1;omega)
   obtain⟨x,hx⟩:=gx (l:=s.Profiles) (i:=k) hk;have wk:=zW k (by omega);have hpe:z5 x=(inr x.Half 1 2000&&inr x.Swing 0 1500):=rfl;refine b9 ?_;refine zQ (hK3 _ _ ?_);refine aP [1,3] ?_;refine a5 fun K4 hK4=>?_;refine b8 ?_;refine aW ?_ fun K hK=>by simp -dsimp [hx];refine cI (hin x.Half 1 2000) ?_;simp -dsimp [hx];refine j7 x.cells (fun _=>by simp[hx]) ?_;simp -dsimp [hx];refine cY (fun hm=>hin x.Swing 0 1500) ?_;simp -dsimp [hx];exact hK
   refine a7 rfl (fun hc2=>?_) (fun hc2=>?_)
   ·have hb:z5 x=false:=by rw[hpe];cases h1:inr x.Half 1 2000<;>cases h2:inr x.Swing 0 1500<;>simp[h1,h2]at hc2 ⊢
    refine aW ?_;exact a6 (by rw[hsb,N3 hx hb];simp)
   ·have hb:z5 x=true:=by rw[hpe];cases h1:inr x.Half 1 2000<;>cases h2:inr x.Swing 0 1500<;>simp[h1,h2]at hc2 ⊢
    refine b9 ?_;refine zQ (hK4 _ _ ?_);refine aP [1,3] ?_;refine aV ?_ fun K hK=>by simp -dsimp [wk];exact hK
    refine zQ ?_;exact⟨k+1,⟨by omega,s7 hx k2 hb⟩,by omega,aB [some 0]⟩
  ·have hk:k=s.Profiles.length:=by first|omega|(simp at hc1;omega)
   subst hk;rw[List.take_length]at k2;rw[k2,Bool.true_and]at hsb;refine d4 ?_;refine zQ (hK2 _ _ ?_);refine aP [1] ?_;refine aW ?_ fun K hK=>by simp -dsimp [hf1,hz];exact hK
   refine a5 fun K5 hK5=>?_;refine aW ?_;refine b8 ?_;refine aP [1,4,5] ?_;refine c6 [1,4] (α:=Nat) (fun i=>[(5,I i)]) (fun i=>[some (.els 4 [s.cells]),some (.els 1 (usR s.Plan.Rails.length (sgR s.Singles i 0)))]) (fun i=>i<=s.Singles.length/\(∀j x,j<i->s.Singles[j]?=some x->1<=x.length/\x.length<=100)/\c0y s.Plan (sgA s.Singles i++sgK s.Singles i 0)) (fun i=>s.Singles.length-i) 0 ?_ ?_ ?_
   ·exact⟨qp _,fun j x h=>absurd h (Nat.not_lt_zero _),by simp[c0y,sgA,sgK]⟩
   ·exact g7 [some 0,some 1] rfl (by simp) (by simp[sgR,sgA,sgK])
   rintro i ⟨i1,i2,i3⟩;refine zN ?_;refine a5 fun K6 hK6=>?_;refine aW ?_;refine a7 rfl (fun hc3=>?_) (fun hc3=>?_)
   ·have hi:i<s.Singles.length:=by first|omega|(simp at hc3;omega)
    obtain⟨x,hx⟩:=gx (l:=s.Singles) (i:=i) hi;have hxm:=hm x (qd hx);have wi:=zW i (by omega);refine b9 ?_;refine zQ (hK6 _ _ ?_);refine aP [1,4,5] ?_;refine a5 fun K7 hK7=>?_;refine b8 ?_;refine aW ?_ fun K hK=>by simp -dsimp [hx];exact hK
    refine a5 fun K8 hK8=>?_;refine aW ?_ fun K hK=>by simp -dsimp;refine cI (hin x.length 1 100) ?_;simp -dsimp;exact hK
    refine a7 rfl (fun hc4=>?_) (fun hc4=>?_)
    ·have hf:a9p s.Plan s.Singles=false:=by
      cases hs:a9p s.Plan s.Singles with
      |false=>rfl
      |true=>
       have:=(a0J.1 hs).1 x (qd hx);exfalso;simp[inr]at hc4;omega
     refine aW ?_;exact a6 (by rw[hsb,hf];simp)
    ·have hxl:1<=x.length/\x.length<=100:=by simp[inr]at hc4;omega
     refine b9 ?_;refine zQ (hK8 _ _ ?_);refine aP [1,4,5,6] ?_;refine aW ?_;refine b8 ?_;refine aP [1,4,5,6,7] ?_;refine c6 [1,4,5,6] (α:=Nat) (fun k=>[(7,I k)]) (fun k=>[some (.els 4 [s.cells]),some (.els 1 (usR s.Plan.Rails.length (sgR s.Singles i k)))]) (fun k=>k<=x.length/\c0y s.Plan (sgA s.Singles i++sgK s.Singles i k)) (fun k=>x.length-k) 0 ?_ ?_ ?_
     ·exact⟨qp _,i3⟩
     ·exact aB [some 0,some 1]
     rintro k ⟨k1,k3⟩;refine zN ?_;refine a5 fun K9 hK9=>?_;refine aW ?_;refine a7 rfl (fun hc5=>?_) (fun hc5=>?_)
     ·have hk:k<x.length:=by first|omega|(simp at hc5;omega)
      obtain⟨m,hmg⟩:=gx (l:=x) (i:=k) hk;have wk:=zW k (by omega);have hno:=c4L (p:=s.Plan) hx hmg;have hsuc:=b8C hx hmg;have hsn:=(b5K (p:=s.Plan) (L:=sgA s.Singles i++sgK s.Singles i k) (i:=i) (m:=m)).2;rw[List.append_assoc,<-a6X s.Singles i k hx hmg]at hsn;generalize hLe:sgR s.Singles i k=L at hno hsuc ⊢;have hmr:C6 s.Plan m=true->0<=m.Rail/\m.Rail<s.Plan.Rails.length:=fun h=>G8.1 h;have hug:C6 s.Plan m=true->(usR s.Plan.Rails.length L)[m.Rail.toNat]?=some [Bo (decide (m.Rail∈L))]:=fun h=>c1T (hmr h).1 (hmr h).2;have hus:C6 s.Plan m=true->(usR s.Plan.Rails.length L).set m.Rail.toNat [Bo true]=usR s.Plan.Rails.length (L++[m.Rail]):=fun h=>c1Y (hmr h).1 (hmr h).2;refine b9 ?_;refine zQ (hK9 _ _ ?_);refine aP [1,4,5,6,7] ?_;refine a5 fun K10 hK10=>?_;refine b8 ?_;refine a5 fun K11 hK11=>?_;have hmvm:=hmv m
      rcases Bool.eq_false_or_eq_true (C6 s.Plan m)with hmb|hmb<;>rw[hmb]at hmvm
      all_goals first|(have hug:=hug hmb;have hus:=hus hmb;have hmr:=hmr hmb;have hug2:=(qa.1 hug).2)|refine a4e (a5F (T':=[(1, .ptr 0 0 0),(4, .lst 1 (usR s.Plan.Rails.length L)),(6,a1t x),(7,I k)]) (H':=[some (.els 4 [s.cells])]) [some 0] rfl ⟨.inr (by simp), .inr (by simp[c4Z,c4Y]), .inr (by simp), .inr (by simp),trivial⟩ (by simp)) ?_
      ·refine aD ?_ fun K hK=>by simp -dsimp [hmg,hug,hug2,hmr.1,hmr.2];refine cI (hmvm) ?_;simp -dsimp [hmg,hug,hug2,hmr.1,hmr.2];refine j7 m.cells (fun _=>by simp[hmg]) ?_;simp -dsimp [hmg,hug,hug2,hmr.1,hmr.2];exact hK
       refine a7 rfl (fun hc6=>?_) (fun hc6=>?_)
       ·have hru:m.Rail∈L:=by simpa using hc6
        have hf:a9p s.Plan s.Singles=false:=hno fun h=>h.2 hru;refine aW ?_;exact a6 (by rw[hsb,hf];simp)
       ·have hru:m.Rail∉L:=by simpa using hc6
        refine b9 ?_;refine zQ (hK11 _ _ ?_);refine aP [1,4,5,6,7] ?_;refine aV ?_ fun K hK=>by simp -dsimp [hmg,hus,hug,hug2,hmr.1,hmr.2];exact hK
        refine zQ (hK10 _ _ ?_);refine aP [1,4,5,6,7] ?_;refine aV ?_ fun K hK=>by simp -dsimp [wk];exact hK
        refine zQ ?_;exact⟨k+1,⟨by omega,hsn ⟨k3,hmb,by rw[<-hLe]at hru;exact hru⟩⟩,by omega,g7 [some 0,some 1] rfl (by simp) (by simp[hsuc])⟩
      ·refine aD ?_ fun K hK=>by simp -dsimp [hmg];refine cI (hmvm) ?_;simp -dsimp [hmg];refine j7 m.cells (fun _=>by simp[hmg]) ?_;simp -dsimp [hmg];refine j7 [Bo false] (fun h=>by simp at h) ?_;simp -dsimp [hmg];exact hK
       refine a7 rfl (fun hc6=>?_) (fun hc6=>?_)
       ·have hf:a9p s.Plan s.Singles=false:=hno fun h=>by rw[hmb]at h;simp at h
        refine aW ?_;exact a6 (by rw[hsb,hf];simp)
       ·simp at hc6
     ·have hk:k=x.length:=by first|omega|(simp at hc5;omega)
      subst hk;have n8:=c1k hx;refine d4 ?_;refine zQ (hK7 _ _ ?_);refine aP [1,4,5] ?_;refine aV ?_ fun K hK=>by simp -dsimp [wi];exact hK
      refine zQ ?_;exact⟨i+1,⟨by omega,fun j y hj hy=>by rcases Nat.lt_succ_iff_lt_or_eq.1 hj with h|rfl;exact i2 j y h hy;rw[hx]at hy;cases hy;exact hxl,by rw[a1C _ _ hx];simpa [sgK]using k3⟩,by omega,g7 [some 0,some 1] rfl (by simp) (by simp[n8])⟩
   ·have hi:i=s.Singles.length:=by first|omega|(simp at hc3;omega)
    subst hi;have hsng:a9p s.Plan s.Singles=true:=a0J.2 ⟨fun x hx=>by obtain⟨j,hj⟩:=List.getElem?_of_mem hx;exact i2 j x (qa.1 hj).1 hj,by simpa [sgK]using i3⟩;refine d4 ?_;refine zQ (hK5 _ _ ?_);refine aP [] ?_;refine aW ?_;exact a6 (by rw[hsb,hsng];simp)
def wC (s:j0):List AV:=s.cells++[.lst 4 ((A8 s.Plan s.Profiles).map F5.cells)]
@[simp] def Sta.cells (x:Sta):List AV:=[.lst 4 (x.Cars.map Car.cells), .lst 1 (x.Points.map f9)]
abbrev Sta.av (x:Sta):AV:= .agg x.cells
abbrev wA (s:j0):AV:= .agg (wC s)
def fsN (p:Plan) (k:Nat):List Int:=(p.Nodes.take k).map b3X
theorem b4d {p:Plan} {k:Nat} (h:k<=p.Nodes.length):(fsN p k).length=k:=by simp[fsN];omega
theorem b9n {p:Plan} {k:Nat} {n:Node} (h:p.Nodes[k]?=some n):fsN p (k+1)=fsN p k++[b3X n]:=by
 unfold fsN;rw[qz,h];simp
theorem b7k (s:j0) (h:Q2 s=true) (hR:s.Plan.Rails.length<=20):a9 Tryz.prog 13 [s.av] (.tup [wA s, .agg [L7, .lst 1 ((x9 s.Plan).map f9)]]):=by
 obtain⟨hv,hpf,_,_⟩:=l9 h;have hfo:=a9G s.Plan s.Profiles hv hpf hR;have hNl:1<=s.Plan.Nodes.length/\s.Plan.Nodes.length<=300:=(j9 hv).1;rw[a9g];unfold wA wC;generalize A8 s.Plan s.Profiles=fl at hfo ⊢;refine oB Tryz.func13 Tryz.ntmps13 Tryz.results13 ?_;refine aW ?_;refine aW ?_;refine a5 fun K1 hK1=>?_;refine aW ?_;refine b8 ?_;refine aP [1,2,3,4,5] ?_;refine c6 [1,2,3,4] (α:=Nat) (fun k=>[(5,I k)]) (fun k=>[some (.els 4 [s.cells]),some (.els 5 [[L7,L7,L7,L7,L7]]),some (.els 2 [[L7,L7]]),some (.els 2 [[L7, .row 4 0 k]]),some (.els 1 ((fsN s.Plan k).map f9))]) (fun k=>k<=s.Plan.Nodes.length) (fun k=>s.Plan.Nodes.length-k) 0 ?_ ?_ ?_
 ·exact qp _
 ·exact(a2f 3 0 1 1 (es:=[[L7,L7]]) (e:=[L7,L7]) (by simp) (by simp) (by simp)).trans (c9 (by simp[fsN]))
 rintro k k1;refine zN ?_;refine a5 fun K2 hK2=>?_;refine aW ?_;refine a7 rfl (fun hc0=>?_) (fun hc0=>?_)
 ·have hk:k<s.Plan.Nodes.length:=by first|omega|(simp at hc0;omega)
  obtain⟨n,hn⟩:=gx (l:=s.Plan.Nodes) (i:=k) hk;have wk:=zW k (by omega);have f1:R2 (k+1) 9:=n7 (by omega) (by omega);have hts:=b9n hn;have htl:=b4d k1;generalize fsN s.Plan k=L at hts htl ⊢;subst htl;have htL:List.take L.length (L.map f9)=L.map f9:=qg (by simp);refine b9 ?_;refine zQ (hK2 _ _ ?_);refine aP [1,2,3,4,5] ?_;refine a5 fun K3 hK3=>?_;refine b8 ?_;refine aW ?_ fun K hK=>by simp -dsimp [hn];exact hK
  refine a7 rfl (fun hc1=>?_) (fun hc1=>?_)
  ·have hkd:n.Kind=4:=by simpa using hc1
   refine aV ?_ fun K hK=>by simp -dsimp [f1];exact hK
   refine zQ (hK3 _ _ ?_);refine aP [1,2,3,4,5] ?_;refine aV ?_ fun K hK=>by simp -dsimp [wk];exact hK
   refine zQ ?_;exact⟨L.length+1,by omega,by omega,g7 [some 0,some 1,some 2,some 3,some 5] rfl (by simp) (by simp[hts,b3X,hkd,htL];try simp[f9])⟩
  ·have hkd:n.Kind≠4:=by simpa using hc1
   refine aV ?_ fun K hK=>by simp -dsimp [f1];exact hK
   refine zQ (hK3 _ _ ?_);refine aP [1,2,3,4,5] ?_;refine aV ?_ fun K hK=>by simp -dsimp [wk];exact hK
   refine zQ ?_;exact⟨L.length+1,by omega,by omega,g7 [some 0,some 1,some 2,some 3,some 5] rfl (by simp) (by simp[hts,b3X,hkd,htL];try simp[f9])⟩
 ·have hk:k=s.Plan.Nodes.length:=by first|omega|(simp at hc0;omega)
  subst hk;refine d4 ?_;refine zQ (hK1 _ _ ?_);refine aP [1,2,3,4] ?_;refine aD ?_ fun K hK=>by simp -dsimp;refine cI (hfo) ?_;simp -dsimp;exact hK
  have hfe:fsN s.Plan s.Plan.Nodes.length=s.Plan.Nodes.map b3X:=by unfold fsN;rw[List.take_length]
  rw[<-hfe];have hfl:=b4d (p:=s.Plan) (qo _);generalize fsN s.Plan s.Plan.Nodes.length=L at*
  have htk:List.take s.Plan.Nodes.length (L.map f9)=L.map f9:=qg (by simp;omega);exact a6 (by simp[hfl,htk])
theorem c1H (s:j0) (h:Q2 s=true) (hR:s.Plan.Rails.length<=20):a9 Tryz.prog 13 [s.av] (.tup [wA s,(⟨[],x9 s.Plan⟩:Sta).av]):=by
 refine(b7k s h hR).res fun w S y h=>?_;have e:wkN 4 6 (.tup [.agg [], .agg [L7, .lst 1 []]])= .tup [.agg [], .agg [.lst 4 [], .lst 1 []]]:=rfl
 cases h with
 | tup cs vs hl h=>
  refine .tup _ _ hl fun i c x h1 h2=>?_
  match i,h1 with
  |0,h1=>exact h 0 c x h1 h2
  | 1,h1=>
   have h1:c= .agg [.lst 4 [], .lst 1 ((x9 s.Plan).map f9)]:=(Option.some.inj h1).symm;subst h1;have h3:=h 1 _ x rfl h2
   cases h3 with
   | agg cs2 vs2 hl2 hc2 h4=>
    refine .agg _ _ hl2 hc2 fun j c z g1 g2=>?_
    match j,g1 with
    |0,g1=>
     simp only[List.getElem?_cons_zero,qb]at g1;subst g1;have h5:=h4 0 _ z rfl g2
     cases h5
     exact .lstNil _ _ _
    |1,g1=>exact h4 1 c z g1 g2
end Go.Tram.Lk
end
section
namespace Go.Tram.Lk
open Go.AM Go.Proofs
def a4s (n:Node):Bool:=decide (n.Ends.length<=8)
def a1r (r:Rail):Bool:=decide (r.Shape.length<=6)
def a8c (l:List Move):Bool:=decide (l.length<=110)
def c3u (s:j0):Bool:=decide (s.Plan.Nodes.length<=10)&&(decide (s.Plan.Rails.length<=10)&&(decide (s.Profiles.length<=8)&&decide (s.Singles.length<=32)))
def b7d (s:j0):Bool:=c3u s&&(s.Plan.Nodes.all a4s&&(s.Plan.Rails.all a1r&&s.Singles.all a8c))
theorem a3Z {s:j0}:c3u s=true↔s.Plan.Nodes.length<=10/\s.Plan.Rails.length<=10/\s.Profiles.length<=8/\s.Singles.length<=32:=by simp[c3u]
structure j0.Fit (s:j0):Prop where
 n:s.Plan.Nodes.length<=9223372036854775807
 r:s.Plan.Rails.length<=9223372036854775807
 p:s.Profiles.length<=9223372036854775807
 s:s.Singles.length<=9223372036854775807
theorem c4D (s:j0) (hF:s.Fit):a9 Tryz.prog 8 [s.av] (Bo (b7d s)):=by
 obtain⟨q1,q2,q3,q4⟩:=hF;refine oB Tryz.func8 Tryz.ntmps8 Tryz.results8 ?_;refine aW ?_;refine a5 fun K1 hK1=>?_;refine aW ?_;refine a7 rfl (fun hc0=>?_) (fun hc0=>?_)
 ·have hf:b7d s=false:=by
   have:c3u s=false:=by
    cases h:c3u s with
    |false=>rfl
    |true=>rw[a3Z]at h;exfalso;simp at hc0;omega
   unfold b7d;rw[this];rfl
  refine aW ?_;exact a6 (by simp[hf])
 ·have hA:c3u s=true:=by rw[a3Z];simp at hc0;omega
  have hA2:=a3Z.1 hA;have hfe:b7d s=(s.Plan.Nodes.all a4s&&(s.Plan.Rails.all a1r&&s.Singles.all a8c)):=by unfold b7d;rw[hA];rfl
  refine b9 ?_;refine zQ (hK1 _ _ ?_);refine aP [1] ?_;refine a5 fun K2 hK2=>?_;refine aW ?_;refine b8 ?_;refine aP [1,3] ?_;refine c6 [1] (α:=Nat) (fun k=>[(3,I k)]) (fun k=>[some (.els 4 [s.cells])]) (fun k=>k<=s.Plan.Nodes.length/\(s.Plan.Nodes.take k).all a4s=true) (fun k=>s.Plan.Nodes.length-k) 0 ?_ ?_ ?_
  ·exact⟨qp _,by simp⟩
  ·exact c9 (by simp)
  rintro k ⟨k1,k2⟩;refine zN ?_;refine a5 fun K3 hK3=>?_;refine aW ?_;refine a7 rfl (fun hc1=>?_) (fun hc1=>?_)
  ·have hk:k<s.Plan.Nodes.length:=by first|omega|(simp at hc1;omega)
   obtain⟨x,hx⟩:=gx (l:=s.Plan.Nodes) (i:=k) hk;have wk:=zW k (by omega);refine b9 ?_;refine zQ (hK3 _ _ ?_);refine aP [1,3] ?_;refine a5 fun K4 hK4=>?_;refine b8 ?_;refine aW ?_ fun K hK=>by simp -dsimp [hx];exact hK
   refine a7 rfl (fun hc2=>?_) (fun hc2=>?_)
   ·have hb:a4s x=false:=by unfold a4s;simp at hc2;simp;omega
    refine aW ?_;exact a6 (by rw[hfe,N3 hx hb];simp)
   ·have hb:a4s x=true:=by unfold a4s;simp at hc2;simp;omega
    refine b9 ?_;refine zQ (hK4 _ _ ?_);refine aP [1,3] ?_;refine aV ?_ fun K hK=>by simp -dsimp [wk];exact hK
    refine zQ ?_;exact⟨k+1,⟨by omega,s7 hx k2 hb⟩,by omega,aB [some 0]⟩
  ·have hk:k=s.Plan.Nodes.length:=by first|omega|(simp at hc1;omega)
   subst hk;rw[List.take_length]at k2;rw[k2,Bool.true_and]at hfe;refine d4 ?_;refine zQ (hK2 _ _ ?_);refine aP [1] ?_;refine a5 fun K5 hK5=>?_;refine aW ?_;refine b8 ?_;refine aP [1,4] ?_;refine c6 [1] (α:=Nat) (fun k=>[(4,I k)]) (fun k=>[some (.els 4 [s.cells])]) (fun k=>k<=s.Plan.Rails.length/\(s.Plan.Rails.take k).all a1r=true) (fun k=>s.Plan.Rails.length-k) 0 ?_ ?_ ?_
   ·exact⟨qp _,by simp⟩
   ·exact c9 (by simp)
   rintro k ⟨k1,k3⟩;refine zN ?_;refine a5 fun K6 hK6=>?_;refine aW ?_;refine a7 rfl (fun hc3=>?_) (fun hc3=>?_)
   ·have hk:k<s.Plan.Rails.length:=by first|omega|(simp at hc3;omega)
    obtain⟨x,hx⟩:=gx (l:=s.Plan.Rails) (i:=k) hk;have wk:=zW k (by omega);refine b9 ?_;refine zQ (hK6 _ _ ?_);refine aP [1,4] ?_;refine a5 fun K7 hK7=>?_;refine b8 ?_;refine aW ?_ fun K hK=>by simp -dsimp [hx];exact hK
    refine a7 rfl (fun hc4=>?_) (fun hc4=>?_)
    ·have hb:a1r x=false:=by unfold a1r;simp at hc4;simp;omega
     refine aW ?_;exact a6 (by rw[hfe,N3 hx hb];simp)
    ·have hb:a1r x=true:=by unfold a1r;simp at hc4;simp;omega
     refine b9 ?_;refine zQ (hK7 _ _ ?_);refine aP [1,4] ?_;refine aV ?_ fun K hK=>by simp -dsimp [wk];exact hK
     refine zQ ?_;exact⟨k+1,⟨by omega,s7 hx k3 hb⟩,by omega,aB [some 0]⟩
   ·have hk:k=s.Plan.Rails.length:=by first|omega|(simp at hc3;omega)
    subst hk;rw[List.take_length]at k3;rw[k3,Bool.true_and]at hfe;refine d4 ?_;refine zQ (hK5 _ _ ?_);refine aP [1] ?_;refine a5 fun K8 hK8=>?_;refine aW ?_;refine b8 ?_;refine aP [1,5] ?_;refine c6 [1] (α:=Nat) (fun k=>[(5,I k)]) (fun k=>[some (.els 4 [s.cells])]) (fun k=>k<=s.Singles.length/\(s.Singles.take k).all a8c=true) (fun k=>s.Singles.length-k) 0 ?_ ?_ ?_
    ·exact⟨qp _,by simp⟩
    ·exact c9 (by simp)
    rintro k ⟨k1,k4⟩;refine zN ?_;refine a5 fun K9 hK9=>?_;refine aW ?_;refine a7 rfl (fun hc5=>?_) (fun hc5=>?_)
    ·have hk:k<s.Singles.length:=by first|omega|(simp at hc5;omega)
     obtain⟨x,hx⟩:=gx (l:=s.Singles) (i:=k) hk;have wk:=zW k (by omega);refine b9 ?_;refine zQ (hK9 _ _ ?_);refine aP [1,5] ?_;refine a5 fun K10 hK10=>?_;refine b8 ?_;refine aW ?_ fun K hK=>by simp -dsimp [hx];exact hK
     refine a7 rfl (fun hc6=>?_) (fun hc6=>?_)
     ·have hb:a8c x=false:=by unfold a8c;simp at hc6;simp;omega
      refine aW ?_;exact a6 (by rw[hfe,N3 hx hb];simp)
     ·have hb:a8c x=true:=by unfold a8c;simp at hc6;simp;omega
      refine b9 ?_;refine zQ (hK10 _ _ ?_);refine aP [1,5] ?_;refine aV ?_ fun K hK=>by simp -dsimp [wk];exact hK
      refine zQ ?_;exact⟨k+1,⟨by omega,s7 hx k4 hb⟩,by omega,aB [some 0]⟩
    ·have hk:k=s.Singles.length:=by first|omega|(simp at hc5;omega)
     subst hk;rw[List.take_length]at k4;refine d4 ?_;refine zQ (hK8 _ _ ?_);refine aP [] ?_;refine aW ?_;exact a6 (by rw[hfe,k4];simp)
theorem a9m {s:j0} (h:b7d s=true):(s.Plan.Nodes.length<=10/\s.Plan.Rails.length<=10/\s.Profiles.length<=8/\s.Singles.length<=32)/\∀x∈s.Singles,x.length<=110:=by
 simp only[b7d,qh,qn,a8c,decide_eq_true_eq]at h;exact⟨a3Z.1 h.1,h.2.2.2⟩
end Go.Tram.Lk
end
section
namespace Go.Tram.Lk
open Go.AM Go.Proofs Go.ChangeShapes Go.WideShapes
theorem l3 {α:Type} {l:List α} (h:l.length=3):∃a b c,l=[a,b,c]:=by match l,h with|[a,b,c],_=>exact⟨a,b,c,rfl⟩
theorem l4 {α:Type} {l:List α} (h:l.length=4):∃a b c d,l=[a,b,c,d]:=by match l,h with|[a,b,c,d],_=>exact⟨a,b,c,d,rfl⟩
theorem l1 {α:Type} {l:List α} (h:l.length=1):∃a,l=[a]:=by match l,h with|[a],_=>exact⟨a,rfl⟩
theorem l6 {α:Type} {l:List α} (h:l.length=6):∃a b c d e f,l=[a,b,c,d,e,f]:=by match l,h with|[a,b,c,d,e,f],_=>exact⟨a,b,c,d,e,f,rfl⟩
theorem c1J {n:Nat} {avs:List AV} (h:x3 Tryz.prog (n+4) 85 avs):∃l:List Move,avs=r7 l/\l.length<=maxLen:=by
 obtain⟨hz,h2⟩:=C0 (by kernel_rfl) c7F h;obtain⟨a,rfl⟩:=l1 hz;obtain⟨W,h0,b0,_⟩:=b1O (h2 (0,1,49) (by simp));simp at h0;subst h0;exact⟨W,rfl,b0⟩
theorem c0R {n:Nat} {avs:List AV} (h:x3 Tryz.prog (n+9) 29 avs):∃s:j0,avs=s.cells/\s.Fit:=by
 obtain⟨hz,h2⟩:=C0 (by kernel_rfl) c6m h;obtain⟨a,b,c,d,rfl⟩:=l4 hz;obtain⟨p,h0,hp⟩:=c2F (h2 (0,2,25) (by simp));obtain⟨P,h1,b1,_⟩:=b9w (h2 (2,1,26) (by simp));obtain⟨els,hl,hb,he⟩:=A5 (by kernel_rfl) c7f (h2 (3,1,27) (by simp));obtain⟨L,rfl,hR⟩:=W6 (c:=r7) (R:=fun l=>l.length<=maxLen) (fun el hel=>by obtain⟨l,h1,h2⟩:=c1J (he el hel);exact⟨l,h1,h2⟩);rw[List.length_map]at hb;simp at h0 h1 hl;obtain⟨r1,r2⟩:=h0;subst r1 r2 h1 hl;have hm:maxLen=9223372036854775807:=by decide
 exact⟨⟨p,P,L⟩,rfl,⟨by have:=hp.1;simp only[];omega,by have:=hp.2;simp only[];omega,by simp only[];omega,by simp only[];omega⟩⟩
structure Car.Fit (c:Car):Prop where
 n:I64 c.Name
 p:I64 c.Profile
 f:I64 c.Front
 w:c.Way.length<=9223372036854775807
structure Act.Fit (a:Act):Prop where
 n:I64 a.Name
 p:I64 a.Profile
 w:a.Way.length<=9223372036854775807
theorem c3z {n:Nat} {avs:List AV} (h:x3 Tryz.prog (n+4) 70 avs):∃c:Act,avs=c.cells/\c.Fit:=by
 obtain⟨hz,h2⟩:=C0 (by kernel_rfl) c7T h;obtain⟨a,b,c,d,e,f,rfl⟩:=l6 hz;obtain⟨k,hk,_⟩:=R9 (h2 (0,1,3) (by simp));obtain⟨x,hx,bx⟩:=R9 (h2 (1,1,3) (by simp));obtain⟨y,hy,yb⟩:=R9 (h2 (2,1,3) (by simp));obtain⟨W,h0,b0,_⟩:=b1O (h2 (3,1,49) (by simp));obtain⟨m,hm,_⟩:=b6r (h2 (4,2,56) (by simp));simp at hk hx hy h0 hm;obtain⟨r1,r2⟩:=hm;subst hk hx hy h0 r1 r2;have hm:maxLen=9223372036854775807:=by decide
 exact⟨⟨k,x,y,W,m⟩,rfl,⟨bx,yb,by simp only[];omega⟩⟩
theorem c2i {n:Nat} {avs:List AV} (h:x3 Tryz.prog (n+5) 54 avs):∃l:List Act,avs=[.lst 6 (l.map Act.cells)]/\l.length<=maxLen/\∀c∈l,c.Fit:=by
 obtain⟨els,hl,hb,he⟩:=A5 (by kernel_rfl) c6p h;obtain⟨l,rfl,hR⟩:=W6 (c:=Act.cells) (R:=fun c=>c.Fit) (fun el hel=>c3z (he el hel));simp at hl hb;exact⟨l,hl,hb,hR⟩
end Go.Tram.Lk
end
section
namespace Go.Tram.Lk
open Go.AM Go.Proofs
theorem b1c (t:TypeId) (x y:Operand) (a b:Bool) (w:World) (ht:(Tryz.prog).underlying t=some .bool) (hk:a3y Tryz.prog t=some .b):(eqGuard .eql t x y (.bool a) (.bool b)).run Tryz.prog w= .ok () w/\(binOp .eql t (.bool a) (.bool b)).run Tryz.prog w= .ok (.bool (a==b)) w:=by
 constructor
 ·simp[eqGuard,run_underlying ht]
 ·have h:=C1 (P:=Tryz.prog) (w:=w) hk (Op.maxDepth-1) (a:= .b a) (b:= .b b) rfl rfl;rw[show Op.maxDepth-1+1=Op.maxDepth from rfl]at h;simp only[KC.val]at h;have e:decide (KC.b a=KC.b b)=(a==b):=by cases a<;>cases b<;>rfl
  rw[e]at h;simp[binOp,Op.equal,h]
theorem b4M (t:TypeId) (x y:Operand) (a b:Bool) (w:World) (ht:(Tryz.prog).underlying t=some .bool):(eqGuard .neq t x y (.bool a) (.bool b)).run Tryz.prog w= .ok () w:=by
 simp[eqGuard,run_underlying ht]
theorem b8Q (t:TypeId) (a b:Bool) (w:World) (hk:a3y Tryz.prog t=some .b):(binOp .neq t (.bool a) (.bool b)).run Tryz.prog w= .ok (.bool (a !=b)) w:=by
 have h:=C1 (P:=Tryz.prog) (w:=w) hk (Op.maxDepth-1) (a:= .b a) (b:= .b b) rfl rfl;rw[show Op.maxDepth-1+1=Op.maxDepth from rfl]at h;simp only[KC.val]at h;simp[binOp,Op.equal,h]
 cases a<;>cases b<;>rfl
theorem a4m:(Tryz.prog).underlying 4=some .bool:=by kernel_rfl
theorem a7s:a3y Tryz.prog 4=some .b:=by kernel_rfl
def b5M (a x b y:Int) (f:F5):Bool:=decide (f=⟨a,x,b,y⟩)||decide (f=⟨b,y,a,x⟩)
theorem any_take {α:Type} {l:List α} {p:α->Bool} {k:Nat} {x:α} (hx:l[k]?=some x) (h:(l.take k).any p=false) (hp:p x=false):(l.take (k+1)).any p=false:=by
 rw[qz,hx,List.any_append,h];simp[hp]
theorem a6Z {α:Type} {l:List α} {p:α->Bool} {k:Nat} {x:α} (hx:l[k]?=some x) (hp:p x=true):l.any p=true:=by
 rw[qy];exact⟨x,qd hx,hp⟩
theorem c2h (s:j0) (a x b y:Int) (hfl:(A8 s.Plan s.Profiles).length<=100000):a9 Tryz.prog 49 [wA s,I a,I x,I b,I y] (Bo (H6 s a x b y)):=by
 have hd:H6 s a x b y=(A8 s.Plan s.Profiles).any (b5M a x b y):=rfl;rw[hd];unfold wA wC;generalize A8 s.Plan s.Profiles=fl at hfl ⊢;refine oB Tryz.func49 Tryz.ntmps49 Tryz.results49 ?_;refine aW ?_;refine a5 fun K1 hK1=>?_;refine aW ?_;refine b8 ?_;refine aP [1,2,3,4,5,11] ?_;refine c6 [1,2,3,4,5] (α:=Nat) (fun k=>[(11,I k)]) (fun k=>[some (.els 5 [s.cells++[.lst 4 (fl.map F5.cells)]])]) (fun k=>k<=fl.length/\(fl.take k).any (b5M a x b y)=false) (fun k=>fl.length-k) 0 ?_ ?_ ?_
 ·exact⟨qp _,by simp⟩
 ·exact c9 (by simp)
 rintro k ⟨k1,k2⟩;refine zN ?_;refine a5 fun K2 hK2=>?_;refine aW ?_;refine a7 rfl (fun hc0=>?_) (fun hc0=>?_)
 ·have hk:k<fl.length:=by first|omega|(simp at hc0;omega)
  obtain⟨f,hf⟩:=gx (l:=fl) (i:=k) hk;have wk:=zW k (by omega);have hft:b5M a x b y f=(decide (f=⟨a,x,b,y⟩)||decide (f=⟨b,y,a,x⟩)):=rfl;simp only[c2I]at hft;refine b9 ?_;refine zQ (hK2 _ _ ?_);refine aP [1,2,3,4,5,11] ?_;refine a5 fun K3 hK3=>?_;refine b8 ?_;refine aW ?_ fun K hK=>by simp -dsimp [hf];exact hK
  refine aW ?_;refine a7 rfl (fun hc1=>?_) (fun hc1=>?_)
  ·have hq:b5M a x b y f=true:=by rw[hft];simpa [and_assoc]using hc1
   refine aW ?_;exact a6 (by simp[a6Z hf hq])
  ·have hq:b5M a x b y f=false:=by rw[hft];simpa [and_assoc]using hc1
   refine b9 ?_;refine zQ (hK3 _ _ ?_);refine aP [1,2,3,4,5,11] ?_;refine aV ?_ fun K hK=>by simp -dsimp [wk];exact hK
   refine zQ ?_;exact⟨k+1,⟨by omega,any_take hf k2 hq⟩,by omega,aB [some 0]⟩
 ·have hk:k=fl.length:=by first|omega|(simp at hc0;omega)
  subst hk;rw[List.take_length]at k2;refine d4 ?_;refine zQ (hK1 _ _ ?_);refine aP [] ?_;refine aW ?_;exact a6 (by simp[k2])
theorem b4t {s:j0} {i:Nat} {l:List Move} {r:Int} (hl:s.Singles[i]?=some l) (hm:(l.any fun m=>decide (m.Rail=r))=true) (hb:(s.Singles.take i).any (fun l=>l.any fun m=>decide (m.Rail=r))=false):a0Q s r=some i:=by
 unfold a0Q;rw[List.findIdx?_eq_some_iff_getElem];obtain⟨h1,h2⟩:=qa.1 hl;refine⟨h1,by rw[h2];exact hm,fun j hj=>?_⟩;rw[List.any_eq_false]at hb;have:=hb s.Singles[j] (by rw[List.mem_take_iff_getElem];exact⟨j,by omega,rfl⟩);simpa using this
theorem b7r {s:j0} {r:Int} (hb:s.Singles.any (fun l=>l.any fun m=>decide (m.Rail=r))=false):a0Q s r=none:=by
 unfold a0Q;rw[List.findIdx?_eq_none_iff];intro l hl;rw[List.any_eq_false]at hb;simpa using hb l hl
theorem c1z {s:j0} (hs:Q2 s=true) {i:Nat} {l:List Move} {x m:Move} (hl:s.Singles[i]?=some l) (hx:x∈l) (hr:x.Rail=m.Rail):s.Singles.flatten.contains m=decide (x.Back=m.Back):=by
 obtain⟨_,_,_,h4⟩:=l9 hs;simp only[a9p,qh,decide_eq_true_eq]at h4;have hn:=h4.2.2;have hxf:x∈s.Singles.flatten:=List.mem_flatten.2 ⟨l,qd hl,hx⟩;rw[qj,List.contains_iff_mem,decide_eq_true_iff];constructor
 ·intro hm;have:x=m:=by
   have inj:∀(L:List Move),(L.map (·.Rail)).Nodup->∀a∈L,∀b∈L,a.Rail=b.Rail->a=b:=by
    intro L
    induction L with
    |nil=>intro _ a ha;cases ha
    |cons z L ih=>
     intro hn a ha b hb e;rw[List.map_cons,List.nodup_cons]at hn
     rcases List.mem_cons.1 ha with h1|h1<;>rcases List.mem_cons.1 hb with h2|h2
     ·rw[h1,h2]
     ·refine absurd ?_ hn.1;rw[<-h1,e];exact qu (f:=(·.Rail)) h2
     ·refine absurd ?_ hn.1;rw[<-h2,<-e];exact qu (f:=(·.Rail)) h1
     ·exact ih hn.2 a h1 b h2 e
   exact inj _ hn x hxf m hm hr
  rw[this]
 ·intro hb;have:x=m:=by
   obtain⟨r,b⟩:=x;obtain⟨r',b'⟩:=m;simp only at hr hb;rw[hr,hb]
  rw[<-this];exact hxf
def upB (s:j0) (m:Move):Bool:=decide (Z2 s m=1)
theorem c4C (s:j0) (m:Move) (hs:Q2 s=true):a9 Tryz.prog 92 [wA s,m.av] (.tup [I (V2 s m),Bo (upB s m)]):=by
 obtain⟨_,_,h3,h4⟩:=l9 hs;simp only[a9p,qh,decide_eq_true_eq]at h4;have hlen:∀l∈s.Singles,l.length<=100:=by
  intro l hl;have:=qn.1 h4.1 l hl;rw[g6]at this;omega
 have w1:IntKind.i64.wrap (-1)=-1:=c4 (by omega) (by omega);unfold wA wC;generalize A8 s.Plan s.Profiles=fl;refine oB Tryz.func92 Tryz.ntmps92 Tryz.results92 ?_;refine aW ?_;refine a5 fun K1 hK1=>?_;refine aW ?_;refine b8 ?_;refine aP [2,3,6] ?_;refine c6 [2,3] (α:=Nat) (fun i=>[(6,I i)]) (fun i=>[some (.els 5 [s.cells++[.lst 4 (fl.map F5.cells)]]),some (.els 2 [m.cells])]) (fun i=>i<=s.Singles.length/\(s.Singles.take i).any (fun l=>l.any fun x=>decide (x.Rail=m.Rail))=false) (fun i=>s.Singles.length-i) 0 ?_ ?_ ?_
 ·exact⟨qp _,by simp⟩
 ·exact c9 (by simp)
 rintro i ⟨i1,i2⟩;refine zN ?_;refine a5 fun K2 hK2=>?_;refine aW ?_;refine a7 rfl (fun hc0=>?_) (fun hc0=>?_)
 ·have hi:i<s.Singles.length:=by first|omega|(simp at hc0;omega)
  obtain⟨l,hl⟩:=gx (l:=s.Singles) (i:=i) hi;have wi:=zW i (by omega);have hll:=hlen l (qd hl);refine b9 ?_;refine zQ (hK2 _ _ ?_);refine aP [2,3,6] ?_;refine a5 fun K3 hK3=>?_;refine b8 ?_;refine aW ?_ fun K hK=>by simp -dsimp [hl];exact hK
  refine aW ?_;refine b8 ?_;refine aP [2,3,6,7,8] ?_;refine c6 [2,3,6,7] (α:=Nat) (fun k=>[(8,I k)]) (fun k=>[some (.els 5 [s.cells++[.lst 4 (fl.map F5.cells)]]),some (.els 2 [m.cells])]) (fun k=>k<=l.length/\(l.take k).any (fun x=>decide (x.Rail=m.Rail))=false) (fun k=>l.length-k) 0 ?_ ?_ ?_
  ·exact⟨qp _,by simp⟩
  ·exact c9 (by simp)
  rintro k ⟨k1,k2⟩;refine zN ?_;refine a5 fun K4 hK4=>?_;refine aW ?_;refine a7 rfl (fun hc1=>?_) (fun hc1=>?_)
  ·have hk:k<l.length:=by first|omega|(simp at hc1;omega)
   obtain⟨x,hx⟩:=gx (l:=l) (i:=k) hk;have wk:=zW k (by omega);refine b9 ?_;refine zQ (hK4 _ _ ?_);refine aP [2,3,6,7,8] ?_;refine a5 fun K5 hK5=>?_;refine b8 ?_;refine aD ?_ fun K hK=>by simp -dsimp [hx];exact hK
   refine a7 rfl (fun hc2=>?_) (fun hc2=>?_)
   ·have hxr:x.Rail=m.Rail:=by simpa using hc2
    have hxm:=qd hx;have hat:=b4t hl (a6Z (p:=fun x=>decide (x.Rail=m.Rail)) hx (by simpa using hxr)) i2;have hup:=c1z hs hl hxm hxr;refine aD ?_ fun K hK=>by simp -dsimp [hx];refine⟨fun w=>(b1c _ _ _ _ _ w a4m a7s).1,_,fun w=>(b1c _ (.tmp 0) (.tmp 0) _ _ w a4m a7s).2,?_⟩;exact hK
    refine a6 ?_;have e1:V2 s m=i:=by unfold V2;rw[hat]
    have e2:upB s m=decide (x.Back=m.Back):=by unfold upB Z2;rw[hat,hup];by_cases hq:x.Back=m.Back<;>simp[hq]
    simp[e1,e2,Bool.beq_eq_decide_eq]
   ·have hxr:¬x.Rail=m.Rail:=by simpa using hc2
    refine b9 ?_;refine zQ (hK5 _ _ ?_);refine aP [2,3,6,7,8] ?_;refine aV ?_ fun K hK=>by simp -dsimp [wk];exact hK
    refine zQ ?_;exact⟨k+1,⟨by omega,any_take hx k2 (by simpa using hxr)⟩,by omega,aB [some 0,some 1]⟩
  ·have hk:k=l.length:=by first|omega|(simp at hc1;omega)
   subst hk;rw[List.take_length]at k2;refine d4 ?_;refine zQ (hK3 _ _ ?_);refine aP [2,3,6] ?_;refine aV ?_ fun K hK=>by simp -dsimp [wi];exact hK
   refine zQ ?_;exact⟨i+1,⟨by omega,any_take hl i2 k2⟩,by omega,aB [some 0,some 1]⟩
 ·have hi:i=s.Singles.length:=by first|omega|(simp at hc0;omega)
  subst hi;rw[List.take_length]at i2;have hat:=b7r i2;refine d4 ?_;refine zQ (hK1 _ _ ?_);refine aP [] ?_;refine aW ?_ fun K hK=>by simp -dsimp [w1];exact hK
  exact a6 (by simp[V2,Z2,upB,hat])
theorem c0Y {s:j0} {m n:Move}:D8 s m n=(decide (0<=V2 s m)&&(decide (V2 s n=V2 s m)&& !decide (upB s n=upB s m))):=by
 unfold D8 upB;have hd:∀k:Move,0<=V2 s k->Z2 s k=1∨Z2 s k=2:=by
  intro k hk;unfold V2 at hk;unfold Z2
  cases h:a0Q s k.Rail with
  |none=>rw[h]at hk;simp at hk
  |some i=>
   simp only
   cases s.Singles.flatten.contains k
   ·exact Or.inr rfl
   ·exact Or.inl rfl
 rw[qj];simp only[qh,decide_eq_true_eq,Bool.not_eq_true',decide_eq_false_iff_not];constructor
 ·rintro⟨h1,h2,h3⟩;refine⟨h1,h2.symm,fun e=>h3 ?_⟩;have:=hd m h1;have:=hd n (by omega);have e':(Z2 s n=1)=(Z2 s m=1):=by simpa using e
  by_cases hq:Z2 s m=1
  ·rw[hq]at e' ⊢;simp at e';exact e'.symm
  ·have:¬Z2 s n=1:=by rw[e'];exact hq
   omega
 ·rintro⟨h1,h2,h3⟩;refine⟨h1,h2.symm,fun e=>h3 (by rw[e])⟩
theorem b3j (s:j0) (c:Car) (m:Move) (hs:Q2 s=true) (hl:c.Way.length<=1000):a9 Tryz.prog 48 [wA s,c.av,m.av] (Bo (c.Way.any fun n=>D8 s m n)):=by
 have hd:=fun m=>c4C s m hs;have hag:=fun n=>c0Y (s:=s) (m:=m) (n:=n);unfold wA wC at*
 generalize A8 s.Plan s.Profiles=fl at*
 refine oB Tryz.func48 Tryz.ntmps48 Tryz.results48 ?_;refine aW ?_;refine aW ?_ fun K hK=>by simp -dsimp;refine cI (hd m) ?_;simp -dsimp;exact hK
 refine a5 fun K1 hK1=>?_;refine aW ?_;refine b8 ?_;refine aP [3,4,7,8,9] ?_;refine c6 [3,4,7,8] (α:=Nat) (fun k=>[(9,I k)]) (fun k=>[some (.els 5 [s.cells++[.lst 4 (fl.map F5.cells)]]),some (.els 4 [c.cells]),some (.els 2 [m.cells])]) (fun k=>k<=c.Way.length/\(c.Way.take k).any (fun n=>D8 s m n)=false) (fun k=>c.Way.length-k) 0 ?_ ?_ ?_
 ·exact⟨qp _,by simp⟩
 ·exact c9 (by simp)
 rintro k ⟨k1,k2⟩;refine zN ?_;refine a5 fun K2 hK2=>?_;refine aW ?_;refine a7 rfl (fun hc0=>?_) (fun hc0=>?_)
 ·have hk:k<c.Way.length/\0<=V2 s m:=by simp at hc0;exact⟨hc0.1,hc0.2⟩
  obtain⟨n,hn⟩:=gx (l:=c.Way) (i:=k) hk.1;have wk:=zW k (by omega);refine b9 ?_;refine zQ (hK2 _ _ ?_);refine aP [3,4,7,8,9] ?_;refine a5 fun K3 hK3=>?_;refine b8 ?_;refine aD ?_ fun K hK=>by simp -dsimp [hn];refine cI (hd n) ?_;simp -dsimp [hn];exact hK
  refine aW ?_ fun K hK=>by simp -dsimp;refine⟨fun w=>b4M _ _ _ _ _ w a4m,_,fun w=>b8Q _ _ _ w a7s,?_⟩;simp -dsimp;exact hK
  refine a7 rfl (fun hc1=>?_) (fun hc1=>?_)
  ·have hq:D8 s m n=true:=by rw[hag,decide_eq_true hk.2];simpa [Bool.beq_eq_decide_eq,bne]using hc1
   refine aW ?_;exact a6 (by simp[a6Z hn hq])
  ·have hq:D8 s m n=false:=by rw[hag,decide_eq_true hk.2];simpa [Bool.beq_eq_decide_eq,bne]using hc1
   refine b9 ?_;refine zQ (hK3 _ _ ?_);refine aP [3,4,7,8,9] ?_;refine aV ?_ fun K hK=>by simp -dsimp [wk];exact hK
   refine zQ ?_;exact⟨k+1,⟨by omega,any_take hn k2 hq⟩,by omega,aB [some 0,some 1,some 2]⟩
 ·have hfin:(c.Way.any fun n=>D8 s m n)=false:=by
   by_cases hq:0<=V2 s m
   ·have hk:k=c.Way.length:=by simp[hq]at hc0;omega
    subst hk;rw[List.take_length]at k2;exact k2
   ·rw[List.any_eq_false];intro n hn;rw[hag,decide_eq_false hq];simp
  refine d4 ?_;refine zQ (hK1 _ _ ?_);refine aP [] ?_;refine aW ?_;exact a6 (by simp[hfin])
theorem b5r (p:Plan) (hv:d8 p=true) {l:List Move} (hw:wayB p l=true) {i:Nat} (hi:i+1<l.length):a9 Tryz.prog 47 [p.av,(y4 l i).av,(y4 l (i+1)).av] (.tup [.agg (if F8 p (y4 l i)then F9 p (y4 l i) (y4 l (i+1))else⟨0,0⟩).cells,Bo (F8 p (y4 l i))]):=by
 have hm:=E3 hw i (by omega);have hk:=E3 hw (i+1) hi;have hf:=a6H hw hi;rw[a6Q hv hm hk]at hf;have hb:=c2z hv hm hf;have:=b2O p (y4 l i) (y4 l (i+1)) hv hm;rw[<-hb]at this;exact this
end Go.Tram.Lk
end
section
namespace Go.Tram.Lk
open Go.AM Go.Proofs
theorem b4W {l:List Move} {i j:Nat} {a b:Move} (hi:l[i]?=some a) (hj:l[j]?=some b) (h:j<i) (e:b.Rail=a.Rail):¬(B4 l).Nodup:=by
 intro hn;unfold B4 at hn;obtain⟨h1,e1⟩:=qa.1 hi;obtain⟨h2,e2⟩:=qa.1 hj;have:=(List.pairwise_iff_getElem.1 hn) j i (by simpa using h2) (by simpa using h1) h;apply this;simp[e1,e2,e]
theorem b3d {l:List Move} {k:Nat} {m:Move} (hk:l[k]?=some m) (hn:(B4 (l.take k)).Nodup) (h:(l.take k).any (fun a=>decide (a.Rail=m.Rail))=false):(B4 (l.take (k+1))).Nodup:=by
 unfold B4 at*
 rw[qz,hk,List.map_append,List.nodup_append];refine⟨hn,by simp,?_⟩;intro a ha b hb;obtain⟨x,hx,rfl⟩:=List.mem_map.1 ha;simp at hb;subst hb;rw[List.any_eq_false]at h;simpa using h x hx
theorem b7W (s:j0) (c:Car) (hv:d8 s.Plan=true) (hp:s.Profiles.length<=100000) (hl:c.Way.length<=1000):a9 Tryz.prog 46 [s.av,c.av] (Bo (a1k s c)):=by
 have wp:IntKind.i64.wrap ((s.Profiles.length:Int)-1)=(s.Profiles.length:Int)-1:=c4 (by omega) (by omega);have wl:IntKind.i64.wrap ((c.Way.length:Int)-1)=(c.Way.length:Int)-1:=c4 (by omega) (by omega);have h1:=b3A c.Name 1 1000000;have h2:=b3A c.Profile 0 ((s.Profiles.length:Int)-1);have h3:=b3A c.Way.length 1 20;have h4:=c4l s.Plan c.Way hv (by omega);have h5:=b3A c.Front 0 ((c.Way.length:Int)-1);have hc:a1k s c=(inr c.Name 1 1000000&&(inr c.Profile 0 (s.Profiles.length-1)&&((inr c.Way.length 1 20&&(decide (B4 c.Way).Nodup&&wayB s.Plan c.Way))&&inr c.Front 0 (c.Way.length-1)))):=by
  unfold a1k a5n;have:inr (c.Way.length:Int) 1 20=(decide (1<=c.Way.length)&&decide (c.Way.length<=20)):=by
   rw[qj,g6];simp;omega
  rw[this];simp only[Bool.and_assoc]
 generalize inr c.Name 1 1000000=b1 at*
 generalize inr c.Profile 0 ((s.Profiles.length:Int)-1)=b2 at*
 generalize inr (c.Way.length:Int) 1 20=b3 at*
 generalize wayB s.Plan c.Way=b4 at*
 generalize inr c.Front 0 ((c.Way.length:Int)-1)=b5 at*
 rw[hc];refine oB Tryz.func46 Tryz.ntmps46 Tryz.results46 ?_;refine aW ?_;refine a5 fun K1 hK1=>?_;refine aW ?_ fun K hK=>by simp -dsimp [wp,wl];refine cI (h1) ?_;simp -dsimp [wp,wl];refine cY (fun hm=>h2) ?_;simp -dsimp [wp,wl];refine cY (fun hm=>h3) ?_;simp -dsimp [wp,wl];refine cY (fun hm=>h4) ?_;simp -dsimp [wp,wl];refine cY (fun hm=>h5) ?_;simp -dsimp [wp,wl];exact hK
 refine a7 rfl (fun hc0=>?_) (fun hc0=>?_)
 ·refine aW ?_;refine a6 ?_;have:(b1&&(b2&&((b3&&(decide (B4 c.Way).Nodup&&b4))&&b5)))=false:=by cases b1<;>cases b2<;>cases b3<;>cases b4<;>cases b5<;>simp at hc0 ⊢
  simp[this]
 ·obtain⟨rfl,rfl,rfl,rfl,rfl⟩:b1=true/\b2=true/\b3=true/\b4=true/\b5=true:=by cases b1<;>cases b2<;>cases b3<;>cases b4<;>cases b5<;>simp at hc0 ⊢
  refine b9 ?_;refine zQ (hK1 _ _ ?_);refine aP [3] ?_;refine a5 fun K2 hK2=>?_;refine aW ?_;refine b8 ?_;refine aP [3,5] ?_;refine c6 [3] (α:=Nat) (fun k=>[(5,I k)]) (fun k=>[some (.els 4 [s.cells]),some (.els 4 [c.cells])]) (fun k=>k<=c.Way.length/\(B4 (c.Way.take k)).Nodup) (fun k=>c.Way.length-k) 0 ?_ ?_ ?_
  ·exact⟨qp _,by simp[B4]⟩
  ·exact c9 (by simp)
  rintro k ⟨k1,k2⟩;refine zN ?_;refine a5 fun K3 hK3=>?_;refine aW ?_;refine a7 rfl (fun hc1=>?_) (fun hc1=>?_)
  ·have hk:k<c.Way.length:=by first|omega|(simp at hc1;omega)
   obtain⟨m,hm⟩:=gx (l:=c.Way) (i:=k) hk;have wk:=zW k (by omega);refine b9 ?_;refine zQ (hK3 _ _ ?_);refine aP [3,5] ?_;refine a5 fun K4 hK4=>?_;refine b8 ?_;refine aW ?_;refine b8 ?_;refine aP [3,5,6] ?_;refine c6 [3,5] (α:=Nat) (fun j=>[(6,I j)]) (fun j=>[some (.els 4 [s.cells]),some (.els 4 [c.cells])]) (fun j=>j<=k/\(c.Way.take j).any (fun a=>decide (a.Rail=m.Rail))=false) (fun j=>k-j) 0 ?_ ?_ ?_
   ·exact⟨qp _,by simp⟩
   ·exact c9 (by simp)
   rintro j ⟨j1,j2⟩;refine zN ?_;refine a5 fun K5 hK5=>?_;refine aW ?_;refine a7 rfl (fun hc2=>?_) (fun hc2=>?_)
   ·have hj:j<k:=by first|omega|(simp at hc2;omega)
    obtain⟨n,hn⟩:=gx (l:=c.Way) (i:=j) (by omega);have wj:=zW j (by omega);refine b9 ?_;refine zQ (hK5 _ _ ?_);refine aP [3,5,6] ?_;refine a5 fun K6 hK6=>?_;refine b8 ?_;refine aD ?_ fun K hK=>by simp -dsimp [hm,hn];exact hK
    refine a7 rfl (fun hc3=>?_) (fun hc3=>?_)
    ·have he:n.Rail=m.Rail:=by simpa using hc3
     refine aW ?_;exact a6 (by simp[b4W hm hn hj he])
    ·have he:¬n.Rail=m.Rail:=by simpa using hc3
     refine b9 ?_;refine zQ (hK6 _ _ ?_);refine aP [3,5,6] ?_;refine aV ?_ fun K hK=>by simp -dsimp [wj];exact hK
     refine zQ ?_;exact⟨j+1,⟨by omega,any_take hn j2 (by simpa using he)⟩,by omega,aB [some 0,some 1]⟩
   ·have hj:j=k:=by first|omega|(simp at hc2;omega)
    subst hj;refine d4 ?_;refine zQ (hK4 _ _ ?_);refine aP [3,5] ?_;refine aV ?_ fun K hK=>by simp -dsimp [wk];exact hK
    refine zQ ?_;exact⟨j+1,⟨by omega,b3d hm k2 j2⟩,by omega,aB [some 0,some 1]⟩
  ·have hk:k=c.Way.length:=by first|omega|(simp at hc1;omega)
   subst hk;rw[List.take_length]at k2;refine d4 ?_;refine zQ (hK2 _ _ ?_);refine aP [] ?_;refine aW ?_;exact a6 (by simp[k2])
def a7Q (s:j0) (c x:Car) (m n:Move):Bool:=H6 s m.Rail c.Profile n.Rail x.Profile
def b5o (s:j0) (c x:Car) (m:Move):Bool:= !(x.Way.any fun n=>D8 s m n)&& !(x.Way.any (a7Q s c x m))
def c1R (s:j0) (c x:Car):Bool:= !decide (c.Name=x.Name)&&c.Way.all (b5o s c x)
theorem a6r (s:j0) (a x b y:Int):H6 s a x b y=H6 s b y a x:=by
 unfold H6
 congr 1;funext f
 rw[Bool.or_comm]
theorem c3G (s:j0) (c x:Car):c1R s c x=a6R s c x:=by
 unfold c1R a6R;have e:decide (c.Name=x.Name)=decide (x.Name=c.Name):=by rw[qj];simp[eq_comm]
 rw[e]
 congr 1
 rw[qj,U7,qn];unfold b5o a7Q;simp only[qh,Bool.not_eq_true',List.any_eq_false];constructor
 ·intro h m hm n hn;obtain⟨h1,h2⟩:=h n hn;exact⟨by rw[a6r];simpa using h2 m hm,by rw[a5a];simpa using h1 m hm⟩
 ·intro h m hm;exact⟨fun n hn=>by rw[a5a];simp[(h n hn m hm).2],fun n hn=>by rw[a6r];simp[(h n hn m hm).1]⟩
def b2v (s:j0) (cars:List Car) (pts:List Int) (i:Nat):Bool:=(E0 s (Y0 cars i)).all (a7N pts)&&(cars.take i).all (c1R s (Y0 cars i))
theorem b6o (s:j0) (cars:List Car) (pts:List Int) (i:Nat):b4u s cars pts i=(a1k s (Y0 cars i)&&b2v s cars pts i):=by
 unfold b4u b2v
 congr 1
 rw[Bool.and_comm]
 congr 2
 funext x
 exact(c3G s _ x).symm
theorem c1m (s:j0) (cars:List Car) (pts:List Int) (h:Q2 s=true) (hN:s.Plan.Rails.length<=20) (hc:cars.length<=1000) (hw:∀c∈cars,c.Way.length<=1000) (hpn:pts.length<=1000):
  a9 Tryz.prog 18 [wA s, .lst 4 (cars.map Car.cells), .lst 1 (pts.map f9)] (Bo (S5 s cars pts)):=by
 obtain⟨hv,hpf,_,_⟩:=l9 h;have hpl:s.Profiles.length<=100000:=by simp only[N4,qh,decide_eq_true_eq]at hpf;omega
 have hNl:1<=s.Plan.Nodes.length/\s.Plan.Nodes.length<=300:=(j9 hv).1;have hfl:=c0j hN hpf;have hri:=fun c hl=>b7W s c hv hpl hl;have hin:=b3A;have hbt:=fun(l:List Move) (hw:wayB s.Plan l=true) (i:Nat) (hi:i+1<l.length)=>b5r s.Plan hv hw hi;have hag:=fun c m hl=>b3j s c m h hl;have hfo:=fun a x b y=>c2h s a x b y hfl;unfold Plan.av at hbt;unfold wA wC at*
 generalize A8 s.Plan s.Profiles=fl at*
 refine oB Tryz.func18 Tryz.ntmps18 Tryz.results18 ?_;refine aW ?_;refine aW ?_;refine a5 fun K1 hK1=>?_;refine aW ?_;refine a7 rfl (fun hc0=>?_) (fun hc0=>?_)
 ·have hf:S5 s cars pts=false:=by
   simp at hc0;unfold S5 a5o
   rcases hc0 with hc0|hc0
   ·rw[decide_eq_false (by omega)];rfl
   ·rw[decide_eq_false (p:=pts.length=s.Plan.Nodes.length) (by omega)];simp
  refine aW ?_;exact a6 (by simp[hf])
 ·have h0 : cars.length<=100/\pts.length=s.Plan.Nodes.length:=by simp at hc0;omega
  refine b9 ?_;refine zQ (hK1 _ _ ?_);refine aP [1,2,3,7] ?_;refine a5 fun K2 hK2=>?_;refine aW ?_;refine b8 ?_;refine aP [1,2,3,7,8] ?_;refine c6 [1,2,3,7] (α:=Nat) (fun k=>[(8,I k)]) (fun k=>[some (.els 5 [s.cells++[.lst 4 (fl.map F5.cells)]]),some (.els 4 [s.cells])]) (fun k=>k<=pts.length/\((List.range k).all fun i=>ptB (s.Plan.node i) (pts[i]?.getD 0))=true) (fun k=>pts.length-k) 0 ?_ ?_ ?_
  ·exact⟨qp _,by simp⟩
  ·exact c9 (by simp)
  rintro k ⟨k1,k2⟩;refine zN ?_;refine a5 fun K3 hK3=>?_;refine aW ?_;refine a7 rfl (fun hc1=>?_) (fun hc1=>?_)
  ·have hk:k<pts.length:=by first|omega|(simp at hc1;omega)
   obtain⟨x,hx⟩:=gx (l:=pts) (i:=k) hk;have hxe:=(qa.1 hx).2;obtain⟨n,hn⟩:=gx (l:=s.Plan.Nodes) (i:=k) (by omega);have hnk:s.Plan.node k=n:=by unfold Plan.node;simp[hn]
   have wk:=zW k (by omega);have hkp:ptB (s.Plan.node k) (pts[k]?.getD 0)=if n.Kind=4 then inr x 1 2 else decide (x=0):=by rw[hx,hnk];rfl
   refine b9 ?_;refine zQ (hK3 _ _ ?_);refine aP [1,2,3,7,8] ?_;refine a5 fun K4 hK4=>?_;refine b8 ?_;refine aW ?_ fun K hK=>by simp -dsimp [hn];exact hK
   refine aW ?_ fun K hK=>by simp -dsimp [hx,hk,hxe];refine j7 (f9 x) (fun _=>by simp[hx]) ?_;simp -dsimp [hx,hk,hxe];refine cY (fun hm=>hin x 1 2) ?_;simp -dsimp [hx,hk,hxe];refine j7 (f9 x) (fun _=>by simp[hx]) ?_;simp -dsimp [hx,hk,hxe];exact hK
   refine a7 rfl (fun hc2=>?_) (fun hc2=>?_)
   ·have hpx:ptB (s.Plan.node k) (pts[k]?.getD 0)=false:=by
     rw[hkp]
     by_cases hq:n.Kind=4<;>simp[hq]at hc2 ⊢
     ·exact hc2
     ·exact hc2
    have hf:S5 s cars pts=false:=by
     unfold S5 a5o;rw[Z9 hk hpx];simp
    refine aW ?_;exact a6 (by simp[hf])
   ·have hpx:ptB (s.Plan.node k) (pts[k]?.getD 0)=true:=by
     rw[hkp]
     by_cases hq:n.Kind=4<;>simp[hq]at hc2 ⊢
     ·exact hc2
     ·exact hc2
    refine b9 ?_;refine zQ (hK4 _ _ ?_);refine aP [1,2,3,7,8] ?_;refine aV ?_ fun K hK=>by simp -dsimp [wk];exact hK
    refine zQ ?_;exact⟨k+1,⟨by omega,D2 k2 hpx⟩,by omega,aB [some 0,some 1]⟩
  ·have hke :k=pts.length:=by first|omega|(simp at hc1;omega)
   subst hke;have hpts:a5o s.Plan pts=true:=by unfold a5o;rw[k2,decide_eq_true h0.2];rfl
   refine d4 ?_;refine zQ (hK2 _ _ ?_);refine aP [1,2,3,7] ?_;refine a5 fun K5 hK5=>?_;refine aW ?_;refine b8 ?_;refine aP [1,2,3,7,10] ?_;refine c6 [1,2,3,7] (α:=Nat) (fun k=>[(10,I k)]) (fun k=>[some (.els 5 [s.cells++[.lst 4 (fl.map F5.cells)]]),some (.els 4 [s.cells])]) (fun k=>k<=cars.length/\((List.range k).all fun i=>a1k s (Y0 cars i))=true) (fun k=>cars.length-k) 0 ?_ ?_ ?_
   ·exact⟨qp _,by simp⟩
   ·exact c9 (by simp)
   rintro k ⟨k1,k3⟩;refine zN ?_;refine a5 fun K6 hK6=>?_;refine aW ?_;refine a7 rfl (fun hc3=>?_) (fun hc3=>?_)
   ·have hk:k<cars.length:=by first|omega|(simp at hc3;omega)
    obtain⟨c,hcg⟩:=gx (l:=cars) (i:=k) hk;have hca:Y0 cars k=c:=by unfold Y0;rw[hcg];rfl
    have hcl:=hw c (qd hcg);have wk:=zW k (by omega);refine b9 ?_;refine zQ (hK6 _ _ ?_);refine aP [1,2,3,7,10] ?_;refine a5 fun K7 hK7=>?_;refine b8 ?_;refine aD ?_ fun K hK=>by simp -dsimp [hcg];refine cI (hri c hcl) ?_;simp -dsimp [hcg];exact hK
    refine a7 rfl (fun hc4=>?_) (fun hc4=>?_)
    ·have hcb:a1k s (Y0 cars k)=false:=by rw[hca];simpa using hc4
     have hf:S5 s cars pts=false:=by
      unfold S5;rw[Z9 hk (by rw[b6o,hcb];rfl)];simp
     refine aW ?_;exact a6 (by simp[hf])
    ·have hcb:a1k s (Y0 cars k)=true:=by rw[hca];simpa using hc4
     refine b9 ?_;refine zQ (hK7 _ _ ?_);refine aP [1,2,3,7,10] ?_;refine aV ?_ fun K hK=>by simp -dsimp [wk];exact hK
     refine zQ ?_;exact⟨k+1,⟨by omega,D2 k3 hcb⟩,by omega,aB [some 0,some 1]⟩
   ·have hke:k=cars.length:=by first|omega|(simp at hc3;omega)
    subst hke;rw[qn]at k3;refine d4 ?_;refine zQ (hK5 _ _ ?_);refine aP [1,2,3,7] ?_;refine a5 fun K8 hK8=>?_;refine aW ?_;refine b8 ?_;refine aP [1,2,3,7,11] ?_;refine c6 [1,2,3,7] (α:=Nat) (fun k=>[(11,I k)]) (fun k=>[some (.els 5 [s.cells++[.lst 4 (fl.map F5.cells)]]),some (.els 4 [s.cells])]) (fun k=>k<=cars.length/\(List.range k).all (b2v s cars pts)=true) (fun k=>cars.length-k) 0 ?_ ?_ ?_
    ·exact⟨qp _,by simp⟩
    ·exact c9 (by simp)
    rintro k ⟨k1,k4⟩;refine zN ?_;refine a5 fun K9 hK9=>?_;refine aW ?_;refine a7 rfl (fun hc5=>?_) (fun hc5=>?_)
    ·have hk:k<cars.length:=by first|omega|(simp at hc5;omega)
     obtain⟨c,hcg⟩:=gx (l:=cars) (i:=k) hk;have hca:Y0 cars k=c:=by unfold Y0;rw[hcg];rfl
     have hcl:=hw c (qd hcg);have hcb:a1k s c=true:=by rw[<-hca];exact k3 k (List.mem_range.2 hk)
     have hwb:=(i9 hcb).2.2.1.2.2.2;have wk:=zW k (by omega);have hrf:b2v s cars pts k=false->S5 s cars pts=false:=by
      intro h1;unfold S5;rw[Z9 hk (by rw[b6o,h1,Bool.and_false])];simp
     have hre:b2v s cars pts k=((E0 s c).all (a7N pts)&&(cars.take k).all (c1R s c)):=by unfold b2v;rw[hca]
     have hle:=G4 hwb;refine b9 ?_;refine zQ (hK9 _ _ ?_);refine aP [1,2,3,7,11] ?_;refine a5 fun K10 hK10=>?_;refine b8 ?_;refine aW ?_ fun K hK=>by simp -dsimp [hcg];exact hK
     refine a5 fun K11 hK11=>?_;refine aW ?_;refine b8 ?_;refine aP [1,2,3,7,11,12,13] ?_;refine c6 [1,2,3,7,11,12] (α:=Nat) (fun i=>[(13,I (i+1))]) (fun k=>[some (.els 5 [s.cells++[.lst 4 (fl.map F5.cells)]]),some (.els 4 [s.cells]),some (.els 4 [c.cells])]) (fun i=>i+1<=c.Way.length/\(O9 s.Plan c.Way i).all (a7N pts)=true) (fun i=>c.Way.length-i) 0 ?_ ?_ ?_
     ·exact⟨F3 hwb|>.1,by simp[O9]⟩
     ·exact c9 (by simp)
     rintro i ⟨i1,i2⟩;refine zN ?_;refine a5 fun K12 hK12=>?_;refine aW ?_;refine a7 rfl (fun hc6=>?_) (fun hc6=>?_)
     ·have hi:i+1<c.Way.length:=by first|omega|(simp at hc6;omega)
      have g0:c.Way[i]?=some (y4 c.Way i):=by unfold y4;rw[qc (by omega)];rfl
      have g1:c.Way[i+1]?=some (y4 c.Way (i+1)):=by unfold y4;rw[qc hi];rfl
      have wi:IntKind.i64.wrap ((i:Int)+1+1)=(i:Int)+1+1:=c4 (by omega) (by omega);have wi0:IntKind.i64.wrap (i:Int)=(i:Int):=c4 (by omega) (by omega);have ti:((i:Int)+1).toNat=i+1:=by omega
      have p0:0<=(i:Int)+1:=by omega
      have p1:(i:Int)<c.Way.length:=by omega
      have p2:(i:Int)+1<c.Way.length:=by omega
      have hb:=hbt c.Way hwb i hi;have hst:=V4 s.Plan c.Way i;have hok:F8 s.Plan (y4 c.Way i)=true->0<=(F9 s.Plan (y4 c.Way i) (y4 c.Way (i+1))).Node/\(F9 s.Plan (y4 c.Way i) (y4 c.Way (i+1))).Node<s.Plan.Nodes.length:=fun hq=>by have:=b4A h hwb (a0V.2 ⟨i,by omega,hq,rfl⟩);exact⟨this.1,this.2.1⟩
      have hmem:F8 s.Plan (y4 c.Way i)=true->F9 s.Plan (y4 c.Way i) (y4 c.Way (i+1))∈E0 s c:=fun hq=>by rw[hle];exact a0V.2 ⟨i,by omega,hq,rfl⟩
      unfold Y4 at hst;generalize y4 c.Way i=m at g0 hb hst hok hmem;generalize y4 c.Way (i+1)=n at g1 hb hst hok hmem;generalize F9 s.Plan m n=B at hb hst hok hmem;generalize F8 s.Plan m=b at hb hst hok hmem;refine b9 ?_;refine zQ (hK12 _ _ ?_);refine aP [1,2,3,7,11,12,13] ?_;refine a5 fun K13 hK13=>?_;refine b8 ?_;refine aD ?_ fun K hK=>by simp -dsimp [g0,g1,wi0,ti,p0,p1,p2];refine cI (hb) ?_;simp -dsimp [g0,g1,wi0,ti,p0,p1,p2];exact hK
      rcases Bool.eq_false_or_eq_true b with hbq|hbq
      all_goals (rw[hbq]at hst;simp only[hbq])
      all_goals first|(obtain⟨v,hvg⟩:∃v,pts[B.Node.toNat]?=some v:=⟨_,qc (by have:=hok hbq;omega)⟩;have hB:=hok hbq;rw[<-h0.2]at hB;have hve:=(qa.1 hvg).2;have hlb:a7N pts B=decide (v=B.Leg):=(by unfold a7N;rw[hvg];rfl);have hbm:=hmem hbq)|skip
      ·refine aD ?_ fun K hK=>by simp -dsimp [hvg,hB.1,hB.2];refine j7 (f9 v) (fun _=>by simp[hvg]) ?_;simp -dsimp [hvg,hB.1,hB.2];exact hK
       refine a7 rfl (fun hc7=>?_) (fun hc7=>?_)
       ·have hl2:a7N pts B=false:=by rw[hlb];simpa using hc7
        have hf:=hrf (by rw[hre];have:(E0 s c).all (a7N pts)=false:=(by rw[List.all_eq_false];exact⟨B,hbm,by simp[hl2]⟩);rw[this];rfl);refine aW ?_;exact a6 (by simp[hf])
       ·have hst2:(O9 s.Plan c.Way (i+1)).all (a7N pts)=true:=by
         rw[hst,List.all_append,i2];have hl2:a7N pts B=true:=by rw[hlb];simpa using hc7
         simp[hl2]
        refine b9 ?_;refine zQ (hK13 _ _ ?_);refine aP [1,2,3,7,11,12,13] ?_;refine aV ?_ fun K hK=>by simp -dsimp [wi];exact hK
        refine zQ ?_;exact⟨i+1,⟨by omega,hst2⟩,by omega,aB [some 0,some 1,some 2]⟩
      ·refine aD ?_ fun K hK=>by simp -dsimp;refine j7 (f9 0) (fun h=>by simp at h) ?_;simp -dsimp;exact hK
       refine a7 rfl (fun hc7=>?_) (fun hc7=>?_)
       ·simp at hc7
       ·have hst2:(O9 s.Plan c.Way (i+1)).all (a7N pts)=true:=by
         rw[hst,List.all_append,i2];rfl
        refine b9 ?_;refine zQ (hK13 _ _ ?_);refine aP [1,2,3,7,11,12,13] ?_;refine aV ?_ fun K hK=>by simp -dsimp [wi];exact hK
        refine zQ ?_;exact⟨i+1,⟨by omega,hst2⟩,by omega,aB [some 0,some 1,some 2]⟩
     ·have hie:c.Way.length-1=i:=by first|omega|(simp at hc6;omega)
      have hlegs:(E0 s c).all (a7N pts)=true:=by rw[hle,hie];exact i2
      rw[hlegs,Bool.true_and]at hre;refine d4 ?_;refine zQ (hK11 _ _ ?_);refine aP [1,2,3,7,11,12] ?_;refine aW ?_;refine b8 ?_;refine aP [1,2,3,7,11,12,16] ?_;refine c6 [1,2,3,7,11,12] (α:=Nat) (fun j=>[(16,I j)]) (fun j=>[some (.els 5 [s.cells++[.lst 4 (fl.map F5.cells)]]),some (.els 4 [s.cells]),some (.els 4 [c.cells])]) (fun j=>j<=k/\(cars.take j).all (c1R s c)=true) (fun j=>k-j) 0 ?_ ?_ ?_
      ·exact⟨qp _,by simp⟩
      ·exact c9 (by simp)
      rintro j ⟨j1,j2⟩;refine zN ?_;refine a5 fun K14 hK14=>?_;refine aW ?_;refine a7 rfl (fun hc8=>?_) (fun hc8=>?_)
      ·have hj:j<k:=by first|omega|(simp at hc8;omega)
       obtain⟨x,hxg⟩:=gx (l:=cars) (i:=j) (by omega);have hxl:=hw x (qd hxg);have wj:=zW j (by omega);have hxt:(cars.take k)[j]?=some x:=by rw[qk,if_pos hj];exact hxg
       have hno:c1R s c x=false->S5 s cars pts=false:=fun hq=>hrf (by rw[hre,N3 hxt hq]);have htw:c1R s c x=(!decide (c.Name=x.Name)&&c.Way.all (b5o s c x)):=rfl;refine b9 ?_;refine zQ (hK14 _ _ ?_);refine aP [1,2,3,7,11,12,16] ?_;refine a5 fun K15 hK15=>?_;refine b8 ?_;refine aW ?_ fun K hK=>by simp -dsimp [hxg];exact hK
       refine a5 fun K16 hK16=>?_;refine aW ?_;refine a7 rfl (fun hc9=>?_) (fun hc9=>?_)
       ·have hf:=hno (by rw[htw];simp at hc9;simp[hc9]);refine aW ?_;exact a6 (by simp[hf])
       ·have hnm:decide (c.Name=x.Name)=false:=by simpa using hc9
        rw[hnm]at htw;simp only[Bool.not_false,Bool.true_and]at htw;refine b9 ?_;refine zQ (hK16 _ _ ?_);refine aP [1,2,3,7,11,12,16,17] ?_;refine aW ?_;refine b8 ?_;refine aP [1,2,3,7,11,12,16,17,18] ?_;refine c6 [1,2,3,7,11,12,16,17] (α:=Nat) (fun a=>[(18,I a)]) (fun a=>[some (.els 5 [s.cells++[.lst 4 (fl.map F5.cells)]]),some (.els 4 [s.cells]),some (.els 4 [c.cells]),some (.els 4 [x.cells])]) (fun a=>a<=c.Way.length/\(c.Way.take a).all (b5o s c x)=true) (fun a=>c.Way.length-a) 0 ?_ ?_ ?_
        ·exact⟨qp _,by simp⟩
        ·exact c9 (by simp)
        rintro a ⟨a1,a2⟩;refine zN ?_;refine a5 fun K17 hK17=>?_;refine aW ?_;refine a7 rfl (fun hc10=>?_) (fun hc10=>?_)
        ·have ha:a<c.Way.length:=by first|omega|(simp at hc10;omega)
         obtain⟨m,hmg⟩:=gx (l:=c.Way) (i:=a) ha;have wa:=zW a (by omega);have hmb:b5o s c x m=(!(x.Way.any fun n=>D8 s m n)&& !(x.Way.any (a7Q s c x m))):=rfl;refine b9 ?_;refine zQ (hK17 _ _ ?_);refine aP [1,2,3,7,11,12,16,17,18] ?_;refine a5 fun K18 hK18=>?_;refine b8 ?_;refine a5 fun K19 hK19=>?_;refine aD ?_ fun K hK=>by simp -dsimp [hmg];refine cI (hag x m hxl) ?_;simp -dsimp [hmg];exact hK
         refine a7 rfl (fun hc11=>?_) (fun hc11=>?_)
         ·have hf:=hno (by rw[htw];exact N3 hmg (by rw[hmb,hc11];rfl));refine aW ?_;exact a6 (by simp[hf])
         ·rw[hc11]at hmb;simp only[Bool.not_false,Bool.true_and]at hmb;refine b9 ?_;refine zQ (hK19 _ _ ?_);refine aP [1,2,3,7,11,12,16,17,18] ?_;refine aW ?_;refine b8 ?_;refine aP [1,2,3,7,11,12,16,17,18,19] ?_;refine c6 [1,2,3,7,11,12,16,17,18] (α:=Nat) (fun d=>[(19,I d)]) (fun a=>[some (.els 5 [s.cells++[.lst 4 (fl.map F5.cells)]]),some (.els 4 [s.cells]),some (.els 4 [c.cells]),some (.els 4 [x.cells])]) (fun d=>d<=x.Way.length/\(x.Way.take d).any (a7Q s c x m)=false) (fun d=>x.Way.length-d) 0 ?_ ?_ ?_
          ·exact⟨qp _,by simp⟩
          ·exact c9 (by simp)
          rintro d ⟨d1,d2⟩;refine zN ?_;refine a5 fun K20 hK20=>?_;refine aW ?_;refine a7 rfl (fun hc12=>?_) (fun hc12=>?_)
          ·have hd:d<x.Way.length:=by first|omega|(simp at hc12;omega)
           obtain⟨n,hng⟩:=gx (l:=x.Way) (i:=d) hd;have wd:=zW d (by omega);refine b9 ?_;refine zQ (hK20 _ _ ?_);refine aP [1,2,3,7,11,12,16,17,18,19] ?_;refine a5 fun K21 hK21=>?_;refine b8 ?_;refine aD ?_ fun K hK=>by simp -dsimp [hmg,hng];refine cI (hfo m.Rail c.Profile n.Rail x.Profile) ?_;simp -dsimp [hmg,hng];exact hK
           refine a7 rfl (fun hc13=>?_) (fun hc13=>?_)
           ·have hf:=hno (by rw[htw];exact N3 hmg (by rw[hmb,a6Z (p:=a7Q s c x m) hng hc13];rfl));refine aW ?_;exact a6 (by simp[hf])
           ·refine b9 ?_;refine zQ (hK21 _ _ ?_);refine aP [1,2,3,7,11,12,16,17,18,19] ?_;refine aV ?_ fun K hK=>by simp -dsimp [wd];exact hK
            refine zQ ?_;exact⟨d+1,⟨by omega,any_take hng d2 hc13⟩,by omega,aB [some 0,some 1,some 2,some 3]⟩
          ·have hde:d=x.Way.length:=by first|omega|(simp at hc12;omega)
           subst hde;rw[List.take_length]at d2;refine d4 ?_;refine zQ (hK18 _ _ ?_);refine aP [1,2,3,7,11,12,16,17,18] ?_;refine aV ?_ fun K hK=>by simp -dsimp [wa];exact hK
           refine zQ ?_;exact⟨a+1,⟨by omega,s7 hmg a2 (by rw[hmb,d2];rfl)⟩,by omega,aB [some 0,some 1,some 2,some 3]⟩
        ·have hae:a=c.Way.length:=by first|omega|(simp at hc10;omega)
         subst hae;rw[List.take_length]at a2;refine d4 ?_;refine zQ (hK15 _ _ ?_);refine aP [1,2,3,7,11,12,16] ?_;refine aV ?_ fun K hK=>by simp -dsimp [wj];exact hK
         refine zQ ?_;exact⟨j+1,⟨by omega,s7 hxg j2 (by rw[htw];exact a2)⟩,by omega,aB [some 0,some 1,some 2]⟩
      ·have hje:j=k:=by first|omega|(simp at hc8;omega)
       subst hje;refine d4 ?_;refine zQ (hK10 _ _ ?_);refine aP [1,2,3,7,11] ?_;refine aV ?_ fun K hK=>by simp -dsimp [wk];exact hK
       refine zQ ?_;exact⟨j+1,⟨by omega,D2 k4 (by rw[hre];exact j2)⟩,by omega,aB [some 0,some 1]⟩
    ·have hke:k=cars.length:=by first|omega|(simp at hc5;omega)
     subst hke;have hall:(List.range cars.length).all (b4u s cars pts)=true:=by
      rw[qn]at k4 ⊢;intro i hi;rw[b6o,k3 i hi,k4 i hi];rfl
     refine d4 ?_;refine zQ (hK8 _ _ ?_);refine aP [] ?_;refine aW ?_;exact a6 (by simp[S5,h0.1,hpts,hall])
end Go.Tram.Lk
end
section
namespace Go.Tram.Lk
open Go.AM Go.Proofs
def b9S (a:Act):Bool:=decide (a.Way.length<=30)
def fewB (l:List Act):Bool:=l.all b9S&&decide (l.length<=30)
theorem b7u {l:List Act}:fewB l=true↔(∀a∈l,a.Way.length<=30)/\l.length<=30:=by simp[fewB,b9S]
theorem c3V (l:List Act) (hl:l.length<=9223372036854775807) (hw:∀a∈l,a.Way.length<=9223372036854775807):a9 Tryz.prog 19 [.lst 6 (l.map Act.cells)] (Bo (fewB l)):=by
 have hfe:fewB l=(l.all b9S&&decide (l.length<=30)):=rfl;refine oB Tryz.func19 Tryz.ntmps19 Tryz.results19 ?_;refine aW ?_;refine a5 fun K1 hK1=>?_;refine aW ?_;refine b8 ?_;refine aP [0,3] ?_;refine c6 [0] (α:=Nat) (fun k=>[(3,I k)]) (fun k=>[]) (fun k=>k<=l.length/\(l.take k).all b9S=true) (fun k=>l.length-k) 0 ?_ ?_ ?_
 ·exact⟨qp _,by simp⟩
 ·exact c9 (by simp)
 rintro k ⟨k1,k2⟩;refine zN ?_;refine a5 fun K2 hK2=>?_;refine aW ?_;refine a7 rfl (fun hc0=>?_) (fun hc0=>?_)
 ·have hk:k<l.length:=by first|omega|(simp at hc0;omega)
  obtain⟨a,ha⟩:=gx (l:=l) (i:=k) hk;have wk:=zW k (by omega);have haw:=hw a (qd ha);refine b9 ?_;refine zQ (hK2 _ _ ?_);refine aP [0,3] ?_;refine a5 fun K3 hK3=>?_;refine b8 ?_;refine aW ?_ fun K hK=>by simp -dsimp [ha];exact hK
  refine a7 rfl (fun hc1=>?_) (fun hc1=>?_)
  ·have hb:b9S a=false:=by unfold b9S;simp at hc1;simp;omega
   refine aW ?_;exact a6 (by rw[hfe,N3 ha hb];simp)
  ·have hb:b9S a=true:=by unfold b9S;simp at hc1;simp;omega
   refine b9 ?_;refine zQ (hK3 _ _ ?_);refine aP [0,3] ?_;refine aV ?_ fun K hK=>by simp -dsimp [wk];exact hK
   refine zQ ?_;exact⟨k+1,⟨by omega,s7 ha k2 hb⟩,by omega,aB []⟩
 ·have hk:k=l.length:=by first|omega|(simp at hc0;omega)
  subst hk;rw[List.take_length]at k2;refine d4 ?_;refine zQ (hK1 _ _ ?_);refine aP [0] ?_;refine aW ?_;exact a6 (by rw[hfe,k2];simp;omega)
def LvD (s:j0) (x:Sta) (nx nd:j8) (a:Act) (y:Sta) (M:j8×j8):Prop:=
 c7 Tryz.prog 25 [.ptr 0 0 0,a.av] lkK (lkD s (Z4 s) (O2 (o7 s)) (R4 (o7 s)) nx nd x.Cars x.Points) (.tup []) lkK (lkD s (Z4 s) (O2 (o7 s)) (R4 (o7 s)) M.1 M.2 y.Cars y.Points)
theorem c6a {s:j0} {x:Sta} (h:a7w s x) (nx nd:j8) (a:Act) (hw:a.Way.length<=1000):∃M,LvD s x nx nd a (O0 s x a).1 M:=by
 by_cases e1:a.Kind=1
 ·obtain⟨M,hM⟩:=a7b h nx nd a.Name a.Profile a.Way hw;have hst:O0 s x a=Z0 s x a.Name a.Profile a.Way:=by unfold O0;rw[if_pos e1]
  refine⟨M,?_⟩;rw[hst];unfold LvT at hM;unfold LvD;generalize Z4 s=fo at*
  generalize O2 (o7 s)=si at*
  generalize R4 (o7 s)=up at*
  refine oG [0] Tryz.func25 Tryz.ntmps25 Tryz.results25 ?_;intro J hJ;refine gW ?_;refine gW ?_;refine c8 ?_;refine gW ?_;refine c3 rfl (fun hc0=>?_) (fun hc0=>?_)
  ·refine gV ?_ fun K hK=>by simp -dsimp;refine cM [0] [1,2,3,4,5,6] (hM) ?_;simp -dsimp;exact hK
   try simp only[zT,reduceIte,Nat.reduceEqDiff]
   exact⟨[some 0,some 8,some 9,some 10,some 11,some 12,some 13],rfl,by simp,by simp,by simp,by simp[N6,r9]⟩
  ·exact absurd e1 (by simpa using hc0)
 by_cases e2:a.Kind=2
 ·obtain⟨M,hM⟩:=b4l h nx nd a.Name a.M;have hst:O0 s x a=b6e s x a.Name a.M:=by unfold O0;rw[if_neg e1];rw[if_pos e2]
  refine⟨M,?_⟩;rw[hst];unfold LvT at hM;unfold LvD;generalize Z4 s=fo at*
  generalize O2 (o7 s)=si at*
  generalize R4 (o7 s)=up at*
  refine oG [0] Tryz.func25 Tryz.ntmps25 Tryz.results25 ?_;intro J hJ;refine gW ?_;refine gW ?_;refine c8 ?_;refine gW ?_;refine c3 rfl (fun hc0=>?_) (fun hc0=>?_)
  ·exact(e1 (by simpa using hc0)).elim
  ·refine gW ?_;refine c3 rfl (fun hc1=>?_) (fun hc1=>?_)
   ·refine gV ?_ fun K hK=>by simp -dsimp;refine cM [0] [1,2,3,4,5,6] (hM) ?_;simp -dsimp;exact hK
    try simp only[zT,reduceIte,Nat.reduceEqDiff]
    exact⟨[some 0,some 8,some 9,some 10,some 11,some 12,some 13],rfl,by simp,by simp,by simp,by simp[N6,r9]⟩
   ·exact absurd e2 (by simpa using hc1)
 by_cases e3:a.Kind=3
 ·obtain⟨M,hM⟩:=c3A h nx nd a.Name;have hst:O0 s x a=goS x a.Name:=by unfold O0;rw[if_neg e1];rw[if_neg e2];rw[if_pos e3]
  refine⟨M,?_⟩;rw[hst];unfold LvT at hM;unfold LvD;generalize Z4 s=fo at*
  generalize O2 (o7 s)=si at*
  generalize R4 (o7 s)=up at*
  refine oG [0] Tryz.func25 Tryz.ntmps25 Tryz.results25 ?_;intro J hJ;refine gW ?_;refine gW ?_;refine c8 ?_;refine gW ?_;refine c3 rfl (fun hc0=>?_) (fun hc0=>?_)
  ·exact(e1 (by simpa using hc0)).elim
  ·refine gW ?_;refine c3 rfl (fun hc1=>?_) (fun hc1=>?_)
   ·exact(e2 (by simpa using hc1)).elim
   ·refine gW ?_;refine c3 rfl (fun hc2=>?_) (fun hc2=>?_)
    ·refine gV ?_ fun K hK=>by simp -dsimp;refine cM [0] [1,2,3,4,5,6] (hM) ?_;simp -dsimp;exact hK
     try simp only[zT,reduceIte,Nat.reduceEqDiff]
     exact⟨[some 0,some 8,some 9,some 10,some 11,some 12,some 13],rfl,by simp,by simp,by simp,by simp[N6,r9]⟩
    ·exact absurd e3 (by simpa using hc2)
 by_cases e4:a.Kind=4
 ·obtain⟨M,hM⟩:=a7D h nx nd a.Name;have hst:O0 s x a=a3q x a.Name:=by unfold O0;rw[if_neg e1];rw[if_neg e2];rw[if_neg e3];rw[if_pos e4]
  refine⟨M,?_⟩;rw[hst];unfold LvT at hM;unfold LvD;generalize Z4 s=fo at*
  generalize O2 (o7 s)=si at*
  generalize R4 (o7 s)=up at*
  refine oG [0] Tryz.func25 Tryz.ntmps25 Tryz.results25 ?_;intro J hJ;refine gW ?_;refine gW ?_;refine c8 ?_;refine gW ?_;refine c3 rfl (fun hc0=>?_) (fun hc0=>?_)
  ·exact(e1 (by simpa using hc0)).elim
  ·refine gW ?_;refine c3 rfl (fun hc1=>?_) (fun hc1=>?_)
   ·exact(e2 (by simpa using hc1)).elim
   ·refine gW ?_;refine c3 rfl (fun hc2=>?_) (fun hc2=>?_)
    ·exact(e3 (by simpa using hc2)).elim
    ·refine gW ?_;refine c3 rfl (fun hc3=>?_) (fun hc3=>?_)
     ·refine gV ?_ fun K hK=>by simp -dsimp;refine cM [0] [1,2,3,4,5,6] (hM) ?_;simp -dsimp;exact hK
      try simp only[zT,reduceIte,Nat.reduceEqDiff]
      exact⟨[some 0,some 8,some 9,some 10,some 11,some 12,some 13],rfl,by simp,by simp,by simp,by simp[N6,r9]⟩
     ·exact absurd e4 (by simpa using hc3)
 by_cases e5:a.Kind=5
 ·obtain⟨M,hM⟩:=b8V h nx nd a.Name;have hst:O0 s x a=a5U x a.Name:=by unfold O0;rw[if_neg e1];rw[if_neg e2];rw[if_neg e3];rw[if_neg e4];rw[if_pos e5]
  refine⟨M,?_⟩;rw[hst];unfold LvT at hM;unfold LvD;generalize Z4 s=fo at*
  generalize O2 (o7 s)=si at*
  generalize R4 (o7 s)=up at*
  refine oG [0] Tryz.func25 Tryz.ntmps25 Tryz.results25 ?_;intro J hJ;refine gW ?_;refine gW ?_;refine c8 ?_;refine gW ?_;refine c3 rfl (fun hc0=>?_) (fun hc0=>?_)
  ·exact(e1 (by simpa using hc0)).elim
  ·refine gW ?_;refine c3 rfl (fun hc1=>?_) (fun hc1=>?_)
   ·exact(e2 (by simpa using hc1)).elim
   ·refine gW ?_;refine c3 rfl (fun hc2=>?_) (fun hc2=>?_)
    ·exact(e3 (by simpa using hc2)).elim
    ·refine gW ?_;refine c3 rfl (fun hc3=>?_) (fun hc3=>?_)
     ·exact(e4 (by simpa using hc3)).elim
     ·refine gW ?_;refine c3 rfl (fun hc4=>?_) (fun hc4=>?_)
      ·refine gV ?_ fun K hK=>by simp -dsimp;refine cM [0] [1,2,3,4,5,6] (hM) ?_;simp -dsimp;exact hK
       try simp only[zT,reduceIte,Nat.reduceEqDiff]
       exact⟨[some 0,some 8,some 9,some 10,some 11,some 12,some 13],rfl,by simp,by simp,by simp,by simp[N6,r9]⟩
      ·exact absurd e5 (by simpa using hc4)
 by_cases e6:a.Kind=6
 ·obtain⟨M,hM⟩:=c2f h nx nd a.Name;have hst:O0 s x a=b0s s x a.Name:=by unfold O0;rw[if_neg e1];rw[if_neg e2];rw[if_neg e3];rw[if_neg e4];rw[if_neg e5];rw[if_pos e6]
  refine⟨M,?_⟩;rw[hst];unfold LvT at hM;unfold LvD;generalize Z4 s=fo at*
  generalize O2 (o7 s)=si at*
  generalize R4 (o7 s)=up at*
  refine oG [0] Tryz.func25 Tryz.ntmps25 Tryz.results25 ?_;intro J hJ;refine gW ?_;refine gW ?_;refine c8 ?_;refine gW ?_;refine c3 rfl (fun hc0=>?_) (fun hc0=>?_)
  ·exact(e1 (by simpa using hc0)).elim
  ·refine gW ?_;refine c3 rfl (fun hc1=>?_) (fun hc1=>?_)
   ·exact(e2 (by simpa using hc1)).elim
   ·refine gW ?_;refine c3 rfl (fun hc2=>?_) (fun hc2=>?_)
    ·exact(e3 (by simpa using hc2)).elim
    ·refine gW ?_;refine c3 rfl (fun hc3=>?_) (fun hc3=>?_)
     ·exact(e4 (by simpa using hc3)).elim
     ·refine gW ?_;refine c3 rfl (fun hc4=>?_) (fun hc4=>?_)
      ·exact(e5 (by simpa using hc4)).elim
      ·refine gW ?_;refine c3 rfl (fun hc5=>?_) (fun hc5=>?_)
       ·refine gV ?_ fun K hK=>by simp -dsimp;refine cM [0] [1,2,3,4,5,6] (hM) ?_;simp -dsimp;exact hK
        try simp only[zT,reduceIte,Nat.reduceEqDiff]
        exact⟨[some 0,some 8,some 9,some 10,some 11,some 12,some 13],rfl,by simp,by simp,by simp,by simp[N6,r9]⟩
       ·exact absurd e6 (by simpa using hc5)
 by_cases e7:a.Kind=7
 ·obtain ⟨M,hM⟩:=b6b h nx nd a.Name;have hst:O0 s x a=a2K x a.Name:=by unfold O0;rw[if_neg e1];rw[if_neg e2];rw[if_neg e3];rw[if_neg e4];rw[if_neg e5];rw[if_neg e6];rw[if_pos e7]
  refine⟨M,?_⟩;rw[hst];unfold LvT at hM;unfold LvD;generalize Z4 s=fo at*
  generalize O2 (o7 s)=si at*
  generalize R4 (o7 s)=up at*
  refine oG [0] Tryz.func25 Tryz.ntmps25 Tryz.results25 ?_;intro J hJ;refine gW ?_;refine gW ?_;refine c8 ?_;refine gW ?_;refine c3 rfl (fun hc0=>?_) (fun hc0=>?_)
  ·exact(e1 (by simpa using hc0)).elim
  ·refine gW ?_;refine c3 rfl (fun hc1=>?_) (fun hc1=>?_)
   ·exact(e2 (by simpa using hc1)).elim
   ·refine gW ?_;refine c3 rfl (fun hc2=>?_) (fun hc2=>?_)
    ·exact(e3 (by simpa using hc2)).elim
    ·refine gW ?_;refine c3 rfl (fun hc3=>?_) (fun hc3=>?_)
     ·exact(e4 (by simpa using hc3)).elim
     ·refine gW ?_;refine c3 rfl (fun hc4=>?_) (fun hc4=>?_)
      ·exact(e5 (by simpa using hc4)).elim
      ·refine gW ?_;refine c3 rfl (fun hc5=>?_) (fun hc5=>?_)
       ·exact(e6 (by simpa using hc5)).elim
       ·refine gW ?_;refine c3 rfl (fun hc6=>?_) (fun hc6=>?_)
        ·refine gV ?_ fun K hK=>by simp -dsimp;refine cM [0] [1,2,3,4,5,6] (hM) ?_;simp -dsimp;exact hK
         try simp only[zT,reduceIte,Nat.reduceEqDiff]
         exact⟨[some 0,some 8,some 9,some 10,some 11,some 12,some 13],rfl,by simp,by simp,by simp,by simp[N6,r9]⟩
        ·exact absurd e7 (by simpa using hc6)
 ·have hst:O0 s x a=nay x 0:=by unfold O0;rw[if_neg e1];rw[if_neg e2];rw[if_neg e3];rw[if_neg e4];rw[if_neg e5];rw[if_neg e6];rw[if_neg e7]
  refine⟨(nx,nd),?_⟩;rw[hst];unfold LvD;generalize Z4 s=fo at*
  generalize O2 (o7 s)=si at*
  generalize R4 (o7 s)=up at*
  refine oG [0] Tryz.func25 Tryz.ntmps25 Tryz.results25 ?_;intro J hJ;refine gW ?_;refine gW ?_;refine c8 ?_;refine gW ?_;refine c3 rfl (fun hc0=>?_) (fun hc0=>?_)
  ·exact(e1 (by simpa using hc0)).elim
  ·refine gW ?_;refine c3 rfl (fun hc1=>?_) (fun hc1=>?_)
   ·exact(e2 (by simpa using hc1)).elim
   ·refine gW ?_;refine c3 rfl (fun hc2=>?_) (fun hc2=>?_)
    ·exact(e3 (by simpa using hc2)).elim
    ·refine gW ?_;refine c3 rfl (fun hc3=>?_) (fun hc3=>?_)
     ·exact(e4 (by simpa using hc3)).elim
     ·refine gW ?_;refine c3 rfl (fun hc4=>?_) (fun hc4=>?_)
      ·exact(e5 (by simpa using hc4)).elim
      ·refine gW ?_;refine c3 rfl (fun hc5=>?_) (fun hc5=>?_)
       ·exact(e6 (by simpa using hc5)).elim
       ·refine gW ?_;refine c3 rfl (fun hc6=>?_) (fun hc6=>?_)
        ·exact(e7 (by simpa using hc6)).elim
        ·refine c5 ?_
         try simp only[zT,reduceIte,Nat.reduceEqDiff]
         exact⟨[some 0,some 1,some 2,some 3,some 4,some 5,some 6],rfl,by simp,by simp,by simp,by simp[N6,r9]⟩
end Go.Tram.Lk
end
section
namespace Go.Tram.Lk
open Go.AM Go.Proofs
theorem b7M {s:j0} (hs:Q2 s=true) {x:Sta} (hx:R1 s x) (a:Act):R1 s ⟨x.Cars,(O0 s x a).1.Points⟩:=by
 have hfin:∀(n:Int) (k:Car->Ans),(∀c,(k c).1.Points=x.Points)->R1 s ⟨x.Cars,(a5m x n k).1.Points⟩:=by
  intro n k hk;refine X0 (P:=fun q=>R1 s ⟨x.Cars,q.1.Points⟩) (fun _=>hx) fun c _ _ _ _=>?_;rw[hk c];exact hx
 unfold O0
 split
 ·unfold Z0
  split
  ·exact hx
  rename_i hc
  split
  ·exact hx
  rename_i hn
  split
  ·rename_i hk;have hc:a1k s ⟨a.Name,a.Profile,a.Way,0⟩=true:=by simpa using hc
   obtain⟨n1,p1,⟨k1,k2,k3,k4⟩,f1,f2⟩:=i9 hc;exact(a4K hs a.Way x.Points (P8 a.Name a.Profile a.Way) hx (a8z s x _ _ _) (fun o ho e=>(a1E.1 hn) o ho e) (fun m hm=>by
    obtain⟨i,hi,rfl⟩:=List.getElem_of_mem hm;have:=E3 k4 i hi;unfold y4 at this;rw[qc hi]at this;exact this) hk).1
  ·exact hx
 split
 ·unfold b6e
  split
  ·exact hx
  ·rename_i h0
   split
   ·exact hx
   ·rename_i c hc;obtain⟨hc,hn⟩:=G3 hc
    split
    ·rename_i hr;have hm:C6 s.Plan a.M=true:=by rw[b5q];cases h:inr a.M.Rail 0 ((s.Plan.Rails.length:Int)-1)with|true=>rfl|false=>exact absurd (Or.inr h) h0
     exact(a7g hs hx (hx.carOk hc) (a8J hx hc) hm (a1n hr)).1
    ·exact hx
 split
 ·exact hfin _ _ fun c=>by split<;>rfl
 split
 ·exact hfin _ _ fun c=>by split<;>rfl
 split
 ·exact hfin _ _ fun c=>rfl
 split
 ·exact hfin _ _ fun c=>by split;rfl;split;rfl;split<;>rfl
 split
 ·exact hfin _ _ fun c=>rfl
 ·exact hx
theorem b8n {s:j0} {x:Sta} (hx:Srt x.Cars) (a:Act):(O0 s x a).1.Cars.length<=x.Cars.length+1:=by
 have hi:=fun c=>b9z hx c;have hd:∀n,(a5r x.Cars n).length<=x.Cars.length+1:=fun n=>by
  have:(a5r x.Cars n).length<=x.Cars.length:=List.length_filter_le _ _;omega
 have hfin:∀(n:Int) (k:Car->Ans),(∀c,(k c).1.Cars.length<=x.Cars.length+1)->(a5m x n k).1.Cars.length<=x.Cars.length+1:=by
  intro n k hk;exact X0 (P:=fun q=>q.1.Cars.length<=x.Cars.length+1) (fun _=>Nat.le_succ _) fun c _ _ _ _=>hk c
 unfold O0
 split
 ·unfold Z0
  split
  ·exact Nat.le_succ _
  split
  ·exact Nat.le_succ _
  split
  ·exact hi _
  ·exact Nat.le_succ _
 split
 ·unfold b6e
  split
  ·exact Nat.le_succ _
  split
  ·exact Nat.le_succ _
  split
  ·exact hi _
  ·exact Nat.le_succ _
 split
 ·refine hfin _ _ fun c=>?_
  split
  ·exact Nat.le_succ _
  ·exact hi _
 split
 ·refine hfin _ _ fun c=>?_
  split
  ·exact Nat.le_succ _
  ·exact hi _
 split
 ·exact hfin _ _ fun c=>hi _
 split
 ·refine hfin _ _ fun c=>?_
  split
  ·exact Nat.le_succ _
  split
  ·exact Nat.le_succ _
  split
  ·exact Nat.le_succ _
  ·exact hi _
 split
 ·exact hfin _ _ fun c=>hd _
 ·exact Nat.le_succ _
def b8o (s:j0) (c:Car) (k:Int):Bool:=(E0 s c).any fun y=>decide (y.Node=k)
theorem c0J {s:j0} (hs:Q2 s=true) {x:Sta} (hx:R1 s x) {ps:List Int} (hy:R1 s ⟨x.Cars,ps⟩) {k:Nat} {u v:Int} (hu:x.Points[k]?=some u) (hv:ps[k]?=some v) (hne:v≠u) {c:Car} (hc:c∈x.Cars):b8o s c k=false:=by
 unfold b8o;rw[List.any_eq_false];intro y hyl;simp only[decide_eq_true_eq];intro e;have h1:=hx.held c hc y hyl;have h2:=hy.held c hc y hyl;rw[e]at h1 h2;simp only[Int.toNat_natCast]at h1 h2;rw[hu]at h1;rw[hv]at h2
 cases h1
 cases h2
 exact hne rfl
theorem c2u {s:j0} {x:Sta} (hx:R1 s x) (hl:x.Cars.length<=100):S5 s x.Cars x.Points=true:=by
 unfold S5;rw[decide_eq_true hl,hx.pts,Bool.true_and,Bool.true_and,qn];intro i hi;rw[List.mem_range]at hi;have hg:x.Cars[i]?=some (Y0 x.Cars i):=by unfold Y0;rw[qc hi];rfl
 have hm:=qd hg;unfold b4u;rw[hx.car _ hm,Bool.true_and,qh,qn,qn];constructor
 ·intro o ho;have hom:=List.mem_of_mem_take ho;have hne:o.Name≠(Y0 x.Cars i).Name:=by
   obtain⟨j,hj,e⟩:=List.mem_take_iff_getElem.1 ho;have hs:=hx.srt;unfold Srt at hs;have:=(List.pairwise_iff_getElem.1 hs) j i (by simp;omega) (by simpa using hi) (by omega);rw[List.getElem_map,List.getElem_map,e]at this;have e2:x.Cars[i]=Y0 x.Cars i:=by have:=(qa.1 hg).2;exact this
   rw[e2]at this;omega
  unfold a6R;rw[hx.apart o hom _ hm hne];simp[hne]
 ·intro y hy;have:=hx.held _ hm y hy;unfold a7N;rw[this];simp
theorem b9c (s:j0) (c:Car) (x:Int) (hv:d8 s.Plan=true) (hw:wayB s.Plan c.Way=true) (hl:c.Way.length<=1000):a9 Tryz.prog 26 [s.Plan.av,c.av,I x] (Bo (b8o s c x)):=by
 have hbt:=fun(i:Nat) (hi:i+1<c.Way.length)=>b5r s.Plan hv hw hi;have hR:=(j9 hv).2.1;have hmv:∀i,i<c.Way.length->a9 Tryz.prog 36 [s.Plan.av,(y4 c.Way i).av] (Bo true):=fun i hi=>by
  have:=a9S s.Plan (y4 c.Way i) (by omega)
  rwa [E3 hw i hi]at this
 have hd:b8o s c x=(E0 s c).any fun y=>decide (y.Node=x):=rfl;have hle:=G4 hw;rw[hd,hle];unfold Plan.av at hbt hmv ⊢;refine oB Tryz.func26 Tryz.ntmps26 Tryz.results26 ?_;refine aW ?_;refine a5 fun K1 hK1=>?_;refine aW ?_;refine b8 ?_;refine aP [2,3,4,7] ?_;refine c6 [2,3,4] (α:=Nat) (fun k=>[(7,I (k+1))]) (fun k=>[some (.els 2 [s.Plan.cells]),some (.els 4 [c.cells])]) (fun k=>k+1<=c.Way.length/\((O9 s.Plan c.Way k).any fun y=>decide (y.Node=x))=false) (fun k=>c.Way.length-k) 0 ?_ ?_ ?_
 ·exact⟨F3 hw|>.1,by simp[O9]⟩
 ·exact c9 (by simp)
 rintro k ⟨k1,k2⟩;refine zN ?_;refine a5 fun K2 hK2=>?_;refine aW ?_;refine a7 rfl (fun hc0=>?_) (fun hc0=>?_)
 ·have hk:k+1<c.Way.length:=by first|omega|(simp at hc0;omega)
  have g0:c.Way[k]?=some (y4 c.Way k):=by unfold y4;rw[qc (by omega)];rfl
  have g1:c.Way[k+1]?=some (y4 c.Way (k+1)):=by unfold y4;rw[qc hk];rfl
  have wk:IntKind.i64.wrap ((k:Int)+1+1)=(k:Int)+1+1:=c4 (by omega) (by omega);have wk0:IntKind.i64.wrap (k:Int)=(k:Int):=c4 (by omega) (by omega);have tk:((k:Int)+1).toNat=k+1:=by omega
  have p0:0<=(k:Int)+1:=by omega
  have p1:(k:Int)<c.Way.length:=by omega
  have p2:(k:Int)+1<c.Way.length:=by omega
  have hb:=hbt k hk;have hm0:=hmv k (by omega);have hm1:=hmv (k+1) hk;have hst:=V4 s.Plan c.Way k;have hmem:F8 s.Plan (y4 c.Way k)=true->F9 s.Plan (y4 c.Way k) (y4 c.Way (k+1))∈O9 s.Plan c.Way (c.Way.length-1):=fun hq=>a0V.2 ⟨k,by omega,hq,rfl⟩;unfold Y4 at hst;generalize y4 c.Way k=m at g0 hb hst hm0 hmem;generalize y4 c.Way (k+1)=n at g1 hb hst hm1 hmem;generalize F9 s.Plan m n=B at hb hst hmem;generalize F8 s.Plan m=b at hb hst hmem;refine b9 ?_;refine zQ (hK2 _ _ ?_);refine aP [2,3,4,7] ?_;refine a5 fun K3 hK3=>?_;refine b8 ?_;refine a5 fun K4 hK4=>?_;refine aD ?_ fun K hK=>by simp -dsimp [g0,g1,wk0,tk,p0,p1,p2];refine cI (hm0) ?_;simp -dsimp [g0,g1,wk0,tk,p0,p1,p2];refine j7 n.cells (fun _=>by simp[g1,tk,p0,p2]) ?_;simp -dsimp [g0,g1,wk0,tk,p0,p1,p2];refine cY (fun hm=>hm1) ?_;simp -dsimp [g0,g1,wk0,tk,p0,p1,p2];exact hK
  refine a7 rfl (fun hc1=>?_) (fun hc1=>?_)
  ·simp at hc1
  ·obtain⟨B',hB'⟩:∃B',B'=if b=true then B else⟨0,0⟩:=⟨_,rfl⟩;rw[<-hB']at hb;have hbe:b=true->B'=B:=fun h=>by rw[hB',if_pos h]
   refine b9 ?_;refine zQ (hK4 _ _ ?_);refine aP [2,3,4,7] ?_;refine aD ?_ fun K hK=>by simp -dsimp [g0,g1,wk0,tk,p0,p1,p2];refine cI (hb) ?_;simp -dsimp [g0,g1,wk0,tk,p0,p1,p2];exact hK
   refine aW ?_;refine a7 rfl (fun hc2=>?_) (fun hc2=>?_)
   ·have hq:(b&&decide (B'.Node=x))=true:=by cases b<;>simp at hc2 ⊢;simpa using hc2
    refine aW ?_;have hbt2:b=true:=by cases b<;>simp at hq ⊢
    have hyes:((O9 s.Plan c.Way (c.Way.length-1)).any fun y=>decide (y.Node=x))=true:=by
     rw[qy];exact⟨B,hmem hbt2,by rw[hbt2,hbe hbt2]at hq;simpa using hq⟩
    exact a6 (by simp[hyes])
   ·have hq:(b&&decide (B'.Node=x))=false:=by cases b<;>simp at hc2 ⊢;simpa using hc2
    have hst2:((O9 s.Plan c.Way (k+1)).any fun y=>decide (y.Node=x))=false:=by
     rw[hst,List.any_append,k2]
     cases b with
     |false=>rfl
     |true=>rw[hbe rfl]at hq;simpa using hq
    refine b9 ?_;refine zQ (hK3 _ _ ?_);refine aP [2,3,4,7] ?_;refine aV ?_ fun K hK=>by simp -dsimp [wk];exact hK
    refine zQ ?_;exact⟨k+1,⟨by omega,hst2⟩,by omega,aB [some 0,some 1]⟩
 ·have hk:c.Way.length-1=k:=by first|omega|(simp at hc0;omega)
  have k3:((O9 s.Plan c.Way (c.Way.length-1)).any fun y=>decide (y.Node=x))=false:=by rw[hk];exact k2
  refine d4 ?_;refine zQ (hK1 _ _ ?_);refine aP [] ?_;refine aW ?_;exact a6 (by rw[k3];simp)
end Go.Tram.Lk
end
section
namespace Go.Tram.Lk
open Go.AM Go.Proofs
def c1i (s:j0) (l:List Act):Bool:=b7d s&&(fewB l&&Q2 s)
theorem a0j {s:j0} {x:Sta} (h:a7w s x):x.Points≠[]/\x.Points.length<=300:=by
 have h1:=h.pl;have h2:=h.nl;exact⟨by intro e;rw[e]at h1;simp at h1;omega,by omega⟩
theorem b9H {s:j0} {x:Sta} (h:R1 s x):∀c∈x.Cars,c.Way.length<=1000:=fun c hc=>by
 have:=(i9 (h.car c hc)).2.2.1;omega
theorem c3L {p:Plan} {ps:List Int} (h:a5o p ps=true):∀v∈ps,0<=v/\v<=2:=by
 intro v hv;obtain⟨j,hj⟩:=List.getElem?_of_mem hv;have hl:=(qa.1 hj).1;simp only[a5o,qh,decide_eq_true_eq,qn,List.mem_range]at h;have:=h.2 j (by omega);rw[hj]at this;unfold ptB at this;simp only[Option.getD_some]at this
 split at this
 ·rw[g6]at this;omega
 ·have:=of_decide_eq_true this;omega
theorem c2S (l:List Car):∀x∈a2s l,∀z∈x,AV.noRef 2 z=true:=by
 intro x hx z hz;unfold a2s at hx;obtain⟨c,_,rfl⟩:=List.mem_map.1 hx;simp at hz
 rcases hz with rfl|rfl|rfl|rfl<;>simp
theorem b0j (s:j0) (l:List Act) (hF:s.Fit) (hll:l.length<=9223372036854775807) (hlw:∀a∈l,a.Way.length<=9223372036854775807):
  a9 Tryz.prog 7 [s.av, .lst 6 (l.map Act.cells)] (Bo true):=by
 have hk:=b8d;have hfit:=c4D s hF;have hfew:=c3V l hll hlw;have hse0:b7d s=true->a9 Tryz.prog 11 [s.av] (Bo (Q2 s)):=fun hb=>by
  obtain⟨⟨f1,f2,f3,f4⟩,f5⟩:=a9m hb;exact b8y s (by omega) (by omega) (fun x hx=>by have:=f5 x hx;omega)
 cases hb:c1i s l with
 | false=>
  unfold c1i at hb;generalize b7d s=b1 at*
  generalize fewB l=b2 at*
  generalize Q2 s=b3 at*
  refine oB Tryz.func7 Tryz.ntmps7 Tryz.results7 ?_;refine aW ?_;refine a5 fun K1 hK1=>?_;refine aW ?_ fun K hK=>by simp -dsimp;refine cI (hfit) ?_;simp -dsimp;refine cY (fun hm=>hfew) ?_;simp -dsimp;refine cY (fun hm=>(hse0 (by simp at hm;simp[hm]))) ?_;simp -dsimp;exact hK
  refine a7 rfl (fun hc0=>?_) (fun hc0=>?_)
  ·refine aW ?_ fun K hK=>by simp -dsimp;refine cI (hk) ?_;simp -dsimp;exact hK
   exact a6 (by simp)
  ·have:(b1&&(b2&&b3))=true:=by cases b1<;>cases b2<;>cases b3<;>simp at hc0 ⊢
   rw[this]at hb;cases hb
 | true =>
  unfold c1i at hb;rw[qh,qh]at hb;obtain⟨b1,b2,hs⟩:=hb;have hse:=hse0 b1;rw[b1]at hfit;rw[b2]at hfew;rw[hs]at hse;obtain⟨⟨f1,f2,f3,f4⟩,f5⟩:=a9m b1;obtain⟨a1,a2⟩:=b7u.1 b2;have hnew:=b4K s hs (by omega);have hop:=c1H s hs (by omega);have lv0:a7w s ⟨[],x9 s.Plan⟩:=⟨hs,c0h hs,by simp,by omega⟩;have hlive:b3M s [] [] ⟨[],x9 s.Plan⟩=lkK++lkD s (Z4 s) (O2 (o7 s)) (R4 (o7 s)) [] [] [] (x9 s.Plan):=b5N s [] [] ⟨[],x9 s.Plan⟩;rw[hlive]at hnew;have hdo:=fun(x:Sta) (nx nd:j8) (a:Act) (h:a7w s x) (hw:a.Way.length<=1000)=>c6a h nx nd a hw;unfold LvD at hdo;have hs5:=fun(x:Sta) (h:a7w s x)=>c1m s x.Cars x.Points hs (by omega) (by have:=h.few;omega) (b9H h.st) (by have:=(a0j h).2;omega);have hsf:=fun(x:Sta) (h:a7w s x) (hpb:∀v∈x.Points,-9223372036854775808<=v/\v<=9223372036854775807)=>b9g s x.Cars x.Points hs (by omega) (by have:=h.few;omega) (b9H h.st) (by have:=(a0j h).2;omega) hpb;have hho:=fun(c:Car) (k:Int) (h:a1k s c=true)=>b9c s c k (l9 hs).1 (i9 h).2.2.1.2.2.2 (by have:=(i9 h).2.2.1;omega);have hcars:=fun(x:Sta) (nx nd:j8) (h:a7w s x)=>c4g s (Z4 s) (O2 (o7 s)) (R4 (o7 s)) nx nd x.Cars x.Points h.cs;have hpts:=fun(x:Sta) (nx nd:j8) (h:a7w s x)=>b1J s (Z4 s) (O2 (o7 s)) (R4 (o7 s)) nx nd x.Cars x.Points (a0j h).1 (by have:=(a0j h).2;omega);have hcars0:=hcars _ [] [] lv0;have hpts0:=hpts _ [] [] lv0;simp only at hcars0 hpts0;unfold Plan.av at hho;unfold wA wC at hop hs5;generalize Z4 s=fo at*
  generalize O2 (o7 s)=si at*
  generalize R4 (o7 s)=up at*
  generalize A8 s.Plan s.Profiles=fl at*
  generalize x9 s.Plan=fp at*
  have htk:List.take fp.length (fp.map f9)=fp.map f9:=qg (by simp);refine a9.of_bodyG Tryz.func7 rfl (by decide) (by simp[Tryz.ntmps7]) ?_;intro J hJ;simp only[Tryz.ntmps7,Tryz.results7];refine gW ?_;refine a8 fun K1 hK1=>?_;refine gW ?_ fun K hK=>by simp -dsimp;refine cI (hfit) ?_;simp -dsimp;refine cY (fun hm=>hfew) ?_;simp -dsimp;refine cY (fun hm=>hse) ?_;simp -dsimp;exact hK
  refine c3 rfl (fun hc0=>?_) (fun hc0=>?_)
  ·simp at hc0
  ·refine c5 ?_;refine zQ (hK1 _ _ ?_);refine gP [1,2] ?_;refine gW ?_ fun K hK=>by simp -dsimp;refine cM [] [] (hnew) ?_;simp -dsimp;exact hK
   refine a8 fun K2 hK2=>?_;refine gW ?_;refine c3 rfl (fun hc1=>?_) (fun hc1=>?_)
   ·simp at hc1
   ·refine c5 ?_;refine zQ (hK2 _ _ ?_);refine gP [1,2,5] ?_;refine gW ?_ fun K hK=>by simp -dsimp;refine cI (hop) ?_;simp -dsimp;exact hK
    refine gW ?_ fun K hK=>by simp -dsimp;refine cM [1] [2,3,4,5,6,7] (hpts0) ?_;simp -dsimp;exact hK
    refine gW ?_ fun K hK=>by simp -dsimp;refine cM [1] [10,11,12,13,14,15] (hcars0) ?_;simp -dsimp;exact hK
    refine a8 fun K3 hK3=>?_;refine gW ?_;refine c8 ?_;refine gP [1,2,5,7,9,10,11] ?_;refine e9 [1,2,5,7] (α:=Nat×Sta×j8×j8) (fun q=>[(11,I q.1),(9, .lst 1 (q.2.1.Points.map f9)),(10, .lst 4 (a2s q.2.1.Cars))]) (fun q=>[some (.els 4 [s.cells]),some (.els 1 [[.ptr 2 0 0]]),some (.els 3 [[.ptr 3 0 0, .mp 4, .row 5 0 q.2.1.Points.length]]),ruR s fo si up 6 7,caR q.2.1.Cars,ptR q.2.1.Points,nxR s q.2.2.1,ndR s q.2.2.2,some (.els 5 [s.cells++[.lst 4 (fl.map F5.cells)]])]) (fun q=>q.1<=l.length/\a7w s q.2.1/\q.2.1.Cars.length<=q.1) (fun q=>l.length-q.1) (0,⟨[],fp⟩,[],[]) ?_ ?_ ?_
    ·exact⟨qp _,lv0,by simp⟩
    ·exact G0 (a5F [some 0,some 1,some 17,some 18,some 19,some 20,some 21,some 22,some 8] rfl (by repeat' (first|exact trivial|exact .inr (by simp[htk,a2s])|refine⟨?_,?_⟩)) (by simp[htk,a2s])) (by simp)
    rintro⟨k,x,nx,nd⟩ ⟨k1,hlv,hcl⟩;dsimp only at k1 hlv hcl;refine zN ?_;refine a8 fun K4 hK4=>?_;refine gW ?_;refine c3 rfl (fun hc2=>?_) (fun hc2=>?_)
    ·have hkl:k<l.length:=by first|omega|(simp at hc2;omega)
     obtain⟨a,hag⟩:=gx (l:=l) (i:=k) hkl;have wk:=zW k (by omega);obtain⟨M,hM⟩:=hdo x nx nd a hlv (by have:=a1 a (qd hag);omega);have hyo:=c1a hs hlv.st a;have hyp:=b7M hs hlv.st a;have hyl:=b8n (s:=s) hlv.st.srt a;generalize (O0 s x a).1=y at*
     have hlv2:a7w s y:=⟨hs,hyo,by omega,by omega⟩;have hpn:=hlv2.pl;have hpx:=hlv.pl;have hpx2:=(a0j hlv).2;have hsfe:=c2u hyo (by omega);have hs5y:=hs5 y hlv2;have hsfy:=hsf y hlv2 (fun v hv=>by have:=c3L hyo.pts v hv;omega);rw[hsfe]at hs5y hsfy;have hcT:y.Cars.map Car.cells=a2s y.Cars:=rfl;rw[hcT]at hs5y hsfy;have hcy:=hcars y M.1 M.2 hlv2;have hpy:=hpts y M.1 M.2 hlv2;obtain⟨nx2,nd2⟩:=M;simp only at hM hcy hpy;have htk2:List.take y.Points.length (y.Points.map f9)=y.Points.map f9:=qg (by simp);have htk3:List.take y.Cars.length (a2s y.Cars)=a2s y.Cars:=qg (by simp);have hnr:=c2S y.Cars;refine c5 ?_;refine zQ (hK4 _ _ ?_);refine gP [1,2,5,7,9,10,11] ?_;refine a8 fun K5 hK5=>?_;refine c8 ?_;refine gW ?_ fun K hK=>by simp -dsimp [hag];refine cM [1] [2,3,4,5,6,7] (hM) ?_;simp -dsimp [hag];exact hK
     refine gW ?_ fun K hK=>by simp -dsimp;refine cM [1] [9,10,11,12,13,14] (hpy) ?_;simp -dsimp;refine cM [1] [15,16,17,18,19,20] (hcy) ?_;simp -dsimp;exact hK
     refine a8 fun K6 hK6=>?_;refine gW ?_ fun K hK=>by simp -dsimp [htk2,htk3,if_pos hnr];refine cI (hs5y) ?_;simp -dsimp [htk2,htk3,if_pos hnr];refine cY (fun hm=>hsfy) ?_;simp -dsimp [htk2,htk3,if_pos hnr];exact hK
     refine c3 rfl (fun hc3=>?_) (fun hc3=>?_)
     ·simp[hpn,hpx]at hc3
     ·refine c5 ?_;refine zQ (hK6 _ _ ?_);refine gP [1,2,5,7,9,10,11,12,13] ?_;refine a8 fun K7 hK7=>?_;refine p8 (G0 (a5F (T':=[(1, .lst 6 (l.map Act.cells)),(2, .ptr 0 0 0),(5, .ptr 1 0 0),(7, .ptr 8 0 0),(9, .lst 1 (x.Points.map f9)),(10, .lst 4 (a2s x.Cars)),(11,I k),(12, .lst 1 (y.Points.map f9)),(13, .lst 4 (a2s y.Cars))]) (H':=[some (.els 4 [s.cells]),some (.els 1 [[.ptr 2 0 0]]),some (.els 3 [[.ptr 3 0 0, .mp 4, .row 5 0 y.Points.length]]),ruR s fo si up 6 7,caR y.Cars,ptR y.Points,nxR s nx2,ndR s nd2,some (.els 5 [s.cells++[.lst 4 (fl.map F5.cells)]])]) [some 0,some 1,some 22,some 23,some 24,some 25,some 26,some 27,some 8] rfl (by repeat' (first|exact trivial|exact .inr (by simp[htk2,htk3,if_pos hnr])|refine⟨?_,?_⟩)) (by simp[htk2,htk3])) (by simp)) ?_
      ·refine gW ?_;refine c8 ?_;refine gP [1,2,5,7,9,10,11,12,13,14] ?_;refine e9 [1,2,5,7,9,10,11,12,13] (α:=Nat) (fun j=>[(14,I j)]) (fun j=>[some (.els 4 [s.cells]),some (.els 1 [[.ptr 2 0 0]]),some (.els 3 [[.ptr 3 0 0, .mp 4, .row 5 0 y.Points.length]]),ruR s fo si up 6 7,caR y.Cars,ptR y.Points,nxR s nx2,ndR s nd2,some (.els 5 [s.cells++[.lst 4 (fl.map F5.cells)]])]) (fun j=>j<=y.Points.length) (fun j=>y.Points.length-j) 0 ?_ ?_ ?_
       ·exact qp _
       ·exact G0 (c9 (by simp)) (by simp)
       rintro j j1;refine zN ?_;refine a8 fun K8 hK8=>?_;refine gW ?_;refine c3 rfl (fun hc4=>?_) (fun hc4=>?_)
       ·have hj:j<y.Points.length:=by first|omega|(simp at hc4;omega)
        obtain⟨v,hv⟩:=gx (l:=y.Points) (i:=j) hj;obtain⟨u,hu⟩:=gx (l:=x.Points) (i:=j) (by omega);have wj:=zW j (by omega);refine c5 ?_;refine zQ (hK8 _ _ ?_);refine gP [1,2,5,7,9,10,11,12,13,14] ?_;refine a8 fun K9 hK9=>?_;refine c8 ?_;refine gW ?_;refine c8 ?_;refine gP [1,2,5,7,9,10,11,12,13,14,15] ?_;refine e9 [1,2,5,7,9,10,11,12,13,14] (α:=Nat) (fun i=>[(15,I i)]) (fun i=>[some (.els 4 [s.cells]),some (.els 1 [[.ptr 2 0 0]]),some (.els 3 [[.ptr 3 0 0, .mp 4, .row 5 0 y.Points.length]]),ruR s fo si up 6 7,caR y.Cars,ptR y.Points,nxR s nx2,ndR s nd2,some (.els 5 [s.cells++[.lst 4 (fl.map F5.cells)]])]) (fun i=>i<=x.Cars.length) (fun i=>x.Cars.length-i) 0 ?_ ?_ ?_
        ·exact qp _
        ·exact G0 (c9 (by simp)) (by simp)
        rintro i i1;refine zN ?_;refine a8 fun K10 hK10=>?_;refine gD ?_ fun K hK=>by simp -dsimp [hv,hu];refine j7 (f9 v) (fun _=>by simp[hv]) ?_;simp -dsimp [hv,hu];refine j7 (f9 u) (fun _=>by simp[hu]) ?_;simp -dsimp [hv,hu];exact hK
        refine c3 rfl (fun hc5=>?_) (fun hc5=>?_)
        ·have hi:i<x.Cars.length/\v≠u:=by simpa using hc5
         obtain⟨c,hcg⟩:=gx (l:=x.Cars) (i:=i) hi.1;have hcm:=qd hcg;have wi:IntKind.i64.wrap ((i:Int)+1)=(i:Int)+1:=c4 (by omega) (by have:=hlv.few;omega);have hno:=c0J hs hlv.st hyp hu hv hi.2 hcm;have hhc:=hho c j (hlv.st.car c hcm);rw[hno]at hhc;have hcg2:(a2s x.Cars)[i]?=some c.cells:=by unfold a2s;simp[hcg]
         have hcg3:=(qa.1 hcg2).2;refine c5 ?_;refine zQ (hK10 _ _ ?_);refine gP [1,2,5,7,9,10,11,12,13,14,15] ?_;refine a8 fun K11 hK11=>?_;refine c8 ?_;refine gD ?_ fun K hK=>by simp -dsimp [hcg2,hcg3,hi.1];refine cI (hhc) ?_;simp -dsimp [hcg2,hcg3,hi.1];exact hK
         refine c3 rfl (fun hc6=>?_) (fun hc6=>?_)
         ·simp at hc6
         ·refine c5 ?_;refine zQ (hK11 _ _ ?_);refine gP [1,2,5,7,9,10,11,12,13,14,15] ?_;refine gV ?_ fun K hK=>by simp -dsimp [wi];exact hK
          refine zQ ?_;exact⟨i+1,by omega,by omega,G0 (c9 (by simp)) (by simp)⟩
        ·refine o5 ?_;refine zQ (hK9 _ _ ?_);refine gP [1,2,5,7,9,10,11,12,13,14] ?_;refine gV ?_ fun K hK=>by simp -dsimp [wj];exact hK
         refine zQ ?_;exact⟨j+1,by omega,by omega,G0 (c9 (by simp)) (by simp)⟩
       ·refine o5 ?_;refine zQ (hK7 _ _ ?_);refine gP [1,2,5,7,11,12,13] ?_;refine gV ?_;refine zQ (hK5 _ _ ?_);refine gP [1,2,5,7,9,10,11] ?_;refine gV ?_ fun K hK=>by simp -dsimp [wk];exact hK
        refine zQ ?_;exact⟨(k+1,y,nx2,nd2),⟨by dsimp only;omega,hlv2,by dsimp only;omega⟩,by dsimp only;omega,G0 (c9 (by simp)) (by simp)⟩
    ·refine o5 ?_;refine zQ (hK3 _ _ ?_);refine gP [] ?_;refine gW ?_ fun K hK=>by simp -dsimp;refine cI (hk) ?_;simp -dsimp;exact hK
     exact d9 (by simp[N6,r9])
end Go.Tram.Lk
end
