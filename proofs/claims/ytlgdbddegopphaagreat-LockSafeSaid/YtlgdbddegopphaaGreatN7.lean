import Derived.Test.YtlgdbddegopphaaGreatN6
set_option maxRecDepth 100000
set_option maxHeartbeats 8000000
set_option linter.unusedVariables false
set_option linter.unusedSimpArgs false
section
namespace Go.Tram.Lk
open Go.AM Go.Proofs
theorem a4O {nt:Nat} {T:Tm} {H:Hp} (q:Nat) {ag:Bool} {kts:List KT} {kvs kvs':List (List KC×AV)} (hr:g7 H q=some (.mpa ag kts kvs)) (hp:kvs.Perm kvs'):Sub nt T H T (p9 H q (some (.mpa ag kts kvs'))):=by
 rintro w0 B S0 a w ⟨⟨ρ,L,hc,hL⟩,hext⟩;have hql:=U4 hr;refine⟨⟨ρ,L,⟨hc.wf,hc.size,hc.defers,hc.tmps,fun r' row hr'=>?_,fun r' hr'=>?_⟩,fun r' hr'=>by rw[M0 _ _ _ hql];exact hL r' hr'⟩,hext⟩
 ·rw[x9 _ _ _ _ (by omega)]at hr'
  split at hr'
  ·rename_i e';subst e';simp only[Option.some.injEq]at hr';subst hr';obtain⟨l,hl,k9⟩:=hc.rows r' _ hr;exact⟨l,hl,b7D hp k9⟩
  ·exact hc.rows r' row hr'
 ·rw[x9 _ _ _ _ (by omega)]at hr'
  split at hr'
  ·cases hr'
  ·exact hc.dead r' hr'
section
variable (s:j5) (fo si up:Kvs) (nx nd:n5) (cs:List Car) (ps:List Int)
theorem b9f {name e:Int} (he:e≠0) (hf:c8 Tryz.prog 50 [.ptr 0 0 0,I name] lkK (lkD s fo si up nx nd cs ps) (.tup [.agg a5m,I e]) lkK (lkD s fo si up nx nd cs ps)):
  c8 Tryz.prog 29 [.ptr 0 0 0,I name] lkK (lkD s fo si up nx nd cs ps) (I e) lkK (lkD s fo si up nx nd cs ps):=by
 refine oG [0] Tryz.func29 Tryz.ntmps29 Tryz.results29 ?_;intro J hJ;refine gW ?_;refine gW ?_ fun K hK=>by simp -dsimp;refine cM [0] [1,2,3,4,5,6] (hf) ?_;simp -dsimp;exact hK
 refine b9 fun K1 hK1=>?_;refine gW ?_;refine c3 rfl (fun hc0=>?_) (fun hc0=>?_)
 ·refine gW ?_;exact i6 (gT [some 0,some 7,some 8,some 9,some 10,some 11,some 12])
 ·simp[he]at hc0
theorem a8p {name e:Int} (he:e≠0) (hf:c8 Tryz.prog 50 [.ptr 0 0 0,I name] lkK (lkD s fo si up nx nd cs ps) (.tup [.agg a5m,I e]) lkK (lkD s fo si up nx nd cs ps)):
  c8 Tryz.prog 30 [.ptr 0 0 0,I name] lkK (lkD s fo si up nx nd cs ps) (I e) lkK (lkD s fo si up nx nd cs ps):=by
 refine oG [0] Tryz.func30 Tryz.ntmps30 Tryz.results30 ?_;intro J hJ;refine gW ?_;refine gW ?_ fun K hK=>by simp -dsimp;refine cM [0] [1,2,3,4,5,6] (hf) ?_;simp -dsimp;exact hK
 refine b9 fun K1 hK1=>?_;refine gW ?_;refine c3 rfl (fun hc0=>?_) (fun hc0=>?_)
 ·refine gW ?_;exact i6 (gT [some 0,some 7,some 8,some 9,some 10,some 11,some 12])
 ·simp[he]at hc0
theorem c3a {name:Int} {c:Car} (hl:c.Way.length≤1000) (hl0:1≤c.Way.length) (h:c.Front=(c.Way.length:Int)-1) (hf:c8 Tryz.prog 50 [.ptr 0 0 0,I name] lkK (lkD s fo si up nx nd cs ps) (.tup [c.av,I 0]) lkK (lkD s fo si up nx nd cs ps)):
  c8 Tryz.prog 29 [.ptr 0 0 0,I name] lkK (lkD s fo si up nx nd cs ps) (I 5) lkK (lkD s fo si up nx nd cs ps):=by
 have wl:IntKind.i64.wrap ((c.Way.length:Int)-1)=(c.Way.length:Int)-1:=c4 (by omega) (by omega);refine oG [0] Tryz.func29 Tryz.ntmps29 Tryz.results29 ?_;intro J hJ;refine gW ?_;refine gW ?_ fun K hK=>by simp -dsimp;refine cM [0] [1,2,3,4,5,6] (hf) ?_;simp -dsimp;exact hK
 refine b9 fun K1 hK1=>?_;refine gW ?_;refine c3 rfl (fun hc0=>?_) (fun hc0=>?_)
 ·simp at hc0
 ·refine c6 ?_;refine zQ (hK1 _ _ ?_);refine gP [0,1,5] ?_;refine b9 fun K2 hK2=>?_;refine gW ?_ fun K hK=>by simp -dsimp [wl];exact hK
  refine c3 rfl (fun hc1=>?_) (fun hc1=>?_)
  ·refine gW ?_;exact i6 (gT [some 0,some 7,some 8,some 9,some 10,some 11,some 12])
  ·simp[h]at hc1
theorem b9H {name:Int} {c:Car} (hl:c.Way.length≤1000) (hl0:1≤c.Way.length) (hb:0≤c.Front∧c.Front<c.Way.length) (h:c.Front≠(c.Way.length:Int)-1) (hn:c.Name=name) (hs:Srt cs) (hf:c8 Tryz.prog 50 [.ptr 0 0 0,I name] lkK (lkD s fo si up nx nd cs ps) (.tup [c.av,I 0]) lkK (lkD s fo si up nx nd cs ps)):
  c8 Tryz.prog 29 [.ptr 0 0 0,I name] lkK (lkD s fo si up nx nd cs ps) (I 0) lkK (lkD s fo si up nx nd (C1 cs {c with Front:=c.Front+1}) ps):=by
 have wl:IntKind.i64.wrap ((c.Way.length:Int)-1)=(c.Way.length:Int)-1:=c4 (by omega) (by omega);have wf:IntKind.i64.wrap (c.Front+1)=c.Front+1:=c4 (by omega) (by omega);subst hn;have p9:(P6 (o4 cs) (kOf c.Name) {c with Front:=c.Front+1}.av).Perm _:=a0w {c with Front:=c.Front+1} hs;refine oG [0] Tryz.func29 Tryz.ntmps29 Tryz.results29 ?_;intro J hJ;refine gW ?_;refine gW ?_ fun K hK=>by simp -dsimp;refine cM [0] [1,2,3,4,5,6] (hf) ?_;simp -dsimp;exact hK
 refine b9 fun K1 hK1=>?_;refine gW ?_;refine c3 rfl (fun hc0=>?_) (fun hc0=>?_)
 ·simp at hc0
 ·refine c6 ?_;refine zQ (hK1 _ _ ?_);refine gP [0,1,5] ?_;refine b9 fun K2 hK2=>?_;refine gW ?_ fun K hK=>by simp -dsimp [wl];exact hK
  refine c3 rfl (fun hc1=>?_) (fun hc1=>?_)
  ·simp[h]at hc1
  ·refine c6 ?_;refine zQ (hK2 _ _ ?_);refine gP [0,1,5] ?_;refine gW ?_ fun K hK=>by simp -dsimp [wf];exact hK
   refine gD ?_;refine gW ?_;refine v6 (Q3 (a4O 9 rfl p9) (by simp)) ?_;exact i6 (gT [some 0,some 7,some 8,some 9,some 10,some 11,some 12])
theorem b4Y {name:Int} {c:Car} (h:c.Front=0) (hf:c8 Tryz.prog 50 [.ptr 0 0 0,I name] lkK (lkD s fo si up nx nd cs ps) (.tup [c.av,I 0]) lkK (lkD s fo si up nx nd cs ps)):
  c8 Tryz.prog 30 [.ptr 0 0 0,I name] lkK (lkD s fo si up nx nd cs ps) (I 5) lkK (lkD s fo si up nx nd cs ps):=by
 refine oG [0] Tryz.func30 Tryz.ntmps30 Tryz.results30 ?_;intro J hJ;refine gW ?_;refine gW ?_ fun K hK=>by simp -dsimp;refine cM [0] [1,2,3,4,5,6] (hf) ?_;simp -dsimp;exact hK
 refine b9 fun K1 hK1=>?_;refine gW ?_;refine c3 rfl (fun hc0=>?_) (fun hc0=>?_)
 ·simp at hc0
 ·refine c6 ?_;refine zQ (hK1 _ _ ?_);refine gP [0,1,5] ?_;refine b9 fun K2 hK2=>?_;refine gW ?_;refine c3 rfl (fun hc1=>?_) (fun hc1=>?_)
  ·refine gW ?_;exact i6 (gT [some 0,some 7,some 8,some 9,some 10,some 11,some 12])
  ·simp[h]at hc1
end
end Go.Tram.Lk
end
section
namespace Go.Tram.Lk
open Go.AM Go.Proofs
section
variable (s:j5) (fo si up:Kvs) (nx nd:n5) (cs:List Car) (ps:List Int)
theorem b3b {name:Int} {c:Car} (hl:c.Way.length≤1000) (hb:0≤c.Front∧c.Front<c.Way.length) (h:c.Front≠0) (hn:c.Name=name) (hs:Srt cs) (hf:c8 Tryz.prog 50 [.ptr 0 0 0,I name] lkK (lkD s fo si up nx nd cs ps) (.tup [c.av,I 0]) lkK (lkD s fo si up nx nd cs ps)):
  c8 Tryz.prog 30 [.ptr 0 0 0,I name] lkK (lkD s fo si up nx nd cs ps) (I 0) lkK (lkD s fo si up nx nd (C1 cs {c with Way:=c.Way.drop 1,Front:=c.Front-1}) ps):=by
 subst hn;have wf:IntKind.i64.wrap (c.Front-1)=c.Front-1:=c4 (by omega) (by omega);have l2:1≤c.Way.length:=by omega
 have htl:(c.Way.drop 1).length=c.Way.length-1:=by simp
 have hcl:=a6u (c.Way.drop 1) (by intro e;rw[e]at htl;simp at htl;omega) (by omega);rw[htl]at hcl;have p9:(P6 (o4 cs) (kOf c.Name) {c with Way:=c.Way.drop 1,Front:=c.Front-1}.av).Perm _:=a0w {c with Way:=c.Way.drop 1,Front:=c.Front-1} hs;have hmt:List.drop 1 (List.map Move.cells c.Way)=List.map Move.cells (c.Way.drop 1):=by rw[List.map_drop]
 generalize c.Way.drop 1=W at*
 have htk:List.take (c.Way.length-1) (List.map Move.cells W)=List.map Move.cells W:=List.take_of_length_le (by simp;omega);refine oG [0] Tryz.func30 Tryz.ntmps30 Tryz.results30 ?_;intro J hJ;refine gW ?_;refine gW ?_ fun K hK=>by simp -dsimp;refine cM [0] [1,2,3,4,5,6] (hf) ?_;simp -dsimp;exact hK
 refine b9 fun K1 hK1=>?_;refine gW ?_;refine c3 rfl (fun hc0=>?_) (fun hc0=>?_)
 ·simp at hc0
 ·refine c6 ?_;refine zQ (hK1 _ _ ?_);refine gP [0,1,5] ?_;refine b9 fun K2 hK2=>?_;refine gW ?_;refine c3 rfl (fun hc1=>?_) (fun hc1=>?_)
  ·simp[h]at hc1
  ·refine c6 ?_;refine zQ (hK2 _ _ ?_);refine gP [0,1,5] ?_;refine gD ?_ fun K hK=>by simp -dsimp [wf,l2,hmt];refine cM [] [] (hcl) ?_;simp -dsimp [wf,l2,hmt];exact hK
   refine gU (T':=[(0, .ptr 0 0 0),(1,I c.Name),(5, .ptr 7 0 0)]) (H':=lkK++(lkD s fo si up nx nd cs ps++[some (.els 4 [{c with Way:=W,Front:=c.Front-1}.cells])])) [some 0,some 7,some 8,some 9,some 10,some 11,some 12,some 13] ?_ (hH:=by simp[htk,htl])
   ·refine gD ?_ fun K hK=>by simp -dsimp [p9];exact hK
    refine gW ?_;refine v6 (Q3 (a4O 3 rfl p9) (by simp)) ?_;exact i6 (gT [some 0,some 1,some 2,some 3,some 4,some 5,some 6])
theorem c1N {name e:Int} (m:Move) (he:e=1∨e=2) (hf:c8 Tryz.prog 50 [.ptr 0 0 0,I name] lkK (lkD s fo si up nx nd cs ps) (.tup [.agg a5m,I e]) lkK (lkD s fo si up nx nd cs ps)):
  c8 Tryz.prog 21 [.ptr 0 0 0,I name,m.av] lkK (lkD s fo si up nx nd cs ps) (.tup [R8 ⟨0,0⟩,I e]) lkK (lkD s fo si up nx nd cs ps):=by
 have h1:((e==1)||(e==2))=true:=by rcases he with rfl|rfl<;>rfl
 have h2:e=1∨e=2:=he
 rcases he with rfl|rfl
 all_goals skip
 ·refine oG [0] Tryz.func21 Tryz.ntmps21 Tryz.results21 ?_;intro J hJ;refine gW ?_;refine gW ?_ fun K hK=>by simp -dsimp;refine cM [0] [1,2,3,4,5,6] (hf) ?_;simp -dsimp;exact hK
  refine b9 fun K1 hK1=>?_;refine gW ?_;refine c3 rfl (fun hc0=>?_) (fun hc0=>?_)
  ·refine gW ?_;refine gU (T':=[(0, .ptr 0 0 0),(6, .iptr [I 0,I 0]),(7,I 1)]) (H':=lkK++lkD s fo si up nx nd cs ps) [some 0,some 9,some 10,some 11,some 12,some 13,some 14] ?_;exact i6 (gT [some 0,some 1,some 2,some 3,some 4,some 5,some 6])
  ·simp at hc0
 ·refine oG [0] Tryz.func21 Tryz.ntmps21 Tryz.results21 ?_;intro J hJ;refine gW ?_;refine gW ?_ fun K hK=>by simp -dsimp;refine cM [0] [1,2,3,4,5,6] (hf) ?_;simp -dsimp;exact hK
  refine b9 fun K1 hK1=>?_;refine gW ?_;refine c3 rfl (fun hc0=>?_) (fun hc0=>?_)
  ·refine gW ?_;refine gU (T':=[(0, .ptr 0 0 0),(6, .iptr [I 0,I 0]),(7,I 2)]) (H':=lkK++lkD s fo si up nx nd cs ps) [some 0,some 9,some 10,some 11,some 12,some 13,some 14] ?_;exact i6 (gT [some 0,some 1,some 2,some 3,some 4,some 5,some 6])
  ·simp at hc0
theorem b7U {name:Int} (c:Car) (m:Move) (hN:s.Plan.Rails.length≤1000) (hr:inr m.Rail 0 ((s.Plan.Rails.length:Int)-1)=false) (hf:c8 Tryz.prog 50 [.ptr 0 0 0,I name] lkK (lkD s fo si up nx nd cs ps) (.tup [c.av,I 0]) lkK (lkD s fo si up nx nd cs ps)):
  c8 Tryz.prog 21 [.ptr 0 0 0,I name,m.av] lkK (lkD s fo si up nx nd cs ps) (.tup [R8 ⟨0,0⟩,I 2]) lkK (lkD s fo si up nx nd cs ps):=by
 have wl:IntKind.i64.wrap ((s.Plan.Rails.length:Int)-1)=(s.Plan.Rails.length:Int)-1:=c4 (by omega) (by omega);have hw:=s7 m.Rail 0 ((s.Plan.Rails.length:Int)-1);rw[hr]at hw;refine oG [0] Tryz.func21 Tryz.ntmps21 Tryz.results21 ?_;intro J hJ;refine gW ?_;refine gW ?_ fun K hK=>by simp -dsimp;refine cM [0] [1,2,3,4,5,6] (hf) ?_;simp -dsimp;exact hK
 refine b9 fun K1 hK1=>?_;refine gW ?_;refine c3 rfl (fun hc0=>?_) (fun hc0=>?_)
 ·simp at hc0
 ·refine c6 ?_;refine zQ (hK1 _ _ ?_);refine gP [0,1,5,6,8,9] ?_;refine b9 fun K2 hK2=>?_;refine gD ?_ fun K hK=>by simp -dsimp [wl];refine cI (hw) ?_;simp -dsimp [wl];exact hK
  refine c3 rfl (fun hc1=>?_) (fun hc1=>?_)
  ·refine gW ?_;refine gU (T':=[(0, .ptr 0 0 0),(6, .iptr [I 0,I 0]),(7,I 2)]) (H':=lkK++lkD s fo si up nx nd cs ps) [some 0,some 9,some 10,some 11,some 12,some 13,some 14] ?_;exact i6 (gT [some 0,some 1,some 2,some 3,some 4,some 5,some 6])
  ·simp at hc1
theorem b8h {name:Int} (c:Car) (m:Move) (hN:s.Plan.Rails.length≤1000) (hr:inr m.Rail 0 ((s.Plan.Rails.length:Int)-1)=false) (hf:c8 Tryz.prog 50 [.ptr 0 0 0,I name] lkK (lkD s fo si up nx nd cs ps) (.tup [(.agg a5m),I 4]) lkK (lkD s fo si up nx nd cs ps)):
  c8 Tryz.prog 21 [.ptr 0 0 0,I name,m.av] lkK (lkD s fo si up nx nd cs ps) (.tup [R8 ⟨0,0⟩,I 2]) lkK (lkD s fo si up nx nd cs ps):=by
 have wl:IntKind.i64.wrap ((s.Plan.Rails.length:Int)-1)=(s.Plan.Rails.length:Int)-1:=c4 (by omega) (by omega);have hw:=s7 m.Rail 0 ((s.Plan.Rails.length:Int)-1);rw[hr]at hw;refine oG [0] Tryz.func21 Tryz.ntmps21 Tryz.results21 ?_;intro J hJ;refine gW ?_;refine gW ?_ fun K hK=>by simp -dsimp;refine cM [0] [1,2,3,4,5,6] (hf) ?_;simp -dsimp;exact hK
 refine b9 fun K1 hK1=>?_;refine gW ?_;refine c3 rfl (fun hc0=>?_) (fun hc0=>?_)
 ·simp at hc0
 ·refine c6 ?_;refine zQ (hK1 _ _ ?_);refine gP [0,1,5,6,8,9] ?_;refine b9 fun K2 hK2=>?_;refine gD ?_ fun K hK=>by simp -dsimp [wl];refine cI (hw) ?_;simp -dsimp [wl];exact hK
  refine c3 rfl (fun hc1=>?_) (fun hc1=>?_)
  ·refine gW ?_;refine gU (T':=[(0, .ptr 0 0 0),(6, .iptr [I 0,I 0]),(7,I 2)]) (H':=lkK++lkD s fo si up nx nd cs ps) [some 0,some 9,some 10,some 11,some 12,some 13,some 14] ?_;exact i6 (gT [some 0,some 1,some 2,some 3,some 4,some 5,some 6])
  ·simp at hc1
theorem c0R {name:Int} (m:Move) (hN:s.Plan.Rails.length≤1000) (hr:inr m.Rail 0 ((s.Plan.Rails.length:Int)-1)=true) (hf:c8 Tryz.prog 50 [.ptr 0 0 0,I name] lkK (lkD s fo si up nx nd cs ps) (.tup [.agg a5m,I 4]) lkK (lkD s fo si up nx nd cs ps)):
  c8 Tryz.prog 21 [.ptr 0 0 0,I name,m.av] lkK (lkD s fo si up nx nd cs ps) (.tup [R8 ⟨0,0⟩,I 4]) lkK (lkD s fo si up nx nd cs ps):=by
 have wl:IntKind.i64.wrap ((s.Plan.Rails.length:Int)-1)=(s.Plan.Rails.length:Int)-1:=c4 (by omega) (by omega);have hw:=s7 m.Rail 0 ((s.Plan.Rails.length:Int)-1);rw[hr]at hw;refine oG [0] Tryz.func21 Tryz.ntmps21 Tryz.results21 ?_;intro J hJ;refine gW ?_;refine gW ?_ fun K hK=>by simp -dsimp;refine cM [0] [1,2,3,4,5,6] (hf) ?_;simp -dsimp;exact hK
 refine b9 fun K1 hK1=>?_;refine gW ?_;refine c3 rfl (fun hc0=>?_) (fun hc0=>?_)
 ·simp at hc0
 ·refine c6 ?_;refine zQ (hK1 _ _ ?_);refine gP [0,1,5,6,8,9] ?_;refine b9 fun K2 hK2=>?_;refine gD ?_ fun K hK=>by simp -dsimp [wl];refine cI (hw) ?_;simp -dsimp [wl];exact hK
  refine c3 rfl (fun hc1=>?_) (fun hc1=>?_)
  ·simp at hc1
  ·refine c6 ?_;refine zQ (hK2 _ _ ?_);refine gP [0,1,5,6,8,9] ?_;refine b9 fun K3 hK3=>?_;refine gW ?_;refine c3 rfl (fun hc2=>?_) (fun hc2=>?_)
   ·refine gW ?_;refine gU (T':=[(0, .ptr 0 0 0),(6, .iptr [I 0,I 0]),(7,I 4)]) (H':=lkK++lkD s fo si up nx nd cs ps) [some 0,some 9,some 10,some 11,some 12,some 13,some 14] ?_;exact i6 (gT [some 0,some 1,some 2,some 3,some 4,some 5,some 6])
   ·simp at hc2
theorem b7O {name:Int} {c:Car} {m:Move} {nx2 nd2:n5} (hn:c.Name=name) (hs:Srt cs) (hN:s.Plan.Rails.length≤1000) (hr:inr m.Rail 0 ((s.Plan.Rails.length:Int)-1)=true) (hf:c8 Tryz.prog 50 [.ptr 0 0 0,I name] lkK (lkD s fo si up nx nd cs ps) (.tup [c.av,I 0]) lkK (lkD s fo si up nx nd cs ps))
  (hg:∀X:Value,c8 Tryz.prog 51 [.ptr 0 0 0,c.av,m.av] (stK X s fo si up ps.length) (stD s cs ps nx nd) (.tup [(p7 c m).av,R8 ⟨0,0⟩]) (stK X s fo si up ps.length) (stD s cs (a3d s c m ps) nx2 nd2++grR (p7 c m).cells ⟨0,0⟩)):
  c8 Tryz.prog 21 [.ptr 0 0 0,I name,m.av] lkK (lkD s fo si up nx nd cs ps) (.tup [R8 ⟨0,0⟩,I 0]) lkK (lkD s fo si up nx2 nd2 (C1 cs (p7 c m)) (a3d s c m ps)):=by
 subst hn;have wl:IntKind.i64.wrap ((s.Plan.Rails.length:Int)-1)=(s.Plan.Rails.length:Int)-1:=c4 (by omega) (by omega);have hw:=s7 m.Rail 0 ((s.Plan.Rails.length:Int)-1);rw[hr]at hw;have hpl:(a3d s c m ps).length=ps.length:=by unfold a3d;split<;>simp
 have p9:(P6 (o4 cs) (kOf c.Name) (p7 c m).av).Perm _:=a0w (p7 c m) hs;generalize a3d s c m ps=ps2 at*
 generalize C1 cs (p7 c m)=cs2 at*
 refine oG [0] Tryz.func21 Tryz.ntmps21 Tryz.results21 ?_;intro J hJ;refine gW ?_;refine gW ?_ fun K hK=>by simp -dsimp;refine cM [0] [1,2,3,4,5,6] (hf) ?_;simp -dsimp;exact hK
 refine b9 fun K1 hK1=>?_;refine gW ?_;refine c3 rfl (fun hc0=>?_) (fun hc0=>?_)
 ·simp at hc0
 ·refine c6 ?_;refine zQ (hK1 _ _ ?_);refine gP [0,1,5,6,8,9] ?_;refine b9 fun K2 hK2=>?_;refine gD ?_ fun K hK=>by simp -dsimp [wl];refine cI (hw) ?_;simp -dsimp [wl];exact hK
  refine c3 rfl (fun hc1=>?_) (fun hc1=>?_)
  ·simp at hc1
  ·refine c6 ?_;refine zQ (hK2 _ _ ?_);refine gP [0,1,5,6,8,9] ?_;refine b9 fun K3 hK3=>?_;refine gW ?_;refine c3 rfl (fun hc2=>?_) (fun hc2=>?_)
   ·simp at hc2
   ·refine c6 ?_;refine zQ (hK3 _ _ ?_);refine gP [0,1,5,6,8] ?_;refine a4a 9 0 rfl rfl fun X=>?_;simp only[p9,List.set_cons_zero]
    ·refine gD ?_ fun K hK=>by simp -dsimp;refine cM [9,10] [11,12,13,14] (hg X) ?_;simp -dsimp;exact hK
     refine b9 fun K4 hK4=>?_;refine gW ?_;refine d4 ?_;refine gW ?_;refine c3 rfl (fun hc3=>?_) (fun hc3=>?_)
     ·refine gD ?_ fun K hK=>by simp -dsimp [p9];exact hK
      refine gW ?_;refine v6 (Q3 (a4O 16 rfl p9) (by simp)) ?_;refine v6 (Q3 (I6 9 0 rfl rfl) (by simp)) ?_;refine gU (T':=[(0, .ptr 0 0 0),(6, .iptr [I 0,I 0]),(7,I 0)]) (H':=lkK++lkD s fo si up nx2 nd2 cs2 ps2) [some 0,some 9,some 10,some 16,some 17,some 18,some 19] ?_ (hH:=by simp[hpl]);exact i6 (gT [some 0,some 1,some 2,some 3,some 4,some 5,some 6])
     ·simp at hc3
theorem c0z {name:Int} {c:Car} {m:Move} {nx2 nd2:n5} {r:b3t} (hk:r.Kind=1) (hN:s.Plan.Rails.length≤1000) (hr:inr m.Rail 0 ((s.Plan.Rails.length:Int)-1)=true) (hf:c8 Tryz.prog 50 [.ptr 0 0 0,I name] lkK (lkD s fo si up nx nd cs ps) (.tup [c.av,I 0]) lkK (lkD s fo si up nx nd cs ps))
  (hg:∀X:Value,c8 Tryz.prog 51 [.ptr 0 0 0,c.av,m.av] (stK X s fo si up ps.length) (stD s cs ps nx nd) (.tup [.agg a5m,R8 r]) (stK X s fo si up ps.length) (stD s cs ps nx2 nd2++grR a5m r)):
  c8 Tryz.prog 21 [.ptr 0 0 0,I name,m.av] lkK (lkD s fo si up nx nd cs ps) (.tup [R8 r,I 7]) lkK (lkD s fo si up nx2 nd2 cs ps):=by
 obtain⟨k,v⟩:=r;simp only at hk;have wl:IntKind.i64.wrap ((s.Plan.Rails.length:Int)-1)=(s.Plan.Rails.length:Int)-1:=c4 (by omega) (by omega);have hw:=s7 m.Rail 0 ((s.Plan.Rails.length:Int)-1);rw[hr]at hw;refine oG [0] Tryz.func21 Tryz.ntmps21 Tryz.results21 ?_;intro J hJ;refine gW ?_;refine gW ?_ fun K hK=>by simp -dsimp;refine cM [0] [1,2,3,4,5,6] (hf) ?_;simp -dsimp;exact hK
 refine b9 fun K1 hK1=>?_;refine gW ?_;refine c3 rfl (fun hc0=>?_) (fun hc0=>?_)
 ·simp at hc0
 ·refine c6 ?_;refine zQ (hK1 _ _ ?_);refine gP [0,1,5,6,8,9] ?_;refine b9 fun K2 hK2=>?_;refine gD ?_ fun K hK=>by simp -dsimp [wl];refine cI (hw) ?_;simp -dsimp [wl];exact hK
  refine c3 rfl (fun hc1=>?_) (fun hc1=>?_)
  ·simp at hc1
  ·refine c6 ?_;refine zQ (hK2 _ _ ?_);refine gP [0,1,5,6,8,9] ?_;refine b9 fun K3 hK3=>?_;refine gW ?_;refine c3 rfl (fun hc2=>?_) (fun hc2=>?_)
   ·simp at hc2
   ·refine c6 ?_;refine zQ (hK3 _ _ ?_);refine gP [0,1,5,6,8] ?_;refine a4a 9 0 rfl rfl fun X=>?_;simp only[p9,List.set_cons_zero]
    ·refine gD ?_ fun K hK=>by simp -dsimp;refine cM [9,10] [11,12,13,14] (hg X) ?_;simp -dsimp;exact hK
     refine b9 fun K4 hK4=>?_;refine gW ?_;refine d4 ?_;refine gW ?_;refine c3 rfl (fun hc3=>?_) (fun hc3=>?_)
     ·simp[hk]at hc3
     ·refine gW ?_;refine c3 rfl (fun hc4=>?_) (fun hc4=>?_)
      ·refine gW ?_;refine v6 (Q3 (I6 9 0 rfl rfl) (by simp)) ?_;refine gU (T':=[(0, .ptr 0 0 0),(6, .iptr [I k,I v]),(7,I 7)]) (H':=lkK++lkD s fo si up nx2 nd2 cs ps) [some 0,some 9,some 10,some 16,some 17,some 18,some 19] ?_;exact i6 (gT [some 0,some 1,some 2,some 3,some 4,some 5,some 6])
      ·simp[hk]at hc4
theorem c0i {name:Int} {c:Car} {m:Move} {nx2 nd2:n5} {r:b3t} (hk:r.Kind≠0∧r.Kind≠1) (hN:s.Plan.Rails.length≤1000) (hr:inr m.Rail 0 ((s.Plan.Rails.length:Int)-1)=true) (hf:c8 Tryz.prog 50 [.ptr 0 0 0,I name] lkK (lkD s fo si up nx nd cs ps) (.tup [c.av,I 0]) lkK (lkD s fo si up nx nd cs ps))
  (hg:∀X:Value,c8 Tryz.prog 51 [.ptr 0 0 0,c.av,m.av] (stK X s fo si up ps.length) (stD s cs ps nx nd) (.tup [.agg a5m,R8 r]) (stK X s fo si up ps.length) (stD s cs ps nx2 nd2++grR a5m r)):
  c8 Tryz.prog 21 [.ptr 0 0 0,I name,m.av] lkK (lkD s fo si up nx nd cs ps) (.tup [R8 r,I 6]) lkK (lkD s fo si up nx2 nd2 cs ps):=by
 obtain⟨k,v⟩:=r;simp only at hk;have wl:IntKind.i64.wrap ((s.Plan.Rails.length:Int)-1)=(s.Plan.Rails.length:Int)-1:=c4 (by omega) (by omega);have hw:=s7 m.Rail 0 ((s.Plan.Rails.length:Int)-1);rw[hr]at hw;refine oG [0] Tryz.func21 Tryz.ntmps21 Tryz.results21 ?_;intro J hJ;refine gW ?_;refine gW ?_ fun K hK=>by simp -dsimp;refine cM [0] [1,2,3,4,5,6] (hf) ?_;simp -dsimp;exact hK
 refine b9 fun K1 hK1=>?_;refine gW ?_;refine c3 rfl (fun hc0=>?_) (fun hc0=>?_)
 ·simp at hc0
 ·refine c6 ?_;refine zQ (hK1 _ _ ?_);refine gP [0,1,5,6,8,9] ?_;refine b9 fun K2 hK2=>?_;refine gD ?_ fun K hK=>by simp -dsimp [wl];refine cI (hw) ?_;simp -dsimp [wl];exact hK
  refine c3 rfl (fun hc1=>?_) (fun hc1=>?_)
  ·simp at hc1
  ·refine c6 ?_;refine zQ (hK2 _ _ ?_);refine gP [0,1,5,6,8,9] ?_;refine b9 fun K3 hK3=>?_;refine gW ?_;refine c3 rfl (fun hc2=>?_) (fun hc2=>?_)
   ·simp at hc2
   ·refine c6 ?_;refine zQ (hK3 _ _ ?_);refine gP [0,1,5,6,8] ?_;refine a4a 9 0 rfl rfl fun X=>?_;simp only[p9,List.set_cons_zero]
    ·refine gD ?_ fun K hK=>by simp -dsimp;refine cM [9,10] [11,12,13,14] (hg X) ?_;simp -dsimp;exact hK
     refine b9 fun K4 hK4=>?_;refine gW ?_;refine d4 ?_;refine gW ?_;refine c3 rfl (fun hc3=>?_) (fun hc3=>?_)
     ·simp[hk]at hc3
     ·refine gW ?_;refine c3 rfl (fun hc4=>?_) (fun hc4=>?_)
      ·simp[hk]at hc4
      ·refine c6 ?_;refine zQ (hK4 _ _ ?_);refine gP [0,6,10] ?_;refine gW ?_;refine v6 (Q3 (I6 9 0 rfl rfl) (by simp)) ?_;refine gU (T':=[(0, .ptr 0 0 0),(6, .iptr [I k,I v]),(7,I 6)]) (H':=lkK++lkD s fo si up nx2 nd2 cs ps) [some 0,some 9,some 10,some 16,some 17,some 18,some 19] ?_;exact i6 (gT [some 0,some 1,some 2,some 3,some 4,some 5,some 6])
end
end Go.Tram.Lk
end
section
namespace Go.Tram.Lk
open Go.AM Go.Proofs
theorem a4X (p:Plan) (l:List Move) (hv:d8 p=true) (hlen:l.length≤1000) (h:wayB p l=false):a8 Tryz.prog 126 [p.av,a4W l] (.tup [I 0,I 2]):=by
 have hop:=U0 p hv;have hh:=b7X p l hv (by omega);rw[h]at hh;generalize net p=sh at hop hh;refine oB Tryz.func126 Tryz.ntmps126 Tryz.results126 ?_;refine aW ?_;refine aW ?_ fun K hK=>by simp -dsimp;refine cI (hop) ?_;simp -dsimp;exact hK
 refine a5 fun K1 hK1=>?_;refine aW ?_ fun K hK=>by simp -dsimp;refine cY (fun hm=>hh) ?_;simp -dsimp;exact hK
 refine a6 rfl (fun hc0=>?_) (fun hc0=>?_)
 ·refine aW ?_;exact a7 (by simp)
 ·simp at hc0
def a9q (l:List Move) (n:Nat):Kvs:=(l.take n).foldl (fun kv m=>L5 kv (kI m.Rail) tB) []
theorem a6m {l:List Move} {n:Nat} {x:Move} (h:l[n]?=some x):a9q l (n+1)=L5 (a9q l n) (kI x.Rail) tB:=by
 unfold a9q;rw[List.take_add_one,h];simp
theorem a2b {l:List Move} {n:Nat} {x:Move} (h:l[n]?=some x):A7 (l.take (n+1))=A7 (l.take n)++[x.Rail]:=by
 unfold A7;rw[List.take_add_one,h];simp
theorem b1z (l:List Move) (r:Int):∀n≤l.length,p6 (a9q l n) (kI r)=if r∈A7 (l.take n)then some tB else none
 |0,_=>by simp[a9q,A7,p6]
 | n+1,h=>by
  obtain⟨x,hx⟩:=gx (l:=l) (i:=n) h;rw[a6m hx,a2b hx,E4,b1z l r n (by omega)]
  by_cases e:r=x.Rail
  ·rw[if_pos (by rw[e]),if_pos (by rw[e];simp)]
  ·rw[if_neg (fun h=>e (by simpa [kI]using h))]
   by_cases e2:r∈A7 (l.take n)
   ·rw[if_pos e2,if_pos (List.mem_append_left _ e2)]
   ·rw[if_neg e2,if_neg (by simp[e2,e])]
theorem b8B {l:List Move} {n:Nat} {x:Move} (hx:l[n]?=some x) (h:(A7 (l.take n)).Nodup) (hn:x.Rail∉A7 (l.take n)):(A7 (l.take (n+1))).Nodup:=by
 rw[a2b hx,List.nodup_append];refine⟨h,by simp,fun a ha b hb e=>hn ?_⟩;simp only[List.mem_singleton]at hb;rw[←hb,←e];exact ha
theorem c0g {l:List Move} {n:Nat} {x:Move} (hx:l[n]?=some x) (hn:x.Rail∈A7 (l.take n)):¬(A7 l).Nodup:=by
 intro h;have h1:(A7 (l.take (n+1))).Nodup:=by
  have e:A7 (l.take (n+1))=(A7 l).take (n+1):=by unfold A7;rw[List.map_take]
  rw[e];exact h.sublist (List.take_sublist _ _)
 rw[a2b hx,List.nodup_append]at h1;exact h1.2.2 _ hn _ (by simp) rfl
theorem c3G (s:j5) (fo si up:Kvs) (x y:AV) (l:List Move) (hv:d8 s.Plan=true) (hl:l.length≤1000):a8 Tryz.prog 84 [.iptr (d6 s fo si up x y),a4W l] (Bo (a9Y s l)):=by
 have hw:=s7 l.length 1 20;obtain⟨q,hwl⟩:∃q,a8 Tryz.prog 126 [s.Plan.av,a4W l] (.tup [I q,I (if wayB s.Plan l then 0 else 2)]):=by
  cases h:wayB s.Plan l with
  |true=>exact⟨_,by simpa using a4Z s.Plan l hv h⟩
  |false=>exact⟨_,by simpa using a4X s.Plan l hv hl h⟩
 refine oB Tryz.func84 Tryz.ntmps84 Tryz.results84 ?_;refine aW ?_ fun K hK=>by simp -dsimp [d6];exact hK
 refine a5 fun K1 hK1=>?_;refine aW ?_ fun K hK=>by simp -dsimp [d6];refine cI (hw) ?_;simp -dsimp [d6];exact hK
 refine a6 rfl (fun hc0=>?_) (fun hc0=>?_)
 ·have hin:inr (l.length:Int) 1 20=false:=by simpa using hc0
  have hf:a9Y s l=false:=by unfold a9Y inr at*;by_cases h1:1≤l.length<;>by_cases h2:l.length≤20<;>simp_all<;>omega
  refine aW ?_ fun K hK=>by simp -dsimp [d6];exact hK
  exact a7 (by simp[hf])
 ·have hin:inr (l.length:Int) 1 20=true:=by simpa using hc0
  have hin2:1≤l.length∧l.length≤20:=by unfold inr at hin;simp at hin;omega
  refine b8 ?_;refine zQ (hK1 _ _ ?_);refine aP [0,1] ?_;refine aW ?_ fun K hK=>by simp -dsimp [d6];exact hK
  refine a5 fun K2 hK2=>?_;refine aW ?_ fun K hK=>by simp -dsimp [d6];exact hK
  refine a9 ?_;refine aP [0,1,5,15,16,17] ?_;refine c5 [0,1,5,15,16] (α:=Nat) (fun k=>[(17,I k)]) (fun k=>[some (.map false [.i .i64] (a9q l k))]) (fun k=>k≤l.length∧(A7 (l.take k)).Nodup) (fun k=>l.length-k) 0 ?_ ?_ ?_
  ·exact⟨Nat.zero_le _,by simp[A7]⟩
  ·exact e8 [some 0] rfl (by simp) (by simp[a9q])
  rintro k ⟨k1,k2⟩;refine zN ?_;refine aW ?_ fun K hK=>by simp -dsimp [d6];exact hK
  refine a5 fun K3 hK3=>?_;refine a6 rfl (fun hc1=>?_) (fun hc1=>?_)
  ·have hk:k<l.length:=by first|omega|(simp at hc1;omega)
   obtain⟨m,hm⟩:=gx (l:=l) (i:=k) hk;have wk:=zW k (by omega);have hg:=b1z l m.Rail k k1;have hsu:=a6m hm;refine b8 ?_;refine zQ (hK3 _ _ ?_);refine aP [0,1,5,15,16,17] ?_;refine a5 fun K4 hK4=>?_;refine a9 ?_;refine aW ?_ fun K hK=>by simp -dsimp [d6,hm];exact hK
   refine a5 fun K5 hK5=>?_;refine aW ?_ fun K hK=>by simp -dsimp [d6];refine d7 (Bo (decide (m.Rail∈A7 (l.take k)))) (fun hm=>by rw[hg];by_cases hq:m.Rail∈A7 (l.take k)<;>simp[hq]) ?_;simp -dsimp [d6];exact hK
   refine a6 rfl (fun hc2=>?_) (fun hc2=>?_)
   ·have hq:m.Rail∈A7 (l.take k):=by simpa using hc2
    have hf:a9Y s l=false:=by simp[a9Y,c0g hm hq]
    refine aW ?_ fun K hK=>by simp -dsimp [d6];exact hK
    exact a7 (by simp[hf])
   ·have hq:m.Rail∉A7 (l.take k):=by simpa using hc2
    refine b8 ?_;refine zQ (hK5 _ _ ?_);refine aP [0,1,5,7,15,16,17] ?_;refine aV ?_ fun K hK=>by simp -dsimp [d6];exact hK
    refine zQ (hK4 _ _ ?_);refine aP [0,1,5,15,16,17] ?_;refine aV ?_ fun K hK=>by simp -dsimp [d6,wk];exact hK
    refine zQ ?_;exact⟨k+1,⟨by omega,b8B hm k2 hq⟩,by omega,e8 [some 0] rfl (by simp) (by simp[hsu])⟩
  ·have hk:k=l.length:=by first|omega|(simp at hc1;omega)
   subst hk;rw[List.take_length]at k2;have hf:a9Y s l=wayB s.Plan l:=by simp[a9Y,k2,hin2]
   refine c9 ?_;refine zQ (hK2 _ _ ?_);refine aP [0,1] ?_;refine aW ?_ fun K hK=>by simp -dsimp [d6];refine cI (hwl) ?_;simp -dsimp [d6];exact hK
   refine aW ?_ fun K hK=>by simp -dsimp [d6];exact hK
   exact a7 (by rw[hf];cases wayB s.Plan l<;>simp)
end Go.Tram.Lk
end
section
namespace Go.Tram.Lk
open Go.AM Go.Proofs
theorem b0M (s:j5) (fo si up:Kvs) (x y:AV) (c:Car) (hv:d8 s.Plan=true) (hp:s.Profiles.length≤100000) (hl:c.Way.length≤1000):a8 Tryz.prog 43 [.iptr (d6 s fo si up x y),c.av] (Bo (a1W s c)):=by
 have wp:IntKind.i64.wrap ((s.Profiles.length:Int)-1)=(s.Profiles.length:Int)-1:=c4 (by omega) (by omega);have wl:IntKind.i64.wrap ((c.Way.length:Int)-1)=(c.Way.length:Int)-1:=c4 (by omega) (by omega);have h1:=s7 c.Name 1 1000000;have h2:=s7 c.Profile 0 ((s.Profiles.length:Int)-1);have h3:=c3G s fo si up x y c.Way hv hl;have h4:=s7 c.Front 0 ((c.Way.length:Int)-1);unfold d6 at h3;have hc:a1W s c=(inr c.Name 1 1000000&&(inr c.Profile 0 (s.Profiles.length-1)&&(a9Y s c.Way&&inr c.Front 0 (c.Way.length-1)))):=rfl;generalize inr c.Name 1 1000000=b1 at*
 generalize inr c.Profile 0 ((s.Profiles.length:Int)-1)=b2 at*
 generalize a9Y s c.Way=b3 at*
 generalize inr c.Front 0 ((c.Way.length:Int)-1)=b4 at*
 rw[hc];refine oB Tryz.func43 Tryz.ntmps43 Tryz.results43 ?_;refine aW ?_ fun K hK=>by simp -dsimp [d6];exact hK
 refine aD ?_ fun K hK=>by simp -dsimp [d6,wp,wl];refine cI (h1) ?_;simp -dsimp [d6,wp,wl];refine cY (fun hm=>h2) ?_;simp -dsimp [d6,wp,wl];refine cY (fun hm=>h3) ?_;simp -dsimp [d6,wp,wl];refine cY (fun hm=>h4) ?_;simp -dsimp [d6,wp,wl];exact hK
 exact a7 (by cases b1<;>cases b2<;>cases b3<;>cases b4<;>simp)
def a6s (s:j5) (a b:Car) (m n:Move):Bool:=G0 s m.Rail a.Profile n.Rail b.Profile||G7 s m n
theorem b5r (s:j5) (a b:Car):a0Q s a b=a.Way.all fun m=>b.Way.all fun n=> !a6s s a b m n:=by
 unfold a0Q a6s
 congr 1;funext m;congr 1;funext n
 rw[Bool.not_or]
theorem r6 {α:Type} {l:List α} {p:α→Bool} {k:Nat} {x:α} (hx:l[k]?=some x) (h:(l.take k).all p=true) (hp:p x=true):(l.take (k+1)).all p=true:=by
 rw[List.take_add_one,hx,List.all_append,h];simp[hp]
theorem O9 {α:Type} {l:List α} {p:α→Bool} {k:Nat} {x:α} (hx:l[k]?=some x) (hp:p x=false):l.all p=false:=by
 rw[List.all_eq_false];exact⟨x,List.mem_of_getElem? hx,by simp[hp]⟩
theorem b6u {s:j5} {fo si up:Kvs} (hru:b2l s fo si up) (x y:AV) (a b:Car) (hla:a.Way.length≤1000) (hlb:b.Way.length≤1000):a8 Tryz.prog 44 [.iptr (d6 s fo si up x y),a.av,b.av] (Bo (a0Q s a b)):=by
 have hf:=fun m n=>b3L hru x y a b m n;have hg:=fun m n=>b4K hru x y m n;unfold d6 at hf hg;rw[b5r];refine oB Tryz.func44 Tryz.ntmps44 Tryz.results44 ?_;refine aW ?_ fun K hK=>by simp -dsimp [d6];exact hK
 refine a5 fun K1 hK1=>?_;refine aW ?_ fun K hK=>by simp -dsimp [d6];exact hK
 refine a9 ?_;refine aP [0,4,5,12,13,14] ?_;refine c5 [0,4,5,12,13] (α:=Nat) (fun k=>[(14,I k)]) (fun _=>[some (.els 4 [a.cells]),some (.els 4 [b.cells])]) (fun k=>k≤a.Way.length∧((a.Way.take k).all fun m=>b.Way.all fun n=> !a6s s a b m n)=true) (fun k=>a.Way.length-k) 0 ?_ ?_ ?_
 ·exact⟨Nat.zero_le _,by simp⟩
 ·exact c7 (by simp)
 rintro k ⟨k1,k2⟩;refine zN ?_;refine aW ?_ fun K hK=>by simp -dsimp [d6];exact hK
 refine a5 fun K2 hK2=>?_;refine a6 rfl (fun hc0=>?_) (fun hc0=>?_)
 ·have hk:k<a.Way.length:=by first|omega|(simp at hc0;omega)
  obtain⟨m,hm⟩:=gx (l:=a.Way) (i:=k) hk;have wk:=zW k (by omega);refine b8 ?_;refine zQ (hK2 _ _ ?_);refine aP [0,4,5,12,13,14] ?_;refine a5 fun K3 hK3=>?_;refine a9 ?_;refine aW ?_ fun K hK=>by simp -dsimp [d6,hm];exact hK
  refine aW ?_ fun K hK=>by simp -dsimp [d6];exact hK
  refine a9 ?_;refine aP [0,4,5,8,12,13,14,19,20,21] ?_;refine c5 [0,4,5,8,12,13,14,19,20] (α:=Nat) (fun j=>[(21,I j)]) (fun _=>[some (.els 4 [a.cells]),some (.els 4 [b.cells]),some (.els 2 [m.cells])]) (fun j=>j≤b.Way.length∧((b.Way.take j).all fun n=> !a6s s a b m n)=true) (fun j=>b.Way.length-j) 0 ?_ ?_ ?_
  ·exact⟨Nat.zero_le _,by simp⟩
  ·exact c7 (by simp)
  rintro j ⟨j1,j2⟩;refine zN ?_;refine aW ?_ fun K hK=>by simp -dsimp [d6];exact hK
  refine a5 fun K4 hK4=>?_;refine a6 rfl (fun hc1=>?_) (fun hc1=>?_)
  ·have hj:j<b.Way.length:=by first|omega|(simp at hc1;omega)
   obtain⟨n,hn⟩:=gx (l:=b.Way) (i:=j) hj;have wj:=zW j (by omega);refine b8 ?_;refine zQ (hK4 _ _ ?_);refine aP [0,4,5,8,12,13,14,19,20,21] ?_;refine a5 fun K5 hK5=>?_;refine a9 ?_;refine aW ?_ fun K hK=>by simp -dsimp [d6,hn];exact hK
   refine aW ?_ fun K hK=>by simp -dsimp [d6];refine cI (hf m n) ?_;simp -dsimp [d6];refine cY (fun hm=>hg m n) ?_;simp -dsimp [d6];exact hK
   refine a6 rfl (fun hc2=>?_) (fun hc2=>?_)
   ·have hq:a6s s a b m n=true:=by unfold a6s;simpa using hc2
    have hf2:(a.Way.all fun m=>b.Way.all fun n=> !a6s s a b m n)=false:=O9 hm (O9 hn (by rw[hq];rfl));refine aW ?_ fun K hK=>by simp -dsimp [d6];exact hK
    exact a7 (by simp[hf2])
   ·have hq:a6s s a b m n=false:=by unfold a6s;simpa using hc2
    refine b8 ?_;refine zQ (hK5 _ _ ?_);refine aP [0,4,5,8,12,13,14,19,20,21] ?_;refine aV ?_ fun K hK=>by simp -dsimp [d6,wj];exact hK
    refine zQ ?_;exact⟨j+1,⟨by omega,r6 hn j2 (by rw[hq];rfl)⟩,by omega,aB [some 0,some 1,some 2]⟩
  ·have hj:j=b.Way.length:=by first|omega|(simp at hc1;omega)
   subst hj;rw[List.take_length]at j2;refine c9 ?_;refine zQ (hK3 _ _ ?_);refine aP [0,4,5,12,13,14] ?_;refine aV ?_ fun K hK=>by simp -dsimp [d6,wk];exact hK
   refine zQ ?_;exact⟨k+1,⟨by omega,r6 hm k2 j2⟩,by omega,aB [some 0,some 1]⟩
 ·have hk:k=a.Way.length:=by first|omega|(simp at hc0;omega)
  subst hk;rw[List.take_length]at k2;refine c9 ?_;refine zQ (hK1 _ _ ?_);refine aP [] ?_;refine aW ?_ fun K hK=>by simp -dsimp [d6];exact hK
  exact a7 (by simp[k2])
end Go.Tram.Lk
end
section
namespace Go.Tram.Lk
open Go.AM Go.Proofs
theorem b1A (t:List Int) (hne:t≠[]) (hn:t.length≤1000):c8 Tryz.prog 41 [.lst 1 (t.map g8)] [] [] (.row 0 0 t.length) [] [some (.els 1 (t.map g8))]:=by
 have f1:Q5 t.length 9:=l8 (by omega) (by omega);refine oG [] Tryz.func41 Tryz.ntmps41 Tryz.results41 ?_;intro J hJ;refine gW ?_;refine b9 fun K1 hK1=>?_;refine gW ?_ fun K hK=>by simp -dsimp [hne];exact hK
 refine c3 rfl (fun hc0=>?_) (fun hc0=>?_)
 ·simp at hc0
 ·refine c6 ?_;refine zQ (hK1 _ _ ?_);refine gP [0] ?_;refine gW ?_ fun K hK=>by simp -dsimp [hne,f1];exact hK
  exact i6 (gT [some 0])
section
variable (s:j5) (fo si up:Kvs) (nx nd:n5) (cs:List Car) (ps:List Int)
theorem b7k (hne:ps≠[]) (hn:ps.length≤1000):c8 Tryz.prog 16 [.ptr 0 0 0] lkK (lkD s fo si up nx nd cs ps) (.row 7 0 ps.length) lkK (lkD s fo si up nx nd cs ps++[some (.els 1 (ps.map g8))]):=by
 have htp:List.take ps.length (ps.map g8)=ps.map g8:=List.take_of_length_le (by simp);have hcl:=b1A ps hne hn;refine oG [0] Tryz.func16 Tryz.ntmps16 Tryz.results16 ?_;intro J hJ;refine gW ?_;refine b9 fun K1 hK1=>?_;refine gW ?_ fun K hK=>by simp -dsimp;refine cI (O6 _) ?_;simp -dsimp;exact hK
 refine c3 rfl (fun hc0=>?_) (fun hc0=>?_)
 ·simp at hc0
 ·refine c6 ?_;refine zQ (hK1 _ _ ?_);refine gP [0] ?_;refine gW ?_ fun K hK=>by simp -dsimp [htp];refine a2F [] [] [none,none,none,none,none,none,none,some 0] (hcl) (by decide) rfl (by simp[htp]) (by simp) rfl (by simp) (by simp) (by simp) ?_;simp -dsimp [htp];exact hK
  exact i6 (gT [some 0,some 1,some 2,some 3,some 4,some 5,some 6,some 7])
end
end Go.Tram.Lk
end
section
namespace Go.AM
theorem c8.pure {P:Program} {f:FuncId} {args:List AV} {res res':AV} {Hn:Hp} (h:c8 P f args [] [] res [] Hn) (e:frz (g7 Hn) 6 res=res'):a8 P f args res':=by
 subst e;obtain⟨h1,_,h3⟩:=h;refine Or.inl ⟨h1,fun S0 w vs hlow hl hrep=>?_⟩;have hh:a6V S0 w (fun _=>none) ([]++[]):=⟨⟨(by intro r r' l l' b h;cases h),(by intro r l b h;cases h),(by intro r l h;cases h),hlow,fun _ _=>trivial⟩,fun r row hr=>by cases r<;>simp[g7]at hr,fun r _=>rfl⟩;have hsx:∀b,Sx S0 (fun _=>none) b→S0 b:=by
  rintro b (h|⟨r,l,h1,_⟩)
  ·exact h
  ·cases h1
 refine(h3 S0 w _ vs hh hl fun i c x hc hx=> .pure _ _ ((hrep i c x hc hx).ext (Nat.le_refl _) fun b _ hn=>⟨rfl,fun k=>hn (hsx b k)⟩)).mono ?_;rintro en w' ⟨v,ρ',rfl,hh',hr,_,hfresh,hx⟩;refine⟨v,rfl,a3q hh'.wf (S':=S0) (fun b hn k=>hn (Or.inl k)) (fun r l b row _ hl hb k=>(hh'.wf.own r l b hl hb).2.1 k) 6 res v (fun r _ row hr=>hh'.rows r row hr) hr,hx.mono ?_⟩;rintro b _ ⟨r,l,h1,_⟩
 cases h1
end Go.AM
end
section
namespace Go.AM
def c3X:AV→Bool
 | .v _=>true
 |_=>false
def a9l:AV→Bool
 | .v _=>true
 | .lst sz els=>decide (1≤sz)&&els.all fun e=>e.all c3X
 |_=>false
theorem b6D {w:World} {S S':Nat→Prop} {x:AV} {y:Value} (hx:c3X x=true) (h:q9 w S x y):q9 w S' x y:=by
 cases x with
 |v c=>cases h;exact .v _
 |_=>simp[c3X]at hx
theorem a7D {w:World} {S S':Nat→Prop} (hs:∀b c t s,¬S b→w.heap[b]?=some (.cells c t s)→¬S' b) {x:AV} {y:Value} (hx:a9l x=true) (h:q9 w S x y):q9 w S' x y:=by
 cases x with
 |v c=>cases h;exact .v _
 | lst sz els=>
  simp only[a9l,Bool.and_eq_true,decide_eq_true_eq,List.all_eq_true]at hx
  cases h with
  |lstNil=>exact .lstNil _ _ _
  | lst _ _ b off cap vs hS hb hcap hel hl hv h=>
   cases els with
   |nil=>exact .lstNil _ _ _
   | cons e els=>
    have he:1≤e.length:=by rw[hel e (by simp)];exact hx.1
    have hv0:0<vs.length:=by
     rw[←hl,List.flatten_cons,List.length_append];omega
    have hc:=(hv 0 _ (List.getElem?_eq_getElem hv0)).1;obtain⟨c,t,s,hb'⟩:∃c t s,w.heap[b]?=some (.cells c t s):=by
     unfold World.cell? at hc
     cases hh:w.heap[b]? with
     |none=>simp[hh]at hc
     |some o=>cases o with
      |cells c t s=>exact⟨c,t,s,rfl⟩
      |_=>simp[hh]at hc
    refine .lst _ _ b off cap vs (hs b c t s hS hb') hb hcap hel hl hv fun i c x hi hx'=>?_;refine b6D ?_ (h i c x hi hx');have hm:=List.mem_of_getElem? hi;rw[List.mem_flatten]at hm;obtain⟨e',he',hc'⟩:=hm;exact hx.2 e' he' c hc'
 |_=>simp[a9l]at hx
def bkM (gs:List Nat):AV→AV
 | .v x=> .v x
 | .row i k n=>if i<gs.length then .row (bkN gs i) k n else .any
 | .ptr i k o=>if i<gs.length then .ptr (bkN gs i) k o else .any
 | .mp i=>if i<gs.length then .mp (bkN gs i)else .any
 | .agg cs=>if cs.all a9l then .agg cs else .any
 | .lst sz els=>if a9l (.lst sz els)then .lst sz els else .any
 |_=> .any
theorem a9F {w:World} {ρ ρ1:Nat→Option Loc} {L1 L:Nat→Prop} {S1 S:Nat→Prop} {gs:List Nat} (hn:gs.Nodup) (hL:∀r∈gs,L r) (hs:∀b c t s,¬S1 b→w.heap[b]?=some (.cells c t s)→¬S b)
  {x:AV} {y:Value} (h:d9 w S1 ρ1 L1 x y):d9 w S (bkρ gs ρ ρ1) L (bkM gs x) y:=by
 cases x with
 | agg cs=>
  simp only[bkM]
  split
  ·rename_i hf;rw[List.all_eq_true]at hf;obtain⟨vs,rfl,hl,hc⟩:=z9 h;refine .agg _ vs hl (fun u hu=>?_) (fun i c u h1 h2=>?_)
   ·obtain⟨i,hi,rfl⟩:=List.getElem_of_mem hu;exact(hc i _ _ (List.getElem?_eq_getElem (by omega)) (List.getElem?_eq_getElem hi)).1
   ·have h3:=(hc i c u h1 h2).2;have hfc:=hf c (List.mem_of_getElem? h1)
    cases h3 with
    |pure _ _ h3=>exact .pure _ _ (a7D hs hfc h3)
    |_=>simp[a9l]at hfc
  ·exact .pure _ _ (.any _)
 | lst sz els=>
  simp only[bkM]
  split
  ·rename_i hf
   cases h with
   |pure _ _ h3=>exact .pure _ _ (a7D hs hf h3)
  ·exact .pure _ _ (.any _)
 |v c=>exact b0B (S0:=S1) (x:= .v c) hn hL h
 |row i k n=>exact b0B (S0:=S1) (x:= .row i k n) hn hL h
 |ptr i k n=>exact b0B (S0:=S1) (x:= .ptr i k n) hn hL h
 |mp i=>exact b0B (S0:=S1) (x:= .mp i) hn hL h
 |_=>exact .pure _ _ (.any _)
def a5Z (gs:List Nat):l7→l7
 | .els sz es=> .els sz (es.map fun e=>e.map (bkM gs))
 | .map ag kts kvs=> .map ag kts kvs
 | .itr ag kts left cur=> .itr ag kts left cur
 | .mpa ag kts kvs=> .mpa ag kts (kvs.map fun p=>(p.1,bkM gs p.2))
def a9s (gs us kp:List Nat) (n:Nat) (T T':Tm):Tm:=us.map (fun t=>(t,bkM gs (i7 T' t)))++kp.map (fun t=>(t,o9 (b4i gs n) 40 (i7 T t)))
def b2C (gs:List Nat) (H H':Hp):Hp:=(List.range H.length).map fun r=>match gs.findIdx? (· ==r)with
 |some i=>(g7 H' i).map (a5Z gs)
 |none=>(g7 H r).map (B9 (b4i gs H.length))
def b6W (gs fs:List Nat) (H:Hp):Hp:=(List.range H.length).map fun r=>if gs.contains r||fs.contains r then g7 H r else none
theorem a7v (gs fs:List Nat) (H:Hp) (r:Nat):g7 (b6W gs fs H) r=if r<H.length then(if gs.contains r||fs.contains r then g7 H r else none)else none:=by
 unfold b6W;rw[H6]
 by_cases h:r<H.length
 ·rw[if_pos h,List.getElem?_range h]
 ·rw[if_neg h,List.getElem?_eq_none (by simpa using h)]
def c2z (fs:List Nat) (H:Hp):Bool:=fs.all fun r=>match g7 H r with|some (.map _ _ _)=>true|_=>false
theorem b4X {J:Jt} (hJ:JOk J) {nt:Nat} {kp0:List Nat} {kv:Nat→Value} {T:Tm} {H:Hp} {a:Act} {w:World} (hs:SG J nt kp0 kv T H a w) (gs fs us kp:List Nat) (Tf:Tm) (Hx Hf:Hp) (hlt:∀r∈gs,r<H.length) (hnd:gs.Nodup) (hfm:c2z fs H=true) (hHx:b6W gs fs H=Hx) (hT:a4b Hx (gs.map some) T Tf) (hH:a1x Hx (gs.map some)=Hf)
  (hkk:∀t∈kp0,t∈kp):∃J1,JOk J1∧(∀kn,a9e J kn→a9e J1 kn)∧SG J1 nt kp (fun t=>a.tmps.getD t undef) Tf Hf a w∧
   ∀T' H' a' w',a9G H'=true→SG J1 nt kp (fun t=>a.tmps.getD t undef) T' H' a' w'→i7 (a9s gs us kp H.length T T') 999999=i7 T 999999→SG J nt kp0 kv (a9s gs us kp H.length T T') (b2C gs H H') a' w':=by
 obtain⟨⟨S0,ρ,L,hc,hL,hj,hm⟩,hk⟩:=hs;have hgi:∀(i j q:Nat),(gs.map some)[i]?=some (some q)→(gs.map some)[j]?=some (some q)→i=j:=by
  intro i j q h1 h2;simp only[List.getElem?_map,Option.map_eq_some_iff,Option.some.injEq]at h1 h2;obtain⟨_,h1,rfl⟩:=h1;obtain⟨_,h2,rfl⟩:=h2;exact(List.getElem?_inj (List.getElem?_eq_some_iff.1 h1).1 hnd).1 (h1.trans h2.symm)
 let hid:Nat→Prop:=fun r=>r∉gs∧r∉fs
 let Sh:Nat→Prop:=fun b=>S0 b∨∃r l,hid r∧ρ r=some l∧l.b=some b
 let ρx:Nat→Option Loc:=fun r=>if gs.contains r||fs.contains r then ρ r else none
 have hx1:∀{r l},ρx r=some l→ρ r=some l∧¬hid r:=by
  intro r l h;simp only[ρx]at h
  split at h
  ·rename_i hg;refine⟨h,fun hh=>?_⟩;simp only[Bool.or_eq_true,List.contains_eq_mem,decide_eq_true_eq]at hg
   rcases hg with hg|hg
   ·exact hh.1 hg
   ·exact hh.2 hg
  ·cases h
 have hx2:∀{r l},ρ r=some l→¬hid r→ρx r=some l:=by
  intro r l h hn;simp only[ρx];rw[if_pos]
  ·exact h
  ·simp only[Bool.or_eq_true,List.contains_eq_mem,decide_eq_true_eq]
   by_cases h1:r∈gs
   ·exact Or.inl h1
   ·by_cases h2:r∈fs
    ·exact Or.inr h2
    ·exact absurd ⟨h1,h2⟩ hn
 have hSS:∀b,Sx Sh ρx b↔Sx S0 ρ b:=by
  intro b;constructor
  ·rintro((h|⟨r,l,_,h1,h2⟩)|⟨r,l,h1,h2⟩)
   ·exact Or.inl h
   ·exact Or.inr ⟨r,l,h1,h2⟩
   ·exact Or.inr ⟨r,l,(hx1 h1).1,h2⟩
  ·rintro(h|⟨r,l,h1,h2⟩)
   ·exact Or.inl (Or.inl h)
   ·by_cases hh:hid r
    ·exact Or.inl (Or.inr ⟨r,l,hh,h1,h2⟩)
    ·exact Or.inr ⟨r,l,hx2 h1 hh,h2⟩
 have hcx:M5 a0d Sh nt w ρx L (i7 T) (g7 Hx) (a1V a):=by
  subst hHx;refine⟨⟨fun r r' l l' b h1 h2 k1 k2=>hc.wf.inj r r' l l' b (hx1 h1).1 (hx1 h2).1 k1 k2,fun r l b h1 k1=>?_,fun r l h1=>hc.wf.given r l (hx1 h1).1,fun b hb=>?_,fun _ _=>trivial⟩,hc.size,hc.defers,fun t=>?_,fun r row hr=>?_,fun r hr=>?_⟩
  ·obtain⟨p1,p2,p3⟩:=hc.wf.own r l b (hx1 h1).1 k1;refine⟨p1,?_,p3⟩;rintro(h|⟨r',l',hh,h2,k2⟩)
   ·exact p2 h
   ·have:=hc.wf.inj r r' l l' b (hx1 h1).1 h2 k1 k2;subst this;exact(hx1 h1).2 hh
  ·rcases hb with h|⟨r,l,_,h1,h2⟩
   ·exact hc.wf.low b h
   ·exact(hc.wf.own r l b h1 h2).1
  ·exact(hc.tmps t).ext (Nat.le_refl _) (fun b _ hn=>⟨rfl,fun h=>hn ((hSS b).1 h)⟩) (fun _ h=>h) (fun r l _ h=>(hx1 h).1)
  ·rw[a7v]at hr
   split at hr
   ·split at hr
    ·rename_i hg;obtain⟨l,hl,k9⟩:=hc.rows r row hr;refine⟨l,by simp only[ρx];rw[if_pos hg];exact hl,k9.ext (Nat.le_refl _) (fun b _ hn=>⟨rfl,fun h=>hn ((hSS b).1 h)⟩) (fun _ h=>h) (fun r l _ h=>(hx1 h).1) (fun _ _=>rfl)⟩
    ·cases hr
   ·cases hr
  ·rw[a7v]at hr;simp only[ρx]
   split
   ·rename_i hg;rw[if_pos hg]at hr
    split at hr
    ·exact hc.dead r hr
    ·rename_i hlr
     cases h:ρ r with
     |none=>rfl
     |some l=>exact absurd (hL r (hc.wf.given r l h)) hlr
   ·rfl
 have hf:=b6a (gs.map some) hgi hT hH hcx
 let B1:Nat→Prop:=fun b=>own (k8 ρx (gs.map some)) b∨w.heap.size≤b
 have hrg:∀{r:Nat} {l:Loc},k8 ρx (gs.map some) r=some l→∃q∈gs,ρ q=some l:=by
  intro r l h;obtain⟨q,h1,h2⟩:=f9 h;simp only[List.getElem?_map,Option.map_eq_some_iff,Option.some.injEq]at h1;obtain⟨_,h1,rfl⟩:=h1;exact⟨_,List.mem_of_getElem? h1,(hx1 h2).1⟩
 have hJ1:JOk (c1P B1 Sh w J):=b8q fun b h=>Or.inr h;refine⟨c1P B1 Sh w J,hJ1,?_,?_,?_⟩
 ·rintro kn hkn y S0' O w' ⟨rfl,hx,ho⟩ x hx';have hB1:∀b,B1 b→own ρ b∨w.heap.size≤b:=by
   rintro b (⟨r,l,h1,h2⟩|h)
   ·obtain⟨q,_,h3⟩:=hrg h1;exact Or.inl ⟨q,l,h3,h2⟩
   ·exact Or.inr h
  refine(hkn _ _ _ _ hj x hx').ext hx.size fun b hb hn=>⟨hx.block b hb fun h=>?_,?_⟩
  ·rcases hB1 b h with h|h
   ·exact hn (Or.inr h)
   ·omega
  ·rintro((h|⟨r,l,_,h1,h2⟩)|h)
   ·exact hn (Or.inl h)
   ·exact hn (Or.inr ⟨r,l,h1,h2⟩)
   ·rcases hB1 b (ho b h)with h|h
    ·exact hn (Or.inr h)
    ·omega
 ·subst hH;obtain⟨Ds,q1,q2,q3⟩:=hm;exact⟨⟨Sh,k8 ρx (gs.map some),fun r=>r<(gs.map some).length,hf.inB (fun _ _=>trivial) (fun _ _=>trivial),fun r h=>by simpa [a1x]using h,⟨rfl,Ext.refl _ _,fun b h=>Or.inl h⟩,Ds,q1,q2,fun D hD=>⟨Or.inl (q3 D hD).1,(q3 D hD).2⟩⟩,fun _ _=>rfl⟩
 rintro T' H' a' w' hni ⟨⟨S0',ρ1,L1,hc1,hL1,⟨rfl,hx1',ho1⟩,hm1⟩,hk1⟩ hy;have hot:∀{r:Nat} {l:Loc} {b:Nat},r∉gs→ρ r=some l→l.b=some b→¬B1 b:=by
  rintro r l b hr h1 h2 (⟨q,l',h3,h4⟩|h)
  ·obtain⟨q',hq,h5⟩:=hrg h3;exact hr (hc.wf.inj r q' l l' b h1 h5 h2 h4▸hq)
  ·exact absurd (hc.wf.own r l b h1 h2).1 (Nat.not_lt.2 h)
 have hcase:∀{r:Nat} {l:Loc},bkρ gs ρ ρ1 r=some l→(∃i,gs[i]?=some r∧gs.findIdx? (· ==r)=some i∧ρ1 i=some l)∨(r∉gs∧ρ r=some l):=by
  intro r l h;unfold bkρ at h
  split at h
  ·rename_i i hi;exact Or.inl ⟨i,(a9L hi).2,hi,h⟩
  ·rename_i hi;exact Or.inr ⟨b4G hi,h⟩
 have hSx:∀b,b<w.heap.size→¬Sx S0 ρ b→w'.heap[b]?=w.heap[b]?∧¬Sx S0 (bkρ gs ρ ρ1) b:=by
  intro b hb hn;have hnB:¬B1 b:=by
   rintro(⟨r,l,h1,h2⟩|h)
   ·obtain⟨q,_,h3⟩:=hrg h1;exact hn (Or.inr ⟨q,l,h3,h2⟩)
   ·omega
  refine⟨hx1'.block b hb hnB,?_⟩;rintro(h|⟨r,l,h1,h2⟩)
  ·exact hn (Or.inl h)
  ·rcases hcase h1 with⟨i,_,_,h3⟩|⟨_,h3⟩
   ·exact hnB (ho1 b ⟨i,l,h3,h2⟩)
   ·exact hn (Or.inr ⟨r,l,h3,h2⟩)
 have hkind:∀b c t s,¬Sx Sh ρ1 b→w'.heap[b]?=some (.cells c t s)→¬Sx S0 (bkρ gs ρ ρ1) b:=by
  rintro b c t s hn hbc (h|⟨r,l,h1,h2⟩)
  ·exact hn (Or.inl (Or.inl h))
  ·rcases hcase h1 with⟨i,_,_,h3⟩|⟨hng,h3⟩
   ·exact hn (Or.inr ⟨i,l,h3,h2⟩)
   ·by_cases hrf:r∈fs
    ·have hmp:=List.all_eq_true.1 hfm r hrf
     split at hmp
     ·rename_i ag kts kvs hget';obtain⟨l',hl',b',hb',hmr⟩:=hc.rows r _ hget';rw[h3]at hl';simp only[Option.some.injEq]at hl';subst hl';rw[h2]at hb';simp only[Option.some.injEq]at hb';subst hb';obtain⟨es,clock,hq,_⟩:=hmr;have hold:=hx1'.block b (hc.wf.own r l b h3 h2).1 (hot hng h3 h2);rw[hold,hq]at hbc
      cases hbc
     ·cases hmp
    ·exact hn (Or.inl (Or.inr ⟨r,l,⟨hng,hrf⟩,h3,h2⟩))
 have hgf:∀{r:Nat},(∃q,(b4i gs H.length)[r]?=some (some q))→r<H.length∧r∉gs∧bkρ gs ρ ρ1 r=ρ r∧k8 ρ (b4i gs H.length) r=ρ r:=by
  rintro r ⟨q,hq⟩;have h0:=hq;rw[b7i]at hq
  split at hq
  ·rename_i hr
   split at hq
   ·cases hq
   ·rename_i hg;simp only[Option.some.injEq]at hq;subst hq;have hg':r∉gs:=by simpa using hg
    refine⟨hr,hg',?_,by simp only[k8,h0]⟩;unfold bkρ
    split
    ·rename_i i hi;exact absurd (List.mem_of_getElem? (a9L hi).2) hg'
    ·rfl
  ·cases hq
 have keep:∀x y,d9 w (Sx S0 ρ) ρ L x y→d9 w' (Sx S0 (bkρ gs ρ ρ1)) (bkρ gs ρ ρ1) (fun r=>r<H.length) (o9 (b4i gs H.length) 40 x) y:=by
  intro x y h;refine(E8 (g:=b4i gs H.length) (S':=Sx S0 ρ) (fun _ h=>h) 40 x y h).ext hx1'.size hSx (fun r hr=>(hgf hr).1) (fun r l hr hl=>?_);rw[(hgf hr).2.2.2,←(hgf hr).2.2.1];exact hl
 refine⟨⟨S0,bkρ gs ρ ρ1,fun r=>r<H.length,⟨⟨?_,?_,?_,fun b h=>Nat.lt_of_lt_of_le (hc.wf.low b h) hx1'.size,?_⟩,hc1.size,rfl,?_,?_,?_⟩,?_,?_,?_⟩,fun t ht=>(hk1 t (hkk t ht)).trans (hk t ht)⟩
 ·intro r r' l l' b h1 h2 k1 k2
  rcases hcase h1 with⟨i,hi,hi',h3⟩|⟨hi,h3⟩<;>rcases hcase h2 with⟨j,hj,hj',h4⟩|⟨hj,h4⟩
  ·have:=hc1.wf.inj i j l l' b h3 h4 k1 k2;subst this;rw[hi]at hj;exact Option.some.inj hj
  ·exact absurd (ho1 b ⟨i,l,h3,k1⟩) (hot hj h4 k2)
  ·exact absurd (ho1 b ⟨j,l',h4,k2⟩) (hot hi h3 k1)
  ·exact hc.wf.inj r r' l l' b h3 h4 k1 k2
 ·intro r l b h1 k1
  rcases hcase h1 with⟨i,hi,_,h3⟩|⟨hi,h3⟩
  ·obtain⟨p1,p2,_⟩:=hc1.wf.own i l b h3 k1;exact⟨p1,fun h=>p2 (Or.inl h),trivial⟩
  ·obtain⟨p1,p2,p3⟩:=hc.wf.own r l b h3 k1;exact⟨Nat.lt_of_lt_of_le p1 hx1'.size,p2,p3⟩
 ·intro r l h1
  rcases hcase h1 with⟨i,hi,_,h3⟩|⟨hi,h3⟩
  ·exact hlt r (List.mem_of_getElem? hi)
  ·exact hL r (hc.wf.given r l h3)
 ·intro b h
  trivial
 ·have gen:∀(l:Tm),(∀p∈l,d9 w' (Sx S0 (bkρ gs ρ ρ1)) (bkρ gs ρ ρ1) (fun r=>r<H.length) p.2 (a'.tmps.getD p.1 undef))→∀t,d9 w' (Sx S0 (bkρ gs ρ ρ1)) (bkρ gs ρ ρ1) (fun r=>r<H.length) (i7 l t) (a'.tmps.getD t undef):=by
   intro l
   induction l with
   |nil=>intro _ t;exact .pure _ _ (.any _)
   |cons p l ih=>
    intro h t;obtain⟨i,x⟩:=p;simp only[i7]
    split
    ·rename_i e;subst e;exact h (_,x) (by simp)
    ·exact ih (fun p hp=>h p (by simp[hp])) t
  refine gen _ fun p hp=>?_;unfold a9s at hp;rw[List.mem_append]at hp
  rcases hp with hp|hp
  ·obtain⟨t,_,rfl⟩:=List.mem_map.1 hp;exact a9F hnd hlt hkind (hc1.tmps t)
  ·obtain⟨t,ht,rfl⟩:=List.mem_map.1 hp;show d9 _ _ _ _ (o9 _ 40 (i7 T t)) (a'.tmps.getD t undef);rw[hk1 t ht];exact keep _ _ (hc.tmps t)
 ·intro r row hr;unfold b2C at hr;rw[H6]at hr
  split at hr
  ·rename_i q hq;have hqr:q=r:=by
    by_cases h:r<H.length
    ·rw[List.getElem?_range h]at hq;exact(Option.some.inj hq).symm
    ·rw[List.getElem?_eq_none (by simpa using h)]at hq;cases hq
   subst hqr
   split at hr
   ·rename_i i hi;obtain⟨row1,h1,rfl⟩:=Option.map_eq_some_iff.1 hr;obtain⟨l,hl,k9⟩:=hc1.rows i row1 h1;refine⟨l,by unfold bkρ;rw[hi];exact hl,?_⟩
    cases row1 with
    |map ag kts kvs=>exact k9
    |mpa ag kts kvs=>obtain⟨b,h1,h2⟩:=k9;exact⟨b,h1,h2.map _ (fun x y h=>a9F hnd hlt hkind h) rfl⟩
    |itr ag kts left cur=>
     exact(a5V hni i _ _ _ _ h1).elim
    |els sz es=>
     obtain⟨k1,k2,k3,k4⟩:=k9;refine⟨k1,?_,fun hb=>by rw[k3 hb];rfl,fun b hb=>?_⟩
     ·intro e he;simp only[List.mem_map]at he;obtain⟨e',he',rfl⟩:=he;simpa using k2 e' he'
     ·obtain⟨c,t,q1,q2,q3,q4⟩:=k4 b hb;refine⟨c,t,q1,q2,by simpa using q3,fun i av hi=>?_⟩;rw[←List.map_flatten]at hi;simp only[List.getElem?_map,Option.map_eq_some_iff]at hi;obtain⟨av0,hi,rfl⟩:=hi;obtain⟨x,p1,p2,p3⟩:=q4 i av0 hi;exact⟨x,p1,p2,a9F hnd hlt hkind p3⟩
   ·rename_i hi;obtain⟨row1,h1,rfl⟩:=Option.map_eq_some_iff.1 hr;obtain⟨l,hl,k9⟩:=hc.rows q row1 h1;have hng:=b4G hi;refine⟨l,by unfold bkρ;rw[hi];exact hl,?_⟩;refine(a2a (g:=b4i gs H.length) (S':=Sx S0 ρ) (fun _ h=>h) k9).ext hx1'.size hSx (fun r hr=>(hgf hr).1) (fun r l hr hl=>?_) (fun b hb=>?_)
    ·rw[(hgf hr).2.2.2,←(hgf hr).2.2.1];exact hl
    ·exact hx1'.block b (hc.wf.own q l b hl hb).1 (hot hng hl hb)
  ·cases hr
 ·intro r hr;unfold b2C at hr;rw[H6]at hr
  by_cases h:r<H.length
  ·rw[List.getElem?_range h]at hr;simp only at hr;unfold bkρ
   split at hr
   ·rename_i i hi;simp only[hi];exact hc1.dead i (by simpa using hr)
   ·rename_i hi;simp only[hi];exact hc.dead r (by simpa using hr)
  ·unfold bkρ
   split
   ·rename_i i hi;exact absurd (hlt r (List.mem_of_getElem? (a9L hi).2)) h
   ·cases hρ:ρ r with
    |none=>rfl
    |some l=>exact absurd (hL r (hc.wf.given r l hρ)) h
 ·intro r hr;simpa [b2C]using hr
 ·rw[hy];refine hJ _ _ _ _ _ _ hj hc.wf.low hc.owned (hx1'.mono fun b hb h=>?_) ?_
  ·rcases h with⟨r,l,h1,h2⟩|h
   ·obtain⟨q,_,h3⟩:=hrg h1;exact⟨q,l,h3,h2⟩
   ·omega
  ·rintro b ⟨r,l,h1,h2⟩
   rcases hcase h1 with⟨i,_,_,h3⟩|⟨_,h3⟩
   ·refine⟨(hc1.wf.own i l b h3 h2).1,?_⟩
    rcases ho1 b ⟨i,l,h3,h2⟩with⟨r',l',h4,h5⟩|h
    ·obtain⟨q,_,h6⟩:=hrg h4;exact Or.inl ⟨q,l',h6,h5⟩
    ·exact Or.inr h
   ·exact⟨Nat.lt_of_lt_of_le (hc.wf.own r l b h3 h2).1 hx1'.size,Or.inl ⟨r,l,h3,h2⟩⟩
 ·obtain⟨Ds,q1,q2,q3⟩:=hm1;refine⟨Ds,q1,q2,fun D hD=>?_⟩;obtain⟨p1,p2,p3⟩:=q3 D hD;refine⟨?_,p2,p3⟩
  rcases p1 with h|⟨r,l,hh,h1,h2⟩
  ·exact h
  ·exfalso;have hold:=hx1'.block D (hc.wf.own r l D h1 h2).1 (hot hh.1 h1 h2);rw[p3]at hold
   cases hgr:g7 H r with
   |none=>rw[hc.dead r hgr]at h1;cases h1
   | some row=>
    obtain⟨l',hl',k9⟩:=hc.rows r row hgr;rw[h1]at hl';simp only[Option.some.injEq]at hl';subst hl'
    cases row with
    |els sz es=>
     obtain⟨_,_,_,e4⟩:=k9;obtain⟨c,t,k1,_⟩:=e4 D h2;have k1':w.heap[D]?=some (.cells c t (0,0)):=k1;rw[k1']at hold
     cases hold
    |map ag kts kvs=>
     obtain⟨b',hb',es,clock,hq,_⟩:=k9;rw[h2]at hb';simp only[Option.some.injEq]at hb';subst hb';have hq':w.heap[D]?=some (.map es clock):=hq;rw[hq']at hold
     cases hold
    |mpa ag kts kvs=>
     obtain⟨b',hb',vs,ks,⟨es,clock,hq,_⟩,_⟩:=k9;rw[h2]at hb';simp only[Option.some.injEq]at hb';subst hb';have hq':w.heap[D]?=some (.map es clock):=hq;rw[hq']at hold
     cases hold
    |itr ag kts left cur=>
     obtain⟨b',hb',_,mb,since,seen,c0,es,clock,hq,_⟩:=k9;rw[h2]at hb';simp only[Option.some.injEq]at hb';subst hb';have hq':w.heap[D]?=some (.mapIter (some mb) since seen c0):=hq;rw[hq']at hold
     cases hold
def c2C (P:Program) (ro:Option Nat) (J:Jt) (nt:Nat) (kp0:List Nat) (dsts:List (Option Tmp)) (o:Oper) (b:Code) (Q:Exit→Tm→Hp→Prop) (T:Tm) (H:Hp):Prop:=
 ∃(gs fs us kp:List Nat) (Tf:Tm) (Hx Hf:Hp) (R:Tm→Hp→Prop),(∀r∈gs,r<H.length)∧gs.Nodup∧c2z fs H=true∧b6W gs fs H=Hx∧a4b Hx (gs.map some) T Tf∧a1x Hx (gs.map some)=Hf∧(∀t∈kp0,t∈kp)∧y9 kp dsts=true∧
  (∀J1,JOk J1→(∀kn,a9e J kn→a9e J1 kn)→∀K:Tm→Hp→Prop,(∀T' H',GWp P ro J1 nt kp b T' H' (fun e T' H'=>e= .normal∧a9G H'=true∧R T' H')→K T' H')→F2 P nt dsts [o] Tf Hf K)∧
  ∀T' H',R T' H'→i7 (a9s gs us kp H.length T T') 999999=i7 T 999999∧Q .normal (a9s gs us kp H.length T T') (b2C gs H H')
theorem c2G {P:Program} {ro:Option Nat} {J:Jt} {nt:Nat} {kp:List Nat} {T:Tm} {H:Hp} {Q:Exit→Tm→Hp→Prop} {id:Nat} {ops:List Oper} {b:Code} {dsts:List (Option Tmp)} (hne:ops≠[]) (hd:ops.map (·.dst)=dsts) (hnt:nt≤999999) (hkp:y9 kp dsts=true) (hnd:ops.all n7=true)
  (h:∀K:Tm→Hp→Prop,(∀T' H',c2C P ro J nt kp dsts (ops.getLast hne) b Q T' H'→K T' H')→F2 P nt dsts ops.dropLast T H K):GWp P ro J nt kp (.seq (.region id ops.toArray false) b) T H Q:=by
 intro hJ kv a w hs;have e:=List.dropLast_concat_getLast hne;have hall:=List.all_eq_true.1 hnd;have hdj:∀j:Nat,dsts[j]?=(ops.toArray[j]?).map (·.dst):=by intro j;rw[←hd,List.getElem?_map,List.getElem?_toArray]
 let QQ:Exit→Act→World→Prop:=fun e a' w'=>e= .normal∧b.wpIn (fr ro) 0 P (fun e a' w'=>∃T' H',Q e T' H'∧SG J nt kp kv T' H' a' w') a' w'
 refine wpIn_seq (wpIn_mono (Q:=QQ) (wpIn_region_lit ?_) ?_)
 ·have key:=A5 (ro:=ro) (kp:=kp) (kv:=kv) (QQ:=QQ) (tail:=[ops.getLast hne]) hJ hnt (ops:=ops.toArray) (dsts:=dsts) (K:=fun T' H'=>c2C P ro J nt kp dsts (ops.getLast hne) b Q T' H')
   hdj hkp ?_ ops.dropLast (fun o' ho'=>⟨hall o' (List.dropLast_subset _ ho'),by rw[←hd];exact List.mem_map_of_mem (List.dropLast_subset _ ho')⟩) T H a w (h _ fun T' H' h=>h) hs
  ·rw[e]at key;exact key
  rintro T1 H1 a1 w1 ⟨gs,fs,us,kp',Tf,Hx,Hf,R,q1,q2,q3,q4,q5,q6,q7,q8,hin,hout⟩ hs1;obtain⟨J1,hJ1,hkn,hs2,back⟩:=b4X hJ hs1 gs fs us kp' Tf Hx Hf q1 q2 q3 q4 q5 q6 q7;have key2:=A5 (ro:=ro) (kp:=kp') (QQ:=QQ) (tail:=[]) hJ1 hnt (ops:=ops.toArray) (dsts:=dsts) (K:=fun T' H'=>GWp P ro J1 nt kp' b T' H' (fun e T' H'=>e= .normal∧a9G H'=true∧R T' H'))
   hdj q8 ?_ [ops.getLast hne] (fun o' ho'=>by
    simp only[List.mem_singleton]at ho';subst ho';exact⟨hall _ (List.getLast_mem hne),by rw[←hd];exact List.mem_map_of_mem (List.getLast_mem hne)⟩) Tf Hf a1 w1 (hin J1 hJ1 hkn _ fun T' H' h=>h) hs2
  ·simpa using key2
  intro T2 H2 a2 w2 hb hs3;show QQ .normal a2 w2;refine⟨rfl,wpIn_mono (hb hJ1 _ a2 w2 hs3) ?_⟩;rintro e' a' w' ⟨T',H',⟨rfl,hni,hR⟩,s⟩;obtain⟨hy,ho⟩:=hout T' H' hR;exact⟨_,_,ho,back T' H' a' w' hni s hy⟩
 ·rintro e' a' w' ⟨rfl,h⟩;exact h
def c4Z (P:Program) (ro:Option Nat) (J:Jt) (nt:Nat) (kp:List Nat) (dsts:List (Option Tmp)) (l:List Oper) (y:Code) (Q:Exit→Tm→Hp→Prop) (T:Tm) (H:Hp):Prop:=
 ∃T2 H2,(∀kv a w,SG J nt kp kv T H a w→SG J nt kp kv T2 H2 a w)∧∀K:Tm→Hp→Prop,(∀T' H',GWp P ro J nt kp y T' H' Q→K T' H')→F2 P nt dsts l T2 H2 K
theorem c1f {P:Program} {ro:Option Nat} {J:Jt} {nt:Nat} {kp:List Nat} {T:Tm} {H:Hp} {Q:Exit→Tm→Hp→Prop} {id:Nat} {ops:List Oper} {y:Code} {dsts:List (Option Tmp)} (n:Nat) (hd:ops.map (·.dst)=dsts) (hnt:nt≤999999) (hkp:y9 kp dsts=true) (hnd:ops.all n7=true)
  (h:∀K:Tm→Hp→Prop,(∀T' H',c4Z P ro J nt kp dsts (ops.drop n) y Q T' H'→K T' H')→F2 P nt dsts (ops.take n) T H K):GWp P ro J nt kp (.seq (.region id ops.toArray false) y) T H Q:=by
 intro hJ kv a w hs;have hall:=List.all_eq_true.1 hnd;have hdj:∀j:Nat,dsts[j]?=(ops.toArray[j]?).map (·.dst):=by intro j;rw[←hd,List.getElem?_map,List.getElem?_toArray]
 have hsub:∀{o'},o'∈ops→n7 o'=true∧o'.dst∈dsts:=fun {o'} ho'=>⟨hall o' ho',by rw[←hd];exact List.mem_map_of_mem ho'⟩
 let QQ:Exit→Act→World→Prop:=fun e a' w'=>e= .normal∧y.wpIn (fr ro) 0 P (fun e a' w'=>∃T' H',Q e T' H'∧SG J nt kp kv T' H' a' w') a' w'
 refine wpIn_seq (wpIn_mono (Q:=QQ) (wpIn_region_lit ?_) ?_)
 ·have key:=A5 (ro:=ro) (kp:=kp) (kv:=kv) (QQ:=QQ) (tail:=ops.drop n) hJ hnt (ops:=ops.toArray) (dsts:=dsts) (K:=fun T' H'=>c4Z P ro J nt kp dsts (ops.drop n) y Q T' H')
   hdj hkp ?_ (ops.take n) (fun o' ho'=>hsub (List.mem_of_mem_take ho')) T H a w (h _ fun T' H' h=>h) hs
  ·rw[List.take_append_drop]at key;exact key
  rintro T1 H1 a1 w1 ⟨T2,H2,hsg,hk⟩ hs1;have key2:=A5 (ro:=ro) (kp:=kp) (kv:=kv) (QQ:=QQ) (tail:=[]) hJ hnt (ops:=ops.toArray) (dsts:=dsts) (K:=fun T' H'=>GWp P ro J nt kp y T' H' Q)
   hdj hkp ?_ (ops.drop n) (fun o' ho'=>hsub (List.mem_of_mem_drop ho')) T2 H2 a1 w1 (hk _ fun T' H' h=>h) (hsg _ _ _ hs1)
  ·rw[List.append_nil]at key2;exact key2
  intro T3 H3 a3 w3 hb hs3;show QQ .normal a3 w3;exact⟨rfl,hb hJ _ _ _ hs3⟩
 ·rintro e' a' w' ⟨rfl,h⟩;exact h
theorem b7c {J:Jt} {nt:Nat} {kp:List Nat} {kv:Nat→Value} {T:Tm} {H:Hp} {a:Act} {w:World} {kn:List (List KC×AV×Value)} (t:Nat) {x:List KC×AV×Value} {k:Value} (hx:x∈kn) (hkn:a9e J kn) (ht:i7 T t= .tup [.v k, .v x.2.2]) (hne:t≠999999)
  (hs:SG J nt kp kv T H a w):SG J nt kp kv (a1Y T (some t) (.tup [.v k,x.2.1])) H a w:=by
 obtain⟨⟨S0,ρ,L,hc,hL,hj,hm⟩,hk⟩:=hs;refine⟨⟨S0,ρ,L,⟨hc.wf,hc.size,hc.defers,fun i=>?_,hc.rows,hc.dead⟩,hL,?_,hm⟩,hk⟩
 ·rw[x3]
  split
  ·rename_i e;simp only[Option.some.injEq]at e;subst e;have h1:=hc.tmps t;rw[ht]at h1;obtain⟨vs,h2,hl,hcs⟩:=I1 h1;rw[h2]
   match vs,hl with
   |[p,q],_=>
    have hp:=j0 (hcs 0 _ p rfl rfl);have hq:=j0 (hcs 1 _ q rfl rfl);subst hp hq;refine .tup _ _ rfl fun i c u h1 h2=>?_
    match i,h1,h2 with
    |0,h1,h2=>simp at h1 h2;subst h1 h2;exact .pure _ _ (.v _)
    |1,h1,h2=>simp at h1 h2;subst h1 h2;exact .pure _ _ (hkn _ _ _ _ hj x hx)
  ·exact hc.tmps i
 ·rw[x3,if_neg (fun e=>hne (by simpa using e))];exact hj
theorem b5e {nt:Nat} {T:Tm} {H:Hp} (q j:Nat) {sz:Nat} {e:List AV} {x:Value} {r i o:Nat} (hr:g7 H q=some (.els sz [e])) (hj:e[j]?=some (.fptr x r i o)):Sub nt T H T (p9 H q (some (.els sz [e.set j (.v x)]))):=by
 rintro w0 B S0 a w ⟨⟨ρ,L,hc,hL⟩,hext⟩;have hql:=U4 hr;refine⟨⟨ρ,L,⟨hc.wf,hc.size,hc.defers,hc.tmps,fun r' row hr'=>?_,fun r' hr'=>?_⟩,fun r' hr'=>by rw[M0 _ _ _ hql];exact hL r' hr'⟩,hext⟩
 ·rw[x9 _ _ _ _ (by omega)]at hr'
  split at hr'
  ·rename_i e';subst e';simp only[Option.some.injEq]at hr';subst hr';obtain⟨l,hl,k9⟩:=hc.rows r' _ hr;refine⟨l,hl,a3o k9 (by simp) fun k a' ha=>?_⟩
   by_cases hkj:k=j
   ·subst hkj;have hkl:k<e.length:=(List.getElem?_eq_some_iff.1 hj).1;rw[List.getElem?_set_self hkl]at ha;simp only[Option.some.injEq]at ha;subst ha;refine⟨_,hj,fun y _ hy=>?_⟩
    cases hy with
    |pure _ _ h=>cases h
    |fptr _ _ _ _ h=>exact .pure _ _ (.v _)
   ·rw[List.getElem?_set_ne (fun e=>hkj e.symm)]at ha;exact⟨a',ha,fun _ _ h=>h⟩
  ·exact hc.rows r' row hr'
 ·rw[x9 _ _ _ _ (by omega)]at hr'
  split at hr'
  ·cases hr'
  ·exact hc.dead r' hr'
theorem b4H {nt:Nat} {T:Tm} {H:Hp} (q j q' j':Nat) {sz sz':Nat} {e e':List AV} {x:Value} {r i o:Nat} (hr:g7 H q=some (.els sz [e])) (hj:e[j]?=some (.v x)) (hr':g7 H q'=some (.els sz' [e'])) (hj':e'[j']?=some (.fptr x r i o)):Sub nt T H T (p9 H q (some (.els sz [e.set j (.fptr x r i o)]))):=by
 rintro w0 B S0 a w ⟨⟨ρ,L,hc,hL⟩,hext⟩;have hql:=U4 hr;have hx:d9 w (Sx S0 ρ) ρ L (.fptr x r i o) x:=by
  obtain⟨l,hl,_,_,e3,e4⟩:=hc.rows q' _ hr'
  cases hb:l.b with
  |none=>cases e3 hb
  |some b=>
   obtain⟨cc,t,k1,k2,k3,k4⟩:=e4 b hb;simp only[List.flatten_cons,List.flatten_nil,List.append_nil]at k4;obtain⟨x',p1,p2,p3⟩:=k4 j' _ hj'
   cases p3 with
   |pure _ _ h=>cases h
   |fptr _ _ _ _ h=>exact .fptr _ _ _ _ h
 refine⟨⟨ρ,L,⟨hc.wf,hc.size,hc.defers,hc.tmps,fun r' row hr'=>?_,fun r' hr'=>?_⟩,fun r' hr'=>by rw[M0 _ _ _ hql];exact hL r' hr'⟩,hext⟩
 ·rw[x9 _ _ _ _ (by omega)]at hr'
  split at hr'
  ·rename_i e';subst e';simp only[Option.some.injEq]at hr';subst hr';obtain⟨l,hl,k9⟩:=hc.rows r' _ hr;refine⟨l,hl,a3o k9 (by simp) fun k a' ha=>?_⟩
   by_cases hkj:k=j
   ·subst hkj;have hkl:k<e.length:=(List.getElem?_eq_some_iff.1 hj).1;rw[List.getElem?_set_self hkl]at ha;simp only[Option.some.injEq]at ha;subst ha;refine⟨_,hj,fun y _ hy=>?_⟩
    cases hy with
    |pure _ _ h=>cases h;exact hx
   ·rw[List.getElem?_set_ne (fun e=>hkj e.symm)]at ha;exact⟨a',ha,fun _ _ h=>h⟩
  ·exact hc.rows r' row hr'
 ·rw[x9 _ _ _ _ (by omega)]at hr'
  split at hr'
  ·cases hr'
  ·exact hc.dead r' hr'
end Go.AM
end
section
namespace Go.Tram.Lk
open Go.AM Go.Proofs
@[simp high] theorem c3L (l:List Car) (gs:List Nat):(o4 l).map (fun p=>(p.1,bkM gs p.2))=o4 l:=by
 unfold o4;rw[List.map_map];refine List.map_congr_left fun c _=>?_;simp[bkM,a9l,c3X,List.all_map]
theorem b5v {l:List Car} {c:Car} (h:∀x∈l,x.Name≠c.Name):P6 (o4 l) (kOf c.Name) c.av=o4 (l++[c]):=by
 induction l with
 |nil=>rfl
 |cons x l ih=>
  have ih:=ih fun y hy=>h y (by simp[hy]);unfold o4 at ih ⊢;rw[List.map_cons,P6,if_neg,ih]
  ·rfl
  ·intro e;have:=h x (by simp);simp at e;exact this e.symm
theorem b4s {k:List KC} {a:AV} {l:List Car} (h:(k,a)∈o4 l):∃c∈l,k=kOf c.Name∧a=c.av:=by
 unfold o4 at h;obtain⟨c,hc,e⟩:=List.mem_map.1 h;simp only[Prod.mk.injEq]at e;exact⟨c,hc,e.1.symm,e.2.symm⟩
section
variable (X:Value) (s:j5) (fo si up:Kvs) (cs:List Car) (ps:List Int) (nx nd:n5)
abbrev Ent:=List KC×AV×Value
def b7F (x:Ent):List KC×Value:=(x.1,x.2.2)
def b3x (x:Ent):List KC×AV:=(x.1,x.2.1)
structure c3Z (cs:List Car) (kn left:List Ent) (ds:List Car):Prop where
 mem:∀y∈left,y∈kn
 perm:(o4 ds++left.map b3x).Perm (o4 cs)
theorem a5O {α:Type}:∀{l:List α} {i:Nat} {y:α},l[i]?=some y→(y::l.eraseIdx i).Perm l
 |[],i,y,h=>by simp at h
 |x::l,0,y,h=>by simp at h;subst h;simp
 |x::l,i+1,y,h=>by
  have ih:=a5O (l:=l) (i:=i) (y:=y) (by simpa using h);rw[List.eraseIdx_cons_succ];exact(List.Perm.swap _ _ _).trans (ih.cons x)
theorem c3Z.car {cs:List Car} {kn left:List Ent} {ds:List Car} (h:c3Z cs kn left ds) (hs:Srt cs) {i:Nat} {y:Ent} (hy:left[i]?=some y):∃c∈cs,y=(kOf c.Name,c.av,y.2.2)∧(∀x∈ds,x.Name≠c.Name)∧c3Z cs kn (left.eraseIdx i) (ds++[c]):=by
 have hm:b3x y∈o4 cs:=h.perm.mem_iff.1 (List.mem_append_right _ (List.mem_map_of_mem (List.mem_of_getElem? hy)));obtain⟨c,hc,e1,e2⟩:=b4s hm;have hye:b3x y=(kOf c.Name,c.av):=by unfold b3x;simp only[e1,e2]
 have hp:((left.eraseIdx i).map b3x++[b3x y]).Perm (left.map b3x):=by
  have:=(List.perm_append_comm (l₁:=(left.eraseIdx i)) (l₂:=[y])).trans (a5O hy);simpa using this.map b3x
 refine⟨c,hc,?_,?_,⟨fun z hz=>h.mem z (List.mem_of_mem_eraseIdx hz),?_⟩⟩
 ·obtain⟨a,b,v⟩:=y;simp only at e1 e2;rw[e1,e2]
 ·intro x hx e;have hn:=a5Y hs;have hn2:((o4 ds++left.map b3x).map (·.1)).Nodup:=(h.perm.map (·.1)).nodup_iff.2 hn
  rw[List.map_append,List.nodup_append]at hn2;refine hn2.2.2 (kOf x.Name) ?_ (kOf c.Name) ?_ (by rw[e])
  ·rw[a2B];exact List.mem_map_of_mem (f:=fun c:Car=>kOf c.Name) hx
  ·rw[List.map_map];have:=List.mem_map_of_mem (f:=(fun x:List KC×AV=>x.1)∘b3x) (List.mem_of_getElem? hy);simpa [hye]using this
 ·have e3:o4 (ds++[c])=o4 ds++[b3x y]:=by rw[hye];simp[o4]
  rw[e3,List.append_assoc];exact((List.perm_append_comm.trans hp).append_left _).trans h.perm
theorem b7S (hcs:b6s s cs) (hne:ps≠[]) (hn:ps.length≤1000):c8 Tryz.prog 66 [.ptr 0 0 0] (stK X s fo si up ps.length) (stD s cs ps nx nd) (.ptr 6 0 0) (stK X s fo si up ps.length) (stD s cs ps nx nd++[some (.els 3 [[.ptr 1 0 0, .mp 7, .row 8 0 ps.length]]),caR cs,ptR ps]):=by
 have htp:List.take ps.length (ps.map g8)=ps.map g8:=List.take_of_length_le (by simp);have hcl:=b1A ps hne hn;refine B8 ?_;refine oG [0] Tryz.func66 Tryz.ntmps66 Tryz.results66 ?_;intro J hJ;refine gW ?_;refine b7q 2 rfl (by simp) (by simp[o4]) fun kn hkp hkn=>?_;simp only[p9,List.cons_append,List.nil_append]
 ·refine gD ?_ fun K hK=>by simp -dsimp [htp];refine a2F [] [] [none,none,none,none,none,none,none,some 0] (hcl) (by decide) rfl (by simp[htp]) (by simp) rfl (by simp) (by simp) (by simp) ?_;simp -dsimp [htp];exact hK
  refine b9 fun K1 hK1=>?_;refine v6 (Q3 (a9I 6 (row':= .mpa false [.i .i64] []) (by simp) (by simp) fun _ _ _ _ _=>a9g) (by simp)) ?_;refine v6 (Q3 (b5e 8 0 rfl rfl) (by simp)) ?_;simp only[p9,List.set_cons_zero]
  ·refine c2G (List.cons_ne_nil _ _) rfl (by decide) rfl rfl fun K hK=>?_;simp only[List.dropLast];simp -dsimp;refine hK _ _ ⟨[8,6,7],[2],[3],[0],[(3, .ptr 0 0 0),(21, .mpc false [.i .i64] (kn.map b7F))],[none,none,some (.map false [.i .i64] (kn.map b7F)),none,none,none,some (.mpa false [.i .i64] []),ptR ps,some (.els 3 [[.v X, .mp 6, .row 7 0 ps.length]])],[some (.els 3 [[.v X, .mp 1, .row 2 0 ps.length]]),some (.mpa false [.i .i64] []),ptR ps],fun T' H'=>Go.AM.i7 T' 3= .ptr 0 0 0∧∃ds:List Car,(o4 ds).Perm (o4 cs)∧H'=[some (.els 3 [[.v X, .mp 1, .row 2 0 ps.length]]),some (.mpa false [.i .i64] (o4 ds)),ptR ps],by simp,by decide,rfl,rfl,⟨.inr (by simp), .inr (by simp),trivial⟩,by simp,by decide,by decide,?_,?_⟩<;>clear hK K
   ·intro J1 hJ1 hkn1 K hK;simp only[List.getLast];simp -dsimp;apply hK;clear hK K;refine d4 ?_;refine gP [0,3,22] ?_;refine i9 [0,3,22] (α:=List Ent×Option Ent×List Car) (fun x=>[]) (fun x=>[some (.els 3 [[.v X, .mp 1, .row 2 0 ps.length]]),some (.mpa false [.i .i64] (o4 x.2.2)),ptR ps,some (.itr false [.i .i64] (x.1.map b7F) (x.2.1.map b7F))]) (fun x=>c3Z cs kn x.1 x.2.2) (fun x=>x.1.length) (kn,none,[]) ?_ ?_ ?_
    ·exact⟨fun y hy=>hy,by show(o4 []++kn.map b3x).Perm (o4 cs);exact hkp⟩
    ·exact Q3 (c7 (by simp)) (by simp)
    rintro⟨left,cur,ds⟩ ix;simp only at ix ⊢;refine zN ?_;refine c3y (.tmp 22) 3 rfl (by decide) rfl rfl rfl rfl (by simp) (by simp) rfl (fun hl0 K hK=>?_) (fun i e hie K hK=>?_)
    ·obtain rfl:left=[]:=by simpa using hl0
     simp -dsimp;apply hK;clear hK K;refine b9 fun K2 hK2=>?_;refine c3 rfl (fun hc0=>?_) (fun hc0=>?_)
     ·simp at hc0
     ·refine v6 (Q3 (e8 (T':=[(3, .ptr 0 0 0)]) (H':=[some (.els 3 [[.v X, .mp 1, .row 2 0 ps.length]]),some (.mpa false [.i .i64] (o4 ds)),ptR ps]) [some 0,some 1,some 2] rfl (by simp) (by simp)) (by simp)) ?_;refine r7 ?_;refine zQ ?_;exact⟨trivial,rfl,by simp,ds,by simpa using ix.perm,rfl⟩
    ·obtain⟨y,hy,rfl⟩:∃y,left[i]?=some y∧b7F y=e:=by simpa using hie
     obtain⟨c,hc,hye,hnew,hci⟩:=ix.car hcs.srt hy;have hym:=ix.mem y (List.mem_of_getElem? hy);have hcl2:=(hcs.bd c hc).2;have hcln:=a6u c.Way (by have:=(o5 (hcs.car c hc)).2.2.1.1;intro e;rw[e]at this;simp at this) hcl2;have hty:List.take c.Way.length (List.map Move.cells c.Way)=List.map Move.cells c.Way:=List.take_of_length_le (by simp);have hks:P6 (o4 ds) (kOf c.Name) (.agg [I c.Name,I c.Profile,a4W c.Way,I c.Front])=o4 (ds++[c]):=b5v hnew;obtain⟨yk,ya,yv⟩:=y;simp only[Prod.mk.injEq,and_true]at hye;obtain⟨rfl,rfl⟩:=hye;simp only[b7F];simp -dsimp;apply hK;clear hK K;refine b9 fun K3 hK3=>?_;refine c3 rfl (fun hc0=>?_) (fun hc0=>?_)
     ·refine c6 ?_;refine zQ (hK3 _ _ ?_);refine gP [0,3,22] ?_;refine d4 ?_;refine c1f 1 rfl (by decide) rfl rfl fun K hK=>?_;simp only[List.take_succ_cons,List.take_zero,List.drop_succ_cons,List.drop_zero];simp -dsimp;refine hK _ _ ⟨_,_,fun kv a w hs=>b7c 25 hym (hkn1 _ (a3Z _ _)) rfl (by decide) hs,?_⟩;clear hK K;intro K hK;simp -dsimp;apply hK;clear hK K;refine gW ?_ fun K hK=>by simp -dsimp;refine cM [] [] (hcln) ?_;simp -dsimp;exact hK
      refine gU (T':=[(3, .ptr 0 0 0),(4,I c.Name),(5, .ptr 4 0 0),(22, .ptr 3 0 0)]) (H':=[some (.els 3 [[.v X, .mp 1, .row 2 0 ps.length]]),some (.mpa false [.i .i64] (o4 ds)),ptR ps,some (.itr false [.i .i64] ((left.eraseIdx i).map b7F) (some (kOf c.Name,yv))),some (.els 4 [c.cells])]) [some 0,some 1,some 2,some 3,some 4] ?_ (hH:=by simp[hty,M9,b7F]);refine gE ?_ fun K hK=>by simp -dsimp [hks];exact hK
      refine zQ ?_;have hil:=(List.getElem?_eq_some_iff.1 hy).1;exact⟨(left.eraseIdx i,some (kOf c.Name,c.av,yv),ds++[c]),hci,by simp only[List.length_eraseIdx,if_pos hil];omega,gB [some 0,some 1,some 2,some 3] (hH:=by simp[b7F])⟩
     ·simp at hc0
   ·intro T' H' hR;obtain⟨hR,ds,hds,rfl⟩:=hR;have hg:b4i [8,6,7] 9=[some 0,some 1,some 2,some 3,some 4,some 5,none,none,none]:=rfl;have hr:List.range 9=[0,1,2,3,4,5,6,7,8]:=rfl;have e1:bkM [8,6,7] (.ptr 0 0 0)= .ptr 8 0 0:=rfl;have e2:a5Z [8,6,7] (.mpa false [.i .i64] (o4 ds))= .mpa false [.i .i64] (o4 ds):=by simp[a5Z]
    have e3:a5Z [8,6,7] (.els 1 (ps.map g8))= .els 1 (ps.map g8):=by simp[a5Z,g8,bkM]
    have e4:a5Z [8,6,7] (.els 3 [[.v X, .mp 1, .row 2 0 ps.length]])= .els 3 [[.v X, .mp 6, .row 7 0 ps.length]]:=rfl;have f0:List.findIdx? (fun x=>x==0) [8,6,7]=none:=rfl;have f1:List.findIdx? (fun x=>x==1) [8,6,7]=none:=rfl;have f2:List.findIdx? (fun x=>x==2) [8,6,7]=none:=rfl;have f3:List.findIdx? (fun x=>x==3) [8,6,7]=none:=rfl;have f4:List.findIdx? (fun x=>x==4) [8,6,7]=none:=rfl;have f5:List.findIdx? (fun x=>x==5) [8,6,7]=none:=rfl;have f6:List.findIdx? (fun x=>x==6) [8,6,7]=some 1:=rfl;have f7:List.findIdx? (fun x=>x==7) [8,6,7]=some 2:=rfl;have f8:List.findIdx? (fun x=>x==8) [8,6,7]=some 0:=rfl;refine⟨by simp[a9s],?_⟩;simp only[a9s,b2C,e1,Option.map_some,f0,f1,f2,f3,f4,f5,f6,f7,f8,g7,e2,e3,e4,List.length_cons,List.length_nil,Nat.reduceAdd,Nat.zero_add,hg,hr,List.map_cons,List.map_nil,List.cons_append,List.nil_append,hR];refine zQ (hK1 _ _ ?_);refine gP [0,3] ?_;refine gW ?_;refine b4W 2 (o4 cs) (a3Z _ _) rfl (by simp) hkp hkn ?_;refine v6 (Q3 (a4O 6 rfl hds) (by simp)) ?_;refine v6 (Q3 (b4H 8 0 0 0 rfl rfl rfl rfl) (by simp)) ?_;refine v6 (Q3 (I6 8 0 rfl rfl) (by simp)) ?_;exact i6 (gT [some 0,some 1,some 2,some 3,some 4,some 5,some 8,some 6,some 7])
end
end Go.Tram.Lk
end
section
namespace Go.Tram.Lk
open Go.AM Go.Proofs
def cwC (c:Car):List AV:=if c.Way=[]then c0C c else c.cells
def cwA (c:Car):AV:= .agg (cwC c)
theorem a7q {c:Car} (h:c.Way=[]):cwC c=c0C c:=if_pos h
theorem b0s {c:Car} (h:c.Way≠[]):cwC c=c.cells:=if_neg h
def GrT (s:j5) (fo si up:Kvs) (cs:List Car) (ps:List Int) (nx nd:n5) (c:Car) (m:Move) (M:n5×n5):Prop:=∀X:Value,
 ((s8 s ⟨cs,ps⟩ c m).Kind=0→c8 Tryz.prog 51 [.ptr 0 0 0,cwA c,m.av] (stK X s fo si up ps.length) (stD s cs ps nx nd) (.tup [(p7 c m).av,R8 ⟨0,0⟩]) (stK X s fo si up ps.length) (stD s cs (a3d s c m ps) M.1 M.2++grR (p7 c m).cells ⟨0,0⟩))∧
 ((s8 s ⟨cs,ps⟩ c m).Kind≠0→c8 Tryz.prog 51 [.ptr 0 0 0,cwA c,m.av] (stK X s fo si up ps.length) (stD s cs ps nx nd) (.tup [.agg a5m,R8 (s8 s ⟨cs,ps⟩ c m)]) (stK X s fo si up ps.length) (stD s cs ps M.1 M.2++grR a5m (s8 s ⟨cs,ps⟩ c m)))
open Classical in
noncomputable def gM (s:j5) (fo si up:Kvs) (cs:List Car) (ps:List Int) (nx nd:n5) (c:Car) (m:Move):n5×n5:=if h:∃M,GrT s fo si up cs ps nx nd c m M then h.choose else([],[])
theorem c0N {s:j5} {fo si up:Kvs} (hru:b2l s fo si up) {cs:List Car} (hcs:b6s s cs) {ps:List Int} (nx nd:n5) {c:Car} {m:Move} (hs:P7 s=true) (hpl:ps.length=s.Plan.Nodes.length) (hw:c.Way≠[]→wayB s.Plan c.Way=true) (hm:D3 s.Plan m=true) (hl:c.Way.length≤1000):GrT s fo si up cs ps nx nd c m (gM s fo si up cs ps nx nd c m):=by
 have h:∃M,GrT s fo si up cs ps nx nd c m M:=by
  unfold GrT cwA
  by_cases hne:c.Way=[]<;>by_cases hr:(s8 s ⟨cs,ps⟩ c m).Kind=0
  ·obtain⟨a,b,h⟩:=a9C hru hcs nx nd hs hpl hw hm hl hne hr;exact⟨(a,b),fun X=>⟨fun _=>by rw[a7q hne];exact h X,fun h=>absurd hr h⟩⟩
  ·obtain⟨a,b,h⟩:=b0k hru hcs nx nd hs hpl hw hm hl hne hr;exact⟨(a,b),fun X=>⟨fun h=>absurd h hr,fun _=>by rw[a7q hne];exact h X⟩⟩
  ·obtain⟨a,b,h⟩:=a4s hru hcs nx nd hs hpl hw hm hl hne hr;exact⟨(a,b),fun X=>⟨fun _=>by rw[b0s hne];exact h X,fun h=>absurd hr h⟩⟩
  ·obtain⟨a,b,h⟩:=a4x hru hcs nx nd hs hpl hw hm hl hne hr;exact⟨(a,b),fun X=>⟨fun h=>absurd h hr,fun _=>by rw[b0s hne];exact h X⟩⟩
 unfold gM;rw[dif_pos h];exact h.choose_spec
def E2 (s:j5) (cs:List Car):List Move→List Int→Car→b3t×List Int×Car
 |[],ps,c=>(⟨0,0⟩,ps,c)
 |m::l,ps,c=>if (s8 s ⟨cs,ps⟩ c m).Kind=0 then E2 s cs l (a3d s c m ps) (p7 c m)else(s8 s ⟨cs,ps⟩ c m,ps,c)
noncomputable def enterM (s:j5) (fo si up:Kvs) (cs:List Car):List Move→List Int→n5→n5→Car→n5×n5
 |[],ps,nx,nd,c=>(nx,nd)
 |m::l,ps,nx,nd,c=>if (s8 s ⟨cs,ps⟩ c m).Kind=0 then enterM s fo si up cs l (a3d s c m ps) (gM s fo si up cs ps nx nd c m).1 (gM s fo si up cs ps nx nd c m).2 (p7 c m)else gM s fo si up cs ps nx nd c m
theorem b6Q (s:j5) (c:Car) (m:Move) (ps:List Int):(a3d s c m ps).length=ps.length:=by unfold a3d;split<;>simp
structure a7t (s:j5) (fo si up:Kvs) (cs:List Car) (ps0:List Int) (nx0 nd0:n5) (c0:Car) (way:List Move) (k:Nat) (c:Car) (ps:List Int) (nx nd:n5):Prop where
 le:k≤way.length
 name:c.Name=c0.Name
 prof:c.Profile=c0.Profile
 front:c.Front=c0.Front
 wy:c.Way=way.take k
 len:ps.length=ps0.length
 law:E2 s cs way ps0 c0=E2 s cs (way.drop k) ps c
 memo:enterM s fo si up cs way ps0 nx0 nd0 c0=enterM s fo si up cs (way.drop k) ps nx nd c
theorem a7t.zero (s:j5) (fo si up:Kvs) (cs:List Car) (ps0:List Int) (nx0 nd0:n5) {c0:Car} (way:List Move) (h:c0.Way=[]):a7t s fo si up cs ps0 nx0 nd0 c0 way 0 c0 ps0 nx0 nd0:=
 ⟨Nat.zero_le _,rfl,rfl,rfl,by simpa using h,rfl,rfl,rfl⟩
section
variable {s:j5} {fo si up:Kvs} {cs:List Car} {ps0 ps:List Int} {nx0 nd0 nx nd:n5} {c0 c:Car} {way:List Move} {k:Nat} {m:Move}
theorem a7t.drop (hm:way[k]?=some m):way.drop k=m::way.drop (k+1):=by
 obtain⟨h1,h2⟩:=List.getElem?_eq_some_iff.1 hm;rw[List.drop_eq_getElem_cons h1,h2]
theorem a7t.ok (h:a7t s fo si up cs ps0 nx0 nd0 c0 way k c ps nx nd) (hm:way[k]?=some m) (hr:(s8 s ⟨cs,ps⟩ c m).Kind=0):a7t s fo si up cs ps0 nx0 nd0 c0 way (k+1) (p7 c m) (a3d s c m ps) (gM s fo si up cs ps nx nd c m).1 (gM s fo si up cs ps nx nd c m).2:=by
 refine⟨(List.getElem?_eq_some_iff.1 hm).1,h.name,h.prof,h.front,?_,by rw[b6Q];exact h.len,?_,?_⟩
 ·show c.Way++[m]=_;rw[h.wy,List.take_add_one,hm];rfl
 ·rw[h.law,a7t.drop hm,E2,if_pos hr]
 ·rw[h.memo,a7t.drop hm,enterM,if_pos hr]
theorem a7t.no (h:a7t s fo si up cs ps0 nx0 nd0 c0 way k c ps nx nd) (hm:way[k]?=some m) (hr:(s8 s ⟨cs,ps⟩ c m).Kind≠0):E2 s cs way ps0 c0=(s8 s ⟨cs,ps⟩ c m,ps,c)∧enterM s fo si up cs way ps0 nx0 nd0 c0=gM s fo si up cs ps nx nd c m:=by
 refine⟨?_,?_⟩
 ·rw[h.law,a7t.drop hm,E2,if_neg hr]
 ·rw[h.memo,a7t.drop hm,enterM,if_neg hr]
theorem a7t.fin (h:a7t s fo si up cs ps0 nx0 nd0 c0 way way.length c ps nx nd):E2 s cs way ps0 c0=(⟨0,0⟩,ps,c)∧enterM s fo si up cs way ps0 nx0 nd0 c0=(nx,nd):=by
 refine⟨?_,?_⟩
 ·rw[h.law,List.drop_length];rfl
 ·rw[h.memo,List.drop_length];rfl
theorem a7t.wayB (h:a7t s fo si up cs ps0 nx0 nd0 c0 way k c ps nx nd) (hw:Go.Tram.wayB s.Plan way=true) (hne:c.Way≠[]):Go.Tram.wayB s.Plan c.Way=true:=by
 rw[h.wy]at hne ⊢;refine b7g hw ?_
 cases k with
 |zero=>simp at hne
 |succ k=>omega
end
section
variable (s:j5) (fo si up:Kvs) (nx nd:n5) (cs:List Car) (ps:List Int) (name profile:Int) (way:List Move)
theorem b5k (hv:d8 s.Plan=true) (hp:s.Profiles.length≤100000) (hl:way.length≤1000) (hc:a1W s ⟨name,profile,way,0⟩=false):
  c8 Tryz.prog 28 [.ptr 0 0 0,I name,I profile,a4W way] lkK (lkD s fo si up nx nd cs ps) (.tup [R8 ⟨0,0⟩,I 2]) lkK (lkD s fo si up nx nd cs ps):=by
 have hcar:=fun x y=>b0M s fo si up x y ⟨name,profile,way,0⟩ hv hp hl;rw[hc]at hcar;unfold d6 at hcar;refine oG [0] Tryz.func28 Tryz.ntmps28 Tryz.results28 ?_;intro J hJ;refine gW ?_;refine b9 fun K1 hK1=>?_;refine gW ?_ fun K hK=>by simp -dsimp;refine cI (O6 _) ?_;simp -dsimp;exact hK
 refine c3 rfl (fun hc0=>?_) (fun hc0=>?_)
 ·simp at hc0
 ·refine c6 ?_;refine zQ (hK1 _ _ ?_);refine gP [0,1,2,3,8] ?_;refine b9 fun K2 hK2=>?_;refine gW ?_ fun K hK=>by simp -dsimp;refine cI (hcar _ _) ?_;simp -dsimp;exact hK
  refine c3 rfl (fun hc1=>?_) (fun hc1=>?_)
  ·refine gW ?_;refine gU (T':=[(0, .ptr 0 0 0),(8, .iptr [I 0,I 0]),(9,I 2)]) (H':=lkK++lkD s fo si up nx nd cs ps) [some 0,some 1,some 2,some 3,some 4,some 5,some 6] ?_;exact i6 (gT [some 0,some 1,some 2,some 3,some 4,some 5,some 6])
  ·simp at hc1
theorem b3Y (hv:d8 s.Plan=true) (hp:s.Profiles.length≤100000) (hl:way.length≤1000) (hc:a1W s ⟨name,profile,way,0⟩=true) {c1:Car} (hm:a0g cs name=some c1):
  c8 Tryz.prog 28 [.ptr 0 0 0,I name,I profile,a4W way] lkK (lkD s fo si up nx nd cs ps) (.tup [R8 ⟨0,0⟩,I 5]) lkK (lkD s fo si up nx nd cs ps):=by
 have hcar:=fun x y=>b0M s fo si up x y ⟨name,profile,way,0⟩ hv hp hl;rw[hc]at hcar;unfold d6 at hcar;have hcc:C2 (o4 cs) (kOf name)=some c1.av:=by rw[n6,hm];rfl
 refine oG [0] Tryz.func28 Tryz.ntmps28 Tryz.results28 ?_;intro J hJ;refine gW ?_;refine b9 fun K1 hK1=>?_;refine gW ?_ fun K hK=>by simp -dsimp;refine cI (O6 _) ?_;simp -dsimp;exact hK
 refine c3 rfl (fun hc0=>?_) (fun hc0=>?_)
 ·simp at hc0
 ·refine c6 ?_;refine zQ (hK1 _ _ ?_);refine gP [0,1,2,3,8] ?_;refine b9 fun K2 hK2=>?_;refine gW ?_ fun K hK=>by simp -dsimp;refine cI (hcar _ _) ?_;simp -dsimp;exact hK
  refine c3 rfl (fun hc1=>?_) (fun hc1=>?_)
  ·simp at hc1
  ·refine c6 ?_;refine zQ (hK2 _ _ ?_);refine gP [0,1,2,3,8] ?_;refine b9 fun K3 hK3=>?_;refine gW ?_ fun K hK=>by simp -dsimp;refine d7 (.tup [c1.av,Bo true]) (fun hm=>by rw[hcc];rfl) ?_;simp -dsimp;exact hK
   refine gW ?_;refine c3 rfl (fun hc2=>?_) (fun hc2=>?_)
   ·refine gW ?_;refine gU (T':=[(0, .ptr 0 0 0),(8, .iptr [I 0,I 0]),(9,I 5)]) (H':=lkK++lkD s fo si up nx nd cs ps) [some 0,some 1,some 2,some 3,some 4,some 5,some 6] ?_;exact i6 (gT [some 0,some 1,some 2,some 3,some 4,some 5,some 6])
   ·simp at hc2
end
end Go.Tram.Lk
end
section
namespace Go.Tram.Lk
open Go.AM Go.Proofs
section
variable {s:j5} {fo si up:Kvs} (hru:b2l s fo si up) (nx nd:n5) {cs:List Car} (hcs:b6s s cs) {ps:List Int} {name profile:Int} {way:List Move}
include hru hcs
theorem b3Z (hs:P7 s=true) (hpl:ps.length=s.Plan.Nodes.length) (hp:s.Profiles.length≤100000) (hc:a1W s ⟨name,profile,way,0⟩=true) (hm:a0g cs name=none) (h100:cs.length<100) {c0:Car} (hc0e:c0=⟨name,profile,[],(way.length:Int)-1⟩)
  {r:b3t} {e:Int} {cs2:List Car} {ps2:List Int} {M:n5×n5} (hM:enterM s fo si up cs way ps nx nd c0=M) (h1:∀r1 ps1 c1,E2 s cs way ps c0=(r1,ps1,c1)→r1.Kind≠0→r=r1∧e=6∧cs2=cs∧ps2=ps) (h2:∀ps1 c1,E2 s cs way ps c0=(⟨0,0⟩,ps1,c1)→r=⟨0,0⟩∧e=0∧cs2=C1 cs c1∧ps2=ps1):
  c8 Tryz.prog 28 [.ptr 0 0 0,I name,I profile,a4W way] lkK (lkD s fo si up nx nd cs ps) (.tup [R8 r,I e]) lkK (lkD s fo si up M.1 M.2 cs2 ps2):=by
 obtain⟨hv,_,_,_⟩:=o7 hs;obtain⟨_,_,⟨hw1,hw2,_,hwb⟩,_⟩:=o5 hc;simp only at hw1 hw2 hwb;have hNl:1≤s.Plan.Nodes.length∧s.Plan.Nodes.length≤300:=(j7 hv).1;have hcar:=fun x y=>b0M s fo si up x y ⟨name,profile,way,0⟩ hv hp (by simp only;omega);rw[hc]at hcar;unfold d6 at hcar;have hcc:C2 (o4 cs) (kOf name)=none:=by rw[n6,hm];rfl
 have hcl:(o4 cs).length=cs.length:=by simp[o4]
 have hcop:=fun X=>b7S X s fo si up cs ps nx nd hcs (by intro h;rw[h]at hpl;simp at hpl;omega) (by omega);have wl:IntKind.i64.wrap ((way.length:Int)-1)=(way.length:Int)-1:=c4 (by omega) (by omega);have h100':¬(100:Int)≤(cs.length:Int):=by omega
 have hcw0:cwC c0=[I name,I profile,I8,I ((way.length:Int)-1)]:=by rw[hc0e,a7q rfl];rfl
 refine oG [0] Tryz.func28 Tryz.ntmps28 Tryz.results28 ?_;intro J hJ;refine gW ?_;refine b9 fun K1 hK1=>?_;refine gW ?_ fun K hK=>by simp -dsimp;refine cI (O6 _) ?_;simp -dsimp;exact hK
 refine c3 rfl (fun hc0=>?_) (fun hc0=>?_)
 ·simp at hc0
 ·refine c6 ?_;refine zQ (hK1 _ _ ?_);refine gP [0,1,2,3,8] ?_;refine b9 fun K2 hK2=>?_;refine gW ?_ fun K hK=>by simp -dsimp;refine cI (hcar _ _) ?_;simp -dsimp;exact hK
  refine c3 rfl (fun hc1=>?_) (fun hc1=>?_)
  ·simp at hc1
  ·refine c6 ?_;refine zQ (hK2 _ _ ?_);refine gP [0,1,2,3,8] ?_;refine b9 fun K3 hK3=>?_;refine gW ?_ fun K hK=>by simp -dsimp;refine d7 (.tup [.agg a5m,Bo false]) (fun hm=>by rw[hcc];rfl) ?_;simp -dsimp;exact hK
   refine gW ?_;refine c3 rfl (fun hc2=>?_) (fun hc2=>?_)
   ·simp at hc2
   ·refine c6 ?_;refine zQ (hK3 _ _ ?_);refine gP [0,1,2,3,8] ?_;refine b9 fun K4 hK4=>?_;refine gW ?_ fun K hK=>by simp -dsimp [hcl,b3n];exact hK
    refine c3 rfl (fun hc3=>?_) (fun hc3=>?_)
    ·simp at hc3;omega
    ·refine c6 ?_;refine zQ (hK4 _ _ ?_);refine gP [0,1,2,3,8] ?_;refine a4a 1 0 rfl rfl fun X=>?_;simp only[p9,List.set_cons_zero]
     ·refine gW ?_ fun K hK=>by simp -dsimp;refine cM [1,2] [3,4,5,6] (hcop X) ?_;simp -dsimp;exact hK
      refine gW ?_ fun K hK=>by simp -dsimp [wl];exact hK
      refine b9 fun K5 hK5=>?_;refine gW ?_;refine d4 ?_;refine gP [0,1,8,12,13,70,71,72] ?_;refine i9 [0,1,8,12,13,70,71] (α:=Nat×Car×List Int×n5×n5) (fun x=>[(72,I x.1)]) (fun x=>[some (.els 1 [[.ptr 1 0 0]]),some (.els 3 [[.fptr X 2 0 0, .mp 9, .row 10 0 ps.length]]),ruR s fo si up 11 12,none,none,none,none,some (.els 2 [[I 0,I 0]]),none,caR cs,ptR ps,nxR s x.2.2.2.1,ndR s x.2.2.2.2,some (.els 3 [[.ptr 2 0 0, .mp 14, .row 15 0 ps.length]]),caR cs,ptR x.2.2.1,some (.els 4 [cwC x.2.1])]) (fun x=>a7t s fo si up cs ps nx nd c0 way x.1 x.2.1 x.2.2.1 x.2.2.2.1 x.2.2.2.2) (fun x=>way.length-x.1) (0,c0,ps,nx,nd) ?_ ?_ ?_
      ·exact a7t.zero s fo si up cs ps nx nd way (by rw[hc0e])
      ·exact gB [some 0,some 1,some 2,none,none,none,none,some 7,none,some 9,some 10,some 11,some 12,some 13,some 14,some 15,some 16] (hH:=by simp[hcw0])
      rintro⟨k,c,qs,nx1,nd1⟩ hi;simp only at hi ⊢;refine zN ?_;refine gW ?_;refine b9 fun K6 hK6=>?_;refine c3 rfl (fun hc4=>?_) (fun hc4=>?_)
      ·have hk:k<way.length:=by first|omega|(simp at hc4;omega)
       obtain⟨m,hmg⟩:=gx (l:=way) (i:=k) hk;have hmm:D3 s.Plan m=true:=by have:=J9 hwb k hk;unfold C3 at this;rw[hmg]at this;exact this
       have wk:=zW k (by omega);have hcwl:c.Way.length=k:=by rw[hi.wy,List.length_take];omega
       have hspec:=c0N hru hcs nx1 nd1 hs (by rw[hi.len,hpl]) (hi.wayB hwb) hmm (by omega);have hgl:=hi.len;unfold GrT at hspec;refine c6 ?_;refine zQ (hK6 _ _ ?_);refine gP [0,1,8,12,13,70,71,72] ?_;refine b9 fun K7 hK7=>?_;refine d4 ?_;refine gW ?_ fun K hK=>by simp -dsimp [hmg];exact hK
       refine gW ?_;refine a4a 13 0 rfl rfl fun X2=>?_;simp only[p9,List.set_cons_zero];have hg:=hspec X2;unfold cwA at hg;rw[hi.len]at hg
       rcases Decidable.em (c.Way=[])with hne|hne<;>rcases Decidable.em ((s8 s ⟨cs,qs⟩ c m).Kind=0)with hr|hr
       all_goals first|have hg2:=hg.1 hr|have hg2:=hg.2 hr
       all_goals first|rw[a7q hne]at hg2 ⊢ |rw[b0s hne]at hg2 ⊢
       ·refine gW ?_ fun K hK=>by simp -dsimp;refine cM [13,2] [14,15,11,12] (hg2) ?_;simp -dsimp;exact hK
        refine gW ?_;refine c3 rfl (fun hc5=>?_) (fun hc5=>?_)
        ·simp at hc5
        ·refine c6 ?_;refine zQ (hK7 _ _ ?_);refine gP [0,1,8,12,13,70,71,72] ?_;refine gV ?_ fun K hK=>by simp -dsimp [wk];exact hK
         refine zQ ?_;exact⟨(k+1,p7 c m,a3d s c m qs,(gM s fo si up cs qs nx1 nd1 c m).1,(gM s fo si up cs qs nx1 nd1 c m).2),hi.ok hmg hr,by simp only;omega,Q3 ((I6 13 0 rfl rfl).trans (e8 [some 0,some 1,some 2,none,none,none,none,some 7,none,some 9,some 10,some 21,some 22,some 13,some 19,some 20,some 16] rfl (by simp) (by simp[cwC,p7]))) (by simp)⟩
       ·refine gW ?_ fun K hK=>by simp -dsimp;refine cM [13,2] [14,15,11,12] (hg2) ?_;simp -dsimp;exact hK
        refine gW ?_;refine c3 rfl (fun hc5=>?_) (fun hc5=>?_)
        ·refine gW ?_;obtain⟨g1,g2⟩:=hi.no hmg hr;obtain⟨rfl,rfl,rfl,rfl⟩:=h1 _ _ _ g1 hr;rw[g2]at hM;subst hM;refine v6 (Q3 (I6 1 0 rfl rfl) (by simp)) ?_;refine gU (T':=[(0, .ptr 0 0 0),(8, .iptr [I (s8 s ⟨cs2,qs⟩ c m).Kind,I (s8 s ⟨cs2,qs⟩ c m).Car]),(9,I 6)]) (H':=lkK++lkD s fo si up (gM s fo si up cs2 qs nx1 nd1 c m).1 (gM s fo si up cs2 qs nx1 nd1 c m).2 cs2 ps2) [some 0,some 1,some 2,some 9,some 10,some 21,some 22] ?_;exact i6 (gT [some 0,some 1,some 2,some 3,some 4,some 5,some 6])
        ·simp[hr]at hc5
       ·refine gW ?_ fun K hK=>by simp -dsimp;refine cM [13,2] [14,15,11,12] (hg2) ?_;simp -dsimp;exact hK
        refine gW ?_;refine c3 rfl (fun hc5=>?_) (fun hc5=>?_)
        ·simp at hc5
        ·refine c6 ?_;refine zQ (hK7 _ _ ?_);refine gP [0,1,8,12,13,70,71,72] ?_;refine gV ?_ fun K hK=>by simp -dsimp [wk];exact hK
         refine zQ ?_;exact⟨(k+1,p7 c m,a3d s c m qs,(gM s fo si up cs qs nx1 nd1 c m).1,(gM s fo si up cs qs nx1 nd1 c m).2),hi.ok hmg hr,by simp only;omega,Q3 ((I6 13 0 rfl rfl).trans (e8 [some 0,some 1,some 2,none,none,none,none,some 7,none,some 9,some 10,some 21,some 22,some 13,some 19,some 20,some 16] rfl (by simp) (by simp[cwC,p7]))) (by simp)⟩
       ·refine gW ?_ fun K hK=>by simp -dsimp;refine cM [13,2] [14,15,11,12] (hg2) ?_;simp -dsimp;exact hK
        refine gW ?_;refine c3 rfl (fun hc5=>?_) (fun hc5=>?_)
        ·refine gW ?_;obtain⟨g1,g2⟩:=hi.no hmg hr;obtain⟨rfl,rfl,rfl,rfl⟩:=h1 _ _ _ g1 hr;rw[g2]at hM;subst hM;refine v6 (Q3 (I6 1 0 rfl rfl) (by simp)) ?_;refine gU (T':=[(0, .ptr 0 0 0),(8, .iptr [I (s8 s ⟨cs2,qs⟩ c m).Kind,I (s8 s ⟨cs2,qs⟩ c m).Car]),(9,I 6)]) (H':=lkK++lkD s fo si up (gM s fo si up cs2 qs nx1 nd1 c m).1 (gM s fo si up cs2 qs nx1 nd1 c m).2 cs2 ps2) [some 0,some 1,some 2,some 9,some 10,some 21,some 22] ?_;exact i6 (gT [some 0,some 1,some 2,some 3,some 4,some 5,some 6])
        ·simp[hr]at hc5
      ·have hk:k=way.length:=by have:=hi.le;first|omega|(simp at hc4;omega)
       subst hk;obtain⟨g1,g2⟩:=hi.fin;obtain⟨rfl,rfl,rfl,rfl⟩:=h2 _ _ g1;rw[g2]at hM;subst hM;have hgl:=hi.len;have hwy:=hi.wy;rw[List.take_length]at hwy;have hcn:c.Name=name:=by rw[hi.name,hc0e]
       subst hcn;have p9:(P6 (o4 cs) (kOf c.Name) c.av).Perm _:=a0w c hcs.srt;have hcne:c.Way≠[]:=by rw[hwy];intro h;rw[h]at hw1;simp at hw1
       rw[b0s hcne];refine r7 ?_;refine zQ (hK5 _ _ ?_);refine gP [0,1,8,12,13] ?_;refine gD ?_;refine gW ?_;refine gW ?_;refine v6 (Q3 (a4O 14 rfl p9) (by simp)) ?_;refine gU (T':=[(0, .ptr 0 0 0),(8, .iptr [I 0,I 0]),(9,I 0)]) (H':=lkK++lkD s fo si up nx1 nd1 (C1 cs c) ps2) [some 0,some 13,some 2,some 14,some 15,some 11,some 12] ?_ (hH:=by simp[hgl]);exact i6 (gT [some 0,some 1,some 2,some 3,some 4,some 5,some 6])
end
end Go.Tram.Lk
end
section
namespace Go.Tram.Lk
open Go.AM
structure Act where
 Kind:Int
 Name:Int
 Profile:Int
 Way:List Move
 M:Move
 deriving Inhabited
@[simp] def Act.cells (a:Act):List AV:=[I a.Kind,I a.Name,I a.Profile,a4W a.Way,I a.M.Rail,Bo a.M.Back]
abbrev Act.av (a:Act):AV:= .agg a.cells
abbrev Ans:=Sta×b3t×Int
abbrev nay (x:Sta) (e:Int):Ans:=(x,⟨0,0⟩,e)
def b9Z (x:Sta) (c:Car):Sta:=⟨C1 x.Cars c,x.Points⟩
def b6r (x:Sta) (n:Int) (k:Car→Ans):Ans:=if inr n 1 1000000=false then nay x 2 else match a0g x.Cars n with
 |none=>nay x 4
 |some c=>k c
def c0v (s:j5) (x:Sta) (n:Int) (m:Move):Ans:=if inr n 1 1000000=false∨inr m.Rail 0 ((s.Plan.Rails.length:Int)-1)=false then nay x 2 else match a0g x.Cars n with
 |none=>nay x 4
 |some c=>if (s8 s x c m).Kind=0 then(⟨C1 x.Cars (p7 c m),a3d s c m x.Points⟩,⟨0,0⟩,0)else(x,s8 s x c m,if (s8 s x c m).Kind=1 then 7 else 6)
def goS (x:Sta) (n:Int):Ans:=b6r x n fun c=>if c.Front=(c.Way.length:Int)-1 then nay x 5 else(b9Z x {c with Front:=c.Front+1},⟨0,0⟩,0)
def a5U (x:Sta) (n:Int):Ans:=b6r x n fun c=>if c.Front=0 then nay x 5 else(b9Z x {c with Way:=c.Way.drop 1,Front:=c.Front-1},⟨0,0⟩,0)
def Q4 (n p:Int) (way:List Move):Car:=⟨n,p,[],(way.length:Int)-1⟩
def a2T (s:j5) (x:Sta) (n p:Int) (way:List Move):Ans:=if a1W s ⟨n,p,way,0⟩=false then nay x 2 else match a0g x.Cars n with
 |some _=>nay x 5
 |none=>if (E2 s x.Cars way x.Points (Q4 n p way)).1.Kind=0 then(⟨C1 x.Cars (E2 s x.Cars way x.Points (Q4 n p way)).2.2,(E2 s x.Cars way x.Points (Q4 n p way)).2.1⟩,⟨0,0⟩,0)else(x,(E2 s x.Cars way x.Points (Q4 n p way)).1,6)
theorem b1Q {P:Ans→Prop} {x:Sta} {n:Int} {k:Car→Ans} (h1:∀e,P (nay x e)) (h2:∀c,c∈x.Cars→c.Name=n→inr n 1 1000000=true→a0g x.Cars n=some c→P (k c)):P (b6r x n k):=by
 unfold b6r
 split
 ·exact h1 _
 ·rename_i hn
  split
  ·exact h1 _
  ·rename_i c hc;obtain⟨g1,g2⟩:=U7 hc;exact h2 c g1 g2 (by simpa using hn) hc
theorem b4I {s:j5} {x:Sta} (hx:a3w s x) {c:Car} (hc:c∈x.Cars):∀o∈x.Cars,o.Name=c.Name→o=c:=fun o ho e=>b6f hx.srt ho hc e
theorem c1j {p:Plan} {m:Move}:D3 p m=inr m.Rail 0 ((p.Rails.length:Int)-1):=rfl
theorem b3W {s:j5} (hs:P7 s=true) {x:Sta} (hx:a3w s x) {c:Car} (hc:c∈x.Cars) {way:List Move} {f:Int} (h1:1≤way.length) (hw:wayB s.Plan way=true) (hsub:way.Sublist c.Way) (hl:∀y∈X5 s.Plan way (way.length-1),y∈X5 s.Plan c.Way (c.Way.length-1)) (hf:0≤f∧f≤(way.length:Int)-1):a3w s (b9Z x {c with Way:=way,Front:=f}):=by
 have hck:=hx.carOk hc;have h2:=b1S hs hck (way:=way) (f:=f) (fun _=>hw) hsub hl;obtain⟨n1,p1,⟨_,k2,_,_⟩,_⟩:=o5 (hx.car c hc);refine b3y hx h2 ?_;simp only[a1W,a9Y,Bool.and_eq_true,decide_eq_true_eq,g6];exact⟨n1,p1,⟨h1,Nat.le_trans hsub.length_le k2,h2.nod,hw⟩,hf⟩
theorem c4k {s:j5} (hs:P7 s=true) {x:Sta} (hx:a3w s x) (n:Int):a3w s (goS x n).1:=by
 unfold goS;refine b1Q (P:=fun q=>a3w s q.1) (fun _=>hx) fun c hc _ _ _=>?_
 split
 ·exact hx
 ·rename_i h;obtain⟨_,_,⟨k1,k2,k3,k4⟩,f1,f2⟩:=o5 (hx.car c hc);exact b3W hs hx hc k1 k4 (List.Sublist.refl _) (fun _ h=>h) ⟨by omega,by omega⟩
theorem b7V {s:j5} (hs:P7 s=true) {x:Sta} (hx:a3w s x) (n:Int):a3w s (a5U x n).1:=by
 unfold a5U;refine b1Q (P:=fun q=>a3w s q.1) (fun _=>hx) fun c hc _ _ _=>?_
 split
 ·exact hx
 ·rename_i h;obtain⟨_,_,⟨k1,k2,k3,k4⟩,f1,f2⟩:=o5 (hx.car c hc);exact b3W hs hx hc (by rw[List.length_drop];omega) (b6w k4 (by omega)) (List.drop_sublist _ _) (fun _ h=>c1y h) ⟨by omega,by rw[List.length_drop];omega⟩
theorem c3u {s:j5} (hs:P7 s=true) {x:Sta} (hx:a3w s x) (n:Int) (m:Move):a3w s (c0v s x n m).1:=by
 unfold c0v
 split
 ·exact hx
 ·rename_i h0
  split
  ·exact hx
  ·rename_i c hc;obtain⟨hc,hn⟩:=U7 hc
   split
   ·rename_i hr;have hm:D3 s.Plan m=true:=by rw[c1j];cases h:inr m.Rail 0 ((s.Plan.Rails.length:Int)-1)with|true=>rfl|false=>exact absurd (Or.inr h) h0
    have hfr:=a4D hr;obtain⟨g1,g2⟩:=b1E hs hx (hx.carOk hc) (b4I hx hc) hm hfr;obtain⟨n1,p1,⟨k1,k2,k3,k4⟩,f1,f2⟩:=o5 (hx.car c hc);refine b3y g1 g2 ?_;have hgl:(p7 c m).Way.length=c.Way.length+1:=by simp[p7]
    simp only[a1W,a9Y,Bool.and_eq_true,decide_eq_true_eq,g6];refine⟨n1,p1,⟨by omega,by have:=hfr.long;omega,g2.nod,g2.way (by intro e;rw[e]at hgl;simp at hgl)⟩,f1,?_⟩;show c.Front≤_;omega
   ·exact hx
theorem a8U {s:j5} (hs:P7 s=true) {cs:List Car}:∀(l:List Move) (ps:List Int) (c:Car),a3w s ⟨cs,ps⟩→a4p s ⟨cs,ps⟩ c→(∀o∈cs,o.Name≠c.Name)→(∀m∈l,D3 s.Plan m=true)→(E2 s cs l ps c).1.Kind=0→
  a3w s ⟨cs,(E2 s cs l ps c).2.1⟩∧a4p s ⟨cs,(E2 s cs l ps c).2.1⟩ (E2 s cs l ps c).2.2∧(E2 s cs l ps c).2.2={c with Way:=c.Way++l}
 |[],ps,c,h1,h2,_,_,_=>⟨h1,h2,by simp[E2]⟩
 |m::l,ps,c,h1,h2,h3,h4,h5=>by
  rw[E2]at h5 ⊢
  split at h5
  ·rename_i hr;rw[if_pos hr];obtain⟨g1,g2⟩:=b1E hs h1 h2 (fun o ho e=>absurd e (h3 o ho)) (h4 m (by simp)) (a4D hr);obtain⟨q1,q2,q3⟩:=a8U hs l (a3d s c m ps) (p7 c m) g1 g2 h3 (fun k hk=>h4 k (by simp[hk])) h5;refine⟨q1,q2,?_⟩;rw[q3];simp[p7]
  ·rename_i hr;exact absurd h5 hr
theorem b8e {s:j5} (hs:P7 s=true) {x:Sta} (hx:a3w s x) (n p:Int) (way:List Move):a3w s (a2T s x n p way).1:=by
 unfold a2T
 split
 ·exact hx
 rename_i hc
 split
 ·exact hx
 rename_i hn
 split
 ·rename_i hk;have hc:a1W s ⟨n,p,way,0⟩=true:=by simpa using hc
  obtain⟨n1,p1,⟨k1,k2,k3,k4⟩,f1,f2⟩:=o5 hc;obtain⟨q1,q2,q3⟩:=a8U hs way x.Points (Q4 n p way) hx (b6d s x _ _ _) (fun o ho e=>(a4n.1 hn) o ho e) (fun m hm=>by
   obtain⟨i,hi,rfl⟩:=List.getElem_of_mem hm;have:=J9 k4 i hi;unfold C3 at this;rw[List.getElem?_eq_getElem hi]at this;exact this) hk
  refine b3y q1 q2 ?_;rw[q3];have e:({Q4 n p way with Way:=(Q4 n p way).Way++way}:Car)=⟨n,p,way,(way.length:Int)-1⟩:=by simp[Q4]
  rw[e];simp only[a1W,a9Y,Bool.and_eq_true,decide_eq_true_eq,g6];simp only at k1 k2 k3 k4;exact⟨n1,p1,⟨k1,k2,k3,k4⟩,by omega,by omega⟩
 ·exact hx
end Go.Tram.Lk
end
section
namespace Go.Tram.Lk
open Go.AM Go.Proofs
def a1a (l:List Car) (i:Nat):Car:=l[i]?.getD default
def a8i (pts:List Int) (y:R0):Bool:=decide (pts[y.Node.toNat]?.getD 0=y.Leg)
def a8x (s:j5) (c x:Car):Bool:= !decide (x.Name=c.Name)&&a0Q s x c
def b6t (s:j5) (cars:List Car) (pts:List Int) (i:Nat):Bool:=a1W s (a1a cars i)&&((cars.take i).all (a8x s (a1a cars i))&&(F0 s (a1a cars i)).all (a8i pts))
def P5 (s:j5) (cars:List Car) (pts:List Int):Bool:=decide (cars.length≤100)&&(a5u s.Plan pts&&(List.range cars.length).all (b6t s cars pts))
theorem C5 {p:Nat→Bool} {k:Nat} (h:(List.range k).all p=true) (hp:p k=true):(List.range (k+1)).all p=true:=by
 rw[List.range_succ,List.all_append,h];simp[hp]
theorem X8 {p:Nat→Bool} {n k:Nat} (hk:k<n) (hp:p k=false):(List.range n).all p=false:=by
 rw[List.all_eq_false];exact⟨k,List.mem_range.2 hk,by simp[hp]⟩
theorem b7s (s:j5) (cars:List Car) (pts:List Int) (h:P7 s=false) (hN:s.Plan.Rails.length≤20) (hp:s.Profiles.length≤100000) (hm:∀x∈s.Singles,x.length≤100000):a8 Tryz.prog 17 [s.av, .lst 4 (cars.map Car.cells), .lst 1 (pts.map g8)] (Bo false):=by
 have ho:=c_open_f s h hN hp hm;refine oB Tryz.func17 Tryz.ntmps17 Tryz.results17 ?_;refine aW ?_;refine aW ?_ fun K hK=>by simp -dsimp;refine cI (ho) ?_;simp -dsimp;exact hK
 refine a5 fun K1 hK1=>?_;refine aW ?_;refine a6 rfl (fun hc0=>?_) (fun hc0=>?_)
 ·refine aW ?_;exact a7 (by simp)
 ·simp at hc0
theorem c3g {s:j5} (h:P7 s=true):b2l s (a5x s) (W3 (B3 s)) (a0H (B3 s)):=by
 obtain⟨_,_,_,h4⟩:=o7 h;simp only[a7s,Bool.and_eq_true,decide_eq_true_eq]at h4;exact c4q h4.2.2
theorem a5G {p:Plan} {k:Nat} (h:k<p.Nodes.length):(z7 p)[k]?=some (if (p.node k).Kind=4 then 1 else 0):=by
 unfold z7 Plan.node;rw[List.getElem?_map,List.getElem?_eq_getElem h];simp[h]
theorem b8c (s:j5) (cars:List Car) (pts:List Int) (h:P7 s=true) (hN:s.Plan.Rails.length≤20) (hc:cars.length≤1000) (hw:∀c∈cars,c.Way.length≤1000) (hpn:pts.length≤1000) (hpb:∀x∈pts,-9223372036854775808≤x∧x≤9223372036854775807):
  a8 Tryz.prog 17 [s.av, .lst 4 (cars.map Car.cells), .lst 1 (pts.map g8)] (Bo (P5 s cars pts)):=by
 have ho:a8 Tryz.prog 31 [s.av] (.tup [.iptr (d6 s (a5x s) (W3 (B3 s)) (a0H (B3 s)) (.mpc true X6 []) (.mpc true X6 [])),Bo true]):=(b1g s h hN).pure (by simp[frz,g7,d6]);have hru:=c3g h;obtain⟨hv,hpf,_,_⟩:=o7 h;have hpl:s.Profiles.length≤100000:=by simp only[D5,Bool.and_eq_true,decide_eq_true_eq]at hpf;omega
 have hNl:1≤s.Plan.Nodes.length∧s.Plan.Nodes.length≤300:=(j7 hv).1;have hpt:=b8G s hv (a5x s) (W3 (B3 s)) (a0H (B3 s)) (.mpc true X6 []) (.mpc true X6 []);have hcar:=fun c hl=>b0M s (a5x s) (W3 (B3 s)) (a0H (B3 s)) (.mpc true X6 []) (.mpc true X6 []) c hv hpl hl;have hap:=fun a b ha hb=>b6u hru (.mpc true X6 []) (.mpc true X6 []) a b ha hb;have hlg:=fun c hw=>c3j hv (a5x s) (W3 (B3 s)) (a0H (B3 s)) (.mpc true X6 []) (.mpc true X6 []) c hw;have hfl:(z7 s.Plan).length=s.Plan.Nodes.length:=by simp[z7]
 have hfg:=fun k=>a5G (p:=s.Plan) (k:=k);have hwi:=fun x:Int=>s7 x 1 2;generalize a5x s=fo at*
 generalize W3 (B3 s)=si at*
 generalize a0H (B3 s)=up at*
 unfold d6 at*
 generalize z7 s.Plan=fp at*
 refine oB Tryz.func17 Tryz.ntmps17 Tryz.results17 ?_;refine aW ?_;refine aW ?_ fun K hK=>by simp -dsimp;refine cI (ho) ?_;simp -dsimp;exact hK
 refine a5 fun K1 hK1=>?_;refine aW ?_;refine a6 rfl (fun hc0=>?_) (fun hc0=>?_)
 ·have hf:P5 s cars pts=false:=by
   simp at hc0;unfold P5 a5u
   rcases hc0 with hc0|hc0
   ·rw[decide_eq_false (by omega)];rfl
   ·rw[decide_eq_false (p:=pts.length=s.Plan.Nodes.length) (by omega)];simp
  refine aW ?_;exact a7 (by simp[hf])
 ·have h0:cars.length≤100∧pts.length=s.Plan.Nodes.length:=by simp at hc0;omega
  refine b8 ?_;refine zQ (hK1 _ _ ?_);refine aP [1,2,7] ?_;refine a5 fun K2 hK2=>?_;refine aW ?_ fun K hK=>by simp -dsimp;refine cI (hpt) ?_;simp -dsimp;exact hK
  refine a9 ?_;refine aP [1,2,7,39,40,41] ?_;refine c5 [1,2,7,39,40] (α:=Nat) (fun k=>[(41,I k)]) (fun k=>[some (.els 4 [s.cells])]) (fun k=>k≤pts.length∧((List.range k).all fun i=>ptB (s.Plan.node i) (pts[i]?.getD 0))=true) (fun k=>pts.length-k) 0 ?_ ?_ ?_
  ·exact⟨Nat.zero_le _,by simp⟩
  ·exact c7 (by simp)
  rintro k ⟨k1,k2⟩;refine zN ?_;refine aW ?_;refine a5 fun K3 hK3=>?_;refine a6 rfl (fun hc1=>?_) (fun hc1=>?_)
  ·have hk:k<pts.length:=by simp[hfl]at hc1;omega
   obtain⟨x,hx⟩:=gx (l:=pts) (i:=k) hk;have hxe:=(List.getElem?_eq_some_iff.1 hx).2;have hg:=hfg k (by omega);have wk:=zW k (by omega);have hkp:ptB (s.Plan.node k) (pts[k]?.getD 0)=if (s.Plan.node k).Kind=4 then inr x 1 2 else decide (x=0):=by rw[hx];rfl
   refine b8 ?_;refine zQ (hK3 _ _ ?_);refine aP [1,2,7,39,40,41] ?_;refine a5 fun K4 hK4=>?_;refine a9 ?_;refine aW ?_ fun K hK=>by simp -dsimp [hg];exact hK
   refine aW ?_ fun K hK=>by simp -dsimp [hx,hk,hxe];refine k7 (g8 x) (fun _=>by simp[hx]) ?_;simp -dsimp [hx,hk,hxe];refine k7 (g8 x) (fun _=>by simp[hx]) ?_;simp -dsimp [hx,hk,hxe];refine cY (fun hm=>hwi x) ?_;simp -dsimp [hx,hk,hxe];exact hK
   refine a6 rfl (fun hc2=>?_) (fun hc2=>?_)
   ·have hpx:ptB (s.Plan.node k) (pts[k]?.getD 0)=false:=by
     rw[hkp]
     by_cases hq:(s.Plan.node k).Kind=4<;>simp[hq]at hc2 ⊢
     ·exact hc2
     ·exact hc2
    have hf:P5 s cars pts=false:=by
     unfold P5 a5u;rw[X8 hk hpx];simp
    refine aW ?_;exact a7 (by simp[hf])
   ·have hpx:ptB (s.Plan.node k) (pts[k]?.getD 0)=true:=by
     rw[hkp]
     by_cases hq:(s.Plan.node k).Kind=4<;>simp[hq]at hc2 ⊢
     ·exact hc2
     ·exact hc2
    refine b8 ?_;refine zQ (hK4 _ _ ?_);refine aP [1,2,7,39,40,41] ?_;refine aV ?_ fun K hK=>by simp -dsimp [wk];exact hK
    refine zQ ?_;exact⟨k+1,⟨by omega,C5 k2 hpx⟩,by omega,aB [some 0]⟩
  ·have hke:k=pts.length:=by simp[hfl]at hc1;omega
   subst hke;have hpts:a5u s.Plan pts=true:=by unfold a5u;rw[k2,decide_eq_true h0.2];rfl
   refine c9 ?_;refine zQ (hK2 _ _ ?_);refine aP [1,2,7] ?_;refine a5 fun K5 hK5=>?_;refine aW ?_;refine a9 ?_;refine aP [1,2,7,68,69,70] ?_;refine c5 [1,2,7,68,69] (α:=Nat) (fun k=>[(70,I k)]) (fun k=>[some (.els 4 [s.cells])]) (fun k=>k≤cars.length∧(List.range k).all (b6t s cars pts)=true) (fun k=>cars.length-k) 0 ?_ ?_ ?_
   ·exact⟨Nat.zero_le _,by simp⟩
   ·exact c7 (by simp)
   rintro k ⟨k1,k3⟩;refine zN ?_;refine aW ?_;refine a5 fun K6 hK6=>?_;refine a6 rfl (fun hc3=>?_) (fun hc3=>?_)
   ·have hk:k<cars.length:=by simp at hc3;omega
    obtain⟨c,hcg⟩:=gx (l:=cars) (i:=k) hk;have hca:a1a cars k=c:=by unfold a1a;rw[hcg];rfl
    have hcl:=hw c (List.mem_of_getElem? hcg);have wk:=zW k (by omega);have hrf:b6t s cars pts k=false→P5 s cars pts=false:=by
     intro h1;unfold P5;rw[X8 hk h1];simp
    refine b8 ?_;refine zQ (hK6 _ _ ?_);refine aP [1,2,7,68,69,70] ?_;refine a5 fun K7 hK7=>?_;refine a9 ?_;refine aW ?_ fun K hK=>by simp -dsimp [hcg];exact hK
    refine a5 fun K8 hK8=>?_;refine aW ?_ fun K hK=>by simp -dsimp;refine cI (hcar c hcl) ?_;simp -dsimp;exact hK
    refine a6 rfl (fun hc4=>?_) (fun hc4=>?_)
    ·have hcb:a1W s c=false:=by simpa using hc4
     have hf:=hrf (by unfold b6t;rw[hca,hcb];rfl);refine aW ?_;exact a7 (by simp[hf])
    ·have hcb:a1W s c=true:=by simpa using hc4
     refine b8 ?_;refine zQ (hK8 _ _ ?_);refine aP [1,2,7,11,12,68,69,70] ?_;refine a5 fun K9 hK9=>?_;refine aW ?_ fun K hK=>by simp -dsimp [k1];exact hK
     refine a9 ?_;refine aP [1,2,7,12,68,69,70,81,82,83] ?_;refine c5 [1,2,7,12,68,69,70,81,82] (α:=Nat) (fun j=>[(83,I j)]) (fun j=>[some (.els 4 [s.cells]),some (.els 4 [c.cells])]) (fun j=>j≤k∧((cars.take j).all (a8x s c))=true) (fun j=>k-j) 0 ?_ ?_ ?_
     ·exact⟨Nat.zero_le _,by simp⟩
     ·exact c7 (by simp)
     rintro j ⟨j1,j2⟩;refine zN ?_;refine aW ?_;refine a5 fun K10 hK10=>?_;refine a6 rfl (fun hc5=>?_) (fun hc5=>?_)
     ·have hj:j<k:=by simp at hc5;omega
      obtain⟨x,hxg⟩:=gx (l:=cars) (i:=j) (by omega);have hxl:=hw x (List.mem_of_getElem? hxg);have wj:=zW j (by omega);have hxt:(cars.take k)[j]?=some x:=by rw[List.getElem?_take,if_pos hj];exact hxg
      refine b8 ?_;refine zQ (hK10 _ _ ?_);refine aP [1,2,7,12,68,69,70,81,82,83] ?_;refine a5 fun K11 hK11=>?_;refine a9 ?_;refine aW ?_ fun K hK=>by simp -dsimp [hxg,hj];exact hK
      refine aW ?_ fun K hK=>by simp -dsimp;refine cY (fun hm=>hap x c hxl hcl) ?_;simp -dsimp;exact hK
      refine a6 rfl (fun hc6=>?_) (fun hc6=>?_)
      ·have hpb2:a8x s c x=false:=by
        unfold a8x;simp at hc6 ⊢;intro hq;exact hc6.resolve_left hq
       have hf:=hrf (by unfold b6t;rw[hca,O9 hxt hpb2];simp);refine aW ?_;exact a7 (by simp[hf])
      ·have hpb2:a8x s c x=true:=by
        unfold a8x;simpa using hc6
       refine b8 ?_;refine zQ (hK11 _ _ ?_);refine aP [1,2,7,12,68,69,70,81,82,83] ?_;refine aV ?_ fun K hK=>by simp -dsimp [wj];exact hK
       refine zQ ?_;exact⟨j+1,⟨by omega,r6 hxg j2 hpb2⟩,by omega,aB [some 0,some 1]⟩
     ·have hje:j=k:=by simp at hc5;omega
      subst hje;have hwb:=(o5 hcb).2.2.1.2.2.2;refine c9 ?_;refine zQ (hK9 _ _ ?_);refine aP [1,2,7,12,68,69,70] ?_;refine aW ?_ fun K hK=>by simp -dsimp;refine cI (hlg c hwb) ?_;simp -dsimp;exact hK
      refine a9 ?_;refine aP [1,2,7,68,69,70,102,103,104] ?_;refine c5 [1,2,7,68,69,70,102,103] (α:=Nat) (fun n=>[(104,I n)]) (fun n=>[some (.els 4 [s.cells]),some (.els 4 [c.cells])]) (fun n=>n≤(F0 s c).length∧(((F0 s c).take n).all (a8i pts))=true) (fun n=>(F0 s c).length-n) 0 ?_ ?_ ?_
      ·exact⟨Nat.zero_le _,by simp⟩
      ·exact c7 (by simp)
      rintro n ⟨n1,n2⟩;refine zN ?_;refine aW ?_;refine a5 fun K12 hK12=>?_;refine a6 rfl (fun hc7=>?_) (fun hc7=>?_)
      ·have hn:n<(F0 s c).length:=by simp at hc7;omega
       obtain⟨y,hyg⟩:∃y,(F0 s c)[n]?=some y:=⟨_,List.getElem?_eq_getElem hn⟩;have hyl:=b5W h hwb (by rw[←O2 hwb];exact List.mem_of_getElem? hyg);obtain⟨v,hvg⟩:∃v,pts[y.Node.toNat]?=some v:=⟨_,List.getElem?_eq_getElem (by omega)⟩;have hll:(F0 s c).length≤1000:=by rw[O2 hwb];have:=a3p s.Plan c.Way (c.Way.length-1);omega
       have wn:=zW n (by omega);have hyp:0≤y.Node∧y.Node<pts.length:=by omega
       have hlb:a8i pts y=decide (v=y.Leg):=by unfold a8i;rw[hvg];rfl
       refine b8 ?_;refine zQ (hK12 _ _ ?_);refine aP [1,2,7,68,69,70,102,103,104] ?_;refine a5 fun K13 hK13=>?_;refine a9 ?_;refine aW ?_ fun K hK=>by simp -dsimp [hyg];exact hK
       refine aD ?_ fun K hK=>by simp -dsimp [hvg,hyp.1,hyp.2];exact hK
       refine a6 rfl (fun hc8=>?_) (fun hc8=>?_)
       ·have hve:=(List.getElem?_eq_some_iff.1 hvg).2;have hl2:a8i pts y=false:=by rw[hlb];simpa [hve]using hc8
        have hf:=hrf (by unfold b6t;rw[hca,O9 hyg hl2];simp);refine aW ?_;exact a7 (by simp[hf])
       ·have hve:=(List.getElem?_eq_some_iff.1 hvg).2;have hl2:a8i pts y=true:=by rw[hlb];simpa [hve]using hc8
        refine b8 ?_;refine zQ (hK13 _ _ ?_);refine aP [1,2,7,68,69,70,102,103,104] ?_;refine aV ?_ fun K hK=>by simp -dsimp [wn];exact hK
        refine zQ ?_;exact⟨n+1,⟨by omega,r6 hyg n2 hl2⟩,by omega,aB [some 0,some 1]⟩
      ·have hne:n=(F0 s c).length:=by simp at hc7;omega
       subst hne;rw[List.take_length]at n2;refine c9 ?_;refine zQ (hK7 _ _ ?_);refine aP [1,2,7,68,69,70] ?_;refine aV ?_ fun K hK=>by simp -dsimp [wk];exact hK
       refine zQ ?_;exact⟨j+1,⟨by omega,C5 k3 (by unfold b6t;rw[hca,hcb,j2,n2];rfl)⟩,by omega,aB [some 0]⟩
   ·have hke:k=cars.length:=by simp at hc3;omega
    subst hke;refine c9 ?_;refine zQ (hK5 _ _ ?_);refine aP [] ?_;refine aW ?_;exact a7 (by simp[P5,h0.1,hpts,k3])
end Go.Tram.Lk
end
section
namespace Go.Tram.Lk
open Go.AM Go.Proofs
def LvT (f:FuncId) (args:List AV) (s:j5) (x:Sta) (nx nd:n5) (res:AV) (y:Sta) (M:n5×n5):Prop:=
 c8 Tryz.prog f (.ptr 0 0 0::args) lkK (lkD s (a5x s) (W3 (B3 s)) (a0H (B3 s)) nx nd x.Cars x.Points) res lkK (lkD s (a5x s) (W3 (B3 s)) (a0H (B3 s)) M.1 M.2 y.Cars y.Points)
abbrev c5k (q:Ans):AV:= .tup [R8 q.2.1,I q.2.2]
abbrev c2m (q:Ans):AV:=I q.2.2
structure b9g (s:j5) (x:Sta):Prop where
 set:P7 s=true
 st:a3w s x
 few:x.Cars.length≤99
 rl:s.Plan.Rails.length≤1000
section
variable {s:j5} {x:Sta} (h:b9g s x) (nx nd:n5)
include h
theorem b9g.cs:b6s s x.Cars:=⟨h.st.srt,by have:=h.few;omega,h.st.car⟩
theorem b9g.pl:x.Points.length=s.Plan.Nodes.length:=by
 have:=h.st.pts;simp only[a5u,Bool.and_eq_true,decide_eq_true_eq]at this;exact this.1
theorem b9p (n:Int) (m:Move):∃M,LvT 21 [I n,m.av] s x nx nd (c5k (c0v s x n m)) (c0v s x n m).1 M:=by
 unfold LvT c0v;have hR:=h.rl
 cases hn:inr n 1 1000000 with
 |false=>
  rw[if_pos (Or.inl rfl)];exact⟨(nx,nd),c1N s _ _ _ nx nd x.Cars x.Points m (Or.inr rfl) (a2i s _ _ _ nx nd x.Cars x.Points n hn)⟩
 | true=>
  cases hr:inr m.Rail 0 ((s.Plan.Rails.length:Int)-1)with
  |false=>
   rw[if_pos (Or.inr rfl)]
   cases hc:a0g x.Cars n with
   |none=>exact⟨(nx,nd),b8h s _ _ _ nx nd x.Cars x.Points default m hR hr (V1 s _ _ _ nx nd x.Cars x.Points n hn hc)⟩
   |some c=>exact⟨(nx,nd),b7U s _ _ _ nx nd x.Cars x.Points c m hR hr (a1U s _ _ _ nx nd x.Cars x.Points n hn hc)⟩
  | true=>
   rw[if_neg (by simp)]
   cases hc:a0g x.Cars n with
   |none=>exact⟨(nx,nd),c0R s _ _ _ nx nd x.Cars x.Points m hR hr (V1 s _ _ _ nx nd x.Cars x.Points n hn hc)⟩
   | some c=>
    have hf:=a1U s (a5x s) (W3 (B3 s)) (a0H (B3 s)) nx nd x.Cars x.Points n hn hc;obtain⟨hcm,hcn⟩:=U7 hc;obtain⟨_,_,⟨k1,k2,k3,k4⟩,_⟩:=o5 (h.st.car c hcm);have hne:c.Way≠[]:=by intro e;rw[e]at k1;simp at k1
    have hm:D3 s.Plan m=true:=hr;simp only
    split
    ·rename_i hk;obtain⟨a,b,hg⟩:=a4s (c3g h.set) h.cs nx nd h.set h.pl (fun _=>k4) hm (by omega) hne hk;exact⟨(a,b),b7O s _ _ _ nx nd x.Cars x.Points hcn h.st.srt hR hr hf hg⟩
    ·rename_i hk;obtain⟨a,b,hg⟩:=a4x (c3g h.set) h.cs nx nd h.set h.pl (fun _=>k4) hm (by omega) hne hk;refine⟨(a,b),?_⟩
     split
     ·rename_i h1;exact c0z s _ _ _ nx nd x.Cars x.Points h1 hR hr hf hg
     ·rename_i h1;exact c0i s _ _ _ nx nd x.Cars x.Points ⟨hk,h1⟩ hR hr hf hg
theorem c1K (n:Int) (k:Car→Ans) (hk:∀c,c∈x.Cars→c.Name=n→inr n 1 1000000=true→a0g x.Cars n=some c→∃M,LvT 29 [I n] s x nx nd (c2m (k c)) (k c).1 M):∃M,LvT 29 [I n] s x nx nd (c2m (b6r x n k)) (b6r x n k).1 M:=by
 have _:=h;unfold b6r
 cases hn:inr n 1 1000000 with
 |false=>
  rw[if_pos rfl];exact⟨(nx,nd),b9f s _ _ _ nx nd x.Cars x.Points (e:=2) (by decide) (a2i s _ _ _ nx nd x.Cars x.Points n hn)⟩
 |true=>
  rw[if_neg (by simp)]
  cases hc:a0g x.Cars n with
  |none=>exact⟨(nx,nd),b9f s _ _ _ nx nd x.Cars x.Points (e:=4) (by decide) (V1 s _ _ _ nx nd x.Cars x.Points n hn hc)⟩
  |some c=>obtain⟨g1,g2⟩:=U7 hc;exact hk c g1 g2 hn hc
theorem b2O (n:Int) (k:Car→Ans) (hk:∀c,c∈x.Cars→c.Name=n→inr n 1 1000000=true→a0g x.Cars n=some c→∃M,LvT 30 [I n] s x nx nd (c2m (k c)) (k c).1 M):∃M,LvT 30 [I n] s x nx nd (c2m (b6r x n k)) (b6r x n k).1 M:=by
 have _:=h;unfold b6r
 cases hn:inr n 1 1000000 with
 |false=>
  rw[if_pos rfl];exact⟨(nx,nd),a8p s _ _ _ nx nd x.Cars x.Points (e:=2) (by decide) (a2i s _ _ _ nx nd x.Cars x.Points n hn)⟩
 |true=>
  rw[if_neg (by simp)]
  cases hc:a0g x.Cars n with
  |none=>exact⟨(nx,nd),a8p s _ _ _ nx nd x.Cars x.Points (e:=4) (by decide) (V1 s _ _ _ nx nd x.Cars x.Points n hn hc)⟩
  |some c=>obtain⟨g1,g2⟩:=U7 hc;exact hk c g1 g2 hn hc
theorem c4G (n:Int):∃M,LvT 29 [I n] s x nx nd (c2m (goS x n)) (goS x n).1 M:=by
 refine c1K h nx nd n _ fun c hc hcn hn hck=>?_;have hf:=a1U s (a5x s) (W3 (B3 s)) (a0H (B3 s)) nx nd x.Cars x.Points n hn hck;obtain⟨_,_,⟨k1,k2,k3,k4⟩,f1,f2⟩:=o5 (h.st.car c hc)
 split
 ·rename_i hfr;exact⟨(nx,nd),c3a s _ _ _ nx nd x.Cars x.Points (by omega) k1 hfr hf⟩
 ·rename_i hfr;exact⟨(nx,nd),b9H s _ _ _ nx nd x.Cars x.Points (by omega) k1 ⟨f1,by omega⟩ hfr hcn h.st.srt hf⟩
theorem b1f (n:Int):∃M,LvT 30 [I n] s x nx nd (c2m (a5U x n)) (a5U x n).1 M:=by
 refine b2O h nx nd n _ fun c hc hcn hn hck=>?_;have hf:=a1U s (a5x s) (W3 (B3 s)) (a0H (B3 s)) nx nd x.Cars x.Points n hn hck;obtain⟨_,_,⟨k1,k2,k3,k4⟩,f1,f2⟩:=o5 (h.st.car c hc)
 split
 ·rename_i hfr;exact⟨(nx,nd),b4Y s _ _ _ nx nd x.Cars x.Points hfr hf⟩
 ·rename_i hfr;exact⟨(nx,nd),b3b s _ _ _ nx nd x.Cars x.Points (by omega) ⟨f1,by omega⟩ hfr hcn h.st.srt hf⟩
theorem b1F (n p:Int) (way:List Move) (hl:way.length≤1000):∃M,LvT 28 [I n,I p,a4W way] s x nx nd (c5k (a2T s x n p way)) (a2T s x n p way).1 M:=by
 obtain⟨hv,hpf,_,_⟩:=o7 h.set;have hpl:s.Profiles.length≤100000:=by simp only[D5,Bool.and_eq_true,decide_eq_true_eq]at hpf;omega
 unfold a2T
 cases hc:a1W s ⟨n,p,way,0⟩with
 |false=>
  rw[if_pos rfl];exact⟨(nx,nd),b5k s _ _ _ nx nd x.Cars x.Points n p way hv hpl hl hc⟩
 | true=>
  rw[if_neg (by simp)]
  cases hm:a0g x.Cars n with
  |some c1=>exact⟨(nx,nd),b3Y s _ _ _ nx nd x.Cars x.Points n p way hv hpl hl hc hm⟩
  | none=>
   simp only
   split
   ·rename_i hk;refine⟨_,b3Z (c3g h.set) nx nd h.cs h.set h.pl hpl hc hm (by have:=h.few;omega) (c0:=Q4 n p way) rfl (M:=_) rfl (fun r1 ps1 c1 he hne=>?_) (fun ps1 c1 he=>?_)⟩
    ·rw[he]at hk;exact absurd hk hne
    ·rw[he];exact⟨rfl,rfl,rfl,rfl⟩
   ·rename_i hk;refine⟨_,b3Z (c3g h.set) nx nd h.cs h.set h.pl hpl hc hm (by have:=h.few;omega) (c0:=Q4 n p way) rfl (M:=_) rfl (fun r1 ps1 c1 he hne=>?_) (fun ps1 c1 he=>?_)⟩
    ·rw[he];exact⟨rfl,rfl,rfl,rfl⟩
    ·rw[he]at hk;exact absurd rfl hk
end
end Go.Tram.Lk
end
section
namespace Go.Tram.Lk
open Go.AM Go.Proofs
theorem c3Q {s:j5} (h:P7 s=true):a3w s ⟨[],z7 s.Plan⟩:=by
 refine⟨List.Pairwise.nil,by simp,?_,by simp,by simp⟩;unfold a5u;simp only[Bool.and_eq_true,decide_eq_true_eq,List.all_eq_true,List.mem_range];have hl:(z7 s.Plan).length=s.Plan.Nodes.length:=by simp[z7]
 refine⟨hl,fun i hi=>?_⟩;rw[a5G (by omega)];unfold ptB;simp only[Option.getD_some]
 split<;>simp[inr]
theorem ex_foul:G0 E5 1 0 0 0=true:=by
 have h:(⟨0,0,1,0⟩:F8)∈A2 j8 [⟨100,0⟩]:=b2G (p:=j8) (x:=⟨100,0⟩) (a:=0) (b:=1) b1y (by decide+kernel) (by decide) (by decide+kernel) (by decide+kernel);unfold G0;rw[List.any_eq_true];exact⟨_,h,by decide⟩
def b6o:Sta:=⟨[⟨7,0,[⟨0,false⟩],0⟩],[0,1,0,0]⟩
def b6z:Sta:=⟨[⟨7,0,[⟨0,false⟩,⟨2,false⟩],0⟩],[0,2,0,0]⟩
def c3Y:Sta:=⟨[⟨7,0,[⟨0,false⟩,⟨2,false⟩],1⟩],[0,2,0,0]⟩
def c3p:Sta:=⟨[⟨7,0,[⟨2,false⟩],0⟩],[0,2,0,0]⟩
theorem c4N:a2T E5 ⟨[],z7 j8⟩ 7 0 [⟨0,false⟩]=(b6o,⟨0,0⟩,0):=by decide+kernel
theorem c4L:a2T E5 b6o 8 0 [⟨1,true⟩]=(b6o,⟨3,7⟩,6):=by
 have hr:s8 E5 ⟨b6o.Cars,b6o.Points⟩ (Q4 8 0 [⟨1,true⟩]) ⟨1,true⟩=⟨3,7⟩:=by
  have h1:endB E5 (Q4 8 0 [⟨1,true⟩]) ⟨1,true⟩=false:=by decide+kernel
  have h2:b6h (Q4 8 0 [⟨1,true⟩]) ⟨1,true⟩=false:=by decide+kernel
  unfold s8;rw[h1,h2];simp[a5k,b6o,Q4,ex_foul]
 have hc:a1W E5 ⟨8,0,[⟨1,true⟩],0⟩=true:=by decide+kernel
 have hk:a0g b6o.Cars 8=none:=by decide+kernel
 unfold a2T;rw[if_neg (by simp[hc]),hk];simp only[E2,hr];simp
theorem c4O:c0v E5 b6o 7 ⟨2,false⟩=(b6z,⟨0,0⟩,0):=by decide+kernel
theorem c4j:c0v E5 b6z 7 ⟨1,false⟩=(b6z,⟨1,0⟩,7):=by decide+kernel
theorem c6r:goS b6z 7=(c3Y,⟨0,0⟩,0):=by decide+kernel
theorem c4t:a5U c3Y 7=(c3p,⟨0,0⟩,0):=by decide+kernel
theorem c4K:a5U c3p 7=(c3p,⟨0,0⟩,5):=by decide+kernel
theorem b8i {w:World} {S:Nat→Prop} {sz:Nat} {els:List (List AV)} {y:Value} (h:q9 w S (.full sz els) y):q9 w S (.lst sz els) y:=by
 cases h with
 |full _ _ b off vs hS hb hel hl hv h=>exact .lst _ _ b off _ vs hS hb (Nat.le_refl _) hel hl hv h
theorem b9z {f:FuncId} {a b c:AV} {els:List (List AV)} {Hk Hd Hk' Hn:Hp} {res:AV} (h:c8 Tryz.prog f [a,b,c, .lst 2 els] Hk Hd res Hk' Hn):c8 Tryz.prog f [a,b,c, .full 2 els] Hk Hd res Hk' Hn:=by
 refine b5b h rfl fun i x x' h1 h2=>?_
 match i,h1,h2 with
 |0,h1,h2=>simp at h1 h2;subst h1 h2;exact Or.inl rfl
 |1,h1,h2=>simp at h1 h2;subst h1 h2;exact Or.inl rfl
 |2,h1,h2=>simp at h1 h2;subst h1 h2;exact Or.inl rfl
 |3,h1,h2=>simp at h1 h2;subst h1 h2;exact Or.inr ⟨rfl,fun w S y hy=>b8i hy⟩
 |n+4,h1,h2=>simp at h1
theorem b2V:a8 Tryz.prog 27 [] b4D:=by
 have h:=b2d;unfold Plan.av Plan.cells at h;refine oB Tryz.func27 Tryz.ntmps27 Tryz.results27 ?_;refine aW ?_;refine aW ?_ fun K hK=>by simp -dsimp;refine cI (h) ?_;simp -dsimp;exact hK
 exact a7 (by simp)
theorem b6N:a8 Tryz.prog 9 [] (Bo true):=by
 have hex:=b2V;have hnew:=b6I;have hs:=b0N;have s0:a3w E5 ⟨[],z7 j8⟩:=c3Q hs;have lv0:b9g E5 ⟨[],z7 j8⟩:=⟨hs,s0,by decide,by decide⟩;obtain⟨M1,h1⟩:=b1F lv0 [] [] 7 0 [⟨0,false⟩] (by decide);have s1:=b8e hs s0 7 0 [⟨0,false⟩];rw[c4N]at h1 s1;have lv1:b9g E5 b6o:=⟨hs,s1,by decide,by decide⟩;obtain⟨M2,h2⟩:=b1F lv1 M1.1 M1.2 8 0 [⟨1,true⟩] (by decide);rw[c4L]at h2;obtain⟨M3,h3⟩:=b9p lv1 M2.1 M2.2 7 ⟨2,false⟩;have s2:=c3u hs s1 7 ⟨2,false⟩;rw[c4O]at h3 s2;have lv2:b9g E5 b6z:=⟨hs,s2,by decide,by decide⟩;obtain⟨M4,h4⟩:=b9p lv2 M3.1 M3.2 7 ⟨1,false⟩;rw[c4j]at h4;have h5:=b7k E5 (a5x E5) (W3 (B3 E5)) (a0H (B3 E5)) M4.1 M4.2 b6z.Cars b6z.Points (by decide) (by decide);obtain⟨M6,h6⟩:=c4G lv2 M4.1 M4.2 7;have s3:=c4k hs s2 7;rw[c6r]at h6 s3;have lv3:b9g E5 c3Y:=⟨hs,s3,by decide,by decide⟩;obtain⟨M7,h7⟩:=b1f lv3 M6.1 M6.2 7;have s4:=b7V hs s3 7;rw[c4t]at h7 s4;have lv4:b9g E5 c3p:=⟨hs,s4,by decide,by decide⟩;obtain⟨M8,h8⟩:=b1f lv4 M7.1 M7.2 7;rw[c4K]at h8;unfold LvT at h1 h2 h3 h4 h6 h7 h8;have h1:=b9z h1;have h2:=b9z h2;have hlive:b3V E5 [] [] ⟨[],z7 j8⟩=lkK++lkD E5 (a5x E5) (W3 (B3 E5)) (a0H (B3 E5)) [] [] [] (z7 j8):=c1v E5 [] [] ⟨[],z7 j8⟩;rw[hlive]at hnew;have hp2:b6z.Points=[0,2,0,0]:=rfl;generalize a5x E5=fo at*
 generalize W3 (B3 E5)=si at*
 generalize a0H (B3 E5)=up at*
 have e0:(z7 j8).length=4:=rfl;have e1:b6o.Points.length=4:=rfl;have e2:b6z.Points.length=4:=rfl;have e3:c3Y.Points.length=4:=rfl;have e4:c3p.Points.length=4:=rfl;simp only at h1 h2 h3 h4 h6 h7 h8;rw[hp2]at h3 h4 h5 h6;refine a8.of_bodyG Tryz.func9 rfl (by decide) (by simp[Tryz.ntmps9]) ?_;intro J hJ;simp only[Tryz.ntmps9,Tryz.results9];refine gW ?_;refine gW ?_ fun K hK=>by simp -dsimp;refine cI (hex) ?_;simp -dsimp;refine cM [] [] (hnew) ?_;simp -dsimp;exact hK
 refine b9 fun K1 hK1=>?_;refine gW ?_;refine c3 rfl (fun hc0=>?_) (fun hc0=>?_)
 ·simp at hc0
 ·refine c6 ?_;refine zQ (hK1 _ _ ?_);refine gP [1] ?_;refine gW ?_ fun K hK=>by simp -dsimp;refine cM [0] [1,2,3,4,5,6] (h1) ?_;simp -dsimp;exact hK
  refine gW ?_ fun K hK=>by simp -dsimp;refine cM [0] [7,8,9,10,11,12] (h2) ?_;simp -dsimp;exact hK
  refine gW ?_ fun K hK=>by simp -dsimp;refine cM [0] [14,15,16,17,18,19] (h3) ?_;simp -dsimp;exact hK
  refine gW ?_ fun K hK=>by simp -dsimp;refine cM [0] [21,22,23,24,25,26] (h4) ?_;simp -dsimp;exact hK
  refine gW ?_ fun K hK=>by simp -dsimp;refine cM [0] [28,29,30,31,32,33] (h5) ?_;simp -dsimp;exact hK
  refine b9 fun K2 hK2=>?_;refine gW ?_;refine c3 rfl (fun hc1=>?_) (fun hc1=>?_)
  ·simp at hc1
  ·refine c6 ?_;refine zQ (hK2 _ _ ?_);refine gP [1,5,9] ?_;refine gW ?_ fun K hK=>by simp -dsimp;refine cM [0] [35,36,37,38,39,40] (h6) ?_;simp -dsimp;refine cM [0] [42,43,44,45,46,47] (h7) ?_;simp -dsimp;refine cM [0] [48,49,50,51,52,53] (h8) ?_;simp -dsimp;exact hK
   exact i6 (by simp[W9,x4])
end Go.Tram.Lk
end
section
namespace Go.Tram
open Go.AM Go.Proofs
theorem a7X (f:Nat→Bool) (n:Nat):(List.range (n+1)).any f=((List.range n).any f||f n):=by
 rw[List.range_succ,List.any_append];simp
theorem b0I {f:Nat→Bool} {n k:Nat} (hk:k<n) (h:f k=true):(List.range n).any f=true:=List.any_eq_true.2 ⟨k,List.mem_range.2 hk,h⟩
theorem b6O (p:Plan) (a:Int) (x:Profile) (b:Int) (y:Profile) (hv:d8 p=true) (ha:inr a 0 (p.Rails.length-1)=true) (hb:inr b 0 (p.Rails.length-1)=true) (hx:z5 x=true) (hy:z5 y=true):
  a8 Tryz.prog 81 [p.av,I a,x.av,I b,y.av] (Bo (W8 p a x b y)):=by
 have ia:=g6.1 ha;have ib:=g6.1 hb;have ra:=P0 hv (r:=a) (by omega) (by omega);have rb:=P0 hv (r:=b) (by omega) (by omega);have s30:=ra.s;have t30:=rb.s;have ca:=a8n p a (by omega) (by omega) (by omega);have cb:=a8n p b (by omega) (by omega) (by omega);rw[a8d];generalize hg:(fun i k=>X1 (o3 (p.line a) a i) x (o3 (p.line b) b k) y)=g;have hgv:∀i k,X1 (o3 (p.line a) a i) x (o3 (p.line b) b k) y=g i k:=fun i k=>by rw[←hg]
 have hcf:∀i k:Nat,i<(p.rail a).Shape.length+1→k<(p.rail b).Shape.length+1→a8 Tryz.prog 122 [p.av,sAV a i,x.av,sAV b k,y.av] (Bo (g i k)):=by
  intro i k hi hk;rw[←hgv];exact c0j p a i x b k y (by omega) (by omega) ra hi (by omega) (by omega) rb hk hx hy
 simp only[hgv];refine oB Tryz.func81 Tryz.ntmps81 Tryz.results81 ?_;refine aW ?_;refine a5 fun K1 hK1=>?_;refine aW ?_;refine a9 ?_;refine aP [1,3,5,7,9,11] ?_;refine c5 [1,3,5,7,9] (α:=Nat) (fun i=>[(11,I i)]) (fun _=>[some (.els 2 [p.cells]),some (.els 2 [x.cells]),some (.els 2 [y.cells])]) (fun i=>i≤(p.rail a).Shape.length+1∧((List.range i).any fun i=>(List.range ((p.rail b).Shape.length+1)).any fun k=>g i k)=false) (fun i=>(p.rail a).Shape.length+1-i) 0 ?_ ?_ ?_
 ·simp
 ·exact c7 (by simp)
 rintro i ⟨i1,i2⟩;refine zN ?_;refine a5 fun K2 hK2=>?_;refine aW ?_ fun K hK=>by simp -dsimp;refine cI (ca) ?_;simp -dsimp;exact hK
 refine a6 rfl (fun hc0=>?_) (fun hc0=>?_)
 ·skip
  try simp at hc0
  have wi:=zW i (by omega);refine b8 ?_;refine zQ (hK2 _ _ ?_);refine aP [1,3,5,7,9,11] ?_;refine a5 fun K3 hK3=>?_;refine a9 ?_;refine aW ?_;refine a9 ?_;refine aP [1,3,5,7,9,11,12] ?_;refine c5 [1,3,5,7,9,11] (α:=Nat) (fun k=>[(12,I k)]) (fun _=>[some (.els 2 [p.cells]),some (.els 2 [x.cells]),some (.els 2 [y.cells])]) (fun k=>k≤(p.rail b).Shape.length+1∧((List.range k).any fun k=>g i k)=false) (fun k=>(p.rail b).Shape.length+1-k) 0 ?_ ?_ ?_
  ·simp
  ·exact c7 (by simp)
  rintro k ⟨k1,k2⟩;refine zN ?_;refine a5 fun K4 hK4=>?_;refine aW ?_ fun K hK=>by simp -dsimp;refine cI (cb) ?_;simp -dsimp;exact hK
  refine a6 rfl (fun hc1=>?_) (fun hc1=>?_)
  ·skip
   try simp at hc1
   have wk:=zW k (by omega);refine b8 ?_;refine zQ (hK4 _ _ ?_);refine aP [1,3,5,7,9,11,12] ?_;refine a5 fun K5 hK5=>?_;refine a9 ?_;refine aW ?_ fun K hK=>by simp -dsimp;refine cI (hcf i k (by omega) (by omega)) ?_;simp -dsimp;exact hK
   refine a6 rfl (fun hc2=>?_) (fun hc2=>?_)
   ·skip
    try simp at hc2
    have hany:((List.range ((p.rail a).Shape.length+1)).any fun i=>(List.range ((p.rail b).Shape.length+1)).any fun k=>g i k)=true:=b0I (k:=i) (by omega) (b0I (k:=k) (by omega) hc2);refine aW ?_;exact a7 (by simp only[hany];simp)
   ·skip
    try simp at hc2
    refine b8 ?_;refine zQ (hK5 _ _ ?_);refine aP [1,3,5,7,9,11,12] ?_;refine aV ?_ fun K hK=>by simp -dsimp [wk];exact hK
    refine zQ ?_;exact⟨k+1,⟨by omega,by rw[a7X,k2,hc2];rfl⟩,by omega,c7 (by simp)⟩
  ·skip
   try simp at hc1
   have hke:k=(p.rail b).Shape.length+1:=by omega
   subst hke;refine c9 ?_;refine zQ (hK3 _ _ ?_);refine aP [1,3,5,7,9,11] ?_;refine aV ?_ fun K hK=>by simp -dsimp [wi];exact hK
   refine zQ ?_;exact⟨i+1,⟨by omega,by rw[a7X,i2,k2];rfl⟩,by omega,c7 (by simp)⟩
 ·skip
  try simp at hc0
  have hie:i=(p.rail a).Shape.length+1:=by omega
  subst hie;refine c9 ?_;refine zQ (hK1 _ _ ?_);refine aP [] ?_;refine aW ?_;exact a7 (by simp only[i2];simp)
theorem a9c (p:Plan) (l:List Profile) (hv:d8 p=true) (h:D5 l=true) (hN:p.Rails.length≤20):a8 Tryz.prog 37 [p.av, .lst 2 (l.map Profile.cells)] (.lst 4 ((A2 p l).map F8.cells)):=by
 have hl:1≤l.length∧l.length≤6∧∀x∈l,z5 x=true:=by simpa [D5]using h
 obtain⟨hl1,hl6,hpr⟩:=hl;have hcf:=fun a x b y=>b6O p a x b y hv;refine oB Tryz.func37 Tryz.ntmps37 Tryz.results37 ?_;refine aW ?_;refine aW ?_;refine a5 fun K1 hK1=>?_;refine aW ?_;refine a9 ?_;refine aP [1,2,5,6] ?_;refine c5 [1,2] (α:=Nat) (fun a=>[(6,I a),(5, .row 1 0 (fA p l a).length)]) (fun a=>[some (.els 2 [p.cells]),some (.els 4 ((fA p l a).map F8.cells))]) (fun a=>a≤p.Rails.length) (fun a=>p.Rails.length-a) 0 ?_ ?_ ?_
 ·simp
 ·exact(Y9 5 4 (by simp)).trans (e8 [some 0,some 1] rfl (by simp[fA]) (by simp[fA]))
 rintro a a1;refine zN ?_;refine a5 fun K2 hK2=>?_;refine aW ?_;refine a6 rfl (fun hc0=>?_) (fun hc0=>?_)
 ·skip
  try simp at hc0
  have wa:=zW a (by omega);refine b8 ?_;refine zQ (hK2 _ _ ?_);refine aP [1,2,5,6] ?_;refine a5 fun K3 hK3=>?_;refine a9 ?_;refine aW ?_;refine a9 ?_;refine aP [1,2,5,6,7] ?_;refine c5 [1,2,6] (α:=Nat) (fun i=>[(7,I i),(5, .row 1 0 (fA p l a++fI p l a i).length)]) (fun i=>[some (.els 2 [p.cells]),some (.els 4 ((fA p l a++fI p l a i).map F8.cells))]) (fun i=>i≤l.length) (fun i=>l.length-i) 0 ?_ ?_ ?_
  ·simp
  ·exact e8 [some 0,some 1] rfl (by simp[fI]) (by simp[fI])
  rintro i i1;refine zN ?_;refine a5 fun K4 hK4=>?_;refine aW ?_;refine a6 rfl (fun hc1=>?_) (fun hc1=>?_)
  ·skip
   try simp at hc1
   have wi:=zW i (by omega);obtain⟨x,hx⟩:=gx (l:=l) (i:=i) hc1;have px:=hpr x (List.mem_of_getElem? hx);refine b8 ?_;refine zQ (hK4 _ _ ?_);refine aP [1,2,5,6,7] ?_;refine a5 fun K5 hK5=>?_;refine a9 ?_;refine aW ?_;refine a9 ?_;refine aP [1,2,5,6,7,8] ?_;refine c5 [1,2,6,7] (α:=Nat) (fun d=>[(8,I ((a:Int)+d)),(5, .row 1 0 (fA p l a++fI p l a i++fB p l a i d).length)]) (fun d=>[some (.els 2 [p.cells]),some (.els 4 ((fA p l a++fI p l a i++fB p l a i d).map F8.cells))]) (fun d=>d≤p.Rails.length-a) (fun d=>p.Rails.length-a-d) 0 ?_ ?_ ?_
   ·simp
   ·exact e8 [some 0,some 1] rfl (by simp[fB]) (by simp[fB])
   rintro d d1;refine zN ?_;refine a5 fun K6 hK6=>?_;refine aW ?_;refine a6 rfl (fun hc2=>?_) (fun hc2=>?_)
   ·skip
    try simp at hc2
    have wd:IntKind.i64.wrap ((a:Int)+d+1)=(a:Int)+d+1:=c4 (by omega) (by omega);refine b8 ?_;refine zQ (hK6 _ _ ?_);refine aP [1,2,5,6,7,8] ?_;refine a5 fun K7 hK7=>?_;refine a9 ?_;refine aW ?_;refine a9 ?_;refine aP [1,2,5,6,7,8,9] ?_;refine c5 [1,2,6,7,8] (α:=Nat) (fun k=>[(9,I k),(5, .row 1 0 (fA p l a++fI p l a i++fB p l a i d++fK p l a i (a+d) k).length)]) (fun k=>[some (.els 2 [p.cells]),some (.els 4 ((fA p l a++fI p l a i++fB p l a i d++fK p l a i (a+d) k).map F8.cells))]) (fun k=>k≤l.length) (fun k=>l.length-k) 0 ?_ ?_ ?_
    ·simp
    ·exact e8 [some 0,some 1] rfl (by simp[fK]) (by simp[fK])
    rintro k k1;have hbd:=b0z p l (N:=20) (a:=a) (i:=i) (d:=d) (k:=k) hN (by omega) hc0 i1 (by omega) k1;have hsK:=b3z p l a i (a+d) k;have hsB:=b5F p l a i d;generalize hout:fA p l a++fI p l a i++fB p l a i d++fK p l a i (a+d) k=out at hbd ⊢;have f1:Q5 (out.length+1) 33:=l8 (by omega) (by omega);have hot:=a6I out;refine zN ?_;refine a5 fun K8 hK8=>?_;refine aW ?_;refine a6 rfl (fun hc3=>?_) (fun hc3=>?_)
    ·skip
     try simp at hc3
     have wk:=zW k (by omega);obtain⟨y,hy⟩:=gx (l:=l) (i:=k) hc3;have py:=hpr y (List.mem_of_getElem? hy);have hF:b1a p l a i (a+d) k=((decide ((a:Int)<a+d)||decide (i≤k))&&W8 p a x ((a:Int)+d) y):=by unfold b1a;rw[b0S hx,b0S hy,Int.natCast_add,show decide (a<a+d)=decide ((a:Int)<a+d)from decide_eq_decide.2 (by omega)]
     refine b8 ?_;refine zQ (hK8 _ _ ?_);refine aP [1,2,5,6,7,8,9] ?_;refine a5 fun K9 hK9=>?_;refine a9 ?_;refine aD ?_ fun K hK=>by simp -dsimp [hx,hy];refine k7 x.cells (fun _=>by simp[hx]) ?_;simp -dsimp [hx,hy];refine k7 y.cells (fun _=>by simp[hy]) ?_;simp -dsimp [hx,hy];refine cY (fun hm=>hcf a x ((a:Int)+d) y (g6.2 (by omega)) (g6.2 (by omega)) px py) ?_;simp -dsimp [hx,hy];exact hK
     refine a6 rfl (fun hc4=>?_) (fun hc4=>?_)
     ·have hh:b1a p l a i (a+d) k=true:=hF.trans hc4;refine aV ?_ fun K hK=>by simp -dsimp [f1];exact hK
      refine zQ (hK9 _ _ ?_);refine aP [1,2,5,6,7,8,9] ?_;refine aV ?_ fun K hK=>by simp -dsimp [wk];exact hK
      refine zQ ?_;exact⟨k+1,by omega,by omega,e8 [some 0,some 2] rfl (by simp[hsK,hh,←hout];omega) (by simp[hsK,hh,←List.append_assoc,hout,hot])⟩
     ·have hh:b1a p l a i (a+d) k=false:=hF.trans hc4;refine b8 ?_;refine zQ (hK9 _ _ ?_);refine aP [1,2,5,6,7,8,9] ?_;refine aV ?_ fun K hK=>by simp -dsimp [wk];exact hK
      refine zQ ?_;exact⟨k+1,by omega,by omega,e8 [some 0,some 1] rfl (by simp only[hsK,hh,Bool.false_eq_true,if_false,List.append_nil,hout];simp) (by simp only[hsK,hh,Bool.false_eq_true,if_false,List.append_nil,hout];simp[hot])⟩
    ·skip
     try simp at hc3
     have hke:k=l.length:=by omega
     subst hke;refine c9 ?_;refine zQ (hK7 _ _ ?_);refine aP [1,2,5,6,7,8] ?_;refine aV ?_ fun K hK=>by simp -dsimp [wd];exact hK
     refine zQ ?_;exact⟨d+1,by omega,by omega,e8 [some 0,some 1] rfl (by simp[hsB,←hout,Int.add_assoc]) (by simp[hsB,←hout])⟩
   ·skip
    try simp at hc2
    have hde:d=p.Rails.length-a:=by omega
    subst hde;refine c9 ?_;refine zQ (hK5 _ _ ?_);refine aP [1,2,5,6,7] ?_;refine aV ?_ fun K hK=>by simp -dsimp [wi];exact hK
    refine zQ ?_;exact⟨i+1,by omega,by omega,e8 [some 0,some 1] rfl (by simp[a4v]) (by simp[a4v])⟩
  ·skip
   try simp at hc1
   have hie:i=l.length:=by omega
   subst hie;refine c9 ?_;refine zQ (hK3 _ _ ?_);refine aP [1,2,5,6] ?_;refine aV ?_ fun K hK=>by simp -dsimp [wa];exact hK
   refine zQ ?_;exact⟨a+1,by omega,by omega,e8 [some 0,some 1] rfl (by simp[a7r]) (by simp[a7r])⟩
 ·skip
  try simp at hc0
  have hae:a=p.Rails.length:=by omega
  subst hae;refine c9 ?_;refine zQ (hK1 _ _ ?_);refine aP [5] ?_;refine aW ?_;exact a7 (by simp[A2,a6I])
theorem c0x (x y:F8):x=y↔x.RailA=y.RailA∧x.ProfileA=y.ProfileA∧x.RailB=y.RailB∧x.ProfileB=y.ProfileB:=by
 cases x;cases y;simp
end Go.Tram
end
section
namespace Go.Tram.Lk
open Go.AM Go.Proofs
theorem b2P (x lo hi:Int):a8 Tryz.prog 35 [I x,I lo,I hi] (Bo (inr x lo hi)):=by
 refine oB Tryz.func35 Tryz.ntmps35 Tryz.results35 ?_;refine aW ?_;refine aW ?_;exact a7 (by simp_all [inr])
def usR (n:Nat) (L:List Int):List (List AV):=(List.range n).map fun(r:Nat)=>[Bo (decide ((r:Int)∈L))]
@[simp] theorem c4F (n:Nat) (L:List Int):(usR n L).length=n:=by simp[usR]
theorem b7T (n:Nat):List.replicate n [Bo false]=usR n []:=by
 unfold usR;apply List.ext_getElem?;intro i;rw[List.getElem?_replicate,List.getElem?_map]
 by_cases h:i<n
 ·rw[if_pos h,List.getElem?_range h];rfl
 ·rw[if_neg h,List.getElem?_eq_none (by simpa using h)];rfl
theorem c1m {n:Nat} {L:List Int} {r:Int} (h0:0≤r) (h1:r<n):(usR n L)[r.toNat]?=some [Bo (decide (r∈L))]:=by
 unfold usR;rw[List.getElem?_map,List.getElem?_range (by omega)];simp only[Option.map_some,Int.toNat_of_nonneg h0]
theorem c1g {n:Nat} {L:List Int} {r:Int} (h0:0≤r) (h1:r<n):(usR n L).set r.toNat [Bo true]=usR n (L++[r]):=by
 unfold usR;apply List.ext_getElem?;intro i;rw[List.getElem?_set,List.getElem?_map,List.getElem?_map]
 by_cases h:i<n
 ·rw[List.getElem?_range h]
  by_cases e:r.toNat=i
  ·subst e;rw[if_pos rfl,if_pos (by simp;omega)];simp[Int.toNat_of_nonneg h0]
  ·rw[if_neg e];have:¬(i:Int)=r:=by omega
   simp[this]
 ·rw[List.getElem?_eq_none (by simpa using h)]
  split
  ·rw[if_neg (by simp;omega)];rfl
  ·rfl
@[simp high] theorem c4X (n:Nat) (L:List Int) (g:List (Option Nat)) (k:Nat):(usR n L).map (fun e=>e.map (o9 g k))=usR n L:=by
 unfold usR;rw[List.map_map];refine List.map_congr_left fun r _=>?_
 cases k<;>simp[o9]
theorem c3I (n:Nat) (L:List Int):(∀(x:List AV),x∈usR n L→∀(y:AV),y∈x→AV.noRef 2 y=true)=True:=by
 refine eq_true fun x hx y hy=>?_;unfold usR at hx;obtain⟨r,_,rfl⟩:=List.mem_map.1 hx;simp only[List.mem_singleton]at hy;subst hy;rfl
theorem c2K (n:Nat) (L:List Int):List.take n (usR n L)=usR n L:=List.take_of_length_le (by simp)
def sgR (l:List (List Move)) (i k:Nat):List Int:=(sgA l i++sgK l i k).map (·.2.Rail)
theorem b8v {l:List (List Move)} {i k:Nat} {x:List Move} {m:Move} (h:l[i]?=some x) (hm:x[k]?=some m):sgR l i (k+1)=sgR l i k++[m.Rail]:=by
 unfold sgR;rw[a3v l i k h hm,←List.append_assoc,List.map_append];rfl
theorem c0I {l:List (List Move)} {i:Nat} {x:List Move} (h:l[i]?=some x):sgR l (i+1) 0=sgR l i x.length:=by
 unfold sgR;rw[a0o l i h];simp[sgK]
theorem b5T {p:Plan} {L:List (Nat×Move)} {i:Nat} {m:Move}:b3i p (L++[(i,m)])↔b3i p L∧D3 p m=true∧m.Rail∉L.map (·.2.Rail):=by
 unfold b3i;rw[List.map_append,List.nodup_append];constructor
 ·rintro⟨h1,h2,_,h3⟩;refine⟨⟨fun q hq=>h1 q (by simp[hq]),h2⟩,h1 (i,m) (by simp),fun hm=>h3 _ hm m.Rail (by simp) rfl⟩
 ·rintro⟨⟨h1,h2⟩,h3,h4⟩;refine⟨fun q hq=>?_,h2,by simp,fun a ha b hb e=>h4 ?_⟩
  ·rcases List.mem_append.1 hq with h|h
   ·exact h1 q h
   ·simp only[List.mem_singleton]at h;subst h;exact h3
  ·simp only[List.map_cons,List.map_nil,List.mem_singleton]at hb;rw[←hb,←e];exact ha
theorem c3O {p:Plan} {l:List (List Move)} {i k:Nat} {x:List Move} {m:Move} (hx:l[i]?=some x) (hm:x[k]?=some m) (h:¬(D3 p m=true∧m.Rail∉sgR l i k)):a7s p l=false:=by
 cases hs:a7s p l with
 |false=>rfl
 | true=>
  obtain⟨h1,h2⟩:=b9A hs hx hm;exfalso;refine h ⟨h2,fun hr=>?_⟩;obtain⟨q,hq,e⟩:=List.mem_map.1 hr;have hok:=(T9.1 hs).2;have hil:=(List.getElem?_eq_some_iff.1 hx).1;have hnd:(sgR l i k).Nodup:=by
   have hsub:(sgA l i++sgK l i k).Sublist (sgA l l.length):=by
    have e1:sgA l (i+1)=sgA l i++sgK l i x.length:=a0o l i hx;have s1:(sgK l i k).Sublist (sgK l i x.length):=by
     unfold sgK;rw[hx];simp only[Option.getD_some,List.take_length];exact(List.take_sublist _ _).map _
    have s2:(sgA l (i+1)).Sublist (sgA l l.length):=by
     unfold sgA;have:List.range l.length=List.range (i+1)++(List.range (l.length-(i+1))).map (i+1+ ·):=by
      rw[←List.range_add,Nat.add_sub_cancel' (by omega)]
     rw[this,List.flatMap_append];exact List.sublist_append_left _ _
    refine List.Sublist.trans ?_ s2;rw[e1];exact List.Sublist.append (List.Sublist.refl _) s1
   exact hok.2.sublist (hsub.map _)
  have:=a6M (p:=q) (sgA l i++sgK l i k) [] hnd hq;unfold W3 at h1;rw[←e,this]at h1
  cases h1
theorem b6F (s:j5) (hR:s.Plan.Rails.length≤1000) (hp:s.Profiles.length≤1000) (hm:∀x∈s.Singles,x.length≤1000):a8 Tryz.prog 11 [s.av] (Bo (P7 s)):=by
 have hvl:=c0d s.Plan;have hin:=b2P;have hmv:=fun m=>b3B s.Plan m (by omega);unfold Plan.av at hvl hmv;have hf1:Q5 s.Plan.Rails.length 2:=l8 (by omega) (by omega);have hz:=b7T s.Plan.Rails.length;refine oB Tryz.func11 Tryz.ntmps11 Tryz.results11 ?_;refine aW ?_;refine a5 fun K1 hK1=>?_;refine aW ?_ fun K hK=>by simp -dsimp;refine cI (hvl) ?_;simp -dsimp;refine cY (fun hm=>hin s.Profiles.length 1 6) ?_;simp -dsimp;exact hK
 refine a6 rfl (fun hc0=>?_) (fun hc0=>?_)
 ·have hf:P7 s=false:=by
   cases hs:P7 s with
   |false=>rfl
   |true=>
    obtain⟨h1,h2,h3,h4⟩:=o7 hs;have h5:inr (s.Profiles.length:Int) 1 6=true:=by simp only[D5,Bool.and_eq_true,decide_eq_true_eq]at h2;rw[g6];omega
    exfalso;simp[h1,h5]at hc0;omega
  refine aW ?_;exact a7 (by simp[hf])
 ·obtain⟨hv,hpl,hsl⟩:d8 s.Plan=true∧inr (s.Profiles.length:Int) 1 6=true∧s.Singles.length≤30:=by
   cases h1:d8 s.Plan<;>cases h2:inr (s.Profiles.length:Int) 1 6<;>simp[h1,h2]at hc0 ⊢ <;>omega
  have hpl2:1≤s.Profiles.length∧s.Profiles.length≤6:=by rw[g6]at hpl;omega
  have hsb:P7 s=(s.Profiles.all z5&&a7s s.Plan s.Singles):=by
   unfold P7 D5;rw[hv,decide_eq_true hsl,decide_eq_true hpl2.1,decide_eq_true hpl2.2];simp
  refine b8 ?_;refine zQ (hK1 _ _ ?_);refine aP [1] ?_;refine a5 fun K2 hK2=>?_;refine aW ?_;refine a9 ?_;refine aP [1,3] ?_;refine c5 [1] (α:=Nat) (fun k=>[(3,I k)]) (fun k=>[some (.els 4 [s.cells])]) (fun k=>k≤s.Profiles.length∧(s.Profiles.take k).all z5=true) (fun k=>s.Profiles.length-k) 0 ?_ ?_ ?_
  ·exact⟨Nat.zero_le _,by simp⟩
  ·exact c7 (by simp)
  rintro k ⟨k1,k2⟩;refine zN ?_;refine a5 fun K3 hK3=>?_;refine aW ?_;refine a6 rfl (fun hc1=>?_) (fun hc1=>?_)
  ·have hk:k<s.Profiles.length:=by first|omega|(simp at hc1;omega)
   obtain⟨x,hx⟩:=gx (l:=s.Profiles) (i:=k) hk;have wk:=zW k (by omega);have hpe:z5 x=(inr x.Half 1 2000&&inr x.Swing 0 1500):=rfl;refine b8 ?_;refine zQ (hK3 _ _ ?_);refine aP [1,3] ?_;refine a5 fun K4 hK4=>?_;refine a9 ?_;refine aW ?_ fun K hK=>by simp -dsimp [hx];refine cI (hin x.Half 1 2000) ?_;simp -dsimp [hx];refine k7 x.cells (fun _=>by simp[hx]) ?_;simp -dsimp [hx];refine cY (fun hm=>hin x.Swing 0 1500) ?_;simp -dsimp [hx];exact hK
   refine a6 rfl (fun hc2=>?_) (fun hc2=>?_)
   ·have hb:z5 x=false:=by rw[hpe];cases h1:inr x.Half 1 2000<;>cases h2:inr x.Swing 0 1500<;>simp[h1,h2]at hc2 ⊢
    refine aW ?_;exact a7 (by rw[hsb,O9 hx hb];simp)
   ·have hb:z5 x=true:=by rw[hpe];cases h1:inr x.Half 1 2000<;>cases h2:inr x.Swing 0 1500<;>simp[h1,h2]at hc2 ⊢
    refine b8 ?_;refine zQ (hK4 _ _ ?_);refine aP [1,3] ?_;refine aV ?_ fun K hK=>by simp -dsimp [wk];exact hK
    refine zQ ?_;exact⟨k+1,⟨by omega,r6 hx k2 hb⟩,by omega,aB [some 0]⟩
  ·have hk:k=s.Profiles.length:=by first|omega|(simp at hc1;omega)
   subst hk;rw[List.take_length]at k2;rw[k2,Bool.true_and]at hsb;refine c9 ?_;refine zQ (hK2 _ _ ?_);refine aP [1] ?_;refine aW ?_ fun K hK=>by simp -dsimp [hf1,hz];exact hK
   refine a5 fun K5 hK5=>?_;refine aW ?_;refine a9 ?_;refine aP [1,4,5] ?_;refine c5 [1,4] (α:=Nat) (fun i=>[(5,I i)]) (fun i=>[some (.els 4 [s.cells]),some (.els 1 (usR s.Plan.Rails.length (sgR s.Singles i 0)))]) (fun i=>i≤s.Singles.length∧(∀j x,j<i→s.Singles[j]?=some x→1≤x.length∧x.length≤100)∧b3i s.Plan (sgA s.Singles i++sgK s.Singles i 0)) (fun i=>s.Singles.length-i) 0 ?_ ?_ ?_
   ·exact⟨Nat.zero_le _,fun j x h=>absurd h (Nat.not_lt_zero _),by simp[b3i,sgA,sgK]⟩
   ·exact e8 [some 0,some 1] rfl (by simp) (by simp[sgR,sgA,sgK])
   rintro i ⟨i1,i2,i3⟩;refine zN ?_;refine a5 fun K6 hK6=>?_;refine aW ?_;refine a6 rfl (fun hc3=>?_) (fun hc3=>?_)
   ·have hi:i<s.Singles.length:=by first|omega|(simp at hc3;omega)
    obtain⟨x,hx⟩:=gx (l:=s.Singles) (i:=i) hi;have hxm:=hm x (List.mem_of_getElem? hx);have wi:=zW i (by omega);refine b8 ?_;refine zQ (hK6 _ _ ?_);refine aP [1,4,5] ?_;refine a5 fun K7 hK7=>?_;refine a9 ?_;refine aW ?_ fun K hK=>by simp -dsimp [hx];exact hK
    refine a5 fun K8 hK8=>?_;refine aW ?_ fun K hK=>by simp -dsimp;refine cI (hin x.length 1 100) ?_;simp -dsimp;exact hK
    refine a6 rfl (fun hc4=>?_) (fun hc4=>?_)
    ·have hf:a7s s.Plan s.Singles=false:=by
      cases hs:a7s s.Plan s.Singles with
      |false=>rfl
      |true=>
       have:=(T9.1 hs).1 x (List.mem_of_getElem? hx);exfalso;simp[inr]at hc4;omega
     refine aW ?_;exact a7 (by rw[hsb,hf];simp)
    ·have hxl:1≤x.length∧x.length≤100:=by simp[inr]at hc4;omega
     refine b8 ?_;refine zQ (hK8 _ _ ?_);refine aP [1,4,5,6] ?_;refine aW ?_;refine a9 ?_;refine aP [1,4,5,6,7] ?_;refine c5 [1,4,5,6] (α:=Nat) (fun k=>[(7,I k)]) (fun k=>[some (.els 4 [s.cells]),some (.els 1 (usR s.Plan.Rails.length (sgR s.Singles i k)))]) (fun k=>k≤x.length∧b3i s.Plan (sgA s.Singles i++sgK s.Singles i k)) (fun k=>x.length-k) 0 ?_ ?_ ?_
     ·exact⟨Nat.zero_le _,i3⟩
     ·exact aB [some 0,some 1]
     rintro k ⟨k1,k3⟩;refine zN ?_;refine a5 fun K9 hK9=>?_;refine aW ?_;refine a6 rfl (fun hc5=>?_) (fun hc5=>?_)
     ·have hk:k<x.length:=by first|omega|(simp at hc5;omega)
      obtain⟨m,hmg⟩:=gx (l:=x) (i:=k) hk;have wk:=zW k (by omega);have hno:=c3O (p:=s.Plan) hx hmg;have hsuc:=b8v hx hmg;have hsn:=(b5T (p:=s.Plan) (L:=sgA s.Singles i++sgK s.Singles i k) (i:=i) (m:=m)).2;rw[List.append_assoc,←a3v s.Singles i k hx hmg]at hsn;generalize hLe:sgR s.Singles i k=L at hno hsuc ⊢;have hmr:D3 s.Plan m=true→0≤m.Rail∧m.Rail<s.Plan.Rails.length:=fun h=>F3.1 h;have hug:D3 s.Plan m=true→(usR s.Plan.Rails.length L)[m.Rail.toNat]?=some [Bo (decide (m.Rail∈L))]:=fun h=>c1m (hmr h).1 (hmr h).2;have hus:D3 s.Plan m=true→(usR s.Plan.Rails.length L).set m.Rail.toNat [Bo true]=usR s.Plan.Rails.length (L++[m.Rail]):=fun h=>c1g (hmr h).1 (hmr h).2;refine b8 ?_;refine zQ (hK9 _ _ ?_);refine aP [1,4,5,6,7] ?_;refine a5 fun K10 hK10=>?_;refine a9 ?_;refine a5 fun K11 hK11=>?_;have hmvm:=hmv m
      rcases Bool.eq_false_or_eq_true (D3 s.Plan m)with hmb|hmb<;>rw[hmb]at hmvm
      all_goals first|(have hug:=hug hmb;have hus:=hus hmb;have hmr:=hmr hmb;have hug2:=(List.getElem?_eq_some_iff.1 hug).2)|refine a3J (b3P (T':=[(1, .ptr 0 0 0),(4, .lst 1 (usR s.Plan.Rails.length L)),(6,a4W x),(7,I k)]) (H':=[some (.els 4 [s.cells])]) [some 0] rfl ⟨.inr (by simp), .inr (by simp[c3I,c2K]), .inr (by simp), .inr (by simp),trivial⟩ (by simp)) ?_
      ·refine aD ?_ fun K hK=>by simp -dsimp [hmg,hug,hug2,hmr.1,hmr.2];refine cI (hmvm) ?_;simp -dsimp [hmg,hug,hug2,hmr.1,hmr.2];refine k7 m.cells (fun _=>by simp[hmg]) ?_;simp -dsimp [hmg,hug,hug2,hmr.1,hmr.2];exact hK
       refine a6 rfl (fun hc6=>?_) (fun hc6=>?_)
       ·have hru:m.Rail∈L:=by simpa using hc6
        have hf:a7s s.Plan s.Singles=false:=hno fun h=>h.2 hru;refine aW ?_;exact a7 (by rw[hsb,hf];simp)
       ·have hru:m.Rail∉L:=by simpa using hc6
        refine b8 ?_;refine zQ (hK11 _ _ ?_);refine aP [1,4,5,6,7] ?_;refine aV ?_ fun K hK=>by simp -dsimp [hmg,hus,hug,hug2,hmr.1,hmr.2];exact hK
        refine zQ (hK10 _ _ ?_);refine aP [1,4,5,6,7] ?_;refine aV ?_ fun K hK=>by simp -dsimp [wk];exact hK
        refine zQ ?_;exact⟨k+1,⟨by omega,hsn ⟨k3,hmb,by rw[←hLe]at hru;exact hru⟩⟩,by omega,e8 [some 0,some 1] rfl (by simp) (by simp[hsuc])⟩
      ·refine aD ?_ fun K hK=>by simp -dsimp [hmg];refine cI (hmvm) ?_;simp -dsimp [hmg];refine k7 m.cells (fun _=>by simp[hmg]) ?_;simp -dsimp [hmg];refine k7 [Bo false] (fun h=>by simp at h) ?_;simp -dsimp [hmg];exact hK
       refine a6 rfl (fun hc6=>?_) (fun hc6=>?_)
       ·have hf:a7s s.Plan s.Singles=false:=hno fun h=>by rw[hmb]at h;simp at h
        refine aW ?_;exact a7 (by rw[hsb,hf];simp)
       ·simp at hc6
     ·have hk:k=x.length:=by first|omega|(simp at hc5;omega)
      subst hk;have k9:=c0I hx;refine c9 ?_;refine zQ (hK7 _ _ ?_);refine aP [1,4,5] ?_;refine aV ?_ fun K hK=>by simp -dsimp [wi];exact hK
      refine zQ ?_;exact⟨i+1,⟨by omega,fun j y hj hy=>by rcases Nat.lt_succ_iff_lt_or_eq.1 hj with h|rfl;exact i2 j y h hy;rw[hx]at hy;cases hy;exact hxl,by rw[a0o _ _ hx];simpa [sgK]using k3⟩,by omega,e8 [some 0,some 1] rfl (by simp) (by simp[k9])⟩
   ·have hi:i=s.Singles.length:=by first|omega|(simp at hc3;omega)
    subst hi;have hsng:a7s s.Plan s.Singles=true:=T9.2 ⟨fun x hx=>by obtain⟨j,hj⟩:=List.getElem?_of_mem hx;exact i2 j x (List.getElem?_eq_some_iff.1 hj).1 hj,by simpa [sgK]using i3⟩;refine c9 ?_;refine zQ (hK5 _ _ ?_);refine aP [] ?_;refine aW ?_;exact a7 (by rw[hsb,hsng];simp)
def wC (s:j5):List AV:=s.cells++[.lst 4 ((A2 s.Plan s.Profiles).map F8.cells)]
@[simp] def Sta.cells (x:Sta):List AV:=[.lst 4 (x.Cars.map Car.cells), .lst 1 (x.Points.map g8)]
abbrev Sta.av (x:Sta):AV:= .agg x.cells
abbrev wA (s:j5):AV:= .agg (wC s)
def fsN (p:Plan) (k:Nat):List Int:=(p.Nodes.take k).map b3w
theorem b3N {p:Plan} {k:Nat} (h:k≤p.Nodes.length):(fsN p k).length=k:=by simp[fsN];omega
theorem b6T {p:Plan} {k:Nat} {n:Node} (h:p.Nodes[k]?=some n):fsN p (k+1)=fsN p k++[b3w n]:=by
 unfold fsN;rw[List.take_add_one,h];simp
theorem b7r (s:j5) (h:P7 s=true) (hR:s.Plan.Rails.length≤20):a8 Tryz.prog 13 [s.av] (.tup [wA s, .agg [I8, .lst 1 ((z7 s.Plan).map g8)]]):=by
 obtain⟨hv,hpf,_,_⟩:=o7 h;have hfo:=a9c s.Plan s.Profiles hv hpf hR;have hNl:1≤s.Plan.Nodes.length∧s.Plan.Nodes.length≤300:=(j7 hv).1;rw[a8K];unfold wA wC;generalize A2 s.Plan s.Profiles=fl at hfo ⊢;refine oB Tryz.func13 Tryz.ntmps13 Tryz.results13 ?_;refine aW ?_;refine aW ?_;refine a5 fun K1 hK1=>?_;refine aW ?_;refine a9 ?_;refine aP [1,2,3,4,5] ?_;refine c5 [1,2,3,4] (α:=Nat) (fun k=>[(5,I k)]) (fun k=>[some (.els 4 [s.cells]),some (.els 5 [[I8,I8,I8,I8,I8]]),some (.els 2 [[I8,I8]]),some (.els 2 [[I8, .row 4 0 k]]),some (.els 1 ((fsN s.Plan k).map g8))]) (fun k=>k≤s.Plan.Nodes.length) (fun k=>s.Plan.Nodes.length-k) 0 ?_ ?_ ?_
 ·exact Nat.zero_le _
 ·exact(a3y 3 0 1 1 (es:=[[I8,I8]]) (e:=[I8,I8]) (by simp) (by simp) (by simp)).trans (c7 (by simp[fsN]))
 rintro k k1;refine zN ?_;refine a5 fun K2 hK2=>?_;refine aW ?_;refine a6 rfl (fun hc0=>?_) (fun hc0=>?_)
 ·have hk:k<s.Plan.Nodes.length:=by first|omega|(simp at hc0;omega)
  obtain⟨n,hn⟩:=gx (l:=s.Plan.Nodes) (i:=k) hk;have wk:=zW k (by omega);have f1:Q5 (k+1) 9:=l8 (by omega) (by omega);have hts:=b6T hn;have htl:=b3N k1;generalize fsN s.Plan k=L at hts htl ⊢;subst htl;have htL:List.take L.length (L.map g8)=L.map g8:=List.take_of_length_le (by simp);refine b8 ?_;refine zQ (hK2 _ _ ?_);refine aP [1,2,3,4,5] ?_;refine a5 fun K3 hK3=>?_;refine a9 ?_;refine aW ?_ fun K hK=>by simp -dsimp [hn];exact hK
  refine a6 rfl (fun hc1=>?_) (fun hc1=>?_)
  ·have hkd:n.Kind=4:=by simpa using hc1
   refine aV ?_ fun K hK=>by simp -dsimp [f1];exact hK
   refine zQ (hK3 _ _ ?_);refine aP [1,2,3,4,5] ?_;refine aV ?_ fun K hK=>by simp -dsimp [wk];exact hK
   refine zQ ?_;exact⟨L.length+1,by omega,by omega,e8 [some 0,some 1,some 2,some 3,some 5] rfl (by simp) (by simp[hts,b3w,hkd,htL];try simp[g8])⟩
  ·have hkd:n.Kind≠4:=by simpa using hc1
   refine aV ?_ fun K hK=>by simp -dsimp [f1];exact hK
   refine zQ (hK3 _ _ ?_);refine aP [1,2,3,4,5] ?_;refine aV ?_ fun K hK=>by simp -dsimp [wk];exact hK
   refine zQ ?_;exact⟨L.length+1,by omega,by omega,e8 [some 0,some 1,some 2,some 3,some 5] rfl (by simp) (by simp[hts,b3w,hkd,htL];try simp[g8])⟩
 ·have hk:k=s.Plan.Nodes.length:=by first|omega|(simp at hc0;omega)
  subst hk;refine c9 ?_;refine zQ (hK1 _ _ ?_);refine aP [1,2,3,4] ?_;refine aD ?_ fun K hK=>by simp -dsimp;refine cI (hfo) ?_;simp -dsimp;exact hK
  have hfe:fsN s.Plan s.Plan.Nodes.length=s.Plan.Nodes.map b3w:=by unfold fsN;rw[List.take_length]
  rw[←hfe];have hfl:=b3N (p:=s.Plan) (Nat.le_refl _);generalize fsN s.Plan s.Plan.Nodes.length=L at*
  have htk:List.take s.Plan.Nodes.length (L.map g8)=L.map g8:=List.take_of_length_le (by simp;omega);exact a7 (by simp[hfl,htk])
theorem c0n (s:j5) (h:P7 s=true) (hR:s.Plan.Rails.length≤20):a8 Tryz.prog 13 [s.av] (.tup [wA s,(⟨[],z7 s.Plan⟩:Sta).av]):=by
 refine(b7r s h hR).res fun w S y h=>?_;have e:wkN 4 6 (.tup [.agg [], .agg [I8, .lst 1 []]])= .tup [.agg [], .agg [.lst 4 [], .lst 1 []]]:=rfl
 cases h with
 | tup cs vs hl h=>
  refine .tup _ _ hl fun i c x h1 h2=>?_
  match i,h1 with
  |0,h1=>exact h 0 c x h1 h2
  | 1,h1=>
   have h1:c= .agg [.lst 4 [], .lst 1 ((z7 s.Plan).map g8)]:=(Option.some.inj h1).symm;subst h1;have h3:=h 1 _ x rfl h2
   cases h3 with
   | agg cs2 vs2 hl2 hc2 h4=>
    refine .agg _ _ hl2 hc2 fun j c z g1 g2=>?_
    match j,g1 with
    |0,g1=>
     simp only[List.getElem?_cons_zero,Option.some.injEq]at g1;subst g1;have h5:=h4 0 _ z rfl g2
     cases h5
     exact .lstNil _ _ _
    |1,g1=>exact h4 1 c z g1 g2
end Go.Tram.Lk
end
section
namespace Go.Tram.Lk
open Go.AM Go.Proofs
def a4A (n:Node):Bool:=decide (n.Ends.length≤8)
def a0X (r:Rail):Bool:=decide (r.Shape.length≤6)
def a8c (l:List Move):Bool:=decide (l.length≤110)
def c2n (s:j5):Bool:=decide (s.Plan.Nodes.length≤10)&&(decide (s.Plan.Rails.length≤10)&&(decide (s.Profiles.length≤8)&&decide (s.Singles.length≤32)))
def b4e (s:j5):Bool:=c2n s&&(s.Plan.Nodes.all a4A&&(s.Plan.Rails.all a0X&&s.Singles.all a8c))
theorem a3G {s:j5}:c2n s=true↔s.Plan.Nodes.length≤10∧s.Plan.Rails.length≤10∧s.Profiles.length≤8∧s.Singles.length≤32:=by simp[c2n]
structure j5.Fit (s:j5):Prop where
 n:s.Plan.Nodes.length≤9223372036854775807
 r:s.Plan.Rails.length≤9223372036854775807
 p:s.Profiles.length≤9223372036854775807
 s:s.Singles.length≤9223372036854775807
theorem c3D (s:j5) (hF:s.Fit):a8 Tryz.prog 8 [s.av] (Bo (b4e s)):=by
 obtain⟨q1,q2,q3,q4⟩:=hF;refine oB Tryz.func8 Tryz.ntmps8 Tryz.results8 ?_;refine aW ?_;refine a5 fun K1 hK1=>?_;refine aW ?_;refine a6 rfl (fun hc0=>?_) (fun hc0=>?_)
 ·have hf:b4e s=false:=by
   have:c2n s=false:=by
    cases h:c2n s with
    |false=>rfl
    |true=>rw[a3G]at h;exfalso;simp at hc0;omega
   unfold b4e;rw[this];rfl
  refine aW ?_;exact a7 (by simp[hf])
 ·have hA:c2n s=true:=by rw[a3G];simp at hc0;omega
  have hA2:=a3G.1 hA;have hfe:b4e s=(s.Plan.Nodes.all a4A&&(s.Plan.Rails.all a0X&&s.Singles.all a8c)):=by unfold b4e;rw[hA];rfl
  refine b8 ?_;refine zQ (hK1 _ _ ?_);refine aP [1] ?_;refine a5 fun K2 hK2=>?_;refine aW ?_;refine a9 ?_;refine aP [1,3] ?_;refine c5 [1] (α:=Nat) (fun k=>[(3,I k)]) (fun k=>[some (.els 4 [s.cells])]) (fun k=>k≤s.Plan.Nodes.length∧(s.Plan.Nodes.take k).all a4A=true) (fun k=>s.Plan.Nodes.length-k) 0 ?_ ?_ ?_
  ·exact⟨Nat.zero_le _,by simp⟩
  ·exact c7 (by simp)
  rintro k ⟨k1,k2⟩;refine zN ?_;refine a5 fun K3 hK3=>?_;refine aW ?_;refine a6 rfl (fun hc1=>?_) (fun hc1=>?_)
  ·have hk:k<s.Plan.Nodes.length:=by first|omega|(simp at hc1;omega)
   obtain⟨x,hx⟩:=gx (l:=s.Plan.Nodes) (i:=k) hk;have wk:=zW k (by omega);refine b8 ?_;refine zQ (hK3 _ _ ?_);refine aP [1,3] ?_;refine a5 fun K4 hK4=>?_;refine a9 ?_;refine aW ?_ fun K hK=>by simp -dsimp [hx];exact hK
   refine a6 rfl (fun hc2=>?_) (fun hc2=>?_)
   ·have hb:a4A x=false:=by unfold a4A;simp at hc2;simp;omega
    refine aW ?_;exact a7 (by rw[hfe,O9 hx hb];simp)
   ·have hb:a4A x=true:=by unfold a4A;simp at hc2;simp;omega
    refine b8 ?_;refine zQ (hK4 _ _ ?_);refine aP [1,3] ?_;refine aV ?_ fun K hK=>by simp -dsimp [wk];exact hK
    refine zQ ?_;exact⟨k+1,⟨by omega,r6 hx k2 hb⟩,by omega,aB [some 0]⟩
  ·have hk:k=s.Plan.Nodes.length:=by first|omega|(simp at hc1;omega)
   subst hk;rw[List.take_length]at k2;rw[k2,Bool.true_and]at hfe;refine c9 ?_;refine zQ (hK2 _ _ ?_);refine aP [1] ?_;refine a5 fun K5 hK5=>?_;refine aW ?_;refine a9 ?_;refine aP [1,4] ?_;refine c5 [1] (α:=Nat) (fun k=>[(4,I k)]) (fun k=>[some (.els 4 [s.cells])]) (fun k=>k≤s.Plan.Rails.length∧(s.Plan.Rails.take k).all a0X=true) (fun k=>s.Plan.Rails.length-k) 0 ?_ ?_ ?_
   ·exact⟨Nat.zero_le _,by simp⟩
   ·exact c7 (by simp)
   rintro k ⟨k1,k3⟩;refine zN ?_;refine a5 fun K6 hK6=>?_;refine aW ?_;refine a6 rfl (fun hc3=>?_) (fun hc3=>?_)
   ·have hk:k<s.Plan.Rails.length:=by first|omega|(simp at hc3;omega)
    obtain⟨x,hx⟩:=gx (l:=s.Plan.Rails) (i:=k) hk;have wk:=zW k (by omega);refine b8 ?_;refine zQ (hK6 _ _ ?_);refine aP [1,4] ?_;refine a5 fun K7 hK7=>?_;refine a9 ?_;refine aW ?_ fun K hK=>by simp -dsimp [hx];exact hK
    refine a6 rfl (fun hc4=>?_) (fun hc4=>?_)
    ·have hb:a0X x=false:=by unfold a0X;simp at hc4;simp;omega
     refine aW ?_;exact a7 (by rw[hfe,O9 hx hb];simp)
    ·have hb:a0X x=true:=by unfold a0X;simp at hc4;simp;omega
     refine b8 ?_;refine zQ (hK7 _ _ ?_);refine aP [1,4] ?_;refine aV ?_ fun K hK=>by simp -dsimp [wk];exact hK
     refine zQ ?_;exact⟨k+1,⟨by omega,r6 hx k3 hb⟩,by omega,aB [some 0]⟩
   ·have hk:k=s.Plan.Rails.length:=by first|omega|(simp at hc3;omega)
    subst hk;rw[List.take_length]at k3;rw[k3,Bool.true_and]at hfe;refine c9 ?_;refine zQ (hK5 _ _ ?_);refine aP [1] ?_;refine a5 fun K8 hK8=>?_;refine aW ?_;refine a9 ?_;refine aP [1,5] ?_;refine c5 [1] (α:=Nat) (fun k=>[(5,I k)]) (fun k=>[some (.els 4 [s.cells])]) (fun k=>k≤s.Singles.length∧(s.Singles.take k).all a8c=true) (fun k=>s.Singles.length-k) 0 ?_ ?_ ?_
    ·exact⟨Nat.zero_le _,by simp⟩
    ·exact c7 (by simp)
    rintro k ⟨k1,k4⟩;refine zN ?_;refine a5 fun K9 hK9=>?_;refine aW ?_;refine a6 rfl (fun hc5=>?_) (fun hc5=>?_)
    ·have hk:k<s.Singles.length:=by first|omega|(simp at hc5;omega)
     obtain⟨x,hx⟩:=gx (l:=s.Singles) (i:=k) hk;have wk:=zW k (by omega);refine b8 ?_;refine zQ (hK9 _ _ ?_);refine aP [1,5] ?_;refine a5 fun K10 hK10=>?_;refine a9 ?_;refine aW ?_ fun K hK=>by simp -dsimp [hx];exact hK
     refine a6 rfl (fun hc6=>?_) (fun hc6=>?_)
     ·have hb:a8c x=false:=by unfold a8c;simp at hc6;simp;omega
      refine aW ?_;exact a7 (by rw[hfe,O9 hx hb];simp)
     ·have hb:a8c x=true:=by unfold a8c;simp at hc6;simp;omega
      refine b8 ?_;refine zQ (hK10 _ _ ?_);refine aP [1,5] ?_;refine aV ?_ fun K hK=>by simp -dsimp [wk];exact hK
      refine zQ ?_;exact⟨k+1,⟨by omega,r6 hx k4 hb⟩,by omega,aB [some 0]⟩
    ·have hk:k=s.Singles.length:=by first|omega|(simp at hc5;omega)
     subst hk;rw[List.take_length]at k4;refine c9 ?_;refine zQ (hK8 _ _ ?_);refine aP [] ?_;refine aW ?_;exact a7 (by rw[hfe,k4];simp)
theorem b4h {s:j5} (h:b4e s=true):(s.Plan.Nodes.length≤10∧s.Plan.Rails.length≤10∧s.Profiles.length≤8∧s.Singles.length≤32)∧∀x∈s.Singles,x.length≤110:=by
 simp only[b4e,Bool.and_eq_true,List.all_eq_true,a8c,decide_eq_true_eq]at h;exact⟨a3G.1 h.1,h.2.2.2⟩
end Go.Tram.Lk
end
section
namespace Go.Tram.Lk
open Go.AM Go.Proofs Go.ChangeShapes Go.WideShapes
theorem l3 {α:Type} {l:List α} (h:l.length=3):∃a b c,l=[a,b,c]:=by match l,h with|[a,b,c],_=>exact⟨a,b,c,rfl⟩
theorem l4 {α:Type} {l:List α} (h:l.length=4):∃a b c d,l=[a,b,c,d]:=by match l,h with|[a,b,c,d],_=>exact⟨a,b,c,d,rfl⟩
theorem l1 {α:Type} {l:List α} (h:l.length=1):∃a,l=[a]:=by match l,h with|[a],_=>exact⟨a,rfl⟩
theorem c0U {n:Nat} {avs:List AV} (h:v7 Tryz.prog (n+4) 85 avs):∃l:List Move,avs=r4 l∧l.length≤maxLen:=by
 obtain⟨hz,h2⟩:=B6 (by kernel_rfl) c6P h;obtain⟨a,rfl⟩:=l1 hz;obtain⟨W,h0,b0,_⟩:=b1h (h2 (0,1,49) (by simp));simp at h0;subst h0;exact⟨W,rfl,b0⟩
theorem c1C {n:Nat} {avs:List AV} (h:v7 Tryz.prog (n+9) 29 avs):∃s:j5,avs=s.cells∧s.Fit:=by
 obtain⟨hz,h2⟩:=B6 (by kernel_rfl) c5l h;obtain⟨a,b,c,d,rfl⟩:=l4 hz;obtain⟨p,h0,hp⟩:=c1R (h2 (0,2,25) (by simp));obtain⟨P,h1,b1,_⟩:=b6X (h2 (2,1,26) (by simp));obtain⟨els,hl,hb,he⟩:=z6 (by kernel_rfl) c6S (h2 (3,1,27) (by simp));obtain⟨L,rfl,hR⟩:=Q8 (c:=r4) (R:=fun l=>l.length≤maxLen) (fun el hel=>by obtain⟨l,h1,h2⟩:=c0U (he el hel);exact⟨l,h1,h2⟩);rw[List.length_map]at hb;simp at h0 h1 hl;obtain⟨r1,r2⟩:=h0;subst r1 r2 h1 hl;have hm:maxLen=9223372036854775807:=by decide
 exact⟨⟨p,P,L⟩,rfl,⟨by have:=hp.1;simp only[];omega,by have:=hp.2;simp only[];omega,by simp only[];omega,by simp only[];omega⟩⟩
structure Car.Fit (c:Car):Prop where
 n:I64 c.Name
 p:I64 c.Profile
 f:I64 c.Front
 w:c.Way.length≤9223372036854775807
theorem c3M {n:Nat} {avs:List AV} (h:v7 Tryz.prog (n+4) 51 avs):∃c:Car,avs=c.cells∧c.Fit:=by
 obtain⟨hz,h2⟩:=B6 (by kernel_rfl) c6t h;obtain⟨a,b,c,d,rfl⟩:=l4 hz;obtain⟨x,hx,bx⟩:=O4 (h2 (0,1,3) (by simp));obtain⟨y,hy,yb⟩:=O4 (h2 (1,1,3) (by simp));obtain⟨W,h0,b0,_⟩:=b1h (h2 (2,1,49) (by simp));obtain⟨z,hz3,zb⟩:=O4 (h2 (3,1,3) (by simp));simp at hx hy h0 hz3;subst hx hy h0 hz3;have hm:maxLen=9223372036854775807:=by decide
 exact⟨⟨x,y,W,z⟩,rfl,⟨bx,yb,zb,by simp only[];omega⟩⟩
theorem c1L {n:Nat} {avs:List AV} (h:v7 Tryz.prog (n+5) 40 avs):∃l:List Car,avs=[.lst 4 (l.map Car.cells)]∧l.length≤maxLen∧∀c∈l,c.Fit:=by
 obtain⟨els,hl,hb,he⟩:=z6 (by kernel_rfl) c5a h;obtain⟨l,rfl,hR⟩:=Q8 (c:=Car.cells) (R:=fun c=>c.Fit) (fun el hel=>c3M (he el hel));simp at hl hb;exact⟨l,hl,hb,hR⟩
theorem c0a {n:Nat} {avs:List AV} (h:v7 Tryz.prog (n+2) 41 avs):∃l:List Int,avs=[.lst 1 (l.map g8)]∧l.length≤maxLen∧∀x∈l,I64 x:=by
 obtain⟨els,hl,hb,he⟩:=z6 (by kernel_rfl) c5n h;obtain⟨l,rfl,hR⟩:=Q8 (c:=g8) (R:=fun x=>I64 x) (fun el hel=>O4 (he el hel));simp at hl hb;exact⟨l,hl,hb,hR⟩
structure Act.Fit (a:Act):Prop where
 n:I64 a.Name
 p:I64 a.Profile
 w:a.Way.length≤9223372036854775807
end Go.Tram.Lk
end
section
namespace Go.Tram.Lk
open Go.AM Go.Proofs
theorem a3u (t:TypeId) (x y:Operand) (a b:Bool) (w:World) (ht:(Tryz.prog).underlying t=some .bool) (hk:a3b Tryz.prog t=some .b):(eqGuard .eql t x y (.bool a) (.bool b)).run Tryz.prog w= .ok () w∧(binOp .eql t (.bool a) (.bool b)).run Tryz.prog w= .ok (.bool (a==b)) w:=by
 constructor
 ·simp[eqGuard,run_underlying ht]
 ·have h:=B7 (P:=Tryz.prog) (w:=w) hk (Op.maxDepth-1) (a:= .b a) (b:= .b b) rfl rfl;rw[show Op.maxDepth-1+1=Op.maxDepth from rfl]at h;simp only[KC.val]at h;have e:decide (KC.b a=KC.b b)=(a==b):=by cases a<;>cases b<;>rfl
  rw[e]at h;simp[binOp,Op.equal,h]
theorem b5I (t:TypeId) (x y:Operand) (a b:Bool) (w:World) (ht:(Tryz.prog).underlying t=some .bool):(eqGuard .neq t x y (.bool a) (.bool b)).run Tryz.prog w= .ok () w:=by
 simp[eqGuard,run_underlying ht]
theorem b6V (t:TypeId) (a b:Bool) (w:World) (hk:a3b Tryz.prog t=some .b):(binOp .neq t (.bool a) (.bool b)).run Tryz.prog w= .ok (.bool (a !=b)) w:=by
 have h:=B7 (P:=Tryz.prog) (w:=w) hk (Op.maxDepth-1) (a:= .b a) (b:= .b b) rfl rfl;rw[show Op.maxDepth-1+1=Op.maxDepth from rfl]at h;simp only[KC.val]at h;simp[binOp,Op.equal,h]
 cases a<;>cases b<;>rfl
theorem Z6:(Tryz.prog).underlying 4=some .bool:=by kernel_rfl
theorem a1r:a3b Tryz.prog 4=some .b:=by kernel_rfl
def b5O (a x b y:Int) (f:F8):Bool:=decide (f=⟨a,x,b,y⟩)||decide (f=⟨b,y,a,x⟩)
theorem any_take {α:Type} {l:List α} {p:α→Bool} {k:Nat} {x:α} (hx:l[k]?=some x) (h:(l.take k).any p=false) (hp:p x=false):(l.take (k+1)).any p=false:=by
 rw[List.take_add_one,hx,List.any_append,h];simp[hp]
theorem a6W {α:Type} {l:List α} {p:α→Bool} {k:Nat} {x:α} (hx:l[k]?=some x) (hp:p x=true):l.any p=true:=by
 rw[List.any_eq_true];exact⟨x,List.mem_of_getElem? hx,hp⟩
theorem c0f (s:j5) (a x b y:Int) (hfl:(A2 s.Plan s.Profiles).length≤100000):a8 Tryz.prog 49 [wA s,I a,I x,I b,I y] (Bo (G0 s a x b y)):=by
 have hd:G0 s a x b y=(A2 s.Plan s.Profiles).any (b5O a x b y):=rfl;rw[hd];unfold wA wC;generalize A2 s.Plan s.Profiles=fl at hfl ⊢;refine oB Tryz.func49 Tryz.ntmps49 Tryz.results49 ?_;refine aW ?_;refine a5 fun K1 hK1=>?_;refine aW ?_;refine a9 ?_;refine aP [1,2,3,4,5,11] ?_;refine c5 [1,2,3,4,5] (α:=Nat) (fun k=>[(11,I k)]) (fun k=>[some (.els 5 [s.cells++[.lst 4 (fl.map F8.cells)]])]) (fun k=>k≤fl.length∧(fl.take k).any (b5O a x b y)=false) (fun k=>fl.length-k) 0 ?_ ?_ ?_
 ·exact⟨Nat.zero_le _,by simp⟩
 ·exact c7 (by simp)
 rintro k ⟨k1,k2⟩;refine zN ?_;refine a5 fun K2 hK2=>?_;refine aW ?_;refine a6 rfl (fun hc0=>?_) (fun hc0=>?_)
 ·have hk:k<fl.length:=by first|omega|(simp at hc0;omega)
  obtain⟨f,hf⟩:=gx (l:=fl) (i:=k) hk;have wk:=zW k (by omega);have hft:b5O a x b y f=(decide (f=⟨a,x,b,y⟩)||decide (f=⟨b,y,a,x⟩)):=rfl;simp only[c0x]at hft;refine b8 ?_;refine zQ (hK2 _ _ ?_);refine aP [1,2,3,4,5,11] ?_;refine a5 fun K3 hK3=>?_;refine a9 ?_;refine aW ?_ fun K hK=>by simp -dsimp [hf];exact hK
  refine aW ?_;refine a6 rfl (fun hc1=>?_) (fun hc1=>?_)
  ·have hq:b5O a x b y f=true:=by rw[hft];simpa [and_assoc]using hc1
   refine aW ?_;exact a7 (by simp[a6W hf hq])
  ·have hq:b5O a x b y f=false:=by rw[hft];simpa [and_assoc]using hc1
   refine b8 ?_;refine zQ (hK3 _ _ ?_);refine aP [1,2,3,4,5,11] ?_;refine aV ?_ fun K hK=>by simp -dsimp [wk];exact hK
   refine zQ ?_;exact⟨k+1,⟨by omega,any_take hf k2 hq⟩,by omega,aB [some 0]⟩
 ·have hk:k=fl.length:=by first|omega|(simp at hc0;omega)
  subst hk;rw[List.take_length]at k2;refine c9 ?_;refine zQ (hK1 _ _ ?_);refine aP [] ?_;refine aW ?_;exact a7 (by simp[k2])
theorem b3Q {s:j5} {i:Nat} {l:List Move} {r:Int} (hl:s.Singles[i]?=some l) (hm:(l.any fun m=>decide (m.Rail=r))=true) (hb:(s.Singles.take i).any (fun l=>l.any fun m=>decide (m.Rail=r))=false):a0E s r=some i:=by
 unfold a0E;rw[List.findIdx?_eq_some_iff_getElem];obtain⟨h1,h2⟩:=List.getElem?_eq_some_iff.1 hl;refine⟨h1,by rw[h2];exact hm,fun j hj=>?_⟩;rw[List.any_eq_false]at hb;have:=hb s.Singles[j] (by rw[List.mem_take_iff_getElem];exact⟨j,by omega,rfl⟩);simpa using this
theorem b8f {s:j5} {r:Int} (hb:s.Singles.any (fun l=>l.any fun m=>decide (m.Rail=r))=false):a0E s r=none:=by
 unfold a0E;rw[List.findIdx?_eq_none_iff];intro l hl;rw[List.any_eq_false]at hb;simpa using hb l hl
theorem c0B {s:j5} (hs:P7 s=true) {i:Nat} {l:List Move} {x m:Move} (hl:s.Singles[i]?=some l) (hx:x∈l) (hr:x.Rail=m.Rail):s.Singles.flatten.contains m=decide (x.Back=m.Back):=by
 obtain⟨_,_,_,h4⟩:=o7 hs;simp only[a7s,Bool.and_eq_true,decide_eq_true_eq]at h4;have hn:=h4.2.2;have hxf:x∈s.Singles.flatten:=List.mem_flatten.2 ⟨l,List.mem_of_getElem? hl,hx⟩;rw[Bool.eq_iff_iff,List.contains_iff_mem,decide_eq_true_iff];constructor
 ·intro hm;have:x=m:=by
   have inj:∀(L:List Move),(L.map (·.Rail)).Nodup→∀a∈L,∀b∈L,a.Rail=b.Rail→a=b:=by
    intro L
    induction L with
    |nil=>intro _ a ha;cases ha
    |cons z L ih=>
     intro hn a ha b hb e;rw[List.map_cons,List.nodup_cons]at hn
     rcases List.mem_cons.1 ha with h1|h1<;>rcases List.mem_cons.1 hb with h2|h2
     ·rw[h1,h2]
     ·refine absurd ?_ hn.1;rw[←h1,e];exact List.mem_map_of_mem (f:=(·.Rail)) h2
     ·refine absurd ?_ hn.1;rw[←h2,←e];exact List.mem_map_of_mem (f:=(·.Rail)) h1
     ·exact ih hn.2 a h1 b h2 e
   exact inj _ hn x hxf m hm hr
  rw[this]
 ·intro hb;have:x=m:=by
   obtain⟨r,b⟩:=x;obtain⟨r',b'⟩:=m;simp only at hr hb;rw[hr,hb]
  rw[←this];exact hxf
def upB (s:j5) (m:Move):Bool:=decide (X3 s m=1)
theorem c2Y (s:j5) (m:Move) (hs:P7 s=true):a8 Tryz.prog 92 [wA s,m.av] (.tup [I (T4 s m),Bo (upB s m)]):=by
 obtain⟨_,_,h3,h4⟩:=o7 hs;simp only[a7s,Bool.and_eq_true,decide_eq_true_eq]at h4;have hlen:∀l∈s.Singles,l.length≤100:=by
  intro l hl;have:=List.all_eq_true.1 h4.1 l hl;rw[g6]at this;omega
 have w1:IntKind.i64.wrap (-1)=-1:=c4 (by omega) (by omega);unfold wA wC;generalize A2 s.Plan s.Profiles=fl;refine oB Tryz.func92 Tryz.ntmps92 Tryz.results92 ?_;refine aW ?_;refine a5 fun K1 hK1=>?_;refine aW ?_;refine a9 ?_;refine aP [2,3,6] ?_;refine c5 [2,3] (α:=Nat) (fun i=>[(6,I i)]) (fun i=>[some (.els 5 [s.cells++[.lst 4 (fl.map F8.cells)]]),some (.els 2 [m.cells])]) (fun i=>i≤s.Singles.length∧(s.Singles.take i).any (fun l=>l.any fun x=>decide (x.Rail=m.Rail))=false) (fun i=>s.Singles.length-i) 0 ?_ ?_ ?_
 ·exact⟨Nat.zero_le _,by simp⟩
 ·exact c7 (by simp)
 rintro i ⟨i1,i2⟩;refine zN ?_;refine a5 fun K2 hK2=>?_;refine aW ?_;refine a6 rfl (fun hc0=>?_) (fun hc0=>?_)
 ·have hi:i<s.Singles.length:=by first|omega|(simp at hc0;omega)
  obtain⟨l,hl⟩:=gx (l:=s.Singles) (i:=i) hi;have wi:=zW i (by omega);have hll:=hlen l (List.mem_of_getElem? hl);refine b8 ?_;refine zQ (hK2 _ _ ?_);refine aP [2,3,6] ?_;refine a5 fun K3 hK3=>?_;refine a9 ?_;refine aW ?_ fun K hK=>by simp -dsimp [hl];exact hK
  refine aW ?_;refine a9 ?_;refine aP [2,3,6,7,8] ?_;refine c5 [2,3,6,7] (α:=Nat) (fun k=>[(8,I k)]) (fun k=>[some (.els 5 [s.cells++[.lst 4 (fl.map F8.cells)]]),some (.els 2 [m.cells])]) (fun k=>k≤l.length∧(l.take k).any (fun x=>decide (x.Rail=m.Rail))=false) (fun k=>l.length-k) 0 ?_ ?_ ?_
  ·exact⟨Nat.zero_le _,by simp⟩
  ·exact c7 (by simp)
  rintro k ⟨k1,k2⟩;refine zN ?_;refine a5 fun K4 hK4=>?_;refine aW ?_;refine a6 rfl (fun hc1=>?_) (fun hc1=>?_)
  ·have hk:k<l.length:=by first|omega|(simp at hc1;omega)
   obtain⟨x,hx⟩:=gx (l:=l) (i:=k) hk;have wk:=zW k (by omega);refine b8 ?_;refine zQ (hK4 _ _ ?_);refine aP [2,3,6,7,8] ?_;refine a5 fun K5 hK5=>?_;refine a9 ?_;refine aD ?_ fun K hK=>by simp -dsimp [hx];exact hK
   refine a6 rfl (fun hc2=>?_) (fun hc2=>?_)
   ·have hxr:x.Rail=m.Rail:=by simpa using hc2
    have hxm:=List.mem_of_getElem? hx;have hat:=b3Q hl (a6W (p:=fun x=>decide (x.Rail=m.Rail)) hx (by simpa using hxr)) i2;have hup:=c0B hs hl hxm hxr;refine aD ?_ fun K hK=>by simp -dsimp [hx];refine⟨fun w=>(a3u _ _ _ _ _ w Z6 a1r).1,_,fun w=>(a3u _ (.tmp 0) (.tmp 0) _ _ w Z6 a1r).2,?_⟩;exact hK
    refine a7 ?_;have e1:T4 s m=i:=by unfold T4;rw[hat]
    have e2:upB s m=decide (x.Back=m.Back):=by unfold upB X3;rw[hat,hup];by_cases hq:x.Back=m.Back<;>simp[hq]
    simp[e1,e2,Bool.beq_eq_decide_eq]
   ·have hxr:¬x.Rail=m.Rail:=by simpa using hc2
    refine b8 ?_;refine zQ (hK5 _ _ ?_);refine aP [2,3,6,7,8] ?_;refine aV ?_ fun K hK=>by simp -dsimp [wk];exact hK
    refine zQ ?_;exact⟨k+1,⟨by omega,any_take hx k2 (by simpa using hxr)⟩,by omega,aB [some 0,some 1]⟩
  ·have hk:k=l.length:=by first|omega|(simp at hc1;omega)
   subst hk;rw[List.take_length]at k2;refine c9 ?_;refine zQ (hK3 _ _ ?_);refine aP [2,3,6] ?_;refine aV ?_ fun K hK=>by simp -dsimp [wi];exact hK
   refine zQ ?_;exact⟨i+1,⟨by omega,any_take hl i2 k2⟩,by omega,aB [some 0,some 1]⟩
 ·have hi:i=s.Singles.length:=by first|omega|(simp at hc0;omega)
  subst hi;rw[List.take_length]at i2;have hat:=b8f i2;refine c9 ?_;refine zQ (hK1 _ _ ?_);refine aP [] ?_;refine aW ?_ fun K hK=>by simp -dsimp [w1];exact hK
  exact a7 (by simp[T4,X3,upB,hat])
theorem c0r {s:j5} {m n:Move}:G7 s m n=(decide (0≤T4 s m)&&(decide (T4 s n=T4 s m)&& !decide (upB s n=upB s m))):=by
 unfold G7 upB;have hd:∀k:Move,0≤T4 s k→X3 s k=1∨X3 s k=2:=by
  intro k hk;unfold T4 at hk;unfold X3
  cases h:a0E s k.Rail with
  |none=>rw[h]at hk;simp at hk
  |some i=>
   simp only
   cases s.Singles.flatten.contains k
   ·exact Or.inr rfl
   ·exact Or.inl rfl
 rw[Bool.eq_iff_iff];simp only[Bool.and_eq_true,decide_eq_true_eq,Bool.not_eq_true',decide_eq_false_iff_not];constructor
 ·rintro⟨h1,h2,h3⟩;refine⟨h1,h2.symm,fun e=>h3 ?_⟩;have:=hd m h1;have:=hd n (by omega);have e':(X3 s n=1)=(X3 s m=1):=by simpa using e
  by_cases hq:X3 s m=1
  ·rw[hq]at e' ⊢;simp at e';exact e'.symm
  ·have:¬X3 s n=1:=by rw[e'];exact hq
   omega
 ·rintro⟨h1,h2,h3⟩;refine⟨h1,h2.symm,fun e=>h3 (by rw[e])⟩
theorem b2Q (s:j5) (c:Car) (m:Move) (hs:P7 s=true) (hl:c.Way.length≤1000):a8 Tryz.prog 48 [wA s,c.av,m.av] (Bo (c.Way.any fun n=>G7 s m n)):=by
 have hd:=fun m=>c2Y s m hs;have hag:=fun n=>c0r (s:=s) (m:=m) (n:=n);unfold wA wC at*
 generalize A2 s.Plan s.Profiles=fl at*
 refine oB Tryz.func48 Tryz.ntmps48 Tryz.results48 ?_;refine aW ?_;refine aW ?_ fun K hK=>by simp -dsimp;refine cI (hd m) ?_;simp -dsimp;exact hK
 refine a5 fun K1 hK1=>?_;refine aW ?_;refine a9 ?_;refine aP [3,4,7,8,9] ?_;refine c5 [3,4,7,8] (α:=Nat) (fun k=>[(9,I k)]) (fun k=>[some (.els 5 [s.cells++[.lst 4 (fl.map F8.cells)]]),some (.els 4 [c.cells]),some (.els 2 [m.cells])]) (fun k=>k≤c.Way.length∧(c.Way.take k).any (fun n=>G7 s m n)=false) (fun k=>c.Way.length-k) 0 ?_ ?_ ?_
 ·exact⟨Nat.zero_le _,by simp⟩
 ·exact c7 (by simp)
 rintro k ⟨k1,k2⟩;refine zN ?_;refine a5 fun K2 hK2=>?_;refine aW ?_;refine a6 rfl (fun hc0=>?_) (fun hc0=>?_)
 ·have hk:k<c.Way.length∧0≤T4 s m:=by simp at hc0;exact⟨hc0.1,hc0.2⟩
  obtain⟨n,hn⟩:=gx (l:=c.Way) (i:=k) hk.1;have wk:=zW k (by omega);refine b8 ?_;refine zQ (hK2 _ _ ?_);refine aP [3,4,7,8,9] ?_;refine a5 fun K3 hK3=>?_;refine a9 ?_;refine aD ?_ fun K hK=>by simp -dsimp [hn];refine cI (hd n) ?_;simp -dsimp [hn];exact hK
  refine aW ?_ fun K hK=>by simp -dsimp;refine⟨fun w=>b5I _ _ _ _ _ w Z6,_,fun w=>b6V _ _ _ w a1r,?_⟩;simp -dsimp;exact hK
  refine a6 rfl (fun hc1=>?_) (fun hc1=>?_)
  ·have hq:G7 s m n=true:=by rw[hag,decide_eq_true hk.2];simpa [Bool.beq_eq_decide_eq,bne]using hc1
   refine aW ?_;exact a7 (by simp[a6W hn hq])
  ·have hq:G7 s m n=false:=by rw[hag,decide_eq_true hk.2];simpa [Bool.beq_eq_decide_eq,bne]using hc1
   refine b8 ?_;refine zQ (hK3 _ _ ?_);refine aP [3,4,7,8,9] ?_;refine aV ?_ fun K hK=>by simp -dsimp [wk];exact hK
   refine zQ ?_;exact⟨k+1,⟨by omega,any_take hn k2 hq⟩,by omega,aB [some 0,some 1,some 2]⟩
 ·have hfin:(c.Way.any fun n=>G7 s m n)=false:=by
   by_cases hq:0≤T4 s m
   ·have hk:k=c.Way.length:=by simp[hq]at hc0;omega
    subst hk;rw[List.take_length]at k2;exact k2
   ·rw[List.any_eq_false];intro n hn;rw[hag,decide_eq_false hq];simp
  refine c9 ?_;refine zQ (hK1 _ _ ?_);refine aP [] ?_;refine aW ?_;exact a7 (by simp[hfin])
theorem c1T (p:Plan) (hv:d8 p=true) {l:List Move} (hw:wayB p l=true) {i:Nat} (hi:i+1<l.length):a8 Tryz.prog 47 [p.av,(C3 l i).av,(C3 l (i+1)).av] (.tup [.agg (if J5 p (C3 l i)then L2 p (C3 l i) (C3 l (i+1))else⟨0,0⟩).cells,Bo (J5 p (C3 l i))]):=by
 have hm:=J9 hw i (by omega);have hk:=J9 hw (i+1) hi;have hf:=b1x hw hi;rw[a9w hv hm hk]at hf;have hb:=c1O hv hm hf;have:=b2M p (C3 l i) (C3 l (i+1)) hv hm;rw[←hb]at this;exact this
end Go.Tram.Lk
end
section
namespace Go.Tram.Lk
open Go.AM Go.Proofs
theorem b6g {l:List Move} {i j:Nat} {a b:Move} (hi:l[i]?=some a) (hj:l[j]?=some b) (h:j<i) (e:b.Rail=a.Rail):¬(A7 l).Nodup:=by
 intro hn;unfold A7 at hn;obtain⟨h1,e1⟩:=List.getElem?_eq_some_iff.1 hi;obtain⟨h2,e2⟩:=List.getElem?_eq_some_iff.1 hj;have:=(List.pairwise_iff_getElem.1 hn) j i (by simpa using h2) (by simpa using h1) h;apply this;simp[e1,e2,e]
theorem b2S {l:List Move} {k:Nat} {m:Move} (hk:l[k]?=some m) (hn:(A7 (l.take k)).Nodup) (h:(l.take k).any (fun a=>decide (a.Rail=m.Rail))=false):(A7 (l.take (k+1))).Nodup:=by
 unfold A7 at*
 rw[List.take_add_one,hk,List.map_append,List.nodup_append];refine⟨hn,by simp,?_⟩;intro a ha b hb;obtain⟨x,hx,rfl⟩:=List.mem_map.1 ha;simp at hb;subst hb;rw[List.any_eq_false]at h;simpa using h x hx
theorem b7w (s:j5) (c:Car) (hv:d8 s.Plan=true) (hp:s.Profiles.length≤100000) (hl:c.Way.length≤1000):a8 Tryz.prog 46 [s.av,c.av] (Bo (a1W s c)):=by
 have wp:IntKind.i64.wrap ((s.Profiles.length:Int)-1)=(s.Profiles.length:Int)-1:=c4 (by omega) (by omega);have wl:IntKind.i64.wrap ((c.Way.length:Int)-1)=(c.Way.length:Int)-1:=c4 (by omega) (by omega);have h1:=b2P c.Name 1 1000000;have h2:=b2P c.Profile 0 ((s.Profiles.length:Int)-1);have h3:=b2P c.Way.length 1 20;have h4:=c2J s.Plan c.Way hv (by omega);have h5:=b2P c.Front 0 ((c.Way.length:Int)-1);have hc:a1W s c=(inr c.Name 1 1000000&&(inr c.Profile 0 (s.Profiles.length-1)&&((inr c.Way.length 1 20&&(decide (A7 c.Way).Nodup&&wayB s.Plan c.Way))&&inr c.Front 0 (c.Way.length-1)))):=by
  unfold a1W a9Y;have:inr (c.Way.length:Int) 1 20=(decide (1≤c.Way.length)&&decide (c.Way.length≤20)):=by
   rw[Bool.eq_iff_iff,g6];simp;omega
  rw[this];simp only[Bool.and_assoc]
 generalize inr c.Name 1 1000000=b1 at*
 generalize inr c.Profile 0 ((s.Profiles.length:Int)-1)=b2 at*
 generalize inr (c.Way.length:Int) 1 20=b3 at*
 generalize wayB s.Plan c.Way=b4 at*
 generalize inr c.Front 0 ((c.Way.length:Int)-1)=b5 at*
 rw[hc];refine oB Tryz.func46 Tryz.ntmps46 Tryz.results46 ?_;refine aW ?_;refine a5 fun K1 hK1=>?_;refine aW ?_ fun K hK=>by simp -dsimp [wp,wl];refine cI (h1) ?_;simp -dsimp [wp,wl];refine cY (fun hm=>h2) ?_;simp -dsimp [wp,wl];refine cY (fun hm=>h3) ?_;simp -dsimp [wp,wl];refine cY (fun hm=>h4) ?_;simp -dsimp [wp,wl];refine cY (fun hm=>h5) ?_;simp -dsimp [wp,wl];exact hK
 refine a6 rfl (fun hc0=>?_) (fun hc0=>?_)
 ·refine aW ?_;refine a7 ?_;have:(b1&&(b2&&((b3&&(decide (A7 c.Way).Nodup&&b4))&&b5)))=false:=by cases b1<;>cases b2<;>cases b3<;>cases b4<;>cases b5<;>simp at hc0 ⊢
  simp[this]
 ·obtain⟨rfl,rfl,rfl,rfl,rfl⟩:b1=true∧b2=true∧b3=true∧b4=true∧b5=true:=by cases b1<;>cases b2<;>cases b3<;>cases b4<;>cases b5<;>simp at hc0 ⊢
  refine b8 ?_;refine zQ (hK1 _ _ ?_);refine aP [3] ?_;refine a5 fun K2 hK2=>?_;refine aW ?_;refine a9 ?_;refine aP [3,5] ?_;refine c5 [3] (α:=Nat) (fun k=>[(5,I k)]) (fun k=>[some (.els 4 [s.cells]),some (.els 4 [c.cells])]) (fun k=>k≤c.Way.length∧(A7 (c.Way.take k)).Nodup) (fun k=>c.Way.length-k) 0 ?_ ?_ ?_
  ·exact⟨Nat.zero_le _,by simp[A7]⟩
  ·exact c7 (by simp)
  rintro k ⟨k1,k2⟩;refine zN ?_;refine a5 fun K3 hK3=>?_;refine aW ?_;refine a6 rfl (fun hc1=>?_) (fun hc1=>?_)
  ·have hk:k<c.Way.length:=by first|omega|(simp at hc1;omega)
   obtain⟨m,hm⟩:=gx (l:=c.Way) (i:=k) hk;have wk:=zW k (by omega);refine b8 ?_;refine zQ (hK3 _ _ ?_);refine aP [3,5] ?_;refine a5 fun K4 hK4=>?_;refine a9 ?_;refine aW ?_;refine a9 ?_;refine aP [3,5,6] ?_;refine c5 [3,5] (α:=Nat) (fun j=>[(6,I j)]) (fun j=>[some (.els 4 [s.cells]),some (.els 4 [c.cells])]) (fun j=>j≤k∧(c.Way.take j).any (fun a=>decide (a.Rail=m.Rail))=false) (fun j=>k-j) 0 ?_ ?_ ?_
   ·exact⟨Nat.zero_le _,by simp⟩
   ·exact c7 (by simp)
   rintro j ⟨j1,j2⟩;refine zN ?_;refine a5 fun K5 hK5=>?_;refine aW ?_;refine a6 rfl (fun hc2=>?_) (fun hc2=>?_)
   ·have hj:j<k:=by first|omega|(simp at hc2;omega)
    obtain⟨n,hn⟩:=gx (l:=c.Way) (i:=j) (by omega);have wj:=zW j (by omega);refine b8 ?_;refine zQ (hK5 _ _ ?_);refine aP [3,5,6] ?_;refine a5 fun K6 hK6=>?_;refine a9 ?_;refine aD ?_ fun K hK=>by simp -dsimp [hm,hn];exact hK
    refine a6 rfl (fun hc3=>?_) (fun hc3=>?_)
    ·have he:n.Rail=m.Rail:=by simpa using hc3
     refine aW ?_;exact a7 (by simp[b6g hm hn hj he])
    ·have he:¬n.Rail=m.Rail:=by simpa using hc3
     refine b8 ?_;refine zQ (hK6 _ _ ?_);refine aP [3,5,6] ?_;refine aV ?_ fun K hK=>by simp -dsimp [wj];exact hK
     refine zQ ?_;exact⟨j+1,⟨by omega,any_take hn j2 (by simpa using he)⟩,by omega,aB [some 0,some 1]⟩
   ·have hj:j=k:=by first|omega|(simp at hc2;omega)
    subst hj;refine c9 ?_;refine zQ (hK4 _ _ ?_);refine aP [3,5] ?_;refine aV ?_ fun K hK=>by simp -dsimp [wk];exact hK
    refine zQ ?_;exact⟨j+1,⟨by omega,b2S hm k2 j2⟩,by omega,aB [some 0,some 1]⟩
  ·have hk:k=c.Way.length:=by first|omega|(simp at hc1;omega)
   subst hk;rw[List.take_length]at k2;refine c9 ?_;refine zQ (hK2 _ _ ?_);refine aP [] ?_;refine aW ?_;exact a7 (by simp[k2])
def a7I (s:j5) (c x:Car) (m n:Move):Bool:=G0 s m.Rail c.Profile n.Rail x.Profile
def b4E (s:j5) (c x:Car) (m:Move):Bool:= !(x.Way.any fun n=>G7 s m n)&& !(x.Way.any (a7I s c x m))
def c0h (s:j5) (c x:Car):Bool:= !decide (c.Name=x.Name)&&c.Way.all (b4E s c x)
theorem a5M (s:j5) (a x b y:Int):G0 s a x b y=G0 s b y a x:=by
 unfold G0
 congr 1;funext f
 rw[Bool.or_comm]
theorem c3q (s:j5) (c x:Car):c0h s c x=a8x s c x:=by
 unfold c0h a8x;have e:decide (c.Name=x.Name)=decide (x.Name=c.Name):=by rw[Bool.eq_iff_iff];simp[eq_comm]
 rw[e]
 congr 1
 rw[Bool.eq_iff_iff,Y3,List.all_eq_true];unfold b4E a7I;simp only[Bool.and_eq_true,Bool.not_eq_true',List.any_eq_false];constructor
 ·intro h m hm n hn;obtain⟨h1,h2⟩:=h n hn;exact⟨by rw[a5M];simpa using h2 m hm,by rw[a4c];simpa using h1 m hm⟩
 ·intro h m hm;exact⟨fun n hn=>by rw[a4c];simp[(h n hn m hm).2],fun n hn=>by rw[a5M];simp[(h n hn m hm).1]⟩
def b2W (s:j5) (cars:List Car) (pts:List Int) (i:Nat):Bool:=(F0 s (a1a cars i)).all (a8i pts)&&(cars.take i).all (c0h s (a1a cars i))
theorem b5j (s:j5) (cars:List Car) (pts:List Int) (i:Nat):b6t s cars pts i=(a1W s (a1a cars i)&&b2W s cars pts i):=by
 unfold b6t b2W
 congr 1
 rw[Bool.and_comm]
 congr 2
 funext x
 exact(c3q s _ x).symm
theorem c0F (s:j5) (cars:List Car) (pts:List Int) (h:P7 s=true) (hN:s.Plan.Rails.length≤20) (hc:cars.length≤1000) (hw:∀c∈cars,c.Way.length≤1000) (hpn:pts.length≤1000):
  a8 Tryz.prog 18 [wA s, .lst 4 (cars.map Car.cells), .lst 1 (pts.map g8)] (Bo (P5 s cars pts)):=by
 obtain⟨hv,hpf,_,_⟩:=o7 h;have hpl:s.Profiles.length≤100000:=by simp only[D5,Bool.and_eq_true,decide_eq_true_eq]at hpf;omega
 have hNl:1≤s.Plan.Nodes.length∧s.Plan.Nodes.length≤300:=(j7 hv).1;have hfl:=b6c hN hpf;have hri:=fun c hl=>b7w s c hv hpl hl;have hin:=b2P;have hbt:=fun(l:List Move) (hw:wayB s.Plan l=true) (i:Nat) (hi:i+1<l.length)=>c1T s.Plan hv hw hi;have hag:=fun c m hl=>b2Q s c m h hl;have hfo:=fun a x b y=>c0f s a x b y hfl;unfold Plan.av at hbt;unfold wA wC at*
 generalize A2 s.Plan s.Profiles=fl at*
 refine oB Tryz.func18 Tryz.ntmps18 Tryz.results18 ?_;refine aW ?_;refine aW ?_;refine a5 fun K1 hK1=>?_;refine aW ?_;refine a6 rfl (fun hc0=>?_) (fun hc0=>?_)
 ·have hf:P5 s cars pts=false:=by
   simp at hc0;unfold P5 a5u
   rcases hc0 with hc0|hc0
   ·rw[decide_eq_false (by omega)];rfl
   ·rw[decide_eq_false (p:=pts.length=s.Plan.Nodes.length) (by omega)];simp
  refine aW ?_;exact a7 (by simp[hf])
 ·have h0 : cars.length≤100∧pts.length=s.Plan.Nodes.length:=by simp at hc0;omega
  refine b8 ?_;refine zQ (hK1 _ _ ?_);refine aP [1,2,3,7] ?_;refine a5 fun K2 hK2=>?_;refine aW ?_;refine a9 ?_;refine aP [1,2,3,7,8] ?_;refine c5 [1,2,3,7] (α:=Nat) (fun k=>[(8,I k)]) (fun k=>[some (.els 5 [s.cells++[.lst 4 (fl.map F8.cells)]]),some (.els 4 [s.cells])]) (fun k=>k≤pts.length∧((List.range k).all fun i=>ptB (s.Plan.node i) (pts[i]?.getD 0))=true) (fun k=>pts.length-k) 0 ?_ ?_ ?_
  ·exact⟨Nat.zero_le _,by simp⟩
  ·exact c7 (by simp)
  rintro k ⟨k1,k2⟩;refine zN ?_;refine a5 fun K3 hK3=>?_;refine aW ?_;refine a6 rfl (fun hc1=>?_) (fun hc1=>?_)
  ·have hk:k<pts.length:=by first|omega|(simp at hc1;omega)
   obtain⟨x,hx⟩:=gx (l:=pts) (i:=k) hk;have hxe:=(List.getElem?_eq_some_iff.1 hx).2;obtain⟨n,hn⟩:=gx (l:=s.Plan.Nodes) (i:=k) (by omega);have hnk:s.Plan.node k=n:=by unfold Plan.node;simp[hn]
   have wk:=zW k (by omega);have hkp:ptB (s.Plan.node k) (pts[k]?.getD 0)=if n.Kind=4 then inr x 1 2 else decide (x=0):=by rw[hx,hnk];rfl
   refine b8 ?_;refine zQ (hK3 _ _ ?_);refine aP [1,2,3,7,8] ?_;refine a5 fun K4 hK4=>?_;refine a9 ?_;refine aW ?_ fun K hK=>by simp -dsimp [hn];exact hK
   refine aW ?_ fun K hK=>by simp -dsimp [hx,hk,hxe];refine k7 (g8 x) (fun _=>by simp[hx]) ?_;simp -dsimp [hx,hk,hxe];refine cY (fun hm=>hin x 1 2) ?_;simp -dsimp [hx,hk,hxe];refine k7 (g8 x) (fun _=>by simp[hx]) ?_;simp -dsimp [hx,hk,hxe];exact hK
   refine a6 rfl (fun hc2=>?_) (fun hc2=>?_)
   ·have hpx:ptB (s.Plan.node k) (pts[k]?.getD 0)=false:=by
     rw[hkp]
     by_cases hq:n.Kind=4<;>simp[hq]at hc2 ⊢
     ·exact hc2
     ·exact hc2
    have hf:P5 s cars pts=false:=by
     unfold P5 a5u;rw[X8 hk hpx];simp
    refine aW ?_;exact a7 (by simp[hf])
   ·have hpx:ptB (s.Plan.node k) (pts[k]?.getD 0)=true:=by
     rw[hkp]
     by_cases hq:n.Kind=4<;>simp[hq]at hc2 ⊢
     ·exact hc2
     ·exact hc2
    refine b8 ?_;refine zQ (hK4 _ _ ?_);refine aP [1,2,3,7,8] ?_;refine aV ?_ fun K hK=>by simp -dsimp [wk];exact hK
    refine zQ ?_;exact⟨k+1,⟨by omega,C5 k2 hpx⟩,by omega,aB [some 0,some 1]⟩
  ·have hke :k=pts.length:=by first|omega|(simp at hc1;omega)
   subst hke;have hpts:a5u s.Plan pts=true:=by unfold a5u;rw[k2,decide_eq_true h0.2];rfl
   refine c9 ?_;refine zQ (hK2 _ _ ?_);refine aP [1,2,3,7] ?_;refine a5 fun K5 hK5=>?_;refine aW ?_;refine a9 ?_;refine aP [1,2,3,7,10] ?_;refine c5 [1,2,3,7] (α:=Nat) (fun k=>[(10,I k)]) (fun k=>[some (.els 5 [s.cells++[.lst 4 (fl.map F8.cells)]]),some (.els 4 [s.cells])]) (fun k=>k≤cars.length∧((List.range k).all fun i=>a1W s (a1a cars i))=true) (fun k=>cars.length-k) 0 ?_ ?_ ?_
   ·exact⟨Nat.zero_le _,by simp⟩
   ·exact c7 (by simp)
   rintro k ⟨k1,k3⟩;refine zN ?_;refine a5 fun K6 hK6=>?_;refine aW ?_;refine a6 rfl (fun hc3=>?_) (fun hc3=>?_)
   ·have hk:k<cars.length:=by first|omega|(simp at hc3;omega)
    obtain⟨c,hcg⟩:=gx (l:=cars) (i:=k) hk;have hca:a1a cars k=c:=by unfold a1a;rw[hcg];rfl
    have hcl:=hw c (List.mem_of_getElem? hcg);have wk:=zW k (by omega);refine b8 ?_;refine zQ (hK6 _ _ ?_);refine aP [1,2,3,7,10] ?_;refine a5 fun K7 hK7=>?_;refine a9 ?_;refine aD ?_ fun K hK=>by simp -dsimp [hcg];refine cI (hri c hcl) ?_;simp -dsimp [hcg];exact hK
    refine a6 rfl (fun hc4=>?_) (fun hc4=>?_)
    ·have hcb:a1W s (a1a cars k)=false:=by rw[hca];simpa using hc4
     have hf:P5 s cars pts=false:=by
      unfold P5;rw[X8 hk (by rw[b5j,hcb];rfl)];simp
     refine aW ?_;exact a7 (by simp[hf])
    ·have hcb:a1W s (a1a cars k)=true:=by rw[hca];simpa using hc4
     refine b8 ?_;refine zQ (hK7 _ _ ?_);refine aP [1,2,3,7,10] ?_;refine aV ?_ fun K hK=>by simp -dsimp [wk];exact hK
     refine zQ ?_;exact⟨k+1,⟨by omega,C5 k3 hcb⟩,by omega,aB [some 0,some 1]⟩
   ·have hke:k=cars.length:=by first|omega|(simp at hc3;omega)
    subst hke;rw[List.all_eq_true]at k3;refine c9 ?_;refine zQ (hK5 _ _ ?_);refine aP [1,2,3,7] ?_;refine a5 fun K8 hK8=>?_;refine aW ?_;refine a9 ?_;refine aP [1,2,3,7,11] ?_;refine c5 [1,2,3,7] (α:=Nat) (fun k=>[(11,I k)]) (fun k=>[some (.els 5 [s.cells++[.lst 4 (fl.map F8.cells)]]),some (.els 4 [s.cells])]) (fun k=>k≤cars.length∧(List.range k).all (b2W s cars pts)=true) (fun k=>cars.length-k) 0 ?_ ?_ ?_
    ·exact⟨Nat.zero_le _,by simp⟩
    ·exact c7 (by simp)
    rintro k ⟨k1,k4⟩;refine zN ?_;refine a5 fun K9 hK9=>?_;refine aW ?_;refine a6 rfl (fun hc5=>?_) (fun hc5=>?_)
    ·have hk:k<cars.length:=by first|omega|(simp at hc5;omega)
     obtain⟨c,hcg⟩:=gx (l:=cars) (i:=k) hk;have hca:a1a cars k=c:=by unfold a1a;rw[hcg];rfl
     have hcl:=hw c (List.mem_of_getElem? hcg);have hcb:a1W s c=true:=by rw[←hca];exact k3 k (List.mem_range.2 hk)
     have hwb:=(o5 hcb).2.2.1.2.2.2;have wk:=zW k (by omega);have hrf:b2W s cars pts k=false→P5 s cars pts=false:=by
      intro h1;unfold P5;rw[X8 hk (by rw[b5j,h1,Bool.and_false])];simp
     have hre:b2W s cars pts k=((F0 s c).all (a8i pts)&&(cars.take k).all (c0h s c)):=by unfold b2W;rw[hca]
     have hle:=O2 hwb;refine b8 ?_;refine zQ (hK9 _ _ ?_);refine aP [1,2,3,7,11] ?_;refine a5 fun K10 hK10=>?_;refine a9 ?_;refine aW ?_ fun K hK=>by simp -dsimp [hcg];exact hK
     refine a5 fun K11 hK11=>?_;refine aW ?_;refine a9 ?_;refine aP [1,2,3,7,11,12,13] ?_;refine c5 [1,2,3,7,11,12] (α:=Nat) (fun i=>[(13,I (i+1))]) (fun k=>[some (.els 5 [s.cells++[.lst 4 (fl.map F8.cells)]]),some (.els 4 [s.cells]),some (.els 4 [c.cells])]) (fun i=>i+1≤c.Way.length∧(X5 s.Plan c.Way i).all (a8i pts)=true) (fun i=>c.Way.length-i) 0 ?_ ?_ ?_
     ·exact⟨F5 hwb|>.1,by simp[X5]⟩
     ·exact c7 (by simp)
     rintro i ⟨i1,i2⟩;refine zN ?_;refine a5 fun K12 hK12=>?_;refine aW ?_;refine a6 rfl (fun hc6=>?_) (fun hc6=>?_)
     ·have hi:i+1<c.Way.length:=by first|omega|(simp at hc6;omega)
      have g0:c.Way[i]?=some (C3 c.Way i):=by unfold C3;rw[List.getElem?_eq_getElem (by omega)];rfl
      have g1:c.Way[i+1]?=some (C3 c.Way (i+1)):=by unfold C3;rw[List.getElem?_eq_getElem hi];rfl
      have wi:IntKind.i64.wrap ((i:Int)+1+1)=(i:Int)+1+1:=c4 (by omega) (by omega);have wi0:IntKind.i64.wrap (i:Int)=(i:Int):=c4 (by omega) (by omega);have ti:((i:Int)+1).toNat=i+1:=by omega
      have p0:0≤(i:Int)+1:=by omega
      have p1:(i:Int)<c.Way.length:=by omega
      have p2:(i:Int)+1<c.Way.length:=by omega
      have hb:=hbt c.Way hwb i hi;have hst:=a0e s.Plan c.Way i;have hok:J5 s.Plan (C3 c.Way i)=true→0≤(L2 s.Plan (C3 c.Way i) (C3 c.Way (i+1))).Node∧(L2 s.Plan (C3 c.Way i) (C3 c.Way (i+1))).Node<s.Plan.Nodes.length:=fun hq=>by have:=b5W h hwb (a8O.2 ⟨i,by omega,hq,rfl⟩);exact⟨this.1,this.2.1⟩
      have hmem:J5 s.Plan (C3 c.Way i)=true→L2 s.Plan (C3 c.Way i) (C3 c.Way (i+1))∈F0 s c:=fun hq=>by rw[hle];exact a8O.2 ⟨i,by omega,hq,rfl⟩
      unfold Z1 at hst;generalize C3 c.Way i=m at g0 hb hst hok hmem;generalize C3 c.Way (i+1)=n at g1 hb hst hok hmem;generalize L2 s.Plan m n=B at hb hst hok hmem;generalize J5 s.Plan m=b at hb hst hok hmem;refine b8 ?_;refine zQ (hK12 _ _ ?_);refine aP [1,2,3,7,11,12,13] ?_;refine a5 fun K13 hK13=>?_;refine a9 ?_;refine aD ?_ fun K hK=>by simp -dsimp [g0,g1,wi0,ti,p0,p1,p2];refine cI (hb) ?_;simp -dsimp [g0,g1,wi0,ti,p0,p1,p2];exact hK
      rcases Bool.eq_false_or_eq_true b with hbq|hbq
      all_goals (rw[hbq]at hst;simp only[hbq])
      all_goals first|(obtain⟨v,hvg⟩:∃v,pts[B.Node.toNat]?=some v:=⟨_,List.getElem?_eq_getElem (by have:=hok hbq;omega)⟩;have hB:=hok hbq;rw[←h0.2]at hB;have hve:=(List.getElem?_eq_some_iff.1 hvg).2;have hlb:a8i pts B=decide (v=B.Leg):=(by unfold a8i;rw[hvg];rfl);have hbm:=hmem hbq)|skip
      ·refine aD ?_ fun K hK=>by simp -dsimp [hvg,hB.1,hB.2];refine k7 (g8 v) (fun _=>by simp[hvg]) ?_;simp -dsimp [hvg,hB.1,hB.2];exact hK
       refine a6 rfl (fun hc7=>?_) (fun hc7=>?_)
       ·have hl2:a8i pts B=false:=by rw[hlb];simpa using hc7
        have hf:=hrf (by rw[hre];have:(F0 s c).all (a8i pts)=false:=(by rw[List.all_eq_false];exact⟨B,hbm,by simp[hl2]⟩);rw[this];rfl);refine aW ?_;exact a7 (by simp[hf])
       ·have hst2:(X5 s.Plan c.Way (i+1)).all (a8i pts)=true:=by
         rw[hst,List.all_append,i2];have hl2:a8i pts B=true:=by rw[hlb];simpa using hc7
         simp[hl2]
        refine b8 ?_;refine zQ (hK13 _ _ ?_);refine aP [1,2,3,7,11,12,13] ?_;refine aV ?_ fun K hK=>by simp -dsimp [wi];exact hK
        refine zQ ?_;exact⟨i+1,⟨by omega,hst2⟩,by omega,aB [some 0,some 1,some 2]⟩
      ·refine aD ?_ fun K hK=>by simp -dsimp;refine k7 (g8 0) (fun h=>by simp at h) ?_;simp -dsimp;exact hK
       refine a6 rfl (fun hc7=>?_) (fun hc7=>?_)
       ·simp at hc7
       ·have hst2:(X5 s.Plan c.Way (i+1)).all (a8i pts)=true:=by
         rw[hst,List.all_append,i2];rfl
        refine b8 ?_;refine zQ (hK13 _ _ ?_);refine aP [1,2,3,7,11,12,13] ?_;refine aV ?_ fun K hK=>by simp -dsimp [wi];exact hK
        refine zQ ?_;exact⟨i+1,⟨by omega,hst2⟩,by omega,aB [some 0,some 1,some 2]⟩
     ·have hie:c.Way.length-1=i:=by first|omega|(simp at hc6;omega)
      have hlegs:(F0 s c).all (a8i pts)=true:=by rw[hle,hie];exact i2
      rw[hlegs,Bool.true_and]at hre;refine c9 ?_;refine zQ (hK11 _ _ ?_);refine aP [1,2,3,7,11,12] ?_;refine aW ?_;refine a9 ?_;refine aP [1,2,3,7,11,12,16] ?_;refine c5 [1,2,3,7,11,12] (α:=Nat) (fun j=>[(16,I j)]) (fun j=>[some (.els 5 [s.cells++[.lst 4 (fl.map F8.cells)]]),some (.els 4 [s.cells]),some (.els 4 [c.cells])]) (fun j=>j≤k∧(cars.take j).all (c0h s c)=true) (fun j=>k-j) 0 ?_ ?_ ?_
      ·exact⟨Nat.zero_le _,by simp⟩
      ·exact c7 (by simp)
      rintro j ⟨j1,j2⟩;refine zN ?_;refine a5 fun K14 hK14=>?_;refine aW ?_;refine a6 rfl (fun hc8=>?_) (fun hc8=>?_)
      ·have hj:j<k:=by first|omega|(simp at hc8;omega)
       obtain⟨x,hxg⟩:=gx (l:=cars) (i:=j) (by omega);have hxl:=hw x (List.mem_of_getElem? hxg);have wj:=zW j (by omega);have hxt:(cars.take k)[j]?=some x:=by rw[List.getElem?_take,if_pos hj];exact hxg
       have hno:c0h s c x=false→P5 s cars pts=false:=fun hq=>hrf (by rw[hre,O9 hxt hq]);have htw:c0h s c x=(!decide (c.Name=x.Name)&&c.Way.all (b4E s c x)):=rfl;refine b8 ?_;refine zQ (hK14 _ _ ?_);refine aP [1,2,3,7,11,12,16] ?_;refine a5 fun K15 hK15=>?_;refine a9 ?_;refine aW ?_ fun K hK=>by simp -dsimp [hxg];exact hK
       refine a5 fun K16 hK16=>?_;refine aW ?_;refine a6 rfl (fun hc9=>?_) (fun hc9=>?_)
       ·have hf:=hno (by rw[htw];simp at hc9;simp[hc9]);refine aW ?_;exact a7 (by simp[hf])
       ·have hnm:decide (c.Name=x.Name)=false:=by simpa using hc9
        rw[hnm]at htw;simp only[Bool.not_false,Bool.true_and]at htw;refine b8 ?_;refine zQ (hK16 _ _ ?_);refine aP [1,2,3,7,11,12,16,17] ?_;refine aW ?_;refine a9 ?_;refine aP [1,2,3,7,11,12,16,17,18] ?_;refine c5 [1,2,3,7,11,12,16,17] (α:=Nat) (fun a=>[(18,I a)]) (fun a=>[some (.els 5 [s.cells++[.lst 4 (fl.map F8.cells)]]),some (.els 4 [s.cells]),some (.els 4 [c.cells]),some (.els 4 [x.cells])]) (fun a=>a≤c.Way.length∧(c.Way.take a).all (b4E s c x)=true) (fun a=>c.Way.length-a) 0 ?_ ?_ ?_
        ·exact⟨Nat.zero_le _,by simp⟩
        ·exact c7 (by simp)
        rintro a ⟨a1,a2⟩;refine zN ?_;refine a5 fun K17 hK17=>?_;refine aW ?_;refine a6 rfl (fun hc10=>?_) (fun hc10=>?_)
        ·have ha:a<c.Way.length:=by first|omega|(simp at hc10;omega)
         obtain⟨m,hmg⟩:=gx (l:=c.Way) (i:=a) ha;have wa:=zW a (by omega);have hmb:b4E s c x m=(!(x.Way.any fun n=>G7 s m n)&& !(x.Way.any (a7I s c x m))):=rfl;refine b8 ?_;refine zQ (hK17 _ _ ?_);refine aP [1,2,3,7,11,12,16,17,18] ?_;refine a5 fun K18 hK18=>?_;refine a9 ?_;refine a5 fun K19 hK19=>?_;refine aD ?_ fun K hK=>by simp -dsimp [hmg];refine cI (hag x m hxl) ?_;simp -dsimp [hmg];exact hK
         refine a6 rfl (fun hc11=>?_) (fun hc11=>?_)
         ·have hf:=hno (by rw[htw];exact O9 hmg (by rw[hmb,hc11];rfl));refine aW ?_;exact a7 (by simp[hf])
         ·rw[hc11]at hmb;simp only[Bool.not_false,Bool.true_and]at hmb;refine b8 ?_;refine zQ (hK19 _ _ ?_);refine aP [1,2,3,7,11,12,16,17,18] ?_;refine aW ?_;refine a9 ?_;refine aP [1,2,3,7,11,12,16,17,18,19] ?_;refine c5 [1,2,3,7,11,12,16,17,18] (α:=Nat) (fun d=>[(19,I d)]) (fun a=>[some (.els 5 [s.cells++[.lst 4 (fl.map F8.cells)]]),some (.els 4 [s.cells]),some (.els 4 [c.cells]),some (.els 4 [x.cells])]) (fun d=>d≤x.Way.length∧(x.Way.take d).any (a7I s c x m)=false) (fun d=>x.Way.length-d) 0 ?_ ?_ ?_
          ·exact⟨Nat.zero_le _,by simp⟩
          ·exact c7 (by simp)
          rintro d ⟨d1,d2⟩;refine zN ?_;refine a5 fun K20 hK20=>?_;refine aW ?_;refine a6 rfl (fun hc12=>?_) (fun hc12=>?_)
          ·have hd:d<x.Way.length:=by first|omega|(simp at hc12;omega)
           obtain⟨n,hng⟩:=gx (l:=x.Way) (i:=d) hd;have wd:=zW d (by omega);refine b8 ?_;refine zQ (hK20 _ _ ?_);refine aP [1,2,3,7,11,12,16,17,18,19] ?_;refine a5 fun K21 hK21=>?_;refine a9 ?_;refine aD ?_ fun K hK=>by simp -dsimp [hmg,hng];refine cI (hfo m.Rail c.Profile n.Rail x.Profile) ?_;simp -dsimp [hmg,hng];exact hK
           refine a6 rfl (fun hc13=>?_) (fun hc13=>?_)
           ·have hf:=hno (by rw[htw];exact O9 hmg (by rw[hmb,a6W (p:=a7I s c x m) hng hc13];rfl));refine aW ?_;exact a7 (by simp[hf])
           ·refine b8 ?_;refine zQ (hK21 _ _ ?_);refine aP [1,2,3,7,11,12,16,17,18,19] ?_;refine aV ?_ fun K hK=>by simp -dsimp [wd];exact hK
            refine zQ ?_;exact⟨d+1,⟨by omega,any_take hng d2 hc13⟩,by omega,aB [some 0,some 1,some 2,some 3]⟩
          ·have hde:d=x.Way.length:=by first|omega|(simp at hc12;omega)
           subst hde;rw[List.take_length]at d2;refine c9 ?_;refine zQ (hK18 _ _ ?_);refine aP [1,2,3,7,11,12,16,17,18] ?_;refine aV ?_ fun K hK=>by simp -dsimp [wa];exact hK
           refine zQ ?_;exact⟨a+1,⟨by omega,r6 hmg a2 (by rw[hmb,d2];rfl)⟩,by omega,aB [some 0,some 1,some 2,some 3]⟩
        ·have hae:a=c.Way.length:=by first|omega|(simp at hc10;omega)
         subst hae;rw[List.take_length]at a2;refine c9 ?_;refine zQ (hK15 _ _ ?_);refine aP [1,2,3,7,11,12,16] ?_;refine aV ?_ fun K hK=>by simp -dsimp [wj];exact hK
         refine zQ ?_;exact⟨j+1,⟨by omega,r6 hxg j2 (by rw[htw];exact a2)⟩,by omega,aB [some 0,some 1,some 2]⟩
      ·have hje:j=k:=by first|omega|(simp at hc8;omega)
       subst hje;refine c9 ?_;refine zQ (hK10 _ _ ?_);refine aP [1,2,3,7,11] ?_;refine aV ?_ fun K hK=>by simp -dsimp [wk];exact hK
       refine zQ ?_;exact⟨j+1,⟨by omega,C5 k4 (by rw[hre];exact j2)⟩,by omega,aB [some 0,some 1]⟩
    ·have hke:k=cars.length:=by first|omega|(simp at hc5;omega)
     subst hke;have hall:(List.range cars.length).all (b6t s cars pts)=true:=by
      rw[List.all_eq_true]at k4 ⊢;intro i hi;rw[b5j,k3 i hi,k4 i hi];rfl
     refine c9 ?_;refine zQ (hK8 _ _ ?_);refine aP [] ?_;refine aW ?_;exact a7 (by simp[P5,h0.1,hpts,hall])
end Go.Tram.Lk
end
section
namespace Go.Tram.Lk
open Go.AM Go.Proofs
def b2q (s:j5) (cars:List Car) (pts:List Int):Bool:=P7 s&&P5 s cars pts
theorem a9k (s:j5) (cars:List Car) (pts:List Int) (hN:s.Plan.Rails.length≤20) (hp:s.Profiles.length≤100000) (hm:∀x∈s.Singles,x.length≤100000) (hc:cars.length≤1000) (hw:∀c∈cars,c.Way.length≤1000) (hpn:pts.length≤1000) (hpb:∀x∈pts,-9223372036854775808≤x∧x≤9223372036854775807):
  a8 Tryz.prog 17 [s.av, .lst 4 (cars.map Car.cells), .lst 1 (pts.map g8)] (Bo (b2q s cars pts)):=by
 unfold b2q
 cases hs:P7 s with
 |false=>exact b7s s cars pts hs hN hp hm
 |true=>exact b8c s cars pts hs hN hc hw hpn hpb
def b1n (c:Car):Bool:=decide (c.Way.length≤30)
theorem b2u (s:j5) (cars:List Car) (pts:List Int) (hF:s.Fit) (hcl:cars.length≤9223372036854775807) (hcf:∀c∈cars,c.Way.length≤9223372036854775807) (hpl:pts.length≤9223372036854775807) (hpb:∀x∈pts,-9223372036854775808≤x∧x≤9223372036854775807):
  a8 Tryz.prog 4 [s.av, .lst 4 (cars.map Car.cells), .lst 1 (pts.map g8)] (Bo true):=by
 have hk:=b6N;have hfit:=c3D s hF;obtain⟨b,hb⟩:∃b,b=(b4e s&&(decide (cars.length≤10)&&decide (pts.length≤20))):=⟨_,rfl⟩
 cases b with
 | false=>
  generalize b4e s=b1 at*
  refine oB Tryz.func4 Tryz.ntmps4 Tryz.results4 ?_;refine aW ?_;refine a5 fun K1 hK1=>?_;refine aW ?_ fun K hK=>by simp -dsimp;refine cI (hfit) ?_;simp -dsimp;exact hK
  refine a6 rfl (fun hc0=>?_) (fun hc0=>?_)
  ·refine aW ?_ fun K hK=>by simp -dsimp;refine cI (hk) ?_;simp -dsimp;exact hK
   exact a7 (by simp)
  ·have:(b1&&(decide (cars.length≤10)&&decide (pts.length≤20)))=true:=by cases b1<;>simp at hc0 ⊢;omega
   rw[this]at hb;cases hb
 | true=>
  have hb1:b4e s=true:=by cases h:b4e s<;>simp[h]at hb ⊢
  have hb2:cars.length≤10∧pts.length≤20:=by rw[hb1]at hb;simpa using hb
  rw[hb1]at hfit;obtain⟨⟨f1,f2,f3,f4⟩,f5⟩:=b4h hb1
  by_cases hW:∀c∈cars,c.Way.length≤30
  ·have hse:=b6F s (by omega) (by omega) (fun x hx=>by have:=f5 x hx;omega);have hsf:=a9k s cars pts (by omega) (by omega) (fun x hx=>by have:=f5 x hx;omega) (by omega) (fun c hc=>by have:=hW c hc;omega) (by omega) hpb
   cases hs:P7 s with
   | false=>
    have hbo:b2q s cars pts=false:=by unfold b2q;rw[hs];rfl
    rw[hs]at hse;rw[hbo]at hsf;refine oB Tryz.func4 Tryz.ntmps4 Tryz.results4 ?_;refine aW ?_;refine a5 fun K1 hK1=>?_;refine aW ?_ fun K hK=>by simp -dsimp;refine cI (hfit) ?_;simp -dsimp;exact hK
    refine a6 rfl (fun hc0=>?_) (fun hc0=>?_)
    ·simp at hc0;omega
    ·refine b8 ?_;refine zQ (hK1 _ _ ?_);refine aP [1,2,3] ?_;refine a5 fun K2 hK2=>?_;refine aW ?_;refine a9 ?_;refine aP [1,2,3,7] ?_;refine c5 [1,2,3] (α:=Nat) (fun k=>[(7,I k)]) (fun k=>[some (.els 4 [s.cells])]) (fun k=>k≤cars.length) (fun k=>cars.length-k) 0 ?_ ?_ ?_
     ·exact Nat.zero_le _
     ·exact c7 (by simp)
     rintro k k1;refine zN ?_;refine a5 fun K3 hK3=>?_;refine aW ?_;refine a6 rfl (fun hc1=>?_) (fun hc1=>?_)
     ·have hk1:k<cars.length:=by first|omega|(simp at hc1;omega)
      obtain⟨c,hcg⟩:=gx (l:=cars) (i:=k) hk1;have wk:=zW k (by omega);have hcw:=hW c (List.mem_of_getElem? hcg);refine b8 ?_;refine zQ (hK3 _ _ ?_);refine aP [1,2,3,7] ?_;refine a5 fun K4 hK4=>?_;refine a9 ?_;refine aW ?_ fun K hK=>by simp -dsimp [hcg];exact hK
      refine a6 rfl (fun hc2=>?_) (fun hc2=>?_)
      ·simp at hc2;omega
      ·refine b8 ?_;refine zQ (hK4 _ _ ?_);refine aP [1,2,3,7] ?_;refine aV ?_ fun K hK=>by simp -dsimp [wk];exact hK
       refine zQ ?_;exact⟨k+1,by omega,by omega,aB [some 0]⟩
     ·refine c9 ?_;refine zQ (hK2 _ _ ?_);refine aP [1,2,3] ?_;refine aW ?_ fun K hK=>by simp -dsimp;refine cI (hsf) ?_;simp -dsimp;exact hK
      refine a5 fun K5 hK5=>?_;refine aW ?_ fun K hK=>by simp -dsimp;refine cI (hse) ?_;simp -dsimp;exact hK
      refine a6 rfl (fun hc3=>?_) (fun hc3=>?_)
      ·refine aW ?_ fun K hK=>by simp -dsimp;refine cY (fun hm=>hk) ?_;simp -dsimp;exact hK
       exact a7 (by simp)
      ·simp at hc3
   | true=>
    have hbo:b2q s cars pts=P5 s cars pts:=by unfold b2q;rw[hs];rfl
    rw[hs]at hse;rw[hbo]at hsf;have hop:=c0n s hs (by omega);have hs5:=c0F s cars pts hs (by omega) (by omega) (fun c hc=>by have:=hW c hc;omega) (by omega);unfold wA wC at hop hs5;generalize P5 s cars pts=q at*
    generalize z7 s.Plan=fp at*
    generalize A2 s.Plan s.Profiles=fl at*
    refine oB Tryz.func4 Tryz.ntmps4 Tryz.results4 ?_;refine aW ?_;refine a5 fun K1 hK1=>?_;refine aW ?_ fun K hK=>by simp -dsimp;refine cI (hfit) ?_;simp -dsimp;exact hK
    refine a6 rfl (fun hc0=>?_) (fun hc0=>?_)
    ·simp at hc0;omega
    ·refine b8 ?_;refine zQ (hK1 _ _ ?_);refine aP [1,2,3] ?_;refine a5 fun K2 hK2=>?_;refine aW ?_;refine a9 ?_;refine aP [1,2,3,7] ?_;refine c5 [1,2,3] (α:=Nat) (fun k=>[(7,I k)]) (fun k=>[some (.els 4 [s.cells])]) (fun k=>k≤cars.length) (fun k=>cars.length-k) 0 ?_ ?_ ?_
     ·exact Nat.zero_le _
     ·exact c7 (by simp)
     rintro k k1;refine zN ?_;refine a5 fun K3 hK3=>?_;refine aW ?_;refine a6 rfl (fun hc1=>?_) (fun hc1=>?_)
     ·have hk1:k<cars.length:=by first|omega|(simp at hc1;omega)
      obtain⟨c,hcg⟩:=gx (l:=cars) (i:=k) hk1;have wk:=zW k (by omega);have hcw:=hW c (List.mem_of_getElem? hcg);refine b8 ?_;refine zQ (hK3 _ _ ?_);refine aP [1,2,3,7] ?_;refine a5 fun K4 hK4=>?_;refine a9 ?_;refine aW ?_ fun K hK=>by simp -dsimp [hcg];exact hK
      refine a6 rfl (fun hc2=>?_) (fun hc2=>?_)
      ·simp at hc2;omega
      ·refine b8 ?_;refine zQ (hK4 _ _ ?_);refine aP [1,2,3,7] ?_;refine aV ?_ fun K hK=>by simp -dsimp [wk];exact hK
       refine zQ ?_;exact⟨k+1,by omega,by omega,aB [some 0]⟩
     ·refine c9 ?_;refine zQ (hK2 _ _ ?_);refine aP [1,2,3] ?_;refine aW ?_ fun K hK=>by simp -dsimp;refine cI (hsf) ?_;simp -dsimp;exact hK
      refine a5 fun K5 hK5=>?_;refine aW ?_ fun K hK=>by simp -dsimp;refine cI (hse) ?_;simp -dsimp;exact hK
      refine a6 rfl (fun hc3=>?_) (fun hc3=>?_)
      ·simp at hc3
      ·refine b8 ?_;refine zQ (hK5 _ _ ?_);refine aP [1,2,3,8] ?_;refine aW ?_ fun K hK=>by simp -dsimp;refine cI (hop) ?_;simp -dsimp;exact hK
       refine aW ?_ fun K hK=>by simp -dsimp;refine cI (hs5) ?_;simp -dsimp;refine⟨fun w=>(a3u _ _ _ _ _ w Z6 a1r).1,_,fun w=>(a3u _ (.tmp 0) (.tmp 0) _ _ w Z6 a1r).2,?_⟩;simp -dsimp;refine cY (fun hm=>hk) ?_;simp -dsimp;exact hK
       exact a7 (by simp)
  ·have hex:∃c∈cars,¬c.Way.length≤30:=by
    apply Classical.byContradiction;intro hn;exact hW fun c hc=>Classical.byContradiction fun h=>hn ⟨c,hc,h⟩
   refine oB Tryz.func4 Tryz.ntmps4 Tryz.results4 ?_;refine aW ?_;refine a5 fun K1 hK1=>?_;refine aW ?_ fun K hK=>by simp -dsimp;refine cI (hfit) ?_;simp -dsimp;exact hK
   refine a6 rfl (fun hc0=>?_) (fun hc0=>?_)
   ·simp at hc0;omega
   ·refine b8 ?_;refine zQ (hK1 _ _ ?_);refine aP [1,2,3] ?_;refine a5 fun K2 hK2=>?_;refine aW ?_;refine a9 ?_;refine aP [1,2,3,7] ?_;refine c5 [1,2,3] (α:=Nat) (fun k=>[(7,I k)]) (fun k=>[some (.els 4 [s.cells])]) (fun k=>k≤cars.length∧(cars.take k).all b1n=true) (fun k=>cars.length-k) 0 ?_ ?_ ?_
    ·exact⟨Nat.zero_le _,by simp⟩
    ·exact c7 (by simp)
    rintro k ⟨k1,k2⟩;refine zN ?_;refine a5 fun K3 hK3=>?_;refine aW ?_;refine a6 rfl (fun hc1=>?_) (fun hc1=>?_)
    ·have hk1:k<cars.length:=by first|omega|(simp at hc1;omega)
     obtain⟨c,hcg⟩:=gx (l:=cars) (i:=k) hk1;have wk:=zW k (by omega);have hcw:=hcf c (List.mem_of_getElem? hcg);refine b8 ?_;refine zQ (hK3 _ _ ?_);refine aP [1,2,3,7] ?_;refine a5 fun K4 hK4=>?_;refine a9 ?_;refine aW ?_ fun K hK=>by simp -dsimp [hcg];exact hK
     refine a6 rfl (fun hc2=>?_) (fun hc2=>?_)
     ·refine aW ?_ fun K hK=>by simp -dsimp;refine cI (hk) ?_;simp -dsimp;exact hK
      exact a7 (by simp)
     ·have hcb:b1n c=true:=by unfold b1n;simp at hc2;simp;omega
      refine b8 ?_;refine zQ (hK4 _ _ ?_);refine aP [1,2,3,7] ?_;refine aV ?_ fun K hK=>by simp -dsimp [wk];exact hK
      refine zQ ?_;exact⟨k+1,⟨by omega,r6 hcg k2 hcb⟩,by omega,aB [some 0]⟩
    ·exfalso;have hke:k=cars.length:=by first|omega|(simp at hc1;omega)
     rw[hke,List.take_length,List.all_eq_true]at k2;obtain⟨c,h1,h2⟩:=hex;have:=k2 c h1;unfold b1n at this;simp at this;omega
end Go.Tram.Lk
end
