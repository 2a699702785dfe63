import Derived.Test.YtlgdbddegopphaaGreatN6
set_option maxRecDepth 100000
set_option maxHeartbeats 8000000
set_option linter.unusedVariables false
set_option linter.unusedSimpArgs false
section
namespace Go.Tram.Lk
open Go.AM Go.Proofs
def a8t (l:List Car):List (List AV):=l.map Car.cells
@[simp] theorem c2P (l:List Car):(a8t l).length=l.length:=by simp[a8t]
@[simp high] theorem c3a (l:List Car) (g:List (Option Nat)) (n:Nat):(a8t l).map (fun e=>e.map (o4 g n))=a8t l:=by
 unfold a8t;rw[List.map_map];refine List.map_congr_left fun c _=>?_
 cases n<;>simp[o4]
@[simp high] theorem c1T (l:List Car) (H:Nat→Option k7) (g:List (Option Nat)) (n:Nat):(a8t l).map (fun e=>e.map (V5 H g n))=a8t l:=by
 unfold a8t;rw[List.map_map];refine List.map_congr_left fun c _=>?_
 cases n<;>simp[V5]
section
variable (s:l5) (fo si up:Kvs) (nx nd:l7) (cs:List Car) (ps:List Int)
theorem c2B (hcs:b5f s cs):c6 Tryz.prog 14 [.ptr 0 0 0] lkK (lkD s fo si up nx nd cs ps) (.row 7 0 cs.length) lkK (lkD s fo si up nx nd cs ps++[some (.els 4 (a8t cs))]):=by
 have hcl:=hcs.len;have hnm:=fun X:Value=>R4 cs hcs.srt hcs.len (fun x hx=>(hcs.bd x hx).1) (.fptr X 1 0 0) (.row 3 0 ps.length) (ruR s fo si up 4 5) (ptR ps) (nxR s nx) (ndR s nd);refine oG [0] Tryz.func14 Tryz.ntmps14 Tryz.results14 ?_;intro J hJ;refine gW ?_;refine a7 fun K1 hK1=>?_;refine gW ?_ fun K hK=>by simp -dsimp;refine cI (G8 _) ?_;simp -dsimp;exact hK
 refine c3 rfl (fun hc0=>?_) (fun hc0=>?_)
 ·simp at hc0
 ·refine c5 ?_;refine zQ (hK1 _ _ ?_);refine gP [0] ?_;refine gW ?_;refine a7 fun K2 hK2=>?_;refine a2j 1 0 rfl rfl fun X=>?_;simp only[p6,List.set_cons_zero]
  ·refine gW ?_ fun K hK=>by simp -dsimp;refine cM [1,2] [3,4,5,6] (hnm X) ?_;simp -dsimp;exact hK
   refine c8 ?_;refine gP [0,3,14,15,16] ?_;refine i6 [0,14,15] (α:=Nat) (fun k=>[(16,I k),(3, .row 12 0 k)]) (fun k=>[some (.els 1 [[.ptr 1 0 0]]),some (.els 3 [[.fptr X 2 0 0, .mp 7, .row 8 0 ps.length]]),ruR s fo si up 9 10,none,none,none,none,caR cs,ptR ps,nxR s nx,ndR s nd,some (.els 1 (nmL cs)),some (.els 4 (a8t (cs.take k)))]) (fun k=>k≤cs.length) (fun k=>cs.length-k) 0 ?_ ?_ ?_
   ·exact Nat.zero_le _
   ·exact M9 ((W5 3 4 (by simp)).trans (d9 [some 0,some 1,some 2,none,none,none,none,some 7,some 8,some 9,some 10,some 11,some 12] rfl (by simp) (by simp[a8t]))) (by simp)
   rintro k k1;refine zN ?_;refine gW ?_;refine a7 fun K3 hK3=>?_;refine c3 rfl (fun hc1=>?_) (fun hc1=>?_)
   ·skip
    try simp at hc1
    have hkn:k<cs.length:=by first|omega|(simp at hc1;omega)
    obtain⟨y,hy⟩:=gx (l:=cs) (i:=k) hkn;have hym:=List.mem_of_getElem? hy;have hyk:A9 (n7 cs) (kOf y.Name)=some y.av:=by rw[k8,F5 hcs.srt hym];rfl
    have wk:=zW k (by omega);obtain⟨hnl2,hng⟩:=List.getElem?_eq_some_iff.1 (l8 hy);have hyl:=(hcs.bd y hym).2;have hcln:=a3f y.Way (by have:=(o6 (hcs.car y hym)).2.2.1.1;intro e;rw[e]at this;simp at this) hyl;have hsu:a8t (cs.take (k+1))=a8t (cs.take k)++[y.cells]:=by unfold a8t;rw[List.take_add_one,hy];simp
    have hmin:min k cs.length=k:=by omega
    have htk:List.take k (a8t (cs.take k))=a8t (cs.take k):=List.take_of_length_le (by simp;omega);have hty:List.take y.Way.length (List.map Move.cells y.Way)=List.map Move.cells y.Way:=List.take_of_length_le (by simp);have f1:P4 (k+1) 49:=l9 (by omega) (by omega);refine c5 ?_;refine zQ (hK3 _ _ ?_);refine gP [0,3,14,15,16] ?_;refine a7 fun K4 hK4=>?_;refine c8 ?_;refine gW ?_ fun K hK=>by simp -dsimp [l8 hy,hkn,hng];exact hK
    refine gW ?_ fun K hK=>by simp -dsimp;refine d6 (y.av) (fun hm=>by rw[hyk];rfl) ?_;simp -dsimp;exact hK
    refine gW ?_ fun K hK=>by simp -dsimp;refine cM [] [] (hcln) ?_;simp -dsimp;exact hK
    refine a1h (by decide) ?_;refine gV ?_ fun K hK=>by simp -dsimp [f1,htk,hmin];exact hK
    refine zQ (hK4 _ _ ?_);refine gP [0,3,14,15,16] ?_;refine gV ?_ fun K hK=>by simp -dsimp [wk];exact hK
    refine zQ ?_;exact⟨k+1,by omega,by omega,M9 (a9X [some 0,some 1,some 2,none,none,none,none,some 7,some 8,some 9,some 10,some 11,some 16] rfl (by repeat' (first|exact trivial|exact .inr (by simp)|refine⟨?_,?_⟩)) (by simp[hsu,hty])) (by simp)⟩
   ·skip
    try simp at hc1
    have hke:k=cs.length:=by first|omega|(simp at hc1;omega)
    subst hke;rw[List.take_length];refine p7 ?_;refine zQ (hK2 _ _ ?_);refine gP [0,3] ?_;refine gW ?_;refine s9 (M9 (E8 1 0 rfl rfl) (by simp)) ?_;exact g7 (gT [some 0,some 1,some 2,some 7,some 8,some 9,some 10,some 12])
end
end Go.Tram.Lk
end
section
namespace Go.AM
theorem c6.pure {P:Program} {f:FuncId} {args:List AV} {res res':AV} {Hn:Hp} (h:c6 P f args [] [] res [] Hn) (e:frz (g6 Hn) 6 res=res'):a6 P f args res':=by
 subst e;obtain⟨h1,_,h3⟩:=h;refine Or.inl ⟨h1,fun S0 w vs hlow hl hrep=>?_⟩;have hh:a6x S0 w (fun _=>none) ([]++[]):=⟨⟨(by intro r r' l l' b h;cases h),(by intro r l b h;cases h),(by intro r l h;cases h),hlow,fun _ _=>trivial⟩,fun r row hr=>by cases r<;>simp[g6]at hr,fun r _=>rfl⟩;have hsx:∀b,Sx S0 (fun _=>none) b→S0 b:=by
  rintro b (h|⟨r,l,h1,_⟩)
  ·exact h
  ·cases h1
 refine(h3 S0 w _ vs hh hl fun i c x hc hx=> .pure _ _ ((hrep i c x hc hx).ext (Nat.le_refl _) fun b _ hn=>⟨rfl,fun k=>hn (hsx b k)⟩)).mono ?_;rintro en w' ⟨v,ρ',rfl,hh',hr,_,hfresh,hx⟩;refine⟨v,rfl,a3h hh'.wf (S':=S0) (fun b hn k=>hn (Or.inl k)) (fun r l b row _ hl hb k=>(hh'.wf.own r l b hl hb).2.1 k) 6 res v (fun r _ row hr=>hh'.rows r row hr) hr,hx.mono ?_⟩;rintro b _ ⟨r,l,h1,_⟩
 cases h1
end Go.AM
end
section
namespace Go.AM
def c2N:AV→Bool
 | .v _=>true
 |_=>false
def a8X:AV→Bool
 | .v _=>true
 | .lst sz els=>decide (1≤sz)&&els.all fun e=>e.all c2N
 |_=>false
theorem b7D {w:World} {S S':Nat→Prop} {x:AV} {y:Value} (hx:c2N x=true) (h:p9 w S x y):p9 w S' x y:=by
 cases x with
 |v c=>cases h;exact .v _
 |_=>simp[c2N]at hx
theorem a7f {w:World} {S S':Nat→Prop} (hs:∀b c t s,¬S b→w.heap[b]?=some (.cells c t s)→¬S' b) {x:AV} {y:Value} (hx:a8X x=true) (h:p9 w S x y):p9 w S' x y:=by
 cases x with
 |v c=>cases h;exact .v _
 | lst sz els=>
  simp only[a8X,Bool.and_eq_true,decide_eq_true_eq,List.all_eq_true]at hx
  cases h with
  |lstNil=>exact .lstNil _ _ _
  | lst _ _ b off cap vs hS hb hcap hel hl hv h=>
   cases els with
   |nil=>exact .lstNil _ _ _
   | cons e els=>
    have he:1≤e.length:=by rw[hel e (by simp)];exact hx.1
    have hv0:0<vs.length:=by
     rw[←hl,List.flatten_cons,List.length_append];omega
    have hc:=(hv 0 _ (List.getElem?_eq_getElem hv0)).1;obtain⟨c,t,s,hb'⟩:∃c t s,w.heap[b]?=some (.cells c t s):=by
     unfold World.cell? at hc
     cases hh:w.heap[b]? with
     |none=>simp[hh]at hc
     |some o=>cases o with
      |cells c t s=>exact⟨c,t,s,rfl⟩
      |_=>simp[hh]at hc
    refine .lst _ _ b off cap vs (hs b c t s hS hb') hb hcap hel hl hv fun i c x hi hx'=>?_;refine b7D ?_ (h i c x hi hx');have hm:=List.mem_of_getElem? hi;rw[List.mem_flatten]at hm;obtain⟨e',he',hc'⟩:=hm;exact hx.2 e' he' c hc'
 |_=>simp[a8X]at hx
def bkM (gs:List Nat):AV→AV
 | .v x=> .v x
 | .row i k n=>if i<gs.length then .row (bkN gs i) k n else .any
 | .ptr i k o=>if i<gs.length then .ptr (bkN gs i) k o else .any
 | .mp i=>if i<gs.length then .mp (bkN gs i)else .any
 | .agg cs=>if cs.all a8X then .agg cs else .any
 | .lst sz els=>if a8X (.lst sz els)then .lst sz els else .any
 |_=> .any
theorem a8G {w:World} {ρ ρ1:Nat→Option Loc} {L1 L:Nat→Prop} {S1 S:Nat→Prop} {gs:List Nat} (hn:gs.Nodup) (hL:∀r∈gs,L r) (hs:∀b c t s,¬S1 b→w.heap[b]?=some (.cells c t s)→¬S b)
  {x:AV} {y:Value} (h:d8 w S1 ρ1 L1 x y):d8 w S (bkρ gs ρ ρ1) L (bkM gs x) y:=by
 cases x with
 | agg cs=>
  simp only[bkM]
  split
  ·rename_i hf;rw[List.all_eq_true]at hf;obtain⟨vs,rfl,hl,hc⟩:=z7 h;refine .agg _ vs hl (fun u hu=>?_) (fun i c u h1 h2=>?_)
   ·obtain⟨i,hi,rfl⟩:=List.getElem_of_mem hu;exact(hc i _ _ (List.getElem?_eq_getElem (by omega)) (List.getElem?_eq_getElem hi)).1
   ·have h3:=(hc i c u h1 h2).2;have hfc:=hf c (List.mem_of_getElem? h1)
    cases h3 with
    |pure _ _ h3=>exact .pure _ _ (a7f hs hfc h3)
    |_=>simp[a8X]at hfc
  ·exact .pure _ _ (.any _)
 | lst sz els=>
  simp only[bkM]
  split
  ·rename_i hf
   cases h with
   |pure _ _ h3=>exact .pure _ _ (a7f hs hf h3)
  ·exact .pure _ _ (.any _)
 |v c=>exact b0F (S0:=S1) (x:= .v c) hn hL h
 |row i k n=>exact b0F (S0:=S1) (x:= .row i k n) hn hL h
 |ptr i k n=>exact b0F (S0:=S1) (x:= .ptr i k n) hn hL h
 |mp i=>exact b0F (S0:=S1) (x:= .mp i) hn hL h
 |_=>exact .pure _ _ (.any _)
def a5p (gs:List Nat):k7→k7
 | .els sz es=> .els sz (es.map fun e=>e.map (bkM gs))
 | .map ag kts kvs=> .map ag kts kvs
 | .itr ag kts left cur=> .itr ag kts left cur
 | .mpa ag kts kvs=> .mpa ag kts (kvs.map fun p=>(p.1,bkM gs p.2))
def a8R (gs us kp:List Nat) (n:Nat) (T T':Tm):Tm:=us.map (fun t=>(t,bkM gs (i7 T' t)))++kp.map (fun t=>(t,o4 (b4v gs n) 40 (i7 T t)))
def b2i (gs:List Nat) (H H':Hp):Hp:=(List.range H.length).map fun r=>match gs.findIdx? (· ==r)with
 |some i=>(g6 H' i).map (a5p gs)
 |none=>(g6 H r).map (B3 (b4v gs H.length))
def b6S (gs fs:List Nat) (H:Hp):Hp:=(List.range H.length).map fun r=>if gs.contains r||fs.contains r then g6 H r else none
theorem a7N (gs fs:List Nat) (H:Hp) (r:Nat):g6 (b6S gs fs H) r=if r<H.length then(if gs.contains r||fs.contains r then g6 H r else none)else none:=by
 unfold b6S;rw[G4]
 by_cases h:r<H.length
 ·rw[if_pos h,List.getElem?_range h]
 ·rw[if_neg h,List.getElem?_eq_none (by simpa using h)]
def c1G (fs:List Nat) (H:Hp):Bool:=fs.all fun r=>match g6 H r with|some (.map _ _ _)=>true|_=>false
theorem b4u {J:Jt} (hJ:JOk J) {nt:Nat} {kp0:List Nat} {kv:Nat→Value} {T:Tm} {H:Hp} {a:Act} {w:World} (hs:SG J nt kp0 kv T H a w) (gs fs us kp:List Nat) (Tf:Tm) (Hx Hf:Hp) (hlt:∀r∈gs,r<H.length) (hnd:gs.Nodup) (hfm:c1G fs H=true) (hHx:b6S gs fs H=Hx) (hT:a4q Hx (gs.map some) T Tf) (hH:a1w Hx (gs.map some)=Hf)
  (hkk:∀t∈kp0,t∈kp):∃J1,JOk J1∧(∀kn,a9q J kn→a9q J1 kn)∧SG J1 nt kp (fun t=>a.tmps.getD t undef) Tf Hf a w∧
   ∀T' H' a' w',a8K H'=true→SG J1 nt kp (fun t=>a.tmps.getD t undef) T' H' a' w'→i7 (a8R gs us kp H.length T T') 999999=i7 T 999999→SG J nt kp0 kv (a8R gs us kp H.length T T') (b2i gs H H') a' w':=by
 obtain⟨⟨S0,ρ,L,hc,hL,hj,hm⟩,hk⟩:=hs;have hgi:∀(i j q:Nat),(gs.map some)[i]?=some (some q)→(gs.map some)[j]?=some (some q)→i=j:=by
  intro i j q h1 h2;simp only[List.getElem?_map,Option.map_eq_some_iff,Option.some.injEq]at h1 h2;obtain⟨_,h1,rfl⟩:=h1;obtain⟨_,h2,rfl⟩:=h2;exact(List.getElem?_inj (List.getElem?_eq_some_iff.1 h1).1 hnd).1 (h1.trans h2.symm)
 let hid:Nat→Prop:=fun r=>r∉gs∧r∉fs
 let Sh:Nat→Prop:=fun b=>S0 b∨∃r l,hid r∧ρ r=some l∧l.b=some b
 let ρx:Nat→Option Loc:=fun r=>if gs.contains r||fs.contains r then ρ r else none
 have hx1:∀{r l},ρx r=some l→ρ r=some l∧¬hid r:=by
  intro r l h;simp only[ρx]at h
  split at h
  ·rename_i hg;refine⟨h,fun hh=>?_⟩;simp only[Bool.or_eq_true,List.contains_eq_mem,decide_eq_true_eq]at hg
   rcases hg with hg|hg
   ·exact hh.1 hg
   ·exact hh.2 hg
  ·cases h
 have hx2:∀{r l},ρ r=some l→¬hid r→ρx r=some l:=by
  intro r l h hn;simp only[ρx];rw[if_pos]
  ·exact h
  ·simp only[Bool.or_eq_true,List.contains_eq_mem,decide_eq_true_eq]
   by_cases h1:r∈gs
   ·exact Or.inl h1
   ·by_cases h2:r∈fs
    ·exact Or.inr h2
    ·exact absurd ⟨h1,h2⟩ hn
 have hSS:∀b,Sx Sh ρx b↔Sx S0 ρ b:=by
  intro b;constructor
  ·rintro((h|⟨r,l,_,h1,h2⟩)|⟨r,l,h1,h2⟩)
   ·exact Or.inl h
   ·exact Or.inr ⟨r,l,h1,h2⟩
   ·exact Or.inr ⟨r,l,(hx1 h1).1,h2⟩
  ·rintro(h|⟨r,l,h1,h2⟩)
   ·exact Or.inl (Or.inl h)
   ·by_cases hh:hid r
    ·exact Or.inl (Or.inr ⟨r,l,hh,h1,h2⟩)
    ·exact Or.inr ⟨r,l,hx2 h1 hh,h2⟩
 have hcx:L0 X3 Sh nt w ρx L (i7 T) (g6 Hx) (a1G a):=by
  subst hHx;refine⟨⟨fun r r' l l' b h1 h2 k1 k2=>hc.wf.inj r r' l l' b (hx1 h1).1 (hx1 h2).1 k1 k2,fun r l b h1 k1=>?_,fun r l h1=>hc.wf.given r l (hx1 h1).1,fun b hb=>?_,fun _ _=>trivial⟩,hc.size,hc.defers,fun t=>?_,fun r row hr=>?_,fun r hr=>?_⟩
  ·obtain⟨p1,p2,p3⟩:=hc.wf.own r l b (hx1 h1).1 k1;refine⟨p1,?_,p3⟩;rintro(h|⟨r',l',hh,h2,k2⟩)
   ·exact p2 h
   ·have:=hc.wf.inj r r' l l' b (hx1 h1).1 h2 k1 k2;subst this;exact(hx1 h1).2 hh
  ·rcases hb with h|⟨r,l,_,h1,h2⟩
   ·exact hc.wf.low b h
   ·exact(hc.wf.own r l b h1 h2).1
  ·exact(hc.tmps t).ext (Nat.le_refl _) (fun b _ hn=>⟨rfl,fun h=>hn ((hSS b).1 h)⟩) (fun _ h=>h) (fun r l _ h=>(hx1 h).1)
  ·rw[a7N]at hr
   split at hr
   ·split at hr
    ·rename_i hg;obtain⟨l,hl,j9⟩:=hc.rows r row hr;refine⟨l,by simp only[ρx];rw[if_pos hg];exact hl,j9.ext (Nat.le_refl _) (fun b _ hn=>⟨rfl,fun h=>hn ((hSS b).1 h)⟩) (fun _ h=>h) (fun r l _ h=>(hx1 h).1) (fun _ _=>rfl)⟩
    ·cases hr
   ·cases hr
  ·rw[a7N]at hr;simp only[ρx]
   split
   ·rename_i hg;rw[if_pos hg]at hr
    split at hr
    ·exact hc.dead r hr
    ·rename_i hlr
     cases h:ρ r with
     |none=>rfl
     |some l=>exact absurd (hL r (hc.wf.given r l h)) hlr
   ·rfl
 have hf:=b3Q (gs.map some) hgi hT hH hcx
 let B1:Nat→Prop:=fun b=>own (j8 ρx (gs.map some)) b∨w.heap.size≤b
 have hrg:∀{r:Nat} {l:Loc},j8 ρx (gs.map some) r=some l→∃q∈gs,ρ q=some l:=by
  intro r l h;obtain⟨q,h1,h2⟩:=f9 h;simp only[List.getElem?_map,Option.map_eq_some_iff,Option.some.injEq]at h1;obtain⟨_,h1,rfl⟩:=h1;exact⟨_,List.mem_of_getElem? h1,(hx1 h2).1⟩
 have hJ1:JOk (b8Y B1 Sh w J):=b5S fun b h=>Or.inr h;refine⟨b8Y B1 Sh w J,hJ1,?_,?_,?_⟩
 ·rintro kn hkn y S0' O w' ⟨rfl,hx,ho⟩ x hx';have hB1:∀b,B1 b→own ρ b∨w.heap.size≤b:=by
   rintro b (⟨r,l,h1,h2⟩|h)
   ·obtain⟨q,_,h3⟩:=hrg h1;exact Or.inl ⟨q,l,h3,h2⟩
   ·exact Or.inr h
  refine(hkn _ _ _ _ hj x hx').ext hx.size fun b hb hn=>⟨hx.block b hb fun h=>?_,?_⟩
  ·rcases hB1 b h with h|h
   ·exact hn (Or.inr h)
   ·omega
  ·rintro((h|⟨r,l,_,h1,h2⟩)|h)
   ·exact hn (Or.inl h)
   ·exact hn (Or.inr ⟨r,l,h1,h2⟩)
   ·rcases hB1 b (ho b h)with h|h
    ·exact hn (Or.inr h)
    ·omega
 ·subst hH;obtain⟨Ds,q1,q2,q3⟩:=hm;exact⟨⟨Sh,j8 ρx (gs.map some),fun r=>r<(gs.map some).length,hf.inB (fun _ _=>trivial) (fun _ _=>trivial),fun r h=>by simpa [a1w]using h,⟨rfl,Ext.refl _ _,fun b h=>Or.inl h⟩,Ds,q1,q2,fun D hD=>⟨Or.inl (q3 D hD).1,(q3 D hD).2⟩⟩,fun _ _=>rfl⟩
 rintro T' H' a' w' hni ⟨⟨S0',ρ1,L1,hc1,hL1,⟨rfl,hx1',ho1⟩,hm1⟩,hk1⟩ hy;have hot:∀{r:Nat} {l:Loc} {b:Nat},r∉gs→ρ r=some l→l.b=some b→¬B1 b:=by
  rintro r l b hr h1 h2 (⟨q,l',h3,h4⟩|h)
  ·obtain⟨q',hq,h5⟩:=hrg h3;exact hr (hc.wf.inj r q' l l' b h1 h5 h2 h4▸hq)
  ·exact absurd (hc.wf.own r l b h1 h2).1 (Nat.not_lt.2 h)
 have hcase:∀{r:Nat} {l:Loc},bkρ gs ρ ρ1 r=some l→(∃i,gs[i]?=some r∧gs.findIdx? (· ==r)=some i∧ρ1 i=some l)∨(r∉gs∧ρ r=some l):=by
  intro r l h;unfold bkρ at h
  split at h
  ·rename_i i hi;exact Or.inl ⟨i,(a9e hi).2,hi,h⟩
  ·rename_i hi;exact Or.inr ⟨b3p hi,h⟩
 have hSx:∀b,b<w.heap.size→¬Sx S0 ρ b→w'.heap[b]?=w.heap[b]?∧¬Sx S0 (bkρ gs ρ ρ1) b:=by
  intro b hb hn;have hnB:¬B1 b:=by
   rintro(⟨r,l,h1,h2⟩|h)
   ·obtain⟨q,_,h3⟩:=hrg h1;exact hn (Or.inr ⟨q,l,h3,h2⟩)
   ·omega
  refine⟨hx1'.block b hb hnB,?_⟩;rintro(h|⟨r,l,h1,h2⟩)
  ·exact hn (Or.inl h)
  ·rcases hcase h1 with⟨i,_,_,h3⟩|⟨_,h3⟩
   ·exact hnB (ho1 b ⟨i,l,h3,h2⟩)
   ·exact hn (Or.inr ⟨r,l,h3,h2⟩)
 have hkind:∀b c t s,¬Sx Sh ρ1 b→w'.heap[b]?=some (.cells c t s)→¬Sx S0 (bkρ gs ρ ρ1) b:=by
  rintro b c t s hn hbc (h|⟨r,l,h1,h2⟩)
  ·exact hn (Or.inl (Or.inl h))
  ·rcases hcase h1 with⟨i,_,_,h3⟩|⟨hng,h3⟩
   ·exact hn (Or.inr ⟨i,l,h3,h2⟩)
   ·by_cases hrf:r∈fs
    ·have hmp:=List.all_eq_true.1 hfm r hrf
     split at hmp
     ·rename_i ag kts kvs hget';obtain⟨l',hl',b',hb',hmr⟩:=hc.rows r _ hget';rw[h3]at hl';simp only[Option.some.injEq]at hl';subst hl';rw[h2]at hb';simp only[Option.some.injEq]at hb';subst hb';obtain⟨es,clock,hq,_⟩:=hmr;have hold:=hx1'.block b (hc.wf.own r l b h3 h2).1 (hot hng h3 h2);rw[hold,hq]at hbc
      cases hbc
     ·cases hmp
    ·exact hn (Or.inl (Or.inr ⟨r,l,⟨hng,hrf⟩,h3,h2⟩))
 have hgf:∀{r:Nat},(∃q,(b4v gs H.length)[r]?=some (some q))→r<H.length∧r∉gs∧bkρ gs ρ ρ1 r=ρ r∧j8 ρ (b4v gs H.length) r=ρ r:=by
  rintro r ⟨q,hq⟩;have h0:=hq;rw[b6L]at hq
  split at hq
  ·rename_i hr
   split at hq
   ·cases hq
   ·rename_i hg;simp only[Option.some.injEq]at hq;subst hq;have hg':r∉gs:=by simpa using hg
    refine⟨hr,hg',?_,by simp only[j8,h0]⟩;unfold bkρ
    split
    ·rename_i i hi;exact absurd (List.mem_of_getElem? (a9e hi).2) hg'
    ·rfl
  ·cases hq
 have keep:∀x y,d8 w (Sx S0 ρ) ρ L x y→d8 w' (Sx S0 (bkρ gs ρ ρ1)) (bkρ gs ρ ρ1) (fun r=>r<H.length) (o4 (b4v gs H.length) 40 x) y:=by
  intro x y h;refine(E1 (g:=b4v gs H.length) (S':=Sx S0 ρ) (fun _ h=>h) 40 x y h).ext hx1'.size hSx (fun r hr=>(hgf hr).1) (fun r l hr hl=>?_);rw[(hgf hr).2.2.2,←(hgf hr).2.2.1];exact hl
 refine⟨⟨S0,bkρ gs ρ ρ1,fun r=>r<H.length,⟨⟨?_,?_,?_,fun b h=>Nat.lt_of_lt_of_le (hc.wf.low b h) hx1'.size,?_⟩,hc1.size,rfl,?_,?_,?_⟩,?_,?_,?_⟩,fun t ht=>(hk1 t (hkk t ht)).trans (hk t ht)⟩
 ·intro r r' l l' b h1 h2 k1 k2
  rcases hcase h1 with⟨i,hi,hi',h3⟩|⟨hi,h3⟩<;>rcases hcase h2 with⟨j,hj,hj',h4⟩|⟨hj,h4⟩
  ·have:=hc1.wf.inj i j l l' b h3 h4 k1 k2;subst this;rw[hi]at hj;exact Option.some.inj hj
  ·exact absurd (ho1 b ⟨i,l,h3,k1⟩) (hot hj h4 k2)
  ·exact absurd (ho1 b ⟨j,l',h4,k2⟩) (hot hi h3 k1)
  ·exact hc.wf.inj r r' l l' b h3 h4 k1 k2
 ·intro r l b h1 k1
  rcases hcase h1 with⟨i,hi,_,h3⟩|⟨hi,h3⟩
  ·obtain⟨p1,p2,_⟩:=hc1.wf.own i l b h3 k1;exact⟨p1,fun h=>p2 (Or.inl h),trivial⟩
  ·obtain⟨p1,p2,p3⟩:=hc.wf.own r l b h3 k1;exact⟨Nat.lt_of_lt_of_le p1 hx1'.size,p2,p3⟩
 ·intro r l h1
  rcases hcase h1 with⟨i,hi,_,h3⟩|⟨hi,h3⟩
  ·exact hlt r (List.mem_of_getElem? hi)
  ·exact hL r (hc.wf.given r l h3)
 ·intro b h
  trivial
 ·have gen:∀(l:Tm),(∀p∈l,d8 w' (Sx S0 (bkρ gs ρ ρ1)) (bkρ gs ρ ρ1) (fun r=>r<H.length) p.2 (a'.tmps.getD p.1 undef))→∀t,d8 w' (Sx S0 (bkρ gs ρ ρ1)) (bkρ gs ρ ρ1) (fun r=>r<H.length) (i7 l t) (a'.tmps.getD t undef):=by
   intro l
   induction l with
   |nil=>intro _ t;exact .pure _ _ (.any _)
   |cons p l ih=>
    intro h t;obtain⟨i,x⟩:=p;simp only[i7]
    split
    ·rename_i e;subst e;exact h (_,x) (by simp)
    ·exact ih (fun p hp=>h p (by simp[hp])) t
  refine gen _ fun p hp=>?_;unfold a8R at hp;rw[List.mem_append]at hp
  rcases hp with hp|hp
  ·obtain⟨t,_,rfl⟩:=List.mem_map.1 hp;exact a8G hnd hlt hkind (hc1.tmps t)
  ·obtain⟨t,ht,rfl⟩:=List.mem_map.1 hp;show d8 _ _ _ _ (o4 _ 40 (i7 T t)) (a'.tmps.getD t undef);rw[hk1 t ht];exact keep _ _ (hc.tmps t)
 ·intro r row hr;unfold b2i at hr;rw[G4]at hr
  split at hr
  ·rename_i q hq;have hqr:q=r:=by
    by_cases h:r<H.length
    ·rw[List.getElem?_range h]at hq;exact(Option.some.inj hq).symm
    ·rw[List.getElem?_eq_none (by simpa using h)]at hq;cases hq
   subst hqr
   split at hr
   ·rename_i i hi;obtain⟨row1,h1,rfl⟩:=Option.map_eq_some_iff.1 hr;obtain⟨l,hl,j9⟩:=hc1.rows i row1 h1;refine⟨l,by unfold bkρ;rw[hi];exact hl,?_⟩
    cases row1 with
    |map ag kts kvs=>exact j9
    |mpa ag kts kvs=>obtain⟨b,h1,h2⟩:=j9;exact⟨b,h1,h2.map _ (fun x y h=>a8G hnd hlt hkind h) rfl⟩
    |itr ag kts left cur=>
     exact(a4U hni i _ _ _ _ h1).elim
    |els sz es=>
     obtain⟨k1,k2,k3,k4⟩:=j9;refine⟨k1,?_,fun hb=>by rw[k3 hb];rfl,fun b hb=>?_⟩
     ·intro e he;simp only[List.mem_map]at he;obtain⟨e',he',rfl⟩:=he;simpa using k2 e' he'
     ·obtain⟨c,t,q1,q2,q3,q4⟩:=k4 b hb;refine⟨c,t,q1,q2,by simpa using q3,fun i av hi=>?_⟩;rw[←List.map_flatten]at hi;simp only[List.getElem?_map,Option.map_eq_some_iff]at hi;obtain⟨av0,hi,rfl⟩:=hi;obtain⟨x,p1,p2,p3⟩:=q4 i av0 hi;exact⟨x,p1,p2,a8G hnd hlt hkind p3⟩
   ·rename_i hi;obtain⟨row1,h1,rfl⟩:=Option.map_eq_some_iff.1 hr;obtain⟨l,hl,j9⟩:=hc.rows q row1 h1;have hng:=b3p hi;refine⟨l,by unfold bkρ;rw[hi];exact hl,?_⟩;refine(a1L (g:=b4v gs H.length) (S':=Sx S0 ρ) (fun _ h=>h) j9).ext hx1'.size hSx (fun r hr=>(hgf hr).1) (fun r l hr hl=>?_) (fun b hb=>?_)
    ·rw[(hgf hr).2.2.2,←(hgf hr).2.2.1];exact hl
    ·exact hx1'.block b (hc.wf.own q l b hl hb).1 (hot hng hl hb)
  ·cases hr
 ·intro r hr;unfold b2i at hr;rw[G4]at hr
  by_cases h:r<H.length
  ·rw[List.getElem?_range h]at hr;simp only at hr;unfold bkρ
   split at hr
   ·rename_i i hi;simp only[hi];exact hc1.dead i (by simpa using hr)
   ·rename_i hi;simp only[hi];exact hc.dead r (by simpa using hr)
  ·unfold bkρ
   split
   ·rename_i i hi;exact absurd (hlt r (List.mem_of_getElem? (a9e hi).2)) h
   ·cases hρ:ρ r with
    |none=>rfl
    |some l=>exact absurd (hL r (hc.wf.given r l hρ)) h
 ·intro r hr;simpa [b2i]using hr
 ·rw[hy];refine hJ _ _ _ _ _ _ hj hc.wf.low hc.owned (hx1'.mono fun b hb h=>?_) ?_
  ·rcases h with⟨r,l,h1,h2⟩|h
   ·obtain⟨q,_,h3⟩:=hrg h1;exact⟨q,l,h3,h2⟩
   ·omega
  ·rintro b ⟨r,l,h1,h2⟩
   rcases hcase h1 with⟨i,_,_,h3⟩|⟨_,h3⟩
   ·refine⟨(hc1.wf.own i l b h3 h2).1,?_⟩
    rcases ho1 b ⟨i,l,h3,h2⟩with⟨r',l',h4,h5⟩|h
    ·obtain⟨q,_,h6⟩:=hrg h4;exact Or.inl ⟨q,l',h6,h5⟩
    ·exact Or.inr h
   ·exact⟨Nat.lt_of_lt_of_le (hc.wf.own r l b h3 h2).1 hx1'.size,Or.inl ⟨r,l,h3,h2⟩⟩
 ·obtain⟨Ds,q1,q2,q3⟩:=hm1;refine⟨Ds,q1,q2,fun D hD=>?_⟩;obtain⟨p1,p2,p3⟩:=q3 D hD;refine⟨?_,p2,p3⟩
  rcases p1 with h|⟨r,l,hh,h1,h2⟩
  ·exact h
  ·exfalso;have hold:=hx1'.block D (hc.wf.own r l D h1 h2).1 (hot hh.1 h1 h2);rw[p3]at hold
   cases hgr:g6 H r with
   |none=>rw[hc.dead r hgr]at h1;cases h1
   | some row=>
    obtain⟨l',hl',j9⟩:=hc.rows r row hgr;rw[h1]at hl';simp only[Option.some.injEq]at hl';subst hl'
    cases row with
    |els sz es=>
     obtain⟨_,_,_,e4⟩:=j9;obtain⟨c,t,k1,_⟩:=e4 D h2;have k1':w.heap[D]?=some (.cells c t (0,0)):=k1;rw[k1']at hold
     cases hold
    |map ag kts kvs=>
     obtain⟨b',hb',es,clock,hq,_⟩:=j9;rw[h2]at hb';simp only[Option.some.injEq]at hb';subst hb';have hq':w.heap[D]?=some (.map es clock):=hq;rw[hq']at hold
     cases hold
    |mpa ag kts kvs=>
     obtain⟨b',hb',vs,ks,⟨es,clock,hq,_⟩,_⟩:=j9;rw[h2]at hb';simp only[Option.some.injEq]at hb';subst hb';have hq':w.heap[D]?=some (.map es clock):=hq;rw[hq']at hold
     cases hold
    |itr ag kts left cur=>
     obtain⟨b',hb',_,mb,since,seen,c0,es,clock,hq,_⟩:=j9;rw[h2]at hb';simp only[Option.some.injEq]at hb';subst hb';have hq':w.heap[D]?=some (.mapIter (some mb) since seen c0):=hq;rw[hq']at hold
     cases hold
def c2p (P:Program) (ro:Option Nat) (J:Jt) (nt:Nat) (kp0:List Nat) (dsts:List (Option Tmp)) (o:Oper) (b:Code) (Q:Exit→Tm→Hp→Prop) (T:Tm) (H:Hp):Prop:=
 ∃(gs fs us kp:List Nat) (Tf:Tm) (Hx Hf:Hp) (R:Tm→Hp→Prop),(∀r∈gs,r<H.length)∧gs.Nodup∧c1G fs H=true∧b6S gs fs H=Hx∧a4q Hx (gs.map some) T Tf∧a1w Hx (gs.map some)=Hf∧(∀t∈kp0,t∈kp)∧y7 kp dsts=true∧
  (∀J1,JOk J1→(∀kn,a9q J kn→a9q J1 kn)→∀K:Tm→Hp→Prop,(∀T' H',GWp P ro J1 nt kp b T' H' (fun e T' H'=>e= .normal∧a8K H'=true∧R T' H')→K T' H')→E6 P nt dsts [o] Tf Hf K)∧
  ∀T' H',R T' H'→i7 (a8R gs us kp H.length T T') 999999=i7 T 999999∧Q .normal (a8R gs us kp H.length T T') (b2i gs H H')
theorem c1r {P:Program} {ro:Option Nat} {J:Jt} {nt:Nat} {kp:List Nat} {T:Tm} {H:Hp} {Q:Exit→Tm→Hp→Prop} {id:Nat} {ops:List Oper} {b:Code} {dsts:List (Option Tmp)} (hne:ops≠[]) (hd:ops.map (·.dst)=dsts) (hnt:nt≤999999) (hkp:y7 kp dsts=true) (hnd:ops.all n6=true)
  (h:∀K:Tm→Hp→Prop,(∀T' H',c2p P ro J nt kp dsts (ops.getLast hne) b Q T' H'→K T' H')→E6 P nt dsts ops.dropLast T H K):GWp P ro J nt kp (.seq (.region id ops.toArray false) b) T H Q:=by
 intro hJ kv a w hs;have e:=List.dropLast_concat_getLast hne;have hall:=List.all_eq_true.1 hnd;have hdj:∀j:Nat,dsts[j]?=(ops.toArray[j]?).map (·.dst):=by intro j;rw[←hd,List.getElem?_map,List.getElem?_toArray]
 let QQ:Exit→Act→World→Prop:=fun e a' w'=>e= .normal∧b.wpIn (fr ro) 0 P (fun e a' w'=>∃T' H',Q e T' H'∧SG J nt kp kv T' H' a' w') a' w'
 refine wpIn_seq (wpIn_mono (Q:=QQ) (wpIn_region_lit ?_) ?_)
 ·have key:=z8 (ro:=ro) (kp:=kp) (kv:=kv) (QQ:=QQ) (tail:=[ops.getLast hne]) hJ hnt (ops:=ops.toArray) (dsts:=dsts) (K:=fun T' H'=>c2p P ro J nt kp dsts (ops.getLast hne) b Q T' H')
   hdj hkp ?_ ops.dropLast (fun o' ho'=>⟨hall o' (List.dropLast_subset _ ho'),by rw[←hd];exact List.mem_map_of_mem (List.dropLast_subset _ ho')⟩) T H a w (h _ fun T' H' h=>h) hs
  ·rw[e]at key;exact key
  rintro T1 H1 a1 w1 ⟨gs,fs,us,kp',Tf,Hx,Hf,R,q1,q2,q3,q4,q5,q6,q7,q8,hin,hout⟩ hs1;obtain⟨J1,hJ1,hkn,hs2,back⟩:=b4u hJ hs1 gs fs us kp' Tf Hx Hf q1 q2 q3 q4 q5 q6 q7;have key2:=z8 (ro:=ro) (kp:=kp') (QQ:=QQ) (tail:=[]) hJ1 hnt (ops:=ops.toArray) (dsts:=dsts) (K:=fun T' H'=>GWp P ro J1 nt kp' b T' H' (fun e T' H'=>e= .normal∧a8K H'=true∧R T' H'))
   hdj q8 ?_ [ops.getLast hne] (fun o' ho'=>by
    simp only[List.mem_singleton]at ho';subst ho';exact⟨hall _ (List.getLast_mem hne),by rw[←hd];exact List.mem_map_of_mem (List.getLast_mem hne)⟩) Tf Hf a1 w1 (hin J1 hJ1 hkn _ fun T' H' h=>h) hs2
  ·simpa using key2
  intro T2 H2 a2 w2 hb hs3;show QQ .normal a2 w2;refine⟨rfl,wpIn_mono (hb hJ1 _ a2 w2 hs3) ?_⟩;rintro e' a' w' ⟨T',H',⟨rfl,hni,hR⟩,s⟩;obtain⟨hy,ho⟩:=hout T' H' hR;exact⟨_,_,ho,back T' H' a' w' hni s hy⟩
 ·rintro e' a' w' ⟨rfl,h⟩;exact h
def c4f (P:Program) (ro:Option Nat) (J:Jt) (nt:Nat) (kp:List Nat) (dsts:List (Option Tmp)) (l:List Oper) (y:Code) (Q:Exit→Tm→Hp→Prop) (T:Tm) (H:Hp):Prop:=
 ∃T2 H2,(∀kv a w,SG J nt kp kv T H a w→SG J nt kp kv T2 H2 a w)∧∀K:Tm→Hp→Prop,(∀T' H',GWp P ro J nt kp y T' H' Q→K T' H')→E6 P nt dsts l T2 H2 K
theorem c0k {P:Program} {ro:Option Nat} {J:Jt} {nt:Nat} {kp:List Nat} {T:Tm} {H:Hp} {Q:Exit→Tm→Hp→Prop} {id:Nat} {ops:List Oper} {y:Code} {dsts:List (Option Tmp)} (n:Nat) (hd:ops.map (·.dst)=dsts) (hnt:nt≤999999) (hkp:y7 kp dsts=true) (hnd:ops.all n6=true)
  (h:∀K:Tm→Hp→Prop,(∀T' H',c4f P ro J nt kp dsts (ops.drop n) y Q T' H'→K T' H')→E6 P nt dsts (ops.take n) T H K):GWp P ro J nt kp (.seq (.region id ops.toArray false) y) T H Q:=by
 intro hJ kv a w hs;have hall:=List.all_eq_true.1 hnd;have hdj:∀j:Nat,dsts[j]?=(ops.toArray[j]?).map (·.dst):=by intro j;rw[←hd,List.getElem?_map,List.getElem?_toArray]
 have hsub:∀{o'},o'∈ops→n6 o'=true∧o'.dst∈dsts:=fun {o'} ho'=>⟨hall o' ho',by rw[←hd];exact List.mem_map_of_mem ho'⟩
 let QQ:Exit→Act→World→Prop:=fun e a' w'=>e= .normal∧y.wpIn (fr ro) 0 P (fun e a' w'=>∃T' H',Q e T' H'∧SG J nt kp kv T' H' a' w') a' w'
 refine wpIn_seq (wpIn_mono (Q:=QQ) (wpIn_region_lit ?_) ?_)
 ·have key:=z8 (ro:=ro) (kp:=kp) (kv:=kv) (QQ:=QQ) (tail:=ops.drop n) hJ hnt (ops:=ops.toArray) (dsts:=dsts) (K:=fun T' H'=>c4f P ro J nt kp dsts (ops.drop n) y Q T' H')
   hdj hkp ?_ (ops.take n) (fun o' ho'=>hsub (List.mem_of_mem_take ho')) T H a w (h _ fun T' H' h=>h) hs
  ·rw[List.take_append_drop]at key;exact key
  rintro T1 H1 a1 w1 ⟨T2,H2,hsg,hk⟩ hs1;have key2:=z8 (ro:=ro) (kp:=kp) (kv:=kv) (QQ:=QQ) (tail:=[]) hJ hnt (ops:=ops.toArray) (dsts:=dsts) (K:=fun T' H'=>GWp P ro J nt kp y T' H' Q)
   hdj hkp ?_ (ops.drop n) (fun o' ho'=>hsub (List.mem_of_mem_drop ho')) T2 H2 a1 w1 (hk _ fun T' H' h=>h) (hsg _ _ _ hs1)
  ·rw[List.append_nil]at key2;exact key2
  intro T3 H3 a3 w3 hb hs3;show QQ .normal a3 w3;exact⟨rfl,hb hJ _ _ _ hs3⟩
 ·rintro e' a' w' ⟨rfl,h⟩;exact h
theorem b6p {J:Jt} {nt:Nat} {kp:List Nat} {kv:Nat→Value} {T:Tm} {H:Hp} {a:Act} {w:World} {kn:List (List KC×AV×Value)} (t:Nat) {x:List KC×AV×Value} {k:Value} (hx:x∈kn) (hkn:a9q J kn) (ht:i7 T t= .tup [.v k, .v x.2.2]) (hne:t≠999999)
  (hs:SG J nt kp kv T H a w):SG J nt kp kv (a1E T (some t) (.tup [.v k,x.2.1])) H a w:=by
 obtain⟨⟨S0,ρ,L,hc,hL,hj,hm⟩,hk⟩:=hs;refine⟨⟨S0,ρ,L,⟨hc.wf,hc.size,hc.defers,fun i=>?_,hc.rows,hc.dead⟩,hL,?_,hm⟩,hk⟩
 ·rw[v8]
  split
  ·rename_i e;simp only[Option.some.injEq]at e;subst e;have h1:=hc.tmps t;rw[ht]at h1;obtain⟨vs,h2,hl,hcs⟩:=H6 h1;rw[h2]
   match vs,hl with
   |[p,q],_=>
    have hp:=i9 (hcs 0 _ p rfl rfl);have hq:=i9 (hcs 1 _ q rfl rfl);subst hp hq;refine .tup _ _ rfl fun i c u h1 h2=>?_
    match i,h1,h2 with
    |0,h1,h2=>simp at h1 h2;subst h1 h2;exact .pure _ _ (.v _)
    |1,h1,h2=>simp at h1 h2;subst h1 h2;exact .pure _ _ (hkn _ _ _ _ hj x hx)
  ·exact hc.tmps i
 ·rw[v8,if_neg (fun e=>hne (by simpa using e))];exact hj
theorem b4b {nt:Nat} {T:Tm} {H:Hp} (q j:Nat) {sz:Nat} {e:List AV} {x:Value} {r i o:Nat} (hr:g6 H q=some (.els sz [e])) (hj:e[j]?=some (.fptr x r i o)):Sub nt T H T (p6 H q (some (.els sz [e.set j (.v x)]))):=by
 rintro w0 B S0 a w ⟨⟨ρ,L,hc,hL⟩,hext⟩;have hql:=T7 hr;refine⟨⟨ρ,L,⟨hc.wf,hc.size,hc.defers,hc.tmps,fun r' row hr'=>?_,fun r' hr'=>?_⟩,fun r' hr'=>by rw[J6 _ _ _ hql];exact hL r' hr'⟩,hext⟩
 ·rw[x5 _ _ _ _ (by omega)]at hr'
  split at hr'
  ·rename_i e';subst e';simp only[Option.some.injEq]at hr';subst hr';obtain⟨l,hl,j9⟩:=hc.rows r' _ hr;refine⟨l,hl,a3q j9 (by simp) fun k a' ha=>?_⟩
   by_cases hkj:k=j
   ·subst hkj;have hkl:k<e.length:=(List.getElem?_eq_some_iff.1 hj).1;rw[List.getElem?_set_self hkl]at ha;simp only[Option.some.injEq]at ha;subst ha;refine⟨_,hj,fun y _ hy=>?_⟩
    cases hy with
    |pure _ _ h=>cases h
    |fptr _ _ _ _ h=>exact .pure _ _ (.v _)
   ·rw[List.getElem?_set_ne (fun e=>hkj e.symm)]at ha;exact⟨a',ha,fun _ _ h=>h⟩
  ·exact hc.rows r' row hr'
 ·rw[x5 _ _ _ _ (by omega)]at hr'
  split at hr'
  ·cases hr'
  ·exact hc.dead r' hr'
theorem b4B {nt:Nat} {T:Tm} {H:Hp} (q j q' j':Nat) {sz sz':Nat} {e e':List AV} {x:Value} {r i o:Nat} (hr:g6 H q=some (.els sz [e])) (hj:e[j]?=some (.v x)) (hr':g6 H q'=some (.els sz' [e'])) (hj':e'[j']?=some (.fptr x r i o)):Sub nt T H T (p6 H q (some (.els sz [e.set j (.fptr x r i o)]))):=by
 rintro w0 B S0 a w ⟨⟨ρ,L,hc,hL⟩,hext⟩;have hql:=T7 hr;have hx:d8 w (Sx S0 ρ) ρ L (.fptr x r i o) x:=by
  obtain⟨l,hl,_,_,e3,e4⟩:=hc.rows q' _ hr'
  cases hb:l.b with
  |none=>cases e3 hb
  |some b=>
   obtain⟨cc,t,k1,k2,k3,k4⟩:=e4 b hb;simp only[List.flatten_cons,List.flatten_nil,List.append_nil]at k4;obtain⟨x',p1,p2,p3⟩:=k4 j' _ hj'
   cases p3 with
   |pure _ _ h=>cases h
   |fptr _ _ _ _ h=>exact .fptr _ _ _ _ h
 refine⟨⟨ρ,L,⟨hc.wf,hc.size,hc.defers,hc.tmps,fun r' row hr'=>?_,fun r' hr'=>?_⟩,fun r' hr'=>by rw[J6 _ _ _ hql];exact hL r' hr'⟩,hext⟩
 ·rw[x5 _ _ _ _ (by omega)]at hr'
  split at hr'
  ·rename_i e';subst e';simp only[Option.some.injEq]at hr';subst hr';obtain⟨l,hl,j9⟩:=hc.rows r' _ hr;refine⟨l,hl,a3q j9 (by simp) fun k a' ha=>?_⟩
   by_cases hkj:k=j
   ·subst hkj;have hkl:k<e.length:=(List.getElem?_eq_some_iff.1 hj).1;rw[List.getElem?_set_self hkl]at ha;simp only[Option.some.injEq]at ha;subst ha;refine⟨_,hj,fun y _ hy=>?_⟩
    cases hy with
    |pure _ _ h=>cases h;exact hx
   ·rw[List.getElem?_set_ne (fun e=>hkj e.symm)]at ha;exact⟨a',ha,fun _ _ h=>h⟩
  ·exact hc.rows r' row hr'
 ·rw[x5 _ _ _ _ (by omega)]at hr'
  split at hr'
  ·cases hr'
  ·exact hc.dead r' hr'
end Go.AM
end
section
namespace Go.Tram.Lk
open Go.AM Go.Proofs
@[simp high] theorem c1Z (l:List Car) (gs:List Nat):(n7 l).map (fun p=>(p.1,bkM gs p.2))=n7 l:=by
 unfold n7;rw[List.map_map];refine List.map_congr_left fun c _=>?_;simp[bkM,a8X,c2N,List.all_map]
theorem b4a {l:List Car} {c:Car} (h:∀x∈l,x.Name≠c.Name):O0 (n7 l) (kOf c.Name) c.av=n7 (l++[c]):=by
 induction l with
 |nil=>rfl
 |cons x l ih=>
  have ih:=ih fun y hy=>h y (by simp[hy]);unfold n7 at ih ⊢;rw[List.map_cons,O0,if_neg,ih]
  ·rfl
  ·intro e;have:=h x (by simp);simp at e;exact this e.symm
theorem b3Z {k:List KC} {a:AV} {l:List Car} (h:(k,a)∈n7 l):∃c∈l,k=kOf c.Name∧a=c.av:=by
 unfold n7 at h;obtain⟨c,hc,e⟩:=List.mem_map.1 h;simp only[Prod.mk.injEq]at e;exact⟨c,hc,e.1.symm,e.2.symm⟩
section
variable (X:Value) (s:l5) (fo si up:Kvs) (cs:List Car) (ps:List Int) (nx nd:l7)
abbrev Ent:=List KC×AV×Value
def b6X (x:Ent):List KC×Value:=(x.1,x.2.2)
def b2K (x:Ent):List KC×AV:=(x.1,x.2.1)
structure c2Z (cs:List Car) (kn left:List Ent) (ds:List Car):Prop where
 mem:∀y∈left,y∈kn
 perm:(n7 ds++left.map b2K).Perm (n7 cs)
theorem a5q {α:Type}:∀{l:List α} {i:Nat} {y:α},l[i]?=some y→(y::l.eraseIdx i).Perm l
 |[],i,y,h=>by simp at h
 |x::l,0,y,h=>by simp at h;subst h;simp
 |x::l,i+1,y,h=>by
  have ih:=a5q (l:=l) (i:=i) (y:=y) (by simpa using h);rw[List.eraseIdx_cons_succ];exact(List.Perm.swap _ _ _).trans (ih.cons x)
theorem c2Z.car {cs:List Car} {kn left:List Ent} {ds:List Car} (h:c2Z cs kn left ds) (hs:Srt cs) {i:Nat} {y:Ent} (hy:left[i]?=some y):∃c∈cs,y=(kOf c.Name,c.av,y.2.2)∧(∀x∈ds,x.Name≠c.Name)∧c2Z cs kn (left.eraseIdx i) (ds++[c]):=by
 have hm:b2K y∈n7 cs:=h.perm.mem_iff.1 (List.mem_append_right _ (List.mem_map_of_mem (List.mem_of_getElem? hy)));obtain⟨c,hc,e1,e2⟩:=b3Z hm;have hye:b2K y=(kOf c.Name,c.av):=by unfold b2K;simp only[e1,e2]
 have hp:((left.eraseIdx i).map b2K++[b2K y]).Perm (left.map b2K):=by
  have:=(List.perm_append_comm (l₁:=(left.eraseIdx i)) (l₂:=[y])).trans (a5q hy);simpa using this.map b2K
 refine⟨c,hc,?_,?_,⟨fun z hz=>h.mem z (List.mem_of_mem_eraseIdx hz),?_⟩⟩
 ·obtain⟨a,b,v⟩:=y;simp only at e1 e2;rw[e1,e2]
 ·intro x hx e;have hn:=a5o hs;have hn2:((n7 ds++left.map b2K).map (·.1)).Nodup:=(h.perm.map (·.1)).nodup_iff.2 hn
  rw[List.map_append,List.nodup_append]at hn2;refine hn2.2.2 (kOf x.Name) ?_ (kOf c.Name) ?_ (by rw[e])
  ·rw[a1P];exact List.mem_map_of_mem (f:=fun c:Car=>kOf c.Name) hx
  ·rw[List.map_map];have:=List.mem_map_of_mem (f:=(fun x:List KC×AV=>x.1)∘b2K) (List.mem_of_getElem? hy);simpa [hye]using this
 ·have e3:n7 (ds++[c])=n7 ds++[b2K y]:=by rw[hye];simp[n7]
  rw[e3,List.append_assoc];exact((List.perm_append_comm.trans hp).append_left _).trans h.perm
theorem b7q (hcs:b5f s cs) (hne:ps≠[]) (hn:ps.length≤1000):c6 Tryz.prog 66 [.ptr 0 0 0] (stK X s fo si up ps.length) (stD s cs ps nx nd) (.ptr 6 0 0) (stK X s fo si up ps.length) (stD s cs ps nx nd++[some (.els 3 [[.ptr 1 0 0, .mp 7, .row 8 0 ps.length]]),caR cs,ptR ps]):=by
 have htp:List.take ps.length (ps.map j4)=ps.map j4:=List.take_of_length_le (by simp);have hcl:=b0U ps hne hn;refine B2 ?_;refine oG [0] Tryz.func66 Tryz.ntmps66 Tryz.results66 ?_;intro J hJ;refine gW ?_;refine b7u 2 rfl (by simp) (by simp[n7]) fun kn hkp hkn=>?_;simp only[p6,List.cons_append,List.nil_append]
 ·refine gD ?_ fun K hK=>by simp -dsimp [htp];refine a2h [] [] [none,none,none,none,none,none,none,some 0] (hcl) (by decide) rfl (by simp[htp]) (by simp) rfl (by simp) (by simp) (by simp) ?_;simp -dsimp [htp];exact hK
  refine a7 fun K1 hK1=>?_;refine s9 (M9 (a8W 6 (row':= .mpa false [.i .i64] []) (by simp) (by simp) fun _ _ _ _ _=>a9j) (by simp)) ?_;refine s9 (M9 (b4b 8 0 rfl rfl) (by simp)) ?_;simp only[p6,List.set_cons_zero]
  ·refine c1r (List.cons_ne_nil _ _) rfl (by decide) rfl rfl fun K hK=>?_;simp only[List.dropLast];simp -dsimp;refine hK _ _ ⟨[8,6,7],[2],[3],[0],[(3, .ptr 0 0 0),(21, .mpc false [.i .i64] (kn.map b6X))],[none,none,some (.map false [.i .i64] (kn.map b6X)),none,none,none,some (.mpa false [.i .i64] []),ptR ps,some (.els 3 [[.v X, .mp 6, .row 7 0 ps.length]])],[some (.els 3 [[.v X, .mp 1, .row 2 0 ps.length]]),some (.mpa false [.i .i64] []),ptR ps],fun T' H'=>Go.AM.i7 T' 3= .ptr 0 0 0∧∃ds:List Car,(n7 ds).Perm (n7 cs)∧H'=[some (.els 3 [[.v X, .mp 1, .row 2 0 ps.length]]),some (.mpa false [.i .i64] (n7 ds)),ptR ps],by simp,by decide,rfl,rfl,⟨.inr (by simp), .inr (by simp),trivial⟩,by simp,by decide,by decide,?_,?_⟩<;>clear hK K
   ·intro J1 hJ1 hkn1 K hK;simp only[List.getLast];simp -dsimp;apply hK;clear hK K;refine c8 ?_;refine gP [0,3,22] ?_;refine i6 [0,3,22] (α:=List Ent×Option Ent×List Car) (fun x=>[]) (fun x=>[some (.els 3 [[.v X, .mp 1, .row 2 0 ps.length]]),some (.mpa false [.i .i64] (n7 x.2.2)),ptR ps,some (.itr false [.i .i64] (x.1.map b6X) (x.2.1.map b6X))]) (fun x=>c2Z cs kn x.1 x.2.2) (fun x=>x.1.length) (kn,none,[]) ?_ ?_ ?_
    ·exact⟨fun y hy=>hy,by show(n7 []++kn.map b2K).Perm (n7 cs);exact hkp⟩
    ·exact M9 (c9 (by simp)) (by simp)
    rintro⟨left,cur,ds⟩ ix;simp only at ix ⊢;refine zN ?_;refine c1X (.tmp 22) 3 rfl (by decide) rfl rfl rfl rfl (by simp) (by simp) rfl (fun hl0 K hK=>?_) (fun i e hie K hK=>?_)
    ·obtain rfl:left=[]:=by simpa using hl0
     simp -dsimp;apply hK;clear hK K;refine a7 fun K2 hK2=>?_;refine c3 rfl (fun hc0=>?_) (fun hc0=>?_)
     ·simp at hc0
     ·refine s9 (M9 (d9 (T':=[(3, .ptr 0 0 0)]) (H':=[some (.els 3 [[.v X, .mp 1, .row 2 0 ps.length]]),some (.mpa false [.i .i64] (n7 ds)),ptR ps]) [some 0,some 1,some 2] rfl (by simp) (by simp)) (by simp)) ?_;refine p7 ?_;refine zQ ?_;exact⟨trivial,rfl,by simp,ds,by simpa using ix.perm,rfl⟩
    ·obtain⟨y,hy,rfl⟩:∃y,left[i]?=some y∧b6X y=e:=by simpa using hie
     obtain⟨c,hc,hye,hnew,hci⟩:=ix.car hcs.srt hy;have hym:=ix.mem y (List.mem_of_getElem? hy);have hcl2:=(hcs.bd c hc).2;have hcln:=a3f c.Way (by have:=(o6 (hcs.car c hc)).2.2.1.1;intro e;rw[e]at this;simp at this) hcl2;have hty:List.take c.Way.length (List.map Move.cells c.Way)=List.map Move.cells c.Way:=List.take_of_length_le (by simp);have hks:O0 (n7 ds) (kOf c.Name) (.agg [I c.Name,I c.Profile,a6b c.Way,I c.Front])=n7 (ds++[c]):=b4a hnew;obtain⟨yk,ya,yv⟩:=y;simp only[Prod.mk.injEq,and_true]at hye;obtain⟨rfl,rfl⟩:=hye;simp only[b6X];simp -dsimp;apply hK;clear hK K;refine a7 fun K3 hK3=>?_;refine c3 rfl (fun hc0=>?_) (fun hc0=>?_)
     ·refine c5 ?_;refine zQ (hK3 _ _ ?_);refine gP [0,3,22] ?_;refine c8 ?_;refine c0k 1 rfl (by decide) rfl rfl fun K hK=>?_;simp only[List.take_succ_cons,List.take_zero,List.drop_succ_cons,List.drop_zero];simp -dsimp;refine hK _ _ ⟨_,_,fun kv a w hs=>b6p 25 hym (hkn1 _ (a3H _ _)) rfl (by decide) hs,?_⟩;clear hK K;intro K hK;simp -dsimp;apply hK;clear hK K;refine gW ?_ fun K hK=>by simp -dsimp;refine cM [] [] (hcln) ?_;simp -dsimp;exact hK
      refine gU (T':=[(3, .ptr 0 0 0),(4,I c.Name),(5, .ptr 4 0 0),(22, .ptr 3 0 0)]) (H':=[some (.els 3 [[.v X, .mp 1, .row 2 0 ps.length]]),some (.mpa false [.i .i64] (n7 ds)),ptR ps,some (.itr false [.i .i64] ((left.eraseIdx i).map b6X) (some (kOf c.Name,yv))),some (.els 4 [c.cells])]) [some 0,some 1,some 2,some 3,some 4] ?_ (hH:=by simp[hty,J8,b6X]);refine gE ?_ fun K hK=>by simp -dsimp [hks];exact hK
      refine zQ ?_;have hil:=(List.getElem?_eq_some_iff.1 hy).1;exact⟨(left.eraseIdx i,some (kOf c.Name,c.av,yv),ds++[c]),hci,by simp only[List.length_eraseIdx,if_pos hil];omega,gB [some 0,some 1,some 2,some 3] (hH:=by simp[b6X])⟩
     ·simp at hc0
   ·intro T' H' hR;obtain⟨hR,ds,hds,rfl⟩:=hR;have hg:b4v [8,6,7] 9=[some 0,some 1,some 2,some 3,some 4,some 5,none,none,none]:=rfl;have hr:List.range 9=[0,1,2,3,4,5,6,7,8]:=rfl;have e1:bkM [8,6,7] (.ptr 0 0 0)= .ptr 8 0 0:=rfl;have e2:a5p [8,6,7] (.mpa false [.i .i64] (n7 ds))= .mpa false [.i .i64] (n7 ds):=by simp[a5p]
    have e3:a5p [8,6,7] (.els 1 (ps.map j4))= .els 1 (ps.map j4):=by simp[a5p,j4,bkM]
    have e4:a5p [8,6,7] (.els 3 [[.v X, .mp 1, .row 2 0 ps.length]])= .els 3 [[.v X, .mp 6, .row 7 0 ps.length]]:=rfl;have f0:List.findIdx? (fun x=>x==0) [8,6,7]=none:=rfl;have f1:List.findIdx? (fun x=>x==1) [8,6,7]=none:=rfl;have f2:List.findIdx? (fun x=>x==2) [8,6,7]=none:=rfl;have f3:List.findIdx? (fun x=>x==3) [8,6,7]=none:=rfl;have f4:List.findIdx? (fun x=>x==4) [8,6,7]=none:=rfl;have f5:List.findIdx? (fun x=>x==5) [8,6,7]=none:=rfl;have f6:List.findIdx? (fun x=>x==6) [8,6,7]=some 1:=rfl;have f7:List.findIdx? (fun x=>x==7) [8,6,7]=some 2:=rfl;have f8:List.findIdx? (fun x=>x==8) [8,6,7]=some 0:=rfl;refine⟨by simp[a8R],?_⟩;simp only[a8R,b2i,e1,Option.map_some,f0,f1,f2,f3,f4,f5,f6,f7,f8,g6,e2,e3,e4,List.length_cons,List.length_nil,Nat.reduceAdd,Nat.zero_add,hg,hr,List.map_cons,List.map_nil,List.cons_append,List.nil_append,hR];refine zQ (hK1 _ _ ?_);refine gP [0,3] ?_;refine gW ?_;refine b3e 2 (n7 cs) (a3H _ _) rfl (by simp) hkp hkn ?_;refine s9 (M9 (a3M 6 rfl hds) (by simp)) ?_;refine s9 (M9 (b4B 8 0 0 0 rfl rfl rfl rfl) (by simp)) ?_;refine s9 (M9 (E8 8 0 rfl rfl) (by simp)) ?_;exact g7 (gT [some 0,some 1,some 2,some 3,some 4,some 5,some 8,some 6,some 7])
end
end Go.Tram.Lk
end
section
namespace Go.Tram.Lk
open Go.AM Go.Proofs
def cwC (c:Car):List AV:=if c.Way=[]then c0C c else c.cells
def cwA (c:Car):AV:= .agg (cwC c)
theorem a6t {c:Car} (h:c.Way=[]):cwC c=c0C c:=if_pos h
theorem b0p {c:Car} (h:c.Way≠[]):cwC c=c.cells:=if_neg h
def GrT (s:l5) (fo si up:Kvs) (cs:List Car) (ps:List Int) (nx nd:l7) (c:Car) (m:Move) (M:l7×l7):Prop:=∀X:Value,
 ((r7 s ⟨cs,ps⟩ c m).Kind=0→c6 Tryz.prog 51 [.ptr 0 0 0,cwA c,m.av] (stK X s fo si up ps.length) (stD s cs ps nx nd) (.tup [(o9 c m).av,P5 ⟨0,0⟩]) (stK X s fo si up ps.length) (stD s cs (a2U s c m ps) M.1 M.2++grR (o9 c m).cells ⟨0,0⟩))∧
 ((r7 s ⟨cs,ps⟩ c m).Kind≠0→c6 Tryz.prog 51 [.ptr 0 0 0,cwA c,m.av] (stK X s fo si up ps.length) (stD s cs ps nx nd) (.tup [.agg a4K,P5 (r7 s ⟨cs,ps⟩ c m)]) (stK X s fo si up ps.length) (stD s cs ps M.1 M.2++grR a4K (r7 s ⟨cs,ps⟩ c m)))
open Classical in
noncomputable def gM (s:l5) (fo si up:Kvs) (cs:List Car) (ps:List Int) (nx nd:l7) (c:Car) (m:Move):l7×l7:=if h:∃M,GrT s fo si up cs ps nx nd c m M then h.choose else([],[])
theorem b8T {s:l5} {fo si up:Kvs} (hru:b2J s fo si up) {cs:List Car} (hcs:b5f s cs) {ps:List Int} (nx nd:l7) {c:Car} {m:Move} (hs:R1 s=true) (hpl:ps.length=s.Plan.Nodes.length) (hw:c.Way≠[]→wayB s.Plan c.Way=true) (hm:E3 s.Plan m=true) (hl:c.Way.length≤1000):GrT s fo si up cs ps nx nd c m (gM s fo si up cs ps nx nd c m):=by
 have h:∃M,GrT s fo si up cs ps nx nd c m M:=by
  unfold GrT cwA
  by_cases hne:c.Way=[]<;>by_cases hr:(r7 s ⟨cs,ps⟩ c m).Kind=0
  ·obtain⟨a,b,h⟩:=a9v hru hcs nx nd hs hpl hw hm hl hne hr;exact⟨(a,b),fun X=>⟨fun _=>by rw[a6t hne];exact h X,fun h=>absurd hr h⟩⟩
  ·obtain⟨a,b,h⟩:=a8H hru hcs nx nd hs hpl hw hm hl hne hr;exact⟨(a,b),fun X=>⟨fun h=>absurd h hr,fun _=>by rw[a6t hne];exact h X⟩⟩
  ·obtain⟨a,b,h⟩:=a4n hru hcs nx nd hs hpl hw hm hl hne hr;exact⟨(a,b),fun X=>⟨fun _=>by rw[b0p hne];exact h X,fun h=>absurd hr h⟩⟩
  ·obtain⟨a,b,h⟩:=a4y hru hcs nx nd hs hpl hw hm hl hne hr;exact⟨(a,b),fun X=>⟨fun h=>absurd h hr,fun _=>by rw[b0p hne];exact h X⟩⟩
 unfold gM;rw[dif_pos h];exact h.choose_spec
def D6 (s:l5) (cs:List Car):List Move→List Int→Car→b2I×List Int×Car
 |[],ps,c=>(⟨0,0⟩,ps,c)
 |m::l,ps,c=>if (r7 s ⟨cs,ps⟩ c m).Kind=0 then D6 s cs l (a2U s c m ps) (o9 c m)else(r7 s ⟨cs,ps⟩ c m,ps,c)
noncomputable def enterM (s:l5) (fo si up:Kvs) (cs:List Car):List Move→List Int→l7→l7→Car→l7×l7
 |[],ps,nx,nd,c=>(nx,nd)
 |m::l,ps,nx,nd,c=>if (r7 s ⟨cs,ps⟩ c m).Kind=0 then enterM s fo si up cs l (a2U s c m ps) (gM s fo si up cs ps nx nd c m).1 (gM s fo si up cs ps nx nd c m).2 (o9 c m)else gM s fo si up cs ps nx nd c m
theorem b5X (s:l5) (c:Car) (m:Move) (ps:List Int):(a2U s c m ps).length=ps.length:=by unfold a2U;split<;>simp
structure a6P (s:l5) (fo si up:Kvs) (cs:List Car) (ps0:List Int) (nx0 nd0:l7) (c0:Car) (way:List Move) (k:Nat) (c:Car) (ps:List Int) (nx nd:l7):Prop where
 le:k≤way.length
 name:c.Name=c0.Name
 prof:c.Profile=c0.Profile
 front:c.Front=c0.Front
 wy:c.Way=way.take k
 len:ps.length=ps0.length
 law:D6 s cs way ps0 c0=D6 s cs (way.drop k) ps c
 memo:enterM s fo si up cs way ps0 nx0 nd0 c0=enterM s fo si up cs (way.drop k) ps nx nd c
theorem a6P.zero (s:l5) (fo si up:Kvs) (cs:List Car) (ps0:List Int) (nx0 nd0:l7) {c0:Car} (way:List Move) (h:c0.Way=[]):a6P s fo si up cs ps0 nx0 nd0 c0 way 0 c0 ps0 nx0 nd0:=
 ⟨Nat.zero_le _,rfl,rfl,rfl,by simpa using h,rfl,rfl,rfl⟩
section
variable {s:l5} {fo si up:Kvs} {cs:List Car} {ps0 ps:List Int} {nx0 nd0 nx nd:l7} {c0 c:Car} {way:List Move} {k:Nat} {m:Move}
theorem a6P.drop (hm:way[k]?=some m):way.drop k=m::way.drop (k+1):=by
 obtain⟨h1,h2⟩:=List.getElem?_eq_some_iff.1 hm;rw[List.drop_eq_getElem_cons h1,h2]
theorem a6P.ok (h:a6P s fo si up cs ps0 nx0 nd0 c0 way k c ps nx nd) (hm:way[k]?=some m) (hr:(r7 s ⟨cs,ps⟩ c m).Kind=0):a6P s fo si up cs ps0 nx0 nd0 c0 way (k+1) (o9 c m) (a2U s c m ps) (gM s fo si up cs ps nx nd c m).1 (gM s fo si up cs ps nx nd c m).2:=by
 refine⟨(List.getElem?_eq_some_iff.1 hm).1,h.name,h.prof,h.front,?_,by rw[b5X];exact h.len,?_,?_⟩
 ·show c.Way++[m]=_;rw[h.wy,List.take_add_one,hm];rfl
 ·rw[h.law,a6P.drop hm,D6,if_pos hr]
 ·rw[h.memo,a6P.drop hm,enterM,if_pos hr]
theorem a6P.no (h:a6P s fo si up cs ps0 nx0 nd0 c0 way k c ps nx nd) (hm:way[k]?=some m) (hr:(r7 s ⟨cs,ps⟩ c m).Kind≠0):D6 s cs way ps0 c0=(r7 s ⟨cs,ps⟩ c m,ps,c)∧enterM s fo si up cs way ps0 nx0 nd0 c0=gM s fo si up cs ps nx nd c m:=by
 refine⟨?_,?_⟩
 ·rw[h.law,a6P.drop hm,D6,if_neg hr]
 ·rw[h.memo,a6P.drop hm,enterM,if_neg hr]
theorem a6P.fin (h:a6P s fo si up cs ps0 nx0 nd0 c0 way way.length c ps nx nd):D6 s cs way ps0 c0=(⟨0,0⟩,ps,c)∧enterM s fo si up cs way ps0 nx0 nd0 c0=(nx,nd):=by
 refine⟨?_,?_⟩
 ·rw[h.law,List.drop_length];rfl
 ·rw[h.memo,List.drop_length];rfl
theorem a6P.wayB (h:a6P s fo si up cs ps0 nx0 nd0 c0 way k c ps nx nd) (hw:Go.Tram.wayB s.Plan way=true) (hne:c.Way≠[]):Go.Tram.wayB s.Plan c.Way=true:=by
 rw[h.wy]at hne ⊢;refine b6J hw ?_
 cases k with
 |zero=>simp at hne
 |succ k=>omega
end
section
variable (s:l5) (fo si up:Kvs) (nx nd:l7) (cs:List Car) (ps:List Int) (name profile:Int) (way:List Move)
theorem b4N (hv:d7 s.Plan=true) (hp:s.Profiles.length≤100000) (hl:way.length≤1000) (hc:a8p s ⟨name,profile,way,0⟩=false):
  c6 Tryz.prog 28 [.ptr 0 0 0,I name,I profile,a6b way] lkK (lkD s fo si up nx nd cs ps) (.tup [P5 ⟨0,0⟩,I 2]) lkK (lkD s fo si up nx nd cs ps):=by
 have hcar:=fun x y=>b4i s fo si up x y ⟨name,profile,way,0⟩ hv hp hl;rw[hc]at hcar;unfold e8 at hcar;refine oG [0] Tryz.func28 Tryz.ntmps28 Tryz.results28 ?_;intro J hJ;refine gW ?_;refine a7 fun K1 hK1=>?_;refine gW ?_ fun K hK=>by simp -dsimp;refine cI (G8 _) ?_;simp -dsimp;exact hK
 refine c3 rfl (fun hc0=>?_) (fun hc0=>?_)
 ·simp at hc0
 ·refine c5 ?_;refine zQ (hK1 _ _ ?_);refine gP [0,1,2,3,8] ?_;refine a7 fun K2 hK2=>?_;refine gW ?_ fun K hK=>by simp -dsimp;refine cI (hcar _ _) ?_;simp -dsimp;exact hK
  refine c3 rfl (fun hc1=>?_) (fun hc1=>?_)
  ·refine gW ?_;refine gU (T':=[(0, .ptr 0 0 0),(8, .iptr [I 0,I 0]),(9,I 2)]) (H':=lkK++lkD s fo si up nx nd cs ps) [some 0,some 1,some 2,some 3,some 4,some 5,some 6] ?_;exact g7 (gT [some 0,some 1,some 2,some 3,some 4,some 5,some 6])
  ·simp at hc1
theorem b2Y (hv:d7 s.Plan=true) (hp:s.Profiles.length≤100000) (hl:way.length≤1000) (hc:a8p s ⟨name,profile,way,0⟩=true) {c1:Car} (hm:Y6 cs name=some c1):
  c6 Tryz.prog 28 [.ptr 0 0 0,I name,I profile,a6b way] lkK (lkD s fo si up nx nd cs ps) (.tup [P5 ⟨0,0⟩,I 5]) lkK (lkD s fo si up nx nd cs ps):=by
 have hcar:=fun x y=>b4i s fo si up x y ⟨name,profile,way,0⟩ hv hp hl;rw[hc]at hcar;unfold e8 at hcar;have hcc:A9 (n7 cs) (kOf name)=some c1.av:=by rw[k8,hm];rfl
 refine oG [0] Tryz.func28 Tryz.ntmps28 Tryz.results28 ?_;intro J hJ;refine gW ?_;refine a7 fun K1 hK1=>?_;refine gW ?_ fun K hK=>by simp -dsimp;refine cI (G8 _) ?_;simp -dsimp;exact hK
 refine c3 rfl (fun hc0=>?_) (fun hc0=>?_)
 ·simp at hc0
 ·refine c5 ?_;refine zQ (hK1 _ _ ?_);refine gP [0,1,2,3,8] ?_;refine a7 fun K2 hK2=>?_;refine gW ?_ fun K hK=>by simp -dsimp;refine cI (hcar _ _) ?_;simp -dsimp;exact hK
  refine c3 rfl (fun hc1=>?_) (fun hc1=>?_)
  ·simp at hc1
  ·refine c5 ?_;refine zQ (hK2 _ _ ?_);refine gP [0,1,2,3,8] ?_;refine a7 fun K3 hK3=>?_;refine gW ?_ fun K hK=>by simp -dsimp;refine d6 (.tup [c1.av,Bo true]) (fun hm=>by rw[hcc];rfl) ?_;simp -dsimp;exact hK
   refine gW ?_;refine c3 rfl (fun hc2=>?_) (fun hc2=>?_)
   ·refine gW ?_;refine gU (T':=[(0, .ptr 0 0 0),(8, .iptr [I 0,I 0]),(9,I 5)]) (H':=lkK++lkD s fo si up nx nd cs ps) [some 0,some 1,some 2,some 3,some 4,some 5,some 6] ?_;exact g7 (gT [some 0,some 1,some 2,some 3,some 4,some 5,some 6])
   ·simp at hc2
end
end Go.Tram.Lk
end
section
namespace Go.Tram.Lk
open Go.AM Go.Proofs
section
variable {s:l5} {fo si up:Kvs} (hru:b2J s fo si up) (nx nd:l7) {cs:List Car} (hcs:b5f s cs) {ps:List Int} {name profile:Int} {way:List Move}
include hru hcs
theorem b3P (hs:R1 s=true) (hpl:ps.length=s.Plan.Nodes.length) (hp:s.Profiles.length≤100000) (hc:a8p s ⟨name,profile,way,0⟩=true) (hm:Y6 cs name=none) (h100:cs.length<100) {c0:Car} (hc0e:c0=⟨name,profile,[],(way.length:Int)-1⟩)
  {r:b2I} {e:Int} {cs2:List Car} {ps2:List Int} {M:l7×l7} (hM:enterM s fo si up cs way ps nx nd c0=M) (h1:∀r1 ps1 c1,D6 s cs way ps c0=(r1,ps1,c1)→r1.Kind≠0→r=r1∧e=6∧cs2=cs∧ps2=ps) (h2:∀ps1 c1,D6 s cs way ps c0=(⟨0,0⟩,ps1,c1)→r=⟨0,0⟩∧e=0∧cs2=B4 cs c1∧ps2=ps1):
  c6 Tryz.prog 28 [.ptr 0 0 0,I name,I profile,a6b way] lkK (lkD s fo si up nx nd cs ps) (.tup [P5 r,I e]) lkK (lkD s fo si up M.1 M.2 cs2 ps2):=by
 obtain⟨hv,_,_,_⟩:=r5 hs;obtain⟨_,_,⟨hw1,hw2,_,hwb⟩,_⟩:=o6 hc;simp only at hw1 hw2 hwb;have hNl:1≤s.Plan.Nodes.length∧s.Plan.Nodes.length≤300:=(n5 hv).1;have hcar:=fun x y=>b4i s fo si up x y ⟨name,profile,way,0⟩ hv hp (by simp only;omega);rw[hc]at hcar;unfold e8 at hcar;have hcc:A9 (n7 cs) (kOf name)=none:=by rw[k8,hm];rfl
 have hcl:(n7 cs).length=cs.length:=by simp[n7]
 have hcop:=fun X=>b7q X s fo si up cs ps nx nd hcs (by intro h;rw[h]at hpl;simp at hpl;omega) (by omega);have wl:IntKind.i64.wrap ((way.length:Int)-1)=(way.length:Int)-1:=c4 (by omega) (by omega);have h100':¬(100:Int)≤(cs.length:Int):=by omega
 have hcw0:cwC c0=[I name,I profile,H7,I ((way.length:Int)-1)]:=by rw[hc0e,a6t rfl];rfl
 refine oG [0] Tryz.func28 Tryz.ntmps28 Tryz.results28 ?_;intro J hJ;refine gW ?_;refine a7 fun K1 hK1=>?_;refine gW ?_ fun K hK=>by simp -dsimp;refine cI (G8 _) ?_;simp -dsimp;exact hK
 refine c3 rfl (fun hc0=>?_) (fun hc0=>?_)
 ·simp at hc0
 ·refine c5 ?_;refine zQ (hK1 _ _ ?_);refine gP [0,1,2,3,8] ?_;refine a7 fun K2 hK2=>?_;refine gW ?_ fun K hK=>by simp -dsimp;refine cI (hcar _ _) ?_;simp -dsimp;exact hK
  refine c3 rfl (fun hc1=>?_) (fun hc1=>?_)
  ·simp at hc1
  ·refine c5 ?_;refine zQ (hK2 _ _ ?_);refine gP [0,1,2,3,8] ?_;refine a7 fun K3 hK3=>?_;refine gW ?_ fun K hK=>by simp -dsimp;refine d6 (.tup [.agg a4K,Bo false]) (fun hm=>by rw[hcc];rfl) ?_;simp -dsimp;exact hK
   refine gW ?_;refine c3 rfl (fun hc2=>?_) (fun hc2=>?_)
   ·simp at hc2
   ·refine c5 ?_;refine zQ (hK3 _ _ ?_);refine gP [0,1,2,3,8] ?_;refine a7 fun K4 hK4=>?_;refine gW ?_ fun K hK=>by simp -dsimp [hcl,b1l];exact hK
    refine c3 rfl (fun hc3=>?_) (fun hc3=>?_)
    ·simp at hc3;omega
    ·refine c5 ?_;refine zQ (hK4 _ _ ?_);refine gP [0,1,2,3,8] ?_;refine a2j 1 0 rfl rfl fun X=>?_;simp only[p6,List.set_cons_zero]
     ·refine gW ?_ fun K hK=>by simp -dsimp;refine cM [1,2] [3,4,5,6] (hcop X) ?_;simp -dsimp;exact hK
      refine gW ?_ fun K hK=>by simp -dsimp [wl];exact hK
      refine a7 fun K5 hK5=>?_;refine gW ?_;refine c8 ?_;refine gP [0,1,8,12,13,70,71,72] ?_;refine i6 [0,1,8,12,13,70,71] (α:=Nat×Car×List Int×l7×l7) (fun x=>[(72,I x.1)]) (fun x=>[some (.els 1 [[.ptr 1 0 0]]),some (.els 3 [[.fptr X 2 0 0, .mp 9, .row 10 0 ps.length]]),ruR s fo si up 11 12,none,none,none,none,some (.els 2 [[I 0,I 0]]),none,caR cs,ptR ps,nxR s x.2.2.2.1,ndR s x.2.2.2.2,some (.els 3 [[.ptr 2 0 0, .mp 14, .row 15 0 ps.length]]),caR cs,ptR x.2.2.1,some (.els 4 [cwC x.2.1])]) (fun x=>a6P s fo si up cs ps nx nd c0 way x.1 x.2.1 x.2.2.1 x.2.2.2.1 x.2.2.2.2) (fun x=>way.length-x.1) (0,c0,ps,nx,nd) ?_ ?_ ?_
      ·exact a6P.zero s fo si up cs ps nx nd way (by rw[hc0e])
      ·exact gB [some 0,some 1,some 2,none,none,none,none,some 7,none,some 9,some 10,some 11,some 12,some 13,some 14,some 15,some 16] (hH:=by simp[hcw0])
      rintro⟨k,c,qs,nx1,nd1⟩ hi;simp only at hi ⊢;refine zN ?_;refine gW ?_;refine a7 fun K6 hK6=>?_;refine c3 rfl (fun hc4=>?_) (fun hc4=>?_)
      ·have hk:k<way.length:=by first|omega|(simp at hc4;omega)
       obtain⟨m,hmg⟩:=gx (l:=way) (i:=k) hk;have hmm:E3 s.Plan m=true:=by have:=R8 hwb k hk;unfold V0 at this;rw[hmg]at this;exact this
       have wk:=zW k (by omega);have hcwl:c.Way.length=k:=by rw[hi.wy,List.length_take];omega
       have hspec:=b8T hru hcs nx1 nd1 hs (by rw[hi.len,hpl]) (hi.wayB hwb) hmm (by omega);have hgl:=hi.len;unfold GrT at hspec;refine c5 ?_;refine zQ (hK6 _ _ ?_);refine gP [0,1,8,12,13,70,71,72] ?_;refine a7 fun K7 hK7=>?_;refine c8 ?_;refine gW ?_ fun K hK=>by simp -dsimp [hmg];exact hK
       refine gW ?_;refine a2j 13 0 rfl rfl fun X2=>?_;simp only[p6,List.set_cons_zero];have hg:=hspec X2;unfold cwA at hg;rw[hi.len]at hg
       rcases Decidable.em (c.Way=[])with hne|hne<;>rcases Decidable.em ((r7 s ⟨cs,qs⟩ c m).Kind=0)with hr|hr
       all_goals first|have hg2:=hg.1 hr|have hg2:=hg.2 hr
       all_goals first|rw[a6t hne]at hg2 ⊢ |rw[b0p hne]at hg2 ⊢
       ·refine gW ?_ fun K hK=>by simp -dsimp;refine cM [13,2] [14,15,11,12] (hg2) ?_;simp -dsimp;exact hK
        refine gW ?_;refine c3 rfl (fun hc5=>?_) (fun hc5=>?_)
        ·simp at hc5
        ·refine c5 ?_;refine zQ (hK7 _ _ ?_);refine gP [0,1,8,12,13,70,71,72] ?_;refine gV ?_ fun K hK=>by simp -dsimp [wk];exact hK
         refine zQ ?_;exact⟨(k+1,o9 c m,a2U s c m qs,(gM s fo si up cs qs nx1 nd1 c m).1,(gM s fo si up cs qs nx1 nd1 c m).2),hi.ok hmg hr,by simp only;omega,M9 ((E8 13 0 rfl rfl).trans (d9 [some 0,some 1,some 2,none,none,none,none,some 7,none,some 9,some 10,some 21,some 22,some 13,some 19,some 20,some 16] rfl (by simp) (by simp[cwC,o9]))) (by simp)⟩
       ·refine gW ?_ fun K hK=>by simp -dsimp;refine cM [13,2] [14,15,11,12] (hg2) ?_;simp -dsimp;exact hK
        refine gW ?_;refine c3 rfl (fun hc5=>?_) (fun hc5=>?_)
        ·refine gW ?_;obtain⟨g1,g2⟩:=hi.no hmg hr;obtain⟨rfl,rfl,rfl,rfl⟩:=h1 _ _ _ g1 hr;rw[g2]at hM;subst hM;refine s9 (M9 (E8 1 0 rfl rfl) (by simp)) ?_;refine gU (T':=[(0, .ptr 0 0 0),(8, .iptr [I (r7 s ⟨cs2,qs⟩ c m).Kind,I (r7 s ⟨cs2,qs⟩ c m).Car]),(9,I 6)]) (H':=lkK++lkD s fo si up (gM s fo si up cs2 qs nx1 nd1 c m).1 (gM s fo si up cs2 qs nx1 nd1 c m).2 cs2 ps2) [some 0,some 1,some 2,some 9,some 10,some 21,some 22] ?_;exact g7 (gT [some 0,some 1,some 2,some 3,some 4,some 5,some 6])
        ·simp[hr]at hc5
       ·refine gW ?_ fun K hK=>by simp -dsimp;refine cM [13,2] [14,15,11,12] (hg2) ?_;simp -dsimp;exact hK
        refine gW ?_;refine c3 rfl (fun hc5=>?_) (fun hc5=>?_)
        ·simp at hc5
        ·refine c5 ?_;refine zQ (hK7 _ _ ?_);refine gP [0,1,8,12,13,70,71,72] ?_;refine gV ?_ fun K hK=>by simp -dsimp [wk];exact hK
         refine zQ ?_;exact⟨(k+1,o9 c m,a2U s c m qs,(gM s fo si up cs qs nx1 nd1 c m).1,(gM s fo si up cs qs nx1 nd1 c m).2),hi.ok hmg hr,by simp only;omega,M9 ((E8 13 0 rfl rfl).trans (d9 [some 0,some 1,some 2,none,none,none,none,some 7,none,some 9,some 10,some 21,some 22,some 13,some 19,some 20,some 16] rfl (by simp) (by simp[cwC,o9]))) (by simp)⟩
       ·refine gW ?_ fun K hK=>by simp -dsimp;refine cM [13,2] [14,15,11,12] (hg2) ?_;simp -dsimp;exact hK
        refine gW ?_;refine c3 rfl (fun hc5=>?_) (fun hc5=>?_)
        ·refine gW ?_;obtain⟨g1,g2⟩:=hi.no hmg hr;obtain⟨rfl,rfl,rfl,rfl⟩:=h1 _ _ _ g1 hr;rw[g2]at hM;subst hM;refine s9 (M9 (E8 1 0 rfl rfl) (by simp)) ?_;refine gU (T':=[(0, .ptr 0 0 0),(8, .iptr [I (r7 s ⟨cs2,qs⟩ c m).Kind,I (r7 s ⟨cs2,qs⟩ c m).Car]),(9,I 6)]) (H':=lkK++lkD s fo si up (gM s fo si up cs2 qs nx1 nd1 c m).1 (gM s fo si up cs2 qs nx1 nd1 c m).2 cs2 ps2) [some 0,some 1,some 2,some 9,some 10,some 21,some 22] ?_;exact g7 (gT [some 0,some 1,some 2,some 3,some 4,some 5,some 6])
        ·simp[hr]at hc5
      ·have hk:k=way.length:=by have:=hi.le;first|omega|(simp at hc4;omega)
       subst hk;obtain⟨g1,g2⟩:=hi.fin;obtain⟨rfl,rfl,rfl,rfl⟩:=h2 _ _ g1;rw[g2]at hM;subst hM;have hgl:=hi.len;have hwy:=hi.wy;rw[List.take_length]at hwy;have hcn:c.Name=name:=by rw[hi.name,hc0e]
       subst hcn;have p6:(O0 (n7 cs) (kOf c.Name) c.av).Perm _:=Z6 c hcs.srt;have hcne:c.Way≠[]:=by rw[hwy];intro h;rw[h]at hw1;simp at hw1
       rw[b0p hcne];refine p7 ?_;refine zQ (hK5 _ _ ?_);refine gP [0,1,8,12,13] ?_;refine gD ?_;refine gW ?_;refine gW ?_;refine s9 (M9 (a3M 14 rfl p6) (by simp)) ?_;refine gU (T':=[(0, .ptr 0 0 0),(8, .iptr [I 0,I 0]),(9,I 0)]) (H':=lkK++lkD s fo si up nx1 nd1 (B4 cs c) ps2) [some 0,some 13,some 2,some 14,some 15,some 11,some 12] ?_ (hH:=by simp[hgl]);exact g7 (gT [some 0,some 1,some 2,some 3,some 4,some 5,some 6])
end
end Go.Tram.Lk
end
section
namespace Go.Tram.Lk
open Go.AM
structure Act where
 Kind:Int
 Name:Int
 Profile:Int
 Way:List Move
 M:Move
 deriving Inhabited
@[simp] def Act.cells (a:Act):List AV:=[I a.Kind,I a.Name,I a.Profile,a6b a.Way,I a.M.Rail,Bo a.M.Back]
abbrev Act.av (a:Act):AV:= .agg a.cells
abbrev Ans:=Sta×b2I×Int
abbrev nay (x:Sta) (e:Int):Ans:=(x,⟨0,0⟩,e)
def b9C (x:Sta) (c:Car):Sta:=⟨B4 x.Cars c,x.Points⟩
def b5z (x:Sta) (n:Int) (k:Car→Ans):Ans:=if inr n 1 1000000=false then nay x 2 else match Y6 x.Cars n with
 |none=>nay x 4
 |some c=>k c
def c0s (s:l5) (x:Sta) (n:Int) (m:Move):Ans:=if inr n 1 1000000=false∨inr m.Rail 0 ((s.Plan.Rails.length:Int)-1)=false then nay x 2 else match Y6 x.Cars n with
 |none=>nay x 4
 |some c=>if (r7 s x c m).Kind=0 then(⟨B4 x.Cars (o9 c m),a2U s c m x.Points⟩,⟨0,0⟩,0)else(x,r7 s x c m,if (r7 s x c m).Kind=1 then 7 else 6)
def goS (x:Sta) (n:Int):Ans:=b5z x n fun c=>if c.Front=(c.Way.length:Int)-1 then nay x 5 else(b9C x {c with Front:=c.Front+1},⟨0,0⟩,0)
def a5u (x:Sta) (n:Int):Ans:=b5z x n fun c=>if c.Front=0 then nay x 5 else(b9C x {c with Way:=c.Way.drop 1,Front:=c.Front-1},⟨0,0⟩,0)
def O4 (n p:Int) (way:List Move):Car:=⟨n,p,[],(way.length:Int)-1⟩
def a2C (s:l5) (x:Sta) (n p:Int) (way:List Move):Ans:=if a8p s ⟨n,p,way,0⟩=false then nay x 2 else match Y6 x.Cars n with
 |some _=>nay x 5
 |none=>if (D6 s x.Cars way x.Points (O4 n p way)).1.Kind=0 then(⟨B4 x.Cars (D6 s x.Cars way x.Points (O4 n p way)).2.2,(D6 s x.Cars way x.Points (O4 n p way)).2.1⟩,⟨0,0⟩,0)else(x,(D6 s x.Cars way x.Points (O4 n p way)).1,6)
theorem b1b {P:Ans→Prop} {x:Sta} {n:Int} {k:Car→Ans} (h1:∀e,P (nay x e)) (h2:∀c,c∈x.Cars→c.Name=n→inr n 1 1000000=true→Y6 x.Cars n=some c→P (k c)):P (b5z x n k):=by
 unfold b5z
 split
 ·exact h1 _
 ·rename_i hn
  split
  ·exact h1 _
  ·rename_i c hc;obtain⟨g1,g2⟩:=T5 hc;exact h2 c g1 g2 (by simpa using hn) hc
theorem b3a {s:l5} {x:Sta} (hx:a2X s x) {c:Car} (hc:c∈x.Cars):∀o∈x.Cars,o.Name=c.Name→o=c:=fun o ho e=>b4X hx.srt ho hc e
theorem c0f {p:Plan} {m:Move}:E3 p m=inr m.Rail 0 ((p.Rails.length:Int)-1):=rfl
theorem b3E {s:l5} (hs:R1 s=true) {x:Sta} (hx:a2X s x) {c:Car} (hc:c∈x.Cars) {way:List Move} {f:Int} (h1:1≤way.length) (hw:wayB s.Plan way=true) (hsub:way.Sublist c.Way) (hl:∀y∈a0Y s.Plan way (way.length-1),y∈a0Y s.Plan c.Way (c.Way.length-1)) (hf:0≤f∧f≤(way.length:Int)-1):a2X s (b9C x {c with Way:=way,Front:=f}):=by
 have hck:=hx.carOk hc;have h2:=b2G hs hck (way:=way) (f:=f) (fun _=>hw) hsub hl;obtain⟨n1,p1,⟨_,k2,_,_⟩,_⟩:=o6 (hx.car c hc);refine b3M hx h2 ?_;simp only[a8p,b0J,Bool.and_eq_true,decide_eq_true_eq,g8];exact⟨n1,p1,⟨h1,Nat.le_trans hsub.length_le k2,h2.nod,hw⟩,hf⟩
theorem c3H {s:l5} (hs:R1 s=true) {x:Sta} (hx:a2X s x) (n:Int):a2X s (goS x n).1:=by
 unfold goS;refine b1b (P:=fun q=>a2X s q.1) (fun _=>hx) fun c hc _ _ _=>?_
 split
 ·exact hx
 ·rename_i h;obtain⟨_,_,⟨k1,k2,k3,k4⟩,f1,f2⟩:=o6 (hx.car c hc);exact b3E hs hx hc k1 k4 (List.Sublist.refl _) (fun _ h=>h) ⟨by omega,by omega⟩
theorem b6i {s:l5} (hs:R1 s=true) {x:Sta} (hx:a2X s x) (n:Int):a2X s (a5u x n).1:=by
 unfold a5u;refine b1b (P:=fun q=>a2X s q.1) (fun _=>hx) fun c hc _ _ _=>?_
 split
 ·exact hx
 ·rename_i h;obtain⟨_,_,⟨k1,k2,k3,k4⟩,f1,f2⟩:=o6 (hx.car c hc);exact b3E hs hx hc (by rw[List.length_drop];omega) (b5K k4 (by omega)) (List.drop_sublist _ _) (fun _ h=>b9g h) ⟨by omega,by rw[List.length_drop];omega⟩
theorem c1E {s:l5} (hs:R1 s=true) {x:Sta} (hx:a2X s x) (n:Int) (m:Move):a2X s (c0s s x n m).1:=by
 unfold c0s
 split
 ·exact hx
 ·rename_i h0
  split
  ·exact hx
  ·rename_i c hc;obtain⟨hc,hn⟩:=T5 hc
   split
   ·rename_i hr;have hm:E3 s.Plan m=true:=by rw[c0f];cases h:inr m.Rail 0 ((s.Plan.Rails.length:Int)-1)with|true=>rfl|false=>exact absurd (Or.inr h) h0
    have hfr:=a3G hr;obtain⟨g1,g2⟩:=b0l hs hx (hx.carOk hc) (b3a hx hc) hm hfr;obtain⟨n1,p1,⟨k1,k2,k3,k4⟩,f1,f2⟩:=o6 (hx.car c hc);refine b3M g1 g2 ?_;have hgl:(o9 c m).Way.length=c.Way.length+1:=by simp[o9]
    simp only[a8p,b0J,Bool.and_eq_true,decide_eq_true_eq,g8];refine⟨n1,p1,⟨by omega,by have:=hfr.long;omega,g2.nod,g2.way (by intro e;rw[e]at hgl;simp at hgl)⟩,f1,?_⟩;show c.Front≤_;omega
   ·exact hx
theorem a8j {s:l5} (hs:R1 s=true) {cs:List Car}:∀(l:List Move) (ps:List Int) (c:Car),a2X s ⟨cs,ps⟩→a3D s ⟨cs,ps⟩ c→(∀o∈cs,o.Name≠c.Name)→(∀m∈l,E3 s.Plan m=true)→(D6 s cs l ps c).1.Kind=0→
  a2X s ⟨cs,(D6 s cs l ps c).2.1⟩∧a3D s ⟨cs,(D6 s cs l ps c).2.1⟩ (D6 s cs l ps c).2.2∧(D6 s cs l ps c).2.2={c with Way:=c.Way++l}
 |[],ps,c,h1,h2,_,_,_=>⟨h1,h2,by simp[D6]⟩
 |m::l,ps,c,h1,h2,h3,h4,h5=>by
  rw[D6]at h5 ⊢
  split at h5
  ·rename_i hr;rw[if_pos hr];obtain⟨g1,g2⟩:=b0l hs h1 h2 (fun o ho e=>absurd e (h3 o ho)) (h4 m (by simp)) (a3G hr);obtain⟨q1,q2,q3⟩:=a8j hs l (a2U s c m ps) (o9 c m) g1 g2 h3 (fun k hk=>h4 k (by simp[hk])) h5;refine⟨q1,q2,?_⟩;rw[q3];simp[o9]
  ·rename_i hr;exact absurd h5 hr
theorem b6x {s:l5} (hs:R1 s=true) {x:Sta} (hx:a2X s x) (n p:Int) (way:List Move):a2X s (a2C s x n p way).1:=by
 unfold a2C
 split
 ·exact hx
 rename_i hc
 split
 ·exact hx
 rename_i hn
 split
 ·rename_i hk;have hc:a8p s ⟨n,p,way,0⟩=true:=by simpa using hc
  obtain⟨n1,p1,⟨k1,k2,k3,k4⟩,f1,f2⟩:=o6 hc;obtain⟨q1,q2,q3⟩:=a8j hs way x.Points (O4 n p way) hx (b5s s x _ _ _) (fun o ho e=>(a3X.1 hn) o ho e) (fun m hm=>by
   obtain⟨i,hi,rfl⟩:=List.getElem_of_mem hm;have:=R8 k4 i hi;unfold V0 at this;rw[List.getElem?_eq_getElem hi]at this;exact this) hk
  refine b3M q1 q2 ?_;rw[q3];have e:({O4 n p way with Way:=(O4 n p way).Way++way}:Car)=⟨n,p,way,(way.length:Int)-1⟩:=by simp[O4]
  rw[e];simp only[a8p,b0J,Bool.and_eq_true,decide_eq_true_eq,g8];simp only at k1 k2 k3 k4;exact⟨n1,p1,⟨k1,k2,k3,k4⟩,by omega,by omega⟩
 ·exact hx
end Go.Tram.Lk
end
section
namespace Go.Tram.Lk
open Go.AM Go.Proofs
theorem c2W {s:l5} (h:R1 s=true):b2J s (a4Q s) (U9 (A4 s)) (a0r (A4 s)):=by
 obtain⟨_,_,_,h4⟩:=r5 h;simp only[a8s,Bool.and_eq_true,decide_eq_true_eq]at h4;exact c3y h4.2.2
theorem b2e {p:Plan} {k:Nat} (h:k<p.Nodes.length):(u9 p)[k]?=some (if (p.node k).Kind=4 then 1 else 0):=by
 unfold u9 Plan.node;rw[List.getElem?_map,List.getElem?_eq_getElem h];simp[h]
end Go.Tram.Lk
end
section
namespace Go.Tram.Lk
open Go.AM Go.Proofs
def LvT (f:FuncId) (args:List AV) (s:l5) (x:Sta) (nx nd:l7) (res:AV) (y:Sta) (M:l7×l7):Prop:=
 c6 Tryz.prog f (.ptr 0 0 0::args) lkK (lkD s (a4Q s) (U9 (A4 s)) (a0r (A4 s)) nx nd x.Cars x.Points) res lkK (lkD s (a4Q s) (U9 (A4 s)) (a0r (A4 s)) M.1 M.2 y.Cars y.Points)
abbrev c3Z (q:Ans):AV:= .tup [P5 q.2.1,I q.2.2]
abbrev c1c (q:Ans):AV:=I q.2.2
structure b7R (s:l5) (x:Sta):Prop where
 set:R1 s=true
 st:a2X s x
 few:x.Cars.length≤99
 rl:s.Plan.Rails.length≤1000
section
variable {s:l5} {x:Sta} (h:b7R s x) (nx nd:l7)
include h
theorem b7R.cs:b5f s x.Cars:=⟨h.st.srt,by have:=h.few;omega,h.st.car⟩
theorem b7R.pl:x.Points.length=s.Plan.Nodes.length:=by
 have:=h.st.pts;simp only[b4S,Bool.and_eq_true,decide_eq_true_eq]at this;exact this.1
theorem b7V (n:Int) (m:Move):∃M,LvT 21 [I n,m.av] s x nx nd (c3Z (c0s s x n m)) (c0s s x n m).1 M:=by
 unfold LvT c0s;have hR:=h.rl
 cases hn:inr n 1 1000000 with
 |false=>
  rw[if_pos (Or.inl rfl)];exact⟨(nx,nd),b9S s _ _ _ nx nd x.Cars x.Points m (Or.inr rfl) (a2f s _ _ _ nx nd x.Cars x.Points n hn)⟩
 | true=>
  cases hr:inr m.Rail 0 ((s.Plan.Rails.length:Int)-1)with
  |false=>
   rw[if_pos (Or.inr rfl)]
   cases hc:Y6 x.Cars n with
   |none=>exact⟨(nx,nd),b6D s _ _ _ nx nd x.Cars x.Points default m hR hr (S9 s _ _ _ nx nd x.Cars x.Points n hn hc)⟩
   |some c=>exact⟨(nx,nd),b6e s _ _ _ nx nd x.Cars x.Points c m hR hr (a1y s _ _ _ nx nd x.Cars x.Points n hn hc)⟩
  | true=>
   rw[if_neg (by simp)]
   cases hc:Y6 x.Cars n with
   |none=>exact⟨(nx,nd),b9M s _ _ _ nx nd x.Cars x.Points m hR hr (S9 s _ _ _ nx nd x.Cars x.Points n hn hc)⟩
   | some c=>
    have hf:=a1y s (a4Q s) (U9 (A4 s)) (a0r (A4 s)) nx nd x.Cars x.Points n hn hc;obtain⟨hcm,hcn⟩:=T5 hc;obtain⟨_,_,⟨k1,k2,k3,k4⟩,_⟩:=o6 (h.st.car c hcm);have hne:c.Way≠[]:=by intro e;rw[e]at k1;simp at k1
    have hm:E3 s.Plan m=true:=hr;simp only
    split
    ·rename_i hk;obtain⟨a,b,hg⟩:=a4n (c2W h.set) h.cs nx nd h.set h.pl (fun _=>k4) hm (by omega) hne hk;exact⟨(a,b),b6v s _ _ _ nx nd x.Cars x.Points hcn h.st.srt hR hr hf hg⟩
    ·rename_i hk;obtain⟨a,b,hg⟩:=a4y (c2W h.set) h.cs nx nd h.set h.pl (fun _=>k4) hm (by omega) hne hk;refine⟨(a,b),?_⟩
     split
     ·rename_i h1;exact b9z s _ _ _ nx nd x.Cars x.Points h1 hR hr hf hg
     ·rename_i h1;exact c0d s _ _ _ nx nd x.Cars x.Points ⟨hk,h1⟩ hR hr hf hg
theorem c0F (n:Int) (k:Car→Ans) (hk:∀c,c∈x.Cars→c.Name=n→inr n 1 1000000=true→Y6 x.Cars n=some c→∃M,LvT 29 [I n] s x nx nd (c1c (k c)) (k c).1 M):∃M,LvT 29 [I n] s x nx nd (c1c (b5z x n k)) (b5z x n k).1 M:=by
 have _:=h;unfold b5z
 cases hn:inr n 1 1000000 with
 |false=>
  rw[if_pos rfl];exact⟨(nx,nd),b7S s _ _ _ nx nd x.Cars x.Points (e:=2) (by decide) (a2f s _ _ _ nx nd x.Cars x.Points n hn)⟩
 |true=>
  rw[if_neg (by simp)]
  cases hc:Y6 x.Cars n with
  |none=>exact⟨(nx,nd),b7S s _ _ _ nx nd x.Cars x.Points (e:=4) (by decide) (S9 s _ _ _ nx nd x.Cars x.Points n hn hc)⟩
  |some c=>obtain⟨g1,g2⟩:=T5 hc;exact hk c g1 g2 hn hc
theorem b2o (n:Int) (k:Car→Ans) (hk:∀c,c∈x.Cars→c.Name=n→inr n 1 1000000=true→Y6 x.Cars n=some c→∃M,LvT 30 [I n] s x nx nd (c1c (k c)) (k c).1 M):∃M,LvT 30 [I n] s x nx nd (c1c (b5z x n k)) (b5z x n k).1 M:=by
 have _:=h;unfold b5z
 cases hn:inr n 1 1000000 with
 |false=>
  rw[if_pos rfl];exact⟨(nx,nd),a6Q s _ _ _ nx nd x.Cars x.Points (e:=2) (by decide) (a2f s _ _ _ nx nd x.Cars x.Points n hn)⟩
 |true=>
  rw[if_neg (by simp)]
  cases hc:Y6 x.Cars n with
  |none=>exact⟨(nx,nd),a6Q s _ _ _ nx nd x.Cars x.Points (e:=4) (by decide) (S9 s _ _ _ nx nd x.Cars x.Points n hn hc)⟩
  |some c=>obtain⟨g1,g2⟩:=T5 hc;exact hk c g1 g2 hn hc
theorem c3D (n:Int):∃M,LvT 29 [I n] s x nx nd (c1c (goS x n)) (goS x n).1 M:=by
 refine c0F h nx nd n _ fun c hc hcn hn hck=>?_;have hf:=a1y s (a4Q s) (U9 (A4 s)) (a0r (A4 s)) nx nd x.Cars x.Points n hn hck;obtain⟨_,_,⟨k1,k2,k3,k4⟩,f1,f2⟩:=o6 (h.st.car c hc)
 split
 ·rename_i hfr;exact⟨(nx,nd),c2u s _ _ _ nx nd x.Cars x.Points (by omega) k1 hfr hf⟩
 ·rename_i hfr;exact⟨(nx,nd),b8M s _ _ _ nx nd x.Cars x.Points (by omega) k1 ⟨f1,by omega⟩ hfr hcn h.st.srt hf⟩
theorem b0u (n:Int):∃M,LvT 30 [I n] s x nx nd (c1c (a5u x n)) (a5u x n).1 M:=by
 refine b2o h nx nd n _ fun c hc hcn hn hck=>?_;have hf:=a1y s (a4Q s) (U9 (A4 s)) (a0r (A4 s)) nx nd x.Cars x.Points n hn hck;obtain⟨_,_,⟨k1,k2,k3,k4⟩,f1,f2⟩:=o6 (h.st.car c hc)
 split
 ·rename_i hfr;exact⟨(nx,nd),b4U s _ _ _ nx nd x.Cars x.Points hfr hf⟩
 ·rename_i hfr;exact⟨(nx,nd),b2c s _ _ _ nx nd x.Cars x.Points (by omega) ⟨f1,by omega⟩ hfr hcn h.st.srt hf⟩
theorem a9V (n p:Int) (way:List Move) (hl:way.length≤1000):∃M,LvT 28 [I n,I p,a6b way] s x nx nd (c3Z (a2C s x n p way)) (a2C s x n p way).1 M:=by
 obtain⟨hv,hpf,_,_⟩:=r5 h.set;have hpl:s.Profiles.length≤100000:=by simp only[E2,Bool.and_eq_true,decide_eq_true_eq]at hpf;omega
 unfold a2C
 cases hc:a8p s ⟨n,p,way,0⟩with
 |false=>
  rw[if_pos rfl];exact⟨(nx,nd),b4N s _ _ _ nx nd x.Cars x.Points n p way hv hpl hl hc⟩
 | true=>
  rw[if_neg (by simp)]
  cases hm:Y6 x.Cars n with
  |some c1=>exact⟨(nx,nd),b2Y s _ _ _ nx nd x.Cars x.Points n p way hv hpl hl hc hm⟩
  | none=>
   simp only
   split
   ·rename_i hk;refine⟨_,b3P (c2W h.set) nx nd h.cs h.set h.pl hpl hc hm (by have:=h.few;omega) (c0:=O4 n p way) rfl (M:=_) rfl (fun r1 ps1 c1 he hne=>?_) (fun ps1 c1 he=>?_)⟩
    ·rw[he]at hk;exact absurd hk hne
    ·rw[he];exact⟨rfl,rfl,rfl,rfl⟩
   ·rename_i hk;refine⟨_,b3P (c2W h.set) nx nd h.cs h.set h.pl hpl hc hm (by have:=h.few;omega) (c0:=O4 n p way) rfl (M:=_) rfl (fun r1 ps1 c1 he hne=>?_) (fun ps1 c1 he=>?_)⟩
    ·rw[he];exact⟨rfl,rfl,rfl,rfl⟩
    ·rw[he]at hk;exact absurd rfl hk
end
end Go.Tram.Lk
end
section
namespace Go.Tram.Lk
open Go.AM Go.Proofs
theorem b8m {s:l5} (h:R1 s=true):a2X s ⟨[],u9 s.Plan⟩:=by
 refine⟨List.Pairwise.nil,by simp,?_,by simp,by simp⟩;unfold b4S;simp only[Bool.and_eq_true,decide_eq_true_eq,List.all_eq_true,List.mem_range];have hl:(u9 s.Plan).length=s.Plan.Nodes.length:=by simp[u9]
 refine⟨hl,fun i hi=>?_⟩;rw[b2e (by omega)];unfold ptB;simp only[Option.getD_some]
 split<;>simp[inr]
theorem ex_foul:P3 D4 1 0 0 0=true:=by
 have h:(⟨0,0,1,0⟩:O1)∈D2 j6 [⟨100,0⟩]:=b1w (p:=j6) (x:=⟨100,0⟩) (a:=0) (b:=1) b0M (by decide+kernel) (by decide) (by decide+kernel) (by decide+kernel);unfold P3;rw[List.any_eq_true];exact⟨_,h,by decide⟩
def b5C:Sta:=⟨[⟨7,0,[⟨0,false⟩],0⟩],[0,1,0,0]⟩
def b6o:Sta:=⟨[⟨7,0,[⟨0,false⟩,⟨2,false⟩],0⟩],[0,2,0,0]⟩
def c2U:Sta:=⟨[⟨7,0,[⟨0,false⟩,⟨2,false⟩],1⟩],[0,2,0,0]⟩
def c2w:Sta:=⟨[⟨7,0,[⟨2,false⟩],0⟩],[0,2,0,0]⟩
theorem c3m:a2C D4 ⟨[],u9 j6⟩ 7 0 [⟨0,false⟩]=(b5C,⟨0,0⟩,0):=by decide+kernel
theorem c3Q:a2C D4 b5C 8 0 [⟨1,true⟩]=(b5C,⟨3,7⟩,6):=by
 have hr:r7 D4 ⟨b5C.Cars,b5C.Points⟩ (O4 8 0 [⟨1,true⟩]) ⟨1,true⟩=⟨3,7⟩:=by
  have h1:endB D4 (O4 8 0 [⟨1,true⟩]) ⟨1,true⟩=false:=by decide+kernel
  have h2:b3o (O4 8 0 [⟨1,true⟩]) ⟨1,true⟩=false:=by decide+kernel
  unfold r7;rw[h1,h2];simp[a4C,b5C,O4,ex_foul]
 have hc:a8p D4 ⟨8,0,[⟨1,true⟩],0⟩=true:=by decide+kernel
 have hk:Y6 b5C.Cars 8=none:=by decide+kernel
 unfold a2C;rw[if_neg (by simp[hc]),hk];simp only[D6,hr];simp
theorem c3s:c0s D4 b5C 7 ⟨2,false⟩=(b6o,⟨0,0⟩,0):=by decide+kernel
theorem c3k:c0s D4 b6o 7 ⟨1,false⟩=(b6o,⟨1,0⟩,7):=by decide+kernel
theorem c5e:goS b6o 7=(c2U,⟨0,0⟩,0):=by decide+kernel
theorem c3u:a5u c2U 7=(c2w,⟨0,0⟩,0):=by decide+kernel
theorem c3O:a5u c2w 7=(c2w,⟨0,0⟩,5):=by decide+kernel
theorem b5G {w:World} {S:Nat→Prop} {sz:Nat} {els:List (List AV)} {y:Value} (h:p9 w S (.full sz els) y):p9 w S (.lst sz els) y:=by
 cases h with
 |full _ _ b off vs hS hb hel hl hv h=>exact .lst _ _ b off _ vs hS hb (Nat.le_refl _) hel hl hv h
theorem b8i {f:FuncId} {a b c:AV} {els:List (List AV)} {Hk Hd Hk' Hn:Hp} {res:AV} (h:c6 Tryz.prog f [a,b,c, .lst 2 els] Hk Hd res Hk' Hn):c6 Tryz.prog f [a,b,c, .full 2 els] Hk Hd res Hk' Hn:=by
 refine b2P h rfl fun i x x' h1 h2=>?_
 match i,h1,h2 with
 |0,h1,h2=>simp at h1 h2;subst h1 h2;exact Or.inl rfl
 |1,h1,h2=>simp at h1 h2;subst h1 h2;exact Or.inl rfl
 |2,h1,h2=>simp at h1 h2;subst h1 h2;exact Or.inl rfl
 |3,h1,h2=>simp at h1 h2;subst h1 h2;exact Or.inr ⟨rfl,fun w S y hy=>b5G hy⟩
 |n+4,h1,h2=>simp at h1
theorem b2h:a6 Tryz.prog 27 [] b4m:=by
 have h:=b2y;unfold Plan.av Plan.cells at h;refine oB Tryz.func27 Tryz.ntmps27 Tryz.results27 ?_;refine aW ?_;refine aW ?_ fun K hK=>by simp -dsimp;refine cI (h) ?_;simp -dsimp;exact hK
 exact a9 (by simp)
theorem b7f:a6 Tryz.prog 9 [] (Bo true):=by
 have hex:=b2h;have hnew:=b7c;have hs:=b0S;have s0:a2X D4 ⟨[],u9 j6⟩:=b8m hs;have lv0:b7R D4 ⟨[],u9 j6⟩:=⟨hs,s0,by decide,by decide⟩;obtain⟨M1,h1⟩:=a9V lv0 [] [] 7 0 [⟨0,false⟩] (by decide);have s1:=b6x hs s0 7 0 [⟨0,false⟩];rw[c3m]at h1 s1;have lv1:b7R D4 b5C:=⟨hs,s1,by decide,by decide⟩;obtain⟨M2,h2⟩:=a9V lv1 M1.1 M1.2 8 0 [⟨1,true⟩] (by decide);rw[c3Q]at h2;obtain⟨M3,h3⟩:=b7V lv1 M2.1 M2.2 7 ⟨2,false⟩;have s2:=c1E hs s1 7 ⟨2,false⟩;rw[c3s]at h3 s2;have lv2:b7R D4 b6o:=⟨hs,s2,by decide,by decide⟩;obtain⟨M4,h4⟩:=b7V lv2 M3.1 M3.2 7 ⟨1,false⟩;rw[c3k]at h4;have h5:=b0V D4 (a4Q D4) (U9 (A4 D4)) (a0r (A4 D4)) M4.1 M4.2 b6o.Cars b6o.Points (by decide) (by decide);obtain⟨M6,h6⟩:=c3D lv2 M4.1 M4.2 7;have s3:=c3H hs s2 7;rw[c5e]at h6 s3;have lv3:b7R D4 c2U:=⟨hs,s3,by decide,by decide⟩;obtain⟨M7,h7⟩:=b0u lv3 M6.1 M6.2 7;have s4:=b6i hs s3 7;rw[c3u]at h7 s4;have lv4:b7R D4 c2w:=⟨hs,s4,by decide,by decide⟩;obtain⟨M8,h8⟩:=b0u lv4 M7.1 M7.2 7;rw[c3O]at h8;unfold LvT at h1 h2 h3 h4 h6 h7 h8;have h1:=b8i h1;have h2:=b8i h2;have hlive:b1r D4 [] [] ⟨[],u9 j6⟩=lkK++lkD D4 (a4Q D4) (U9 (A4 D4)) (a0r (A4 D4)) [] [] [] (u9 j6):=b2R D4 [] [] ⟨[],u9 j6⟩;rw[hlive]at hnew;have hp2:b6o.Points=[0,2,0,0]:=rfl;generalize a4Q D4=fo at*
 generalize U9 (A4 D4)=si at*
 generalize a0r (A4 D4)=up at*
 have e0:(u9 j6).length=4:=rfl;have e1:b5C.Points.length=4:=rfl;have e2:b6o.Points.length=4:=rfl;have e3:c2U.Points.length=4:=rfl;have e4:c2w.Points.length=4:=rfl;simp only at h1 h2 h3 h4 h6 h7 h8;rw[hp2]at h3 h4 h5 h6;refine a6.of_bodyG Tryz.func9 rfl (by decide) (by simp[Tryz.ntmps9]) ?_;intro J hJ;simp only[Tryz.ntmps9,Tryz.results9];refine gW ?_;refine gW ?_ fun K hK=>by simp -dsimp;refine cI (hex) ?_;simp -dsimp;refine cM [] [] (hnew) ?_;simp -dsimp;exact hK
 refine a7 fun K1 hK1=>?_;refine gW ?_;refine c3 rfl (fun hc0=>?_) (fun hc0=>?_)
 ·simp at hc0
 ·refine c5 ?_;refine zQ (hK1 _ _ ?_);refine gP [1] ?_;refine gW ?_ fun K hK=>by simp -dsimp;refine cM [0] [1,2,3,4,5,6] (h1) ?_;simp -dsimp;exact hK
  refine gW ?_ fun K hK=>by simp -dsimp;refine cM [0] [7,8,9,10,11,12] (h2) ?_;simp -dsimp;exact hK
  refine gW ?_ fun K hK=>by simp -dsimp;refine cM [0] [14,15,16,17,18,19] (h3) ?_;simp -dsimp;exact hK
  refine gW ?_ fun K hK=>by simp -dsimp;refine cM [0] [21,22,23,24,25,26] (h4) ?_;simp -dsimp;exact hK
  refine gW ?_ fun K hK=>by simp -dsimp;refine cM [0] [28,29,30,31,32,33] (h5) ?_;simp -dsimp;exact hK
  refine a7 fun K2 hK2=>?_;refine gW ?_;refine c3 rfl (fun hc1=>?_) (fun hc1=>?_)
  ·simp at hc1
  ·refine c5 ?_;refine zQ (hK2 _ _ ?_);refine gP [1,5,9] ?_;refine gW ?_ fun K hK=>by simp -dsimp;refine cM [0] [35,36,37,38,39,40] (h6) ?_;simp -dsimp;refine cM [0] [42,43,44,45,46,47] (h7) ?_;simp -dsimp;refine cM [0] [48,49,50,51,52,53] (h8) ?_;simp -dsimp;exact hK
   exact g7 (by simp[R3,v7])
end Go.Tram.Lk
end
section
namespace Go.Tram
open Go.AM Go.Proofs
theorem a8n (f:Nat→Bool) (n:Nat):(List.range (n+1)).any f=((List.range n).any f||f n):=by
 rw[List.range_succ,List.any_append];simp
theorem b0W {f:Nat→Bool} {n k:Nat} (hk:k<n) (h:f k=true):(List.range n).any f=true:=List.any_eq_true.2 ⟨k,List.mem_range.2 hk,h⟩
theorem b6P (p:Plan) (a:Int) (x:Profile) (b:Int) (y:Profile) (hv:d7 p=true) (ha:inr a 0 (p.Rails.length-1)=true) (hb:inr b 0 (p.Rails.length-1)=true) (hx:y6 x=true) (hy:y6 y=true):
  a6 Tryz.prog 81 [p.av,I a,x.av,I b,y.av] (Bo (U8 p a x b y)):=by
 have ia:=g8.1 ha;have ib:=g8.1 hb;have ra:=N5 hv (r:=a) (by omega) (by omega);have rb:=N5 hv (r:=b) (by omega) (by omega);have s30:=ra.s;have t30:=rb.s;have ca:=a7q p a (by omega) (by omega) (by omega);have cb:=a7q p b (by omega) (by omega) (by omega);rw[a7P];generalize hg:(fun i k=>V4 (n8 (p.line a) a i) x (n8 (p.line b) b k) y)=g;have hgv:∀i k,V4 (n8 (p.line a) a i) x (n8 (p.line b) b k) y=g i k:=fun i k=>by rw[←hg]
 have hcf:∀i k:Nat,i<(p.rail a).Shape.length+1→k<(p.rail b).Shape.length+1→a6 Tryz.prog 122 [p.av,sAV a i,x.av,sAV b k,y.av] (Bo (g i k)):=by
  intro i k hi hk;rw[←hgv];exact b9y p a i x b k y (by omega) (by omega) ra hi (by omega) (by omega) rb hk hx hy
 simp only[hgv];refine oB Tryz.func81 Tryz.ntmps81 Tryz.results81 ?_;refine aW ?_;refine a5 fun K1 hK1=>?_;refine aW ?_;refine b9 ?_;refine aP [1,3,5,7,9,11] ?_;refine c7 [1,3,5,7,9] (α:=Nat) (fun i=>[(11,I i)]) (fun _=>[some (.els 2 [p.cells]),some (.els 2 [x.cells]),some (.els 2 [y.cells])]) (fun i=>i≤(p.rail a).Shape.length+1∧((List.range i).any fun i=>(List.range ((p.rail b).Shape.length+1)).any fun k=>g i k)=false) (fun i=>(p.rail a).Shape.length+1-i) 0 ?_ ?_ ?_
 ·simp
 ·exact c9 (by simp)
 rintro i ⟨i1,i2⟩;refine zN ?_;refine a5 fun K2 hK2=>?_;refine aW ?_ fun K hK=>by simp -dsimp;refine cI (ca) ?_;simp -dsimp;exact hK
 refine a8 rfl (fun hc0=>?_) (fun hc0=>?_)
 ·skip
  try simp at hc0
  have wi:=zW i (by omega);refine b8 ?_;refine zQ (hK2 _ _ ?_);refine aP [1,3,5,7,9,11] ?_;refine a5 fun K3 hK3=>?_;refine b9 ?_;refine aW ?_;refine b9 ?_;refine aP [1,3,5,7,9,11,12] ?_;refine c7 [1,3,5,7,9,11] (α:=Nat) (fun k=>[(12,I k)]) (fun _=>[some (.els 2 [p.cells]),some (.els 2 [x.cells]),some (.els 2 [y.cells])]) (fun k=>k≤(p.rail b).Shape.length+1∧((List.range k).any fun k=>g i k)=false) (fun k=>(p.rail b).Shape.length+1-k) 0 ?_ ?_ ?_
  ·simp
  ·exact c9 (by simp)
  rintro k ⟨k1,k2⟩;refine zN ?_;refine a5 fun K4 hK4=>?_;refine aW ?_ fun K hK=>by simp -dsimp;refine cI (cb) ?_;simp -dsimp;exact hK
  refine a8 rfl (fun hc1=>?_) (fun hc1=>?_)
  ·skip
   try simp at hc1
   have wk:=zW k (by omega);refine b8 ?_;refine zQ (hK4 _ _ ?_);refine aP [1,3,5,7,9,11,12] ?_;refine a5 fun K5 hK5=>?_;refine b9 ?_;refine aW ?_ fun K hK=>by simp -dsimp;refine cI (hcf i k (by omega) (by omega)) ?_;simp -dsimp;exact hK
   refine a8 rfl (fun hc2=>?_) (fun hc2=>?_)
   ·skip
    try simp at hc2
    have hany:((List.range ((p.rail a).Shape.length+1)).any fun i=>(List.range ((p.rail b).Shape.length+1)).any fun k=>g i k)=true:=b0W (k:=i) (by omega) (b0W (k:=k) (by omega) hc2);refine aW ?_;exact a9 (by simp only[hany];simp)
   ·skip
    try simp at hc2
    refine b8 ?_;refine zQ (hK5 _ _ ?_);refine aP [1,3,5,7,9,11,12] ?_;refine aV ?_ fun K hK=>by simp -dsimp [wk];exact hK
    refine zQ ?_;exact⟨k+1,⟨by omega,by rw[a8n,k2,hc2];rfl⟩,by omega,c9 (by simp)⟩
  ·skip
   try simp at hc1
   have hke:k=(p.rail b).Shape.length+1:=by omega
   subst hke;refine d4 ?_;refine zQ (hK3 _ _ ?_);refine aP [1,3,5,7,9,11] ?_;refine aV ?_ fun K hK=>by simp -dsimp [wi];exact hK
   refine zQ ?_;exact⟨i+1,⟨by omega,by rw[a8n,i2,k2];rfl⟩,by omega,c9 (by simp)⟩
 ·skip
  try simp at hc0
  have hie:i=(p.rail a).Shape.length+1:=by omega
  subst hie;refine d4 ?_;refine zQ (hK1 _ _ ?_);refine aP [] ?_;refine aW ?_;exact a9 (by simp only[i2];simp)
theorem a8w (p:Plan) (l:List Profile) (hv:d7 p=true) (h:E2 l=true) (hN:p.Rails.length≤20):a6 Tryz.prog 37 [p.av, .lst 2 (l.map Profile.cells)] (.lst 4 ((D2 p l).map O1.cells)):=by
 have hl:1≤l.length∧l.length≤6∧∀x∈l,y6 x=true:=by simpa [E2]using h
 obtain⟨hl1,hl6,hpr⟩:=hl;have hcf:=fun a x b y=>b6P p a x b y hv;refine oB Tryz.func37 Tryz.ntmps37 Tryz.results37 ?_;refine aW ?_;refine aW ?_;refine a5 fun K1 hK1=>?_;refine aW ?_;refine b9 ?_;refine aP [1,2,5,6] ?_;refine c7 [1,2] (α:=Nat) (fun a=>[(6,I a),(5, .row 1 0 (fA p l a).length)]) (fun a=>[some (.els 2 [p.cells]),some (.els 4 ((fA p l a).map O1.cells))]) (fun a=>a≤p.Rails.length) (fun a=>p.Rails.length-a) 0 ?_ ?_ ?_
 ·simp
 ·exact(W5 5 4 (by simp)).trans (d9 [some 0,some 1] rfl (by simp[fA]) (by simp[fA]))
 rintro a a1;refine zN ?_;refine a5 fun K2 hK2=>?_;refine aW ?_;refine a8 rfl (fun hc0=>?_) (fun hc0=>?_)
 ·skip
  try simp at hc0
  have wa:=zW a (by omega);refine b8 ?_;refine zQ (hK2 _ _ ?_);refine aP [1,2,5,6] ?_;refine a5 fun K3 hK3=>?_;refine b9 ?_;refine aW ?_;refine b9 ?_;refine aP [1,2,5,6,7] ?_;refine c7 [1,2,6] (α:=Nat) (fun i=>[(7,I i),(5, .row 1 0 (fA p l a++fI p l a i).length)]) (fun i=>[some (.els 2 [p.cells]),some (.els 4 ((fA p l a++fI p l a i).map O1.cells))]) (fun i=>i≤l.length) (fun i=>l.length-i) 0 ?_ ?_ ?_
  ·simp
  ·exact d9 [some 0,some 1] rfl (by simp[fI]) (by simp[fI])
  rintro i i1;refine zN ?_;refine a5 fun K4 hK4=>?_;refine aW ?_;refine a8 rfl (fun hc1=>?_) (fun hc1=>?_)
  ·skip
   try simp at hc1
   have wi:=zW i (by omega);obtain⟨x,hx⟩:=gx (l:=l) (i:=i) hc1;have px:=hpr x (List.mem_of_getElem? hx);refine b8 ?_;refine zQ (hK4 _ _ ?_);refine aP [1,2,5,6,7] ?_;refine a5 fun K5 hK5=>?_;refine b9 ?_;refine aW ?_;refine b9 ?_;refine aP [1,2,5,6,7,8] ?_;refine c7 [1,2,6,7] (α:=Nat) (fun d=>[(8,I ((a:Int)+d)),(5, .row 1 0 (fA p l a++fI p l a i++fB p l a i d).length)]) (fun d=>[some (.els 2 [p.cells]),some (.els 4 ((fA p l a++fI p l a i++fB p l a i d).map O1.cells))]) (fun d=>d≤p.Rails.length-a) (fun d=>p.Rails.length-a-d) 0 ?_ ?_ ?_
   ·simp
   ·exact d9 [some 0,some 1] rfl (by simp[fB]) (by simp[fB])
   rintro d d1;refine zN ?_;refine a5 fun K6 hK6=>?_;refine aW ?_;refine a8 rfl (fun hc2=>?_) (fun hc2=>?_)
   ·skip
    try simp at hc2
    have wd:IntKind.i64.wrap ((a:Int)+d+1)=(a:Int)+d+1:=c4 (by omega) (by omega);refine b8 ?_;refine zQ (hK6 _ _ ?_);refine aP [1,2,5,6,7,8] ?_;refine a5 fun K7 hK7=>?_;refine b9 ?_;refine aW ?_;refine b9 ?_;refine aP [1,2,5,6,7,8,9] ?_;refine c7 [1,2,6,7,8] (α:=Nat) (fun k=>[(9,I k),(5, .row 1 0 (fA p l a++fI p l a i++fB p l a i d++fK p l a i (a+d) k).length)]) (fun k=>[some (.els 2 [p.cells]),some (.els 4 ((fA p l a++fI p l a i++fB p l a i d++fK p l a i (a+d) k).map O1.cells))]) (fun k=>k≤l.length) (fun k=>l.length-k) 0 ?_ ?_ ?_
    ·simp
    ·exact d9 [some 0,some 1] rfl (by simp[fK]) (by simp[fK])
    rintro k k1;have hbd:=b0D p l (N:=20) (a:=a) (i:=i) (d:=d) (k:=k) hN (by omega) hc0 i1 (by omega) k1;have hsK:=b3u p l a i (a+d) k;have hsB:=b3D p l a i d;generalize hout:fA p l a++fI p l a i++fB p l a i d++fK p l a i (a+d) k=out at hbd ⊢;have f1:P4 (out.length+1) 33:=l9 (by omega) (by omega);have hot:=a6s out;refine zN ?_;refine a5 fun K8 hK8=>?_;refine aW ?_;refine a8 rfl (fun hc3=>?_) (fun hc3=>?_)
    ·skip
     try simp at hc3
     have wk:=zW k (by omega);obtain⟨y,hy⟩:=gx (l:=l) (i:=k) hc3;have py:=hpr y (List.mem_of_getElem? hy);have hF:a9K p l a i (a+d) k=((decide ((a:Int)<a+d)||decide (i≤k))&&U8 p a x ((a:Int)+d) y):=by unfold a9K;rw[b0G hx,b0G hy,Int.natCast_add,show decide (a<a+d)=decide ((a:Int)<a+d)from decide_eq_decide.2 (by omega)]
     refine b8 ?_;refine zQ (hK8 _ _ ?_);refine aP [1,2,5,6,7,8,9] ?_;refine a5 fun K9 hK9=>?_;refine b9 ?_;refine aD ?_ fun K hK=>by simp -dsimp [hx,hy];refine s7 x.cells (fun _=>by simp[hx]) ?_;simp -dsimp [hx,hy];refine s7 y.cells (fun _=>by simp[hy]) ?_;simp -dsimp [hx,hy];refine cY (fun hm=>hcf a x ((a:Int)+d) y (g8.2 (by omega)) (g8.2 (by omega)) px py) ?_;simp -dsimp [hx,hy];exact hK
     refine a8 rfl (fun hc4=>?_) (fun hc4=>?_)
     ·have hh:a9K p l a i (a+d) k=true:=hF.trans hc4;refine aV ?_ fun K hK=>by simp -dsimp [f1];exact hK
      refine zQ (hK9 _ _ ?_);refine aP [1,2,5,6,7,8,9] ?_;refine aV ?_ fun K hK=>by simp -dsimp [wk];exact hK
      refine zQ ?_;exact⟨k+1,by omega,by omega,d9 [some 0,some 2] rfl (by simp[hsK,hh,←hout];omega) (by simp[hsK,hh,←List.append_assoc,hout,hot])⟩
     ·have hh:a9K p l a i (a+d) k=false:=hF.trans hc4;refine b8 ?_;refine zQ (hK9 _ _ ?_);refine aP [1,2,5,6,7,8,9] ?_;refine aV ?_ fun K hK=>by simp -dsimp [wk];exact hK
      refine zQ ?_;exact⟨k+1,by omega,by omega,d9 [some 0,some 1] rfl (by simp only[hsK,hh,Bool.false_eq_true,if_false,List.append_nil,hout];simp) (by simp only[hsK,hh,Bool.false_eq_true,if_false,List.append_nil,hout];simp[hot])⟩
    ·skip
     try simp at hc3
     have hke:k=l.length:=by omega
     subst hke;refine d4 ?_;refine zQ (hK7 _ _ ?_);refine aP [1,2,5,6,7,8] ?_;refine aV ?_ fun K hK=>by simp -dsimp [wd];exact hK
     refine zQ ?_;exact⟨d+1,by omega,by omega,d9 [some 0,some 1] rfl (by simp[hsB,←hout,Int.add_assoc]) (by simp[hsB,←hout])⟩
   ·skip
    try simp at hc2
    have hde:d=p.Rails.length-a:=by omega
    subst hde;refine d4 ?_;refine zQ (hK5 _ _ ?_);refine aP [1,2,5,6,7] ?_;refine aV ?_ fun K hK=>by simp -dsimp [wi];exact hK
    refine zQ ?_;exact⟨i+1,by omega,by omega,d9 [some 0,some 1] rfl (by simp[a3Y]) (by simp[a3Y])⟩
  ·skip
   try simp at hc1
   have hie:i=l.length:=by omega
   subst hie;refine d4 ?_;refine zQ (hK3 _ _ ?_);refine aP [1,2,5,6] ?_;refine aV ?_ fun K hK=>by simp -dsimp [wa];exact hK
   refine zQ ?_;exact⟨a+1,by omega,by omega,d9 [some 0,some 1] rfl (by simp[a6I]) (by simp[a6I])⟩
 ·skip
  try simp at hc0
  have hae:a=p.Rails.length:=by omega
  subst hae;refine d4 ?_;refine zQ (hK1 _ _ ?_);refine aP [5] ?_;refine aW ?_;exact a9 (by simp[D2,a6s])
end Go.Tram
end
section
namespace Go.Tram.Lk
open Go.AM Go.Proofs
theorem c3x (x lo hi:Int):a6 Tryz.prog 35 [I x,I lo,I hi] (Bo (inr x lo hi)):=by
 refine oB Tryz.func35 Tryz.ntmps35 Tryz.results35 ?_;refine aW ?_;refine aW ?_;exact a9 (by simp_all [inr])
def usR (n:Nat) (L:List Int):List (List AV):=(List.range n).map fun(r:Nat)=>[Bo (decide ((r:Int)∈L))]
@[simp] theorem c3h (n:Nat) (L:List Int):(usR n L).length=n:=by simp[usR]
theorem b7x (n:Nat):List.replicate n [Bo false]=usR n []:=by
 unfold usR;apply List.ext_getElem?;intro i;rw[List.getElem?_replicate,List.getElem?_map]
 by_cases h:i<n
 ·rw[if_pos h,List.getElem?_range h];rfl
 ·rw[if_neg h,List.getElem?_eq_none (by simpa using h)];rfl
theorem b8U {n:Nat} {L:List Int} {r:Int} (h0:0≤r) (h1:r<n):(usR n L)[r.toNat]?=some [Bo (decide (r∈L))]:=by
 unfold usR;rw[List.getElem?_map,List.getElem?_range (by omega)];simp only[Option.map_some,Int.toNat_of_nonneg h0]
theorem c0M {n:Nat} {L:List Int} {r:Int} (h0:0≤r) (h1:r<n):(usR n L).set r.toNat [Bo true]=usR n (L++[r]):=by
 unfold usR;apply List.ext_getElem?;intro i;rw[List.getElem?_set,List.getElem?_map,List.getElem?_map]
 by_cases h:i<n
 ·rw[List.getElem?_range h]
  by_cases e:r.toNat=i
  ·subst e;rw[if_pos rfl,if_pos (by simp;omega)];simp[Int.toNat_of_nonneg h0]
  ·rw[if_neg e];have:¬(i:Int)=r:=by omega
   simp[this]
 ·rw[List.getElem?_eq_none (by simpa using h)]
  split
  ·rw[if_neg (by simp;omega)];rfl
  ·rfl
@[simp high] theorem c3N (n:Nat) (L:List Int) (g:List (Option Nat)) (k:Nat):(usR n L).map (fun e=>e.map (o4 g k))=usR n L:=by
 unfold usR;rw[List.map_map];refine List.map_congr_left fun r _=>?_
 cases k<;>simp[o4]
theorem c2x (n:Nat) (L:List Int):(∀(x:List AV),x∈usR n L→∀(y:AV),y∈x→AV.noRef 2 y=true)=True:=by
 refine eq_true fun x hx y hy=>?_;unfold usR at hx;obtain⟨r,_,rfl⟩:=List.mem_map.1 hx;simp only[List.mem_singleton]at hy;subst hy;rfl
theorem c2K (n:Nat) (L:List Int):List.take n (usR n L)=usR n L:=List.take_of_length_le (by simp)
def sgR (l:List (List Move)) (i k:Nat):List Int:=(sgA l i++sgK l i k).map (·.2.Rail)
theorem b6Z {l:List (List Move)} {i k:Nat} {x:List Move} {m:Move} (h:l[i]?=some x) (hm:x[k]?=some m):sgR l i (k+1)=sgR l i k++[m.Rail]:=by
 unfold sgR;rw[a3o l i k h hm,←List.append_assoc,List.map_append];rfl
theorem b8L {l:List (List Move)} {i:Nat} {x:List Move} (h:l[i]?=some x):sgR l (i+1) 0=sgR l i x.length:=by
 unfold sgR;rw[Z1 l i h];simp[sgK]
theorem b5j {p:Plan} {L:List (Nat×Move)} {i:Nat} {m:Move}:b1y p (L++[(i,m)])↔b1y p L∧E3 p m=true∧m.Rail∉L.map (·.2.Rail):=by
 unfold b1y;rw[List.map_append,List.nodup_append];constructor
 ·rintro⟨h1,h2,_,h3⟩;refine⟨⟨fun q hq=>h1 q (by simp[hq]),h2⟩,h1 (i,m) (by simp),fun hm=>h3 _ hm m.Rail (by simp) rfl⟩
 ·rintro⟨⟨h1,h2⟩,h3,h4⟩;refine⟨fun q hq=>?_,h2,by simp,fun a ha b hb e=>h4 ?_⟩
  ·rcases List.mem_append.1 hq with h|h
   ·exact h1 q h
   ·simp only[List.mem_singleton]at h;subst h;exact h3
  ·simp only[List.map_cons,List.map_nil,List.mem_singleton]at hb;rw[←hb,←e];exact ha
theorem c2l {p:Plan} {l:List (List Move)} {i k:Nat} {x:List Move} {m:Move} (hx:l[i]?=some x) (hm:x[k]?=some m) (h:¬(E3 p m=true∧m.Rail∉sgR l i k)):a8s p l=false:=by
 cases hs:a8s p l with
 |false=>rfl
 | true=>
  obtain⟨h1,h2⟩:=b8t hs hx hm;exfalso;refine h ⟨h2,fun hr=>?_⟩;obtain⟨q,hq,e⟩:=List.mem_map.1 hr;have hok:=(S8.1 hs).2;have hil:=(List.getElem?_eq_some_iff.1 hx).1;have hnd:(sgR l i k).Nodup:=by
   have hsub:(sgA l i++sgK l i k).Sublist (sgA l l.length):=by
    have e1:sgA l (i+1)=sgA l i++sgK l i x.length:=Z1 l i hx;have s1:(sgK l i k).Sublist (sgK l i x.length):=by
     unfold sgK;rw[hx];simp only[Option.getD_some,List.take_length];exact(List.take_sublist _ _).map _
    have s2:(sgA l (i+1)).Sublist (sgA l l.length):=by
     unfold sgA;have:List.range l.length=List.range (i+1)++(List.range (l.length-(i+1))).map (i+1+ ·):=by
      rw[←List.range_add,Nat.add_sub_cancel' (by omega)]
     rw[this,List.flatMap_append];exact List.sublist_append_left _ _
    refine List.Sublist.trans ?_ s2;rw[e1];exact List.Sublist.append (List.Sublist.refl _) s1
   exact hok.2.sublist (hsub.map _)
  have:=a6c (p:=q) (sgA l i++sgK l i k) [] hnd hq;unfold U9 at h1;rw[←e,this]at h1
  cases h1
theorem b6K (s:l5) (hR:s.Plan.Rails.length≤1000) (hp:s.Profiles.length≤1000) (hm:∀x∈s.Singles,x.length≤1000):a6 Tryz.prog 11 [s.av] (Bo (R1 s)):=by
 have hvl:=c0Q s.Plan;have hin:=c3x;have hmv:=fun m=>b9p s.Plan m (by omega);unfold Plan.av at hvl hmv;have hf1:P4 s.Plan.Rails.length 2:=l9 (by omega) (by omega);have hz:=b7x s.Plan.Rails.length;refine oB Tryz.func11 Tryz.ntmps11 Tryz.results11 ?_;refine aW ?_;refine a5 fun K1 hK1=>?_;refine aW ?_ fun K hK=>by simp -dsimp;refine cI (hvl) ?_;simp -dsimp;refine cY (fun hm=>hin s.Profiles.length 1 6) ?_;simp -dsimp;exact hK
 refine a8 rfl (fun hc0=>?_) (fun hc0=>?_)
 ·have hf:R1 s=false:=by
   cases hs:R1 s with
   |false=>rfl
   |true=>
    obtain⟨h1,h2,h3,h4⟩:=r5 hs;have h5:inr (s.Profiles.length:Int) 1 6=true:=by simp only[E2,Bool.and_eq_true,decide_eq_true_eq]at h2;rw[g8];omega
    exfalso;simp[h1,h5]at hc0;omega
  refine aW ?_;exact a9 (by simp[hf])
 ·obtain⟨hv,hpl,hsl⟩:d7 s.Plan=true∧inr (s.Profiles.length:Int) 1 6=true∧s.Singles.length≤30:=by
   cases h1:d7 s.Plan<;>cases h2:inr (s.Profiles.length:Int) 1 6<;>simp[h1,h2]at hc0 ⊢ <;>omega
  have hpl2:1≤s.Profiles.length∧s.Profiles.length≤6:=by rw[g8]at hpl;omega
  have hsb:R1 s=(s.Profiles.all y6&&a8s s.Plan s.Singles):=by
   unfold R1 E2;rw[hv,decide_eq_true hsl,decide_eq_true hpl2.1,decide_eq_true hpl2.2];simp
  refine b8 ?_;refine zQ (hK1 _ _ ?_);refine aP [1] ?_;refine a5 fun K2 hK2=>?_;refine aW ?_;refine b9 ?_;refine aP [1,3] ?_;refine c7 [1] (α:=Nat) (fun k=>[(3,I k)]) (fun k=>[some (.els 4 [s.cells])]) (fun k=>k≤s.Profiles.length∧(s.Profiles.take k).all y6=true) (fun k=>s.Profiles.length-k) 0 ?_ ?_ ?_
  ·exact⟨Nat.zero_le _,by simp⟩
  ·exact c9 (by simp)
  rintro k ⟨k1,k2⟩;refine zN ?_;refine a5 fun K3 hK3=>?_;refine aW ?_;refine a8 rfl (fun hc1=>?_) (fun hc1=>?_)
  ·have hk:k<s.Profiles.length:=by first|omega|(simp at hc1;omega)
   obtain⟨x,hx⟩:=gx (l:=s.Profiles) (i:=k) hk;have wk:=zW k (by omega);have hpe:y6 x=(inr x.Half 1 2000&&inr x.Swing 0 1500):=rfl;refine b8 ?_;refine zQ (hK3 _ _ ?_);refine aP [1,3] ?_;refine a5 fun K4 hK4=>?_;refine b9 ?_;refine aW ?_ fun K hK=>by simp -dsimp [hx];refine cI (hin x.Half 1 2000) ?_;simp -dsimp [hx];refine s7 x.cells (fun _=>by simp[hx]) ?_;simp -dsimp [hx];refine cY (fun hm=>hin x.Swing 0 1500) ?_;simp -dsimp [hx];exact hK
   refine a8 rfl (fun hc2=>?_) (fun hc2=>?_)
   ·have hb:y6 x=false:=by rw[hpe];cases h1:inr x.Half 1 2000<;>cases h2:inr x.Swing 0 1500<;>simp[h1,h2]at hc2 ⊢
    refine aW ?_;exact a9 (by rw[hsb,a6J hx hb];simp)
   ·have hb:y6 x=true:=by rw[hpe];cases h1:inr x.Half 1 2000<;>cases h2:inr x.Swing 0 1500<;>simp[h1,h2]at hc2 ⊢
    refine b8 ?_;refine zQ (hK4 _ _ ?_);refine aP [1,3] ?_;refine aV ?_ fun K hK=>by simp -dsimp [wk];exact hK
    refine zQ ?_;exact⟨k+1,⟨by omega,J5 hx k2 hb⟩,by omega,aB [some 0]⟩
  ·have hk:k=s.Profiles.length:=by first|omega|(simp at hc1;omega)
   subst hk;rw[List.take_length]at k2;rw[k2,Bool.true_and]at hsb;refine d4 ?_;refine zQ (hK2 _ _ ?_);refine aP [1] ?_;refine aW ?_ fun K hK=>by simp -dsimp [hf1,hz];exact hK
   refine a5 fun K5 hK5=>?_;refine aW ?_;refine b9 ?_;refine aP [1,4,5] ?_;refine c7 [1,4] (α:=Nat) (fun i=>[(5,I i)]) (fun i=>[some (.els 4 [s.cells]),some (.els 1 (usR s.Plan.Rails.length (sgR s.Singles i 0)))]) (fun i=>i≤s.Singles.length∧(∀j x,j<i→s.Singles[j]?=some x→1≤x.length∧x.length≤100)∧b1y s.Plan (sgA s.Singles i++sgK s.Singles i 0)) (fun i=>s.Singles.length-i) 0 ?_ ?_ ?_
   ·exact⟨Nat.zero_le _,fun j x h=>absurd h (Nat.not_lt_zero _),by simp[b1y,sgA,sgK]⟩
   ·exact d9 [some 0,some 1] rfl (by simp) (by simp[sgR,sgA,sgK])
   rintro i ⟨i1,i2,i3⟩;refine zN ?_;refine a5 fun K6 hK6=>?_;refine aW ?_;refine a8 rfl (fun hc3=>?_) (fun hc3=>?_)
   ·have hi:i<s.Singles.length:=by first|omega|(simp at hc3;omega)
    obtain⟨x,hx⟩:=gx (l:=s.Singles) (i:=i) hi;have hxm:=hm x (List.mem_of_getElem? hx);have wi:=zW i (by omega);refine b8 ?_;refine zQ (hK6 _ _ ?_);refine aP [1,4,5] ?_;refine a5 fun K7 hK7=>?_;refine b9 ?_;refine aW ?_ fun K hK=>by simp -dsimp [hx];exact hK
    refine a5 fun K8 hK8=>?_;refine aW ?_ fun K hK=>by simp -dsimp;refine cI (hin x.length 1 100) ?_;simp -dsimp;exact hK
    refine a8 rfl (fun hc4=>?_) (fun hc4=>?_)
    ·have hf:a8s s.Plan s.Singles=false:=by
      cases hs:a8s s.Plan s.Singles with
      |false=>rfl
      |true=>
       have:=(S8.1 hs).1 x (List.mem_of_getElem? hx);exfalso;simp[inr]at hc4;omega
     refine aW ?_;exact a9 (by rw[hsb,hf];simp)
    ·have hxl:1≤x.length∧x.length≤100:=by simp[inr]at hc4;omega
     refine b8 ?_;refine zQ (hK8 _ _ ?_);refine aP [1,4,5,6] ?_;refine aW ?_;refine b9 ?_;refine aP [1,4,5,6,7] ?_;refine c7 [1,4,5,6] (α:=Nat) (fun k=>[(7,I k)]) (fun k=>[some (.els 4 [s.cells]),some (.els 1 (usR s.Plan.Rails.length (sgR s.Singles i k)))]) (fun k=>k≤x.length∧b1y s.Plan (sgA s.Singles i++sgK s.Singles i k)) (fun k=>x.length-k) 0 ?_ ?_ ?_
     ·exact⟨Nat.zero_le _,i3⟩
     ·exact aB [some 0,some 1]
     rintro k ⟨k1,k3⟩;refine zN ?_;refine a5 fun K9 hK9=>?_;refine aW ?_;refine a8 rfl (fun hc5=>?_) (fun hc5=>?_)
     ·have hk:k<x.length:=by first|omega|(simp at hc5;omega)
      obtain⟨m,hmg⟩:=gx (l:=x) (i:=k) hk;have wk:=zW k (by omega);have hno:=c2l (p:=s.Plan) hx hmg;have hsuc:=b6Z hx hmg;have hsn:=(b5j (p:=s.Plan) (L:=sgA s.Singles i++sgK s.Singles i k) (i:=i) (m:=m)).2;rw[List.append_assoc,←a3o s.Singles i k hx hmg]at hsn;generalize hLe:sgR s.Singles i k=L at hno hsuc ⊢;have hmr:E3 s.Plan m=true→0≤m.Rail∧m.Rail<s.Plan.Rails.length:=fun h=>J9.1 h;have hug:E3 s.Plan m=true→(usR s.Plan.Rails.length L)[m.Rail.toNat]?=some [Bo (decide (m.Rail∈L))]:=fun h=>b8U (hmr h).1 (hmr h).2;have hus:E3 s.Plan m=true→(usR s.Plan.Rails.length L).set m.Rail.toNat [Bo true]=usR s.Plan.Rails.length (L++[m.Rail]):=fun h=>c0M (hmr h).1 (hmr h).2;refine b8 ?_;refine zQ (hK9 _ _ ?_);refine aP [1,4,5,6,7] ?_;refine a5 fun K10 hK10=>?_;refine b9 ?_;refine a5 fun K11 hK11=>?_;have hmvm:=hmv m
      rcases Bool.eq_false_or_eq_true (E3 s.Plan m)with hmb|hmb<;>rw[hmb]at hmvm
      all_goals first|(have hug:=hug hmb;have hus:=hus hmb;have hmr:=hmr hmb;have hug2:=(List.getElem?_eq_some_iff.1 hug).2)|refine a3d (a9X (T':=[(1, .ptr 0 0 0),(4, .lst 1 (usR s.Plan.Rails.length L)),(6,a6b x),(7,I k)]) (H':=[some (.els 4 [s.cells])]) [some 0] rfl ⟨.inr (by simp), .inr (by simp[c2x,c2K]), .inr (by simp), .inr (by simp),trivial⟩ (by simp)) ?_
      ·refine aD ?_ fun K hK=>by simp -dsimp [hmg,hug,hug2,hmr.1,hmr.2];refine cI (hmvm) ?_;simp -dsimp [hmg,hug,hug2,hmr.1,hmr.2];refine s7 m.cells (fun _=>by simp[hmg]) ?_;simp -dsimp [hmg,hug,hug2,hmr.1,hmr.2];exact hK
       refine a8 rfl (fun hc6=>?_) (fun hc6=>?_)
       ·have hru:m.Rail∈L:=by simpa using hc6
        have hf:a8s s.Plan s.Singles=false:=hno fun h=>h.2 hru;refine aW ?_;exact a9 (by rw[hsb,hf];simp)
       ·have hru:m.Rail∉L:=by simpa using hc6
        refine b8 ?_;refine zQ (hK11 _ _ ?_);refine aP [1,4,5,6,7] ?_;refine aV ?_ fun K hK=>by simp -dsimp [hmg,hus,hug,hug2,hmr.1,hmr.2];exact hK
        refine zQ (hK10 _ _ ?_);refine aP [1,4,5,6,7] ?_;refine aV ?_ fun K hK=>by simp -dsimp [wk];exact hK
        refine zQ ?_;exact⟨k+1,⟨by omega,hsn ⟨k3,hmb,by rw[←hLe]at hru;exact hru⟩⟩,by omega,d9 [some 0,some 1] rfl (by simp) (by simp[hsuc])⟩
      ·refine aD ?_ fun K hK=>by simp -dsimp [hmg];refine cI (hmvm) ?_;simp -dsimp [hmg];refine s7 m.cells (fun _=>by simp[hmg]) ?_;simp -dsimp [hmg];refine s7 [Bo false] (fun h=>by simp at h) ?_;simp -dsimp [hmg];exact hK
       refine a8 rfl (fun hc6=>?_) (fun hc6=>?_)
       ·have hf:a8s s.Plan s.Singles=false:=hno fun h=>by rw[hmb]at h;simp at h
        refine aW ?_;exact a9 (by rw[hsb,hf];simp)
       ·simp at hc6
     ·have hk:k=x.length:=by first|omega|(simp at hc5;omega)
      subst hk;have j9:=b8L hx;refine d4 ?_;refine zQ (hK7 _ _ ?_);refine aP [1,4,5] ?_;refine aV ?_ fun K hK=>by simp -dsimp [wi];exact hK
      refine zQ ?_;exact⟨i+1,⟨by omega,fun j y hj hy=>by rcases Nat.lt_succ_iff_lt_or_eq.1 hj with h|rfl;exact i2 j y h hy;rw[hx]at hy;cases hy;exact hxl,by rw[Z1 _ _ hx];simpa [sgK]using k3⟩,by omega,d9 [some 0,some 1] rfl (by simp) (by simp[j9])⟩
   ·have hi:i=s.Singles.length:=by first|omega|(simp at hc3;omega)
    subst hi;have hsng:a8s s.Plan s.Singles=true:=S8.2 ⟨fun x hx=>by obtain⟨j,hj⟩:=List.getElem?_of_mem hx;exact i2 j x (List.getElem?_eq_some_iff.1 hj).1 hj,by simpa [sgK]using i3⟩;refine d4 ?_;refine zQ (hK5 _ _ ?_);refine aP [] ?_;refine aW ?_;exact a9 (by rw[hsb,hsng];simp)
def wC (s:l5):List AV:=s.cells++[.lst 4 ((D2 s.Plan s.Profiles).map O1.cells)]
@[simp] def Sta.cells (x:Sta):List AV:=[.lst 4 (x.Cars.map Car.cells), .lst 1 (x.Points.map j4)]
abbrev Sta.av (x:Sta):AV:= .agg x.cells
abbrev wA (s:l5):AV:= .agg (wC s)
def fsN (p:Plan) (k:Nat):List Int:=(p.Nodes.take k).map b3v
theorem b4J {p:Plan} {k:Nat} (h:k≤p.Nodes.length):(fsN p k).length=k:=by simp[fsN];omega
theorem b5T {p:Plan} {k:Nat} {n:Node} (h:p.Nodes[k]?=some n):fsN p (k+1)=fsN p k++[b3v n]:=by
 unfold fsN;rw[List.take_add_one,h];simp
theorem b6q (s:l5) (h:R1 s=true) (hR:s.Plan.Rails.length≤20):a6 Tryz.prog 13 [s.av] (.tup [wA s, .agg [H7, .lst 1 ((u9 s.Plan).map j4)]]):=by
 obtain⟨hv,hpf,_,_⟩:=r5 h;have hfo:=a8w s.Plan s.Profiles hv hpf hR;have hNl:1≤s.Plan.Nodes.length∧s.Plan.Nodes.length≤300:=(n5 hv).1;rw[a7W];unfold wA wC;generalize D2 s.Plan s.Profiles=fl at hfo ⊢;refine oB Tryz.func13 Tryz.ntmps13 Tryz.results13 ?_;refine aW ?_;refine aW ?_;refine a5 fun K1 hK1=>?_;refine aW ?_;refine b9 ?_;refine aP [1,2,3,4,5] ?_;refine c7 [1,2,3,4] (α:=Nat) (fun k=>[(5,I k)]) (fun k=>[some (.els 4 [s.cells]),some (.els 5 [[H7,H7,H7,H7,H7]]),some (.els 2 [[H7,H7]]),some (.els 2 [[H7, .row 4 0 k]]),some (.els 1 ((fsN s.Plan k).map j4))]) (fun k=>k≤s.Plan.Nodes.length) (fun k=>s.Plan.Nodes.length-k) 0 ?_ ?_ ?_
 ·exact Nat.zero_le _
 ·exact(a3j 3 0 1 1 (es:=[[H7,H7]]) (e:=[H7,H7]) (by simp) (by simp) (by simp)).trans (c9 (by simp[fsN]))
 rintro k k1;refine zN ?_;refine a5 fun K2 hK2=>?_;refine aW ?_;refine a8 rfl (fun hc0=>?_) (fun hc0=>?_)
 ·have hk:k<s.Plan.Nodes.length:=by first|omega|(simp at hc0;omega)
  obtain⟨n,hn⟩:=gx (l:=s.Plan.Nodes) (i:=k) hk;have wk:=zW k (by omega);have f1:P4 (k+1) 9:=l9 (by omega) (by omega);have hts:=b5T hn;have htl:=b4J k1;generalize fsN s.Plan k=L at hts htl ⊢;subst htl;have htL:List.take L.length (L.map j4)=L.map j4:=List.take_of_length_le (by simp);refine b8 ?_;refine zQ (hK2 _ _ ?_);refine aP [1,2,3,4,5] ?_;refine a5 fun K3 hK3=>?_;refine b9 ?_;refine aW ?_ fun K hK=>by simp -dsimp [hn];exact hK
  refine a8 rfl (fun hc1=>?_) (fun hc1=>?_)
  ·have hkd:n.Kind=4:=by simpa using hc1
   refine aV ?_ fun K hK=>by simp -dsimp [f1];exact hK
   refine zQ (hK3 _ _ ?_);refine aP [1,2,3,4,5] ?_;refine aV ?_ fun K hK=>by simp -dsimp [wk];exact hK
   refine zQ ?_;exact⟨L.length+1,by omega,by omega,d9 [some 0,some 1,some 2,some 3,some 5] rfl (by simp) (by simp[hts,b3v,hkd,htL];try simp[j4])⟩
  ·have hkd:n.Kind≠4:=by simpa using hc1
   refine aV ?_ fun K hK=>by simp -dsimp [f1];exact hK
   refine zQ (hK3 _ _ ?_);refine aP [1,2,3,4,5] ?_;refine aV ?_ fun K hK=>by simp -dsimp [wk];exact hK
   refine zQ ?_;exact⟨L.length+1,by omega,by omega,d9 [some 0,some 1,some 2,some 3,some 5] rfl (by simp) (by simp[hts,b3v,hkd,htL];try simp[j4])⟩
 ·have hk:k=s.Plan.Nodes.length:=by first|omega|(simp at hc0;omega)
  subst hk;refine d4 ?_;refine zQ (hK1 _ _ ?_);refine aP [1,2,3,4] ?_;refine aD ?_ fun K hK=>by simp -dsimp;refine cI (hfo) ?_;simp -dsimp;exact hK
  have hfe:fsN s.Plan s.Plan.Nodes.length=s.Plan.Nodes.map b3v:=by unfold fsN;rw[List.take_length]
  rw[←hfe];have hfl:=b4J (p:=s.Plan) (Nat.le_refl _);generalize fsN s.Plan s.Plan.Nodes.length=L at*
  have htk:List.take s.Plan.Nodes.length (L.map j4)=L.map j4:=List.take_of_length_le (by simp;omega);exact a9 (by simp[hfl,htk])
theorem c0q (s:l5) (h:R1 s=true) (hR:s.Plan.Rails.length≤20):a6 Tryz.prog 13 [s.av] (.tup [wA s,(⟨[],u9 s.Plan⟩:Sta).av]):=by
 refine(b6q s h hR).res fun w S y h=>?_;have e:wkN 4 6 (.tup [.agg [], .agg [H7, .lst 1 []]])= .tup [.agg [], .agg [.lst 4 [], .lst 1 []]]:=rfl
 cases h with
 | tup cs vs hl h=>
  refine .tup _ _ hl fun i c x h1 h2=>?_
  match i,h1 with
  |0,h1=>exact h 0 c x h1 h2
  | 1,h1=>
   have h1:c= .agg [.lst 4 [], .lst 1 ((u9 s.Plan).map j4)]:=(Option.some.inj h1).symm;subst h1;have h3:=h 1 _ x rfl h2
   cases h3 with
   | agg cs2 vs2 hl2 hc2 h4=>
    refine .agg _ _ hl2 hc2 fun j c z g1 g2=>?_
    match j,g1 with
    |0,g1=>
     simp only[List.getElem?_cons_zero,Option.some.injEq]at g1;subst g1;have h5:=h4 0 _ z rfl g2
     cases h5
     exact .lstNil _ _ _
    |1,g1=>exact h4 1 c z g1 g2
theorem b9A (a b:List Int) (hn:a.length≤100000):a6 Tryz.prog 15 [.lst 1 (a.map j4), .lst 1 (b.map j4)] (Bo (decide (a=b))):=by
 refine oB Tryz.func15 Tryz.ntmps15 Tryz.results15 ?_;refine aW ?_;refine a5 fun K1 hK1=>?_;refine aW ?_;refine a8 rfl (fun hc0=>?_) (fun hc0=>?_)
 ·have hne:a≠b:=by intro e;rw[e]at hc0;simp at hc0
  refine aW ?_;exact a9 (by simp[hne])
 ·have hl:a.length=b.length:=by simp at hc0;omega
  refine b8 ?_;refine zQ (hK1 _ _ ?_);refine aP [0,1] ?_;refine a5 fun K2 hK2=>?_;refine aW ?_;refine b9 ?_;refine aP [0,1,5] ?_;refine c7 [0,1] (α:=Nat) (fun k=>[(5,I k)]) (fun k=>[]) (fun k=>k≤a.length∧a.take k=b.take k) (fun k=>a.length-k) 0 ?_ ?_ ?_
  ·exact⟨Nat.zero_le _,by simp⟩
  ·exact c9 (by simp)
  rintro k ⟨k1,k2⟩;refine zN ?_;refine a5 fun K3 hK3=>?_;refine aW ?_;refine a8 rfl (fun hc1=>?_) (fun hc1=>?_)
  ·have hk:k<a.length:=by first|omega|(simp at hc1;omega)
   obtain⟨x,hx⟩:=gx (l:=a) (i:=k) hk;obtain⟨y,hy⟩:=gx (l:=b) (i:=k) (by omega);have wk:=zW k (by omega);refine b8 ?_;refine zQ (hK3 _ _ ?_);refine aP [0,1,5] ?_;refine a5 fun K4 hK4=>?_;refine b9 ?_;refine aD ?_ fun K hK=>by simp -dsimp [hx,hy];exact hK
   refine a8 rfl (fun hc2=>?_) (fun hc2=>?_)
   ·have hne:a≠b:=by intro e;rw[e,hy]at hx;simp only[Option.some.injEq]at hx;subst hx;simp at hc2
    refine aW ?_;exact a9 (by simp[hne])
   ·have hxy:x=y:=by simpa using hc2
    refine b8 ?_;refine zQ (hK4 _ _ ?_);refine aP [0,1,5] ?_;refine aV ?_ fun K hK=>by simp -dsimp [wk];exact hK
    refine zQ ?_;exact⟨k+1,⟨by omega,by rw[List.take_add_one,List.take_add_one,k2,hx,hy,hxy]⟩,by omega,c9 (by simp)⟩
  ·have hk:k=a.length:=by first|omega|(simp at hc1;omega)
   subst hk;have he:a=b:=by rw[List.take_length,hl,List.take_length]at k2;exact k2
   refine d4 ?_;refine zQ (hK2 _ _ ?_);refine aP [] ?_;refine aW ?_;exact a9 (by simp[he])
end Go.Tram.Lk
end
section
namespace Go.Tram.Lk
open Go.AM Go.Proofs
def a3z (n:Node):Bool:=decide (n.Ends.length≤8)
def a0F (r:Rail):Bool:=decide (r.Shape.length≤6)
def a7U (l:List Move):Bool:=decide (l.length≤110)
def c1a (s:l5):Bool:=decide (s.Plan.Nodes.length≤10)&&(decide (s.Plan.Rails.length≤10)&&(decide (s.Profiles.length≤8)&&decide (s.Singles.length≤32)))
def b8x (s:l5):Bool:=c1a s&&(s.Plan.Nodes.all a3z&&(s.Plan.Rails.all a0F&&s.Singles.all a7U))
theorem a3p {s:l5}:c1a s=true↔s.Plan.Nodes.length≤10∧s.Plan.Rails.length≤10∧s.Profiles.length≤8∧s.Singles.length≤32:=by simp[c1a]
structure l5.Fit (s:l5):Prop where
 n:s.Plan.Nodes.length≤9223372036854775807
 r:s.Plan.Rails.length≤9223372036854775807
 p:s.Profiles.length≤9223372036854775807
 s:s.Singles.length≤9223372036854775807
theorem c2o (s:l5) (hF:s.Fit):a6 Tryz.prog 8 [s.av] (Bo (b8x s)):=by
 obtain⟨q1,q2,q3,q4⟩:=hF;refine oB Tryz.func8 Tryz.ntmps8 Tryz.results8 ?_;refine aW ?_;refine a5 fun K1 hK1=>?_;refine aW ?_;refine a8 rfl (fun hc0=>?_) (fun hc0=>?_)
 ·have hf:b8x s=false:=by
   have:c1a s=false:=by
    cases h:c1a s with
    |false=>rfl
    |true=>rw[a3p]at h;exfalso;simp at hc0;omega
   unfold b8x;rw[this];rfl
  refine aW ?_;exact a9 (by simp[hf])
 ·have hA:c1a s=true:=by rw[a3p];simp at hc0;omega
  have hA2:=a3p.1 hA;have hfe:b8x s=(s.Plan.Nodes.all a3z&&(s.Plan.Rails.all a0F&&s.Singles.all a7U)):=by unfold b8x;rw[hA];rfl
  refine b8 ?_;refine zQ (hK1 _ _ ?_);refine aP [1] ?_;refine a5 fun K2 hK2=>?_;refine aW ?_;refine b9 ?_;refine aP [1,3] ?_;refine c7 [1] (α:=Nat) (fun k=>[(3,I k)]) (fun k=>[some (.els 4 [s.cells])]) (fun k=>k≤s.Plan.Nodes.length∧(s.Plan.Nodes.take k).all a3z=true) (fun k=>s.Plan.Nodes.length-k) 0 ?_ ?_ ?_
  ·exact⟨Nat.zero_le _,by simp⟩
  ·exact c9 (by simp)
  rintro k ⟨k1,k2⟩;refine zN ?_;refine a5 fun K3 hK3=>?_;refine aW ?_;refine a8 rfl (fun hc1=>?_) (fun hc1=>?_)
  ·have hk:k<s.Plan.Nodes.length:=by first|omega|(simp at hc1;omega)
   obtain⟨x,hx⟩:=gx (l:=s.Plan.Nodes) (i:=k) hk;have wk:=zW k (by omega);refine b8 ?_;refine zQ (hK3 _ _ ?_);refine aP [1,3] ?_;refine a5 fun K4 hK4=>?_;refine b9 ?_;refine aW ?_ fun K hK=>by simp -dsimp [hx];exact hK
   refine a8 rfl (fun hc2=>?_) (fun hc2=>?_)
   ·have hb:a3z x=false:=by unfold a3z;simp at hc2;simp;omega
    refine aW ?_;exact a9 (by rw[hfe,a6J hx hb];simp)
   ·have hb:a3z x=true:=by unfold a3z;simp at hc2;simp;omega
    refine b8 ?_;refine zQ (hK4 _ _ ?_);refine aP [1,3] ?_;refine aV ?_ fun K hK=>by simp -dsimp [wk];exact hK
    refine zQ ?_;exact⟨k+1,⟨by omega,J5 hx k2 hb⟩,by omega,aB [some 0]⟩
  ·have hk:k=s.Plan.Nodes.length:=by first|omega|(simp at hc1;omega)
   subst hk;rw[List.take_length]at k2;rw[k2,Bool.true_and]at hfe;refine d4 ?_;refine zQ (hK2 _ _ ?_);refine aP [1] ?_;refine a5 fun K5 hK5=>?_;refine aW ?_;refine b9 ?_;refine aP [1,4] ?_;refine c7 [1] (α:=Nat) (fun k=>[(4,I k)]) (fun k=>[some (.els 4 [s.cells])]) (fun k=>k≤s.Plan.Rails.length∧(s.Plan.Rails.take k).all a0F=true) (fun k=>s.Plan.Rails.length-k) 0 ?_ ?_ ?_
   ·exact⟨Nat.zero_le _,by simp⟩
   ·exact c9 (by simp)
   rintro k ⟨k1,k3⟩;refine zN ?_;refine a5 fun K6 hK6=>?_;refine aW ?_;refine a8 rfl (fun hc3=>?_) (fun hc3=>?_)
   ·have hk:k<s.Plan.Rails.length:=by first|omega|(simp at hc3;omega)
    obtain⟨x,hx⟩:=gx (l:=s.Plan.Rails) (i:=k) hk;have wk:=zW k (by omega);refine b8 ?_;refine zQ (hK6 _ _ ?_);refine aP [1,4] ?_;refine a5 fun K7 hK7=>?_;refine b9 ?_;refine aW ?_ fun K hK=>by simp -dsimp [hx];exact hK
    refine a8 rfl (fun hc4=>?_) (fun hc4=>?_)
    ·have hb:a0F x=false:=by unfold a0F;simp at hc4;simp;omega
     refine aW ?_;exact a9 (by rw[hfe,a6J hx hb];simp)
    ·have hb:a0F x=true:=by unfold a0F;simp at hc4;simp;omega
     refine b8 ?_;refine zQ (hK7 _ _ ?_);refine aP [1,4] ?_;refine aV ?_ fun K hK=>by simp -dsimp [wk];exact hK
     refine zQ ?_;exact⟨k+1,⟨by omega,J5 hx k3 hb⟩,by omega,aB [some 0]⟩
   ·have hk:k=s.Plan.Rails.length:=by first|omega|(simp at hc3;omega)
    subst hk;rw[List.take_length]at k3;rw[k3,Bool.true_and]at hfe;refine d4 ?_;refine zQ (hK5 _ _ ?_);refine aP [1] ?_;refine a5 fun K8 hK8=>?_;refine aW ?_;refine b9 ?_;refine aP [1,5] ?_;refine c7 [1] (α:=Nat) (fun k=>[(5,I k)]) (fun k=>[some (.els 4 [s.cells])]) (fun k=>k≤s.Singles.length∧(s.Singles.take k).all a7U=true) (fun k=>s.Singles.length-k) 0 ?_ ?_ ?_
    ·exact⟨Nat.zero_le _,by simp⟩
    ·exact c9 (by simp)
    rintro k ⟨k1,k4⟩;refine zN ?_;refine a5 fun K9 hK9=>?_;refine aW ?_;refine a8 rfl (fun hc5=>?_) (fun hc5=>?_)
    ·have hk:k<s.Singles.length:=by first|omega|(simp at hc5;omega)
     obtain⟨x,hx⟩:=gx (l:=s.Singles) (i:=k) hk;have wk:=zW k (by omega);refine b8 ?_;refine zQ (hK9 _ _ ?_);refine aP [1,5] ?_;refine a5 fun K10 hK10=>?_;refine b9 ?_;refine aW ?_ fun K hK=>by simp -dsimp [hx];exact hK
     refine a8 rfl (fun hc6=>?_) (fun hc6=>?_)
     ·have hb:a7U x=false:=by unfold a7U;simp at hc6;simp;omega
      refine aW ?_;exact a9 (by rw[hfe,a6J hx hb];simp)
     ·have hb:a7U x=true:=by unfold a7U;simp at hc6;simp;omega
      refine b8 ?_;refine zQ (hK10 _ _ ?_);refine aP [1,5] ?_;refine aV ?_ fun K hK=>by simp -dsimp [wk];exact hK
      refine zQ ?_;exact⟨k+1,⟨by omega,J5 hx k4 hb⟩,by omega,aB [some 0]⟩
    ·have hk:k=s.Singles.length:=by first|omega|(simp at hc5;omega)
     subst hk;rw[List.take_length]at k4;refine d4 ?_;refine zQ (hK8 _ _ ?_);refine aP [] ?_;refine aW ?_;exact a9 (by rw[hfe,k4];simp)
theorem b3b {s:l5} (h:b8x s=true):(s.Plan.Nodes.length≤10∧s.Plan.Rails.length≤10∧s.Profiles.length≤8∧s.Singles.length≤32)∧∀x∈s.Singles,x.length≤110:=by
 simp only[b8x,Bool.and_eq_true,List.all_eq_true,a7U,decide_eq_true_eq]at h;exact⟨a3p.1 h.1,h.2.2.2⟩
theorem b1A (s:l5) (h:R1 s=true) (hN:s.Plan.Rails.length≤20):a6 Tryz.prog 12 [s.av] (I 0):=by
 have ho:a6 Tryz.prog 31 [s.av] (.tup [.iptr (e8 s (a4Q s) (U9 (A4 s)) (a0r (A4 s)) (.mpc true a1H []) (.mpc true a1H [])),Bo true]):=(a9N s h hN).pure (by simp[frz,g6,e8]);refine oB Tryz.func12 Tryz.ntmps12 Tryz.results12 ?_;refine aW ?_;refine a5 fun K1 hK1=>?_;refine aW ?_ fun K hK=>by simp -dsimp;refine cI (ho) ?_;simp -dsimp;exact hK
 refine aW ?_;refine a8 rfl (fun hc0=>?_) (fun hc0=>?_)
 ·simp at hc0
 ·refine b8 ?_;refine zQ (hK1 _ _ ?_);refine aP [] ?_;refine aW ?_;exact a9 (by simp)
theorem b1Q (s:l5) (h:R1 s=false) (hN:s.Plan.Rails.length≤20) (hp:s.Profiles.length≤100000) (hm:∀x∈s.Singles,x.length≤100000):a6 Tryz.prog 12 [s.av] (I 2):=by
 have ho:=c_open_f s h hN hp hm;refine oB Tryz.func12 Tryz.ntmps12 Tryz.results12 ?_;refine aW ?_;refine a5 fun K1 hK1=>?_;refine aW ?_ fun K hK=>by simp -dsimp;refine cI (ho) ?_;simp -dsimp;exact hK
 refine aW ?_;refine a8 rfl (fun hc0=>?_) (fun hc0=>?_)
 ·refine aW ?_;exact a9 (by simp)
 ·simp at hc0
theorem a6W (s:l5) (hF:s.Fit):a6 Tryz.prog 3 [s.av] (Bo true):=by
 have hk:=b7f;have hfit:=c2o s hF
 cases hb:b8x s with
 | false=>
  rw[hb]at hfit;refine oB Tryz.func3 Tryz.ntmps3 Tryz.results3 ?_;refine aW ?_;refine a5 fun K1 hK1=>?_;refine aW ?_ fun K hK=>by simp -dsimp;refine cI (hfit) ?_;simp -dsimp;exact hK
  refine a8 rfl (fun hc0=>?_) (fun hc0=>?_)
  ·refine aW ?_ fun K hK=>by simp -dsimp;refine cI (hk) ?_;simp -dsimp;exact hK
   exact a9 (by simp)
  ·simp at hc0
 | true=>
  rw[hb]at hfit;obtain⟨⟨f1,f2,f3,f4⟩,f5⟩:=b3b hb;have hse:=b6K s (by omega) (by omega) (fun x hx=>by have:=f5 x hx;omega)
  cases hs:R1 s with
  | false=>
   rw[hs]at hse;have hnew:=b8A s hs (by omega) (by omega) (fun x hx=>by have:=f5 x hx;omega);have hch:=b1Q s hs (by omega) (by omega) (fun x hx=>by have:=f5 x hx;omega);refine oB Tryz.func3 Tryz.ntmps3 Tryz.results3 ?_;refine aW ?_;refine a5 fun K1 hK1=>?_;refine aW ?_ fun K hK=>by simp -dsimp;refine cI (hfit) ?_;simp -dsimp;exact hK
   refine a8 rfl (fun hc0=>?_) (fun hc0=>?_)
   ·simp at hc0
   ·refine b8 ?_;refine zQ (hK1 _ _ ?_);refine aP [1] ?_;refine aW ?_ fun K hK=>by simp -dsimp;refine cI (hnew) ?_;simp -dsimp;exact hK
    refine a5 fun K2 hK2=>?_;refine aW ?_ fun K hK=>by simp -dsimp;refine cI (hse) ?_;simp -dsimp;exact hK
    refine a8 rfl (fun hc1=>?_) (fun hc1=>?_)
    ·refine aW ?_ fun K hK=>by simp -dsimp;refine cI (hch) ?_;simp -dsimp;refine⟨fun w=>c4z _ _ _ _ _ _ w,_,fun w=>c5q _ _ c4B w,?_⟩;simp -dsimp;refine cY (fun hm=>hk) ?_;simp -dsimp;exact hK
     exact a9 (by simp)
    ·simp at hc1
  | true=>
   rw[hs]at hse;have hnew:=b4F s hs (by omega);have hch:=b1A s hs (by omega);have hop:=c0q s hs (by omega);have hst:=b8m hs;have hNl:1≤s.Plan.Nodes.length∧s.Plan.Nodes.length≤300:=(n5 (r5 hs).1).1;have hpl:(u9 s.Plan).length=s.Plan.Nodes.length:=by simp[u9]
   have hcars:=c2B s (a4Q s) (U9 (A4 s)) (a0r (A4 s)) [] [] [] (u9 s.Plan) ⟨List.Pairwise.nil,by simp,by simp⟩;have hpts:=b0V s (a4Q s) (U9 (A4 s)) (a0r (A4 s)) [] [] [] (u9 s.Plan) (by intro e;rw[e]at hpl;simp at hpl;omega) (by omega);have hsame:=b9A (u9 s.Plan) (u9 s.Plan) (by omega);rw[decide_eq_true rfl]at hsame;have hlive:b1r s [] [] ⟨[],u9 s.Plan⟩=lkK++lkD s (a4Q s) (U9 (A4 s)) (a0r (A4 s)) [] [] [] (u9 s.Plan):=b2R s [] [] ⟨[],u9 s.Plan⟩;rw[hlive]at hnew;unfold wA wC at hop;generalize a4Q s=fo at*
   generalize U9 (A4 s)=si at*
   generalize a0r (A4 s)=up at*
   generalize u9 s.Plan=fp at*
   generalize D2 s.Plan s.Profiles=fl at*
   have htk:List.take fp.length (fp.map j4)=fp.map j4:=List.take_of_length_le (by simp);refine a6.of_bodyG Tryz.func3 rfl (by decide) (by simp[Tryz.ntmps3]) ?_;intro J hJ;simp only[Tryz.ntmps3,Tryz.results3];refine gW ?_;refine a7 fun K1 hK1=>?_;refine gW ?_ fun K hK=>by simp -dsimp;refine cI (hfit) ?_;simp -dsimp;exact hK
   refine c3 rfl (fun hc0=>?_) (fun hc0=>?_)
   ·simp at hc0
   ·refine c5 ?_;refine zQ (hK1 _ _ ?_);refine gP [1] ?_;refine gW ?_ fun K hK=>by simp -dsimp;refine cM [] [] (hnew) ?_;simp -dsimp;exact hK
    refine a7 fun K2 hK2=>?_;refine gW ?_ fun K hK=>by simp -dsimp;refine cI (hse) ?_;simp -dsimp;exact hK
    refine c3 rfl (fun hc1=>?_) (fun hc1=>?_)
    ·simp at hc1
    ·refine c5 ?_;refine zQ (hK2 _ _ ?_);refine gP [1,3,4] ?_;refine gW ?_ fun K hK=>by simp -dsimp;refine cI (hop) ?_;simp -dsimp;exact hK
     refine gD ?_ fun K hK=>by simp -dsimp [htk];refine cI (hch) ?_;simp -dsimp [htk];refine cM [1] [2,3,4,5,6,7] (hcars) ?_;simp -dsimp [htk];refine cM [1] [10,11,12,13,14,15] (hpts) ?_;simp -dsimp [htk];refine cY (fun hm=>hsame) ?_;simp -dsimp [htk];refine cY (fun hm=>hk) ?_;simp -dsimp [htk];exact hK
     exact g7 (by simp[R3,v7])
end Go.Tram.Lk
end
section
namespace Go.Tram.Lk
open Go.AM Go.Proofs Go.ChangeShapes Go.WideShapes
theorem l3 {α:Type} {l:List α} (h:l.length=3):∃a b c,l=[a,b,c]:=by match l,h with|[a,b,c],_=>exact⟨a,b,c,rfl⟩
theorem l4 {α:Type} {l:List α} (h:l.length=4):∃a b c d,l=[a,b,c,d]:=by match l,h with|[a,b,c,d],_=>exact⟨a,b,c,d,rfl⟩
theorem l1 {α:Type} {l:List α} (h:l.length=1):∃a,l=[a]:=by match l,h with|[a],_=>exact⟨a,rfl⟩
theorem b9W {n:Nat} {avs:List AV} (h:x9 Tryz.prog (n+4) 85 avs):∃l:List Move,avs=p8 l∧l.length≤maxLen:=by
 obtain⟨hz,h2⟩:=C6 (by kernel_rfl) c4P h;obtain⟨a,rfl⟩:=l1 hz;obtain⟨W,h0,b0,_⟩:=b6c (h2 (0,1,49) (by simp));simp at h0;subst h0;exact⟨W,rfl,b0⟩
theorem c0j {n:Nat} {avs:List AV} (h:x9 Tryz.prog (n+9) 29 avs):∃s:l5,avs=s.cells∧s.Fit:=by
 obtain⟨hz,h2⟩:=C6 (by kernel_rfl) c4d h;obtain⟨a,b,c,d,rfl⟩:=l4 hz;obtain⟨p,h0,hp⟩:=b9f (h2 (0,2,25) (by simp));obtain⟨P,h1,b1,_⟩:=b5Z (h2 (2,1,26) (by simp));obtain⟨els,hl,hb,he⟩:=B9 (by kernel_rfl) c5E (h2 (3,1,27) (by simp));obtain⟨L,rfl,hR⟩:=Y5 (c:=p8) (R:=fun l=>l.length≤maxLen) (fun el hel=>by obtain⟨l,h1,h2⟩:=b9W (he el hel);exact⟨l,h1,h2⟩);rw[List.length_map]at hb;simp at h0 h1 hl;obtain⟨r1,r2⟩:=h0;subst r1 r2 h1 hl;have hm:maxLen=9223372036854775807:=by decide
 exact⟨⟨p,P,L⟩,rfl,⟨by have:=hp.1;simp only[];omega,by have:=hp.2;simp only[];omega,by simp only[];omega,by simp only[];omega⟩⟩
structure Car.Fit (c:Car):Prop where
 n:I64 c.Name
 p:I64 c.Profile
 f:I64 c.Front
 w:c.Way.length≤9223372036854775807
structure Act.Fit (a:Act):Prop where
 n:I64 a.Name
 p:I64 a.Profile
 w:a.Way.length≤9223372036854775807
end Go.Tram.Lk
end
