import Derived.Test.YtibddmpaklcleaaM6
import Derived.OpenShut
import Derived.ProofKit
import Derived.WalkKit
import Derived.Test.YtibddmpaklcleaaRows
set_option maxRecDepth 100000
set_option maxHeartbeats 8000000
set_option linter.unusedVariables false
set_option linter.unusedSimpArgs false
section
namespace Go.Cur
open Go.AM Go.Proofs
theorem c1q (g:Gr) (s:Sta) (l:List Ld) (sv:List Bool) (hnt:o8 g s) (ld:c2d g l) (hl:l.length≤900) (h5:∀p∈l8 g s,p.length≤5) (hsl:sv.length=l.length)
  (hok:(∀i,i<l.length→B8 g s l sv i=false)→leL l sv (O8 g s (tkK l sv)) l.length<0→okS g s (tkK l sv)=true):
  d5 Try.prog 57 [g.av,s.av,lL l,bL sv] (a7F (a6h g s l sv)):=by
 have hbd:=r7 hnt.gr;have hus:=b0X ld sv;obtain⟨N,hnn⟩:∃N:Nat,g.Nodes.toNat=N:=⟨g.Nodes.toNat,rfl⟩;have hn0:0≤g.Nodes:=by omega
 have hnN:g.Nodes=(N:Int):=by omega
 have hcr:=a3q g l sv N hnN (by omega) (by omega) hsl (fun y hy=>by have:=ld.at_ y hy;omega);have hrp:=T2 g s hnt;have hpl:=L9 g s;have hpx:=fun k (hk:k<g.Nodes.toNat)=>a9e (s:=s) hnt hk;have hpa:=fun i p (hp:(l8 g s)[i]?=some p) k (hk:k∈p)=>b8g hnt hp hk;have hlt:=fun p (hp:p∈l8 g s) k (hk:k∈p)=>Z3 hp hk;have hcov:=fun k=>G0 (k:=k) hnt;rw[hnn]at hpx hlt hcov hpl;have f0:C7 N 9:=k9 (by omega) (by omega);have f0b:C7 l.length 2:=k9 (by omega) (by omega);have hcu:∀k,k<N→(a1S N l sv)[k]?=some (igt (tkK l sv) k):=fun k hk=>by rw[a1I hk,a2G]
 generalize a1S N l sv=cu at hcr hcu;obtain⟨L,hL⟩:∃L,L=l8 g s:=⟨_,rfl⟩;have h5':=h5;rw[←hL]at hrp hpl hpx hpa hlt hcov h5;have f1:C7 L.length 9:=k9 (by omega) (by omega);have f1b:C7 L.length 2:=k9 (by omega) (by omega);have z4:=c3f l.length;refine d5.of_body Try.func57 rfl (by decide) (by simp[Try.ntmps57]) ?_;simp only[Try.ntmps57,Try.results57];refine aS fun K hK=>?_;simp -dsimp;apply hK;clear hK K;refine aS fun K hK=>?_;simp -dsimp;refine d6 _ (hrp) (by simp) ?_;simp -dsimp;apply hK;clear hK K;refine aS fun K hK=>?_;simp -dsimp [hn0,hnn,f0];apply hK;clear hK K;refine aS fun K hK=>?_;simp -dsimp;refine d6 _ (hcr) (by simp) ?_;simp -dsimp;apply hK;clear hK K;refine aS fun K hK=>?_;simp -dsimp [f1];apply hK;clear hK K;refine aS fun K hK=>?_;simp -dsimp [f1b];apply hK;clear hK K;refine d4 fun K1 hK1=>?_;refine aS fun K hK=>?_;simp -dsimp;apply hK;clear hK K;refine e7 ?_;refine b8 [2,3,4,5,8,10,11,12,13,14,15] ?_;simp only[zP,Nat.reduceEqDiff,reduceIte];refine g9 [2,3,4,5,8,10,11,12,13,14] (α:=Nat) (fun i=>[(15,I i)]) (fun i=>[some (.els 4 [g.cells]),some (.els 2 [s.cells]),some (.els 4 [[I 0,I 0,I 0,I 0]]),some (.els 1 ((paR N L (L.take i).flatten).map i9)),some (.els 1 ((suR (tkK l sv) L i 0).map i9)),some (.els 1 ((alR g s L i).map i8))]) (fun i=>i≤L.length) (fun i=>L.length-i) 0 ?_ ?_ ?_
 ·exact Nat.zero_le _
 ·exact e8 [some 0,some 1,some 2,some 3,some 4,some 5] rfl (by simp) (by simp[b5M,b5A,b6p])
 rintro i i1;simp only[zP,Nat.reduceEqDiff,reduceIte];refine d4 fun K2 hK2=>?_;refine aS fun K hK=>?_;simp -dsimp;apply hK;clear hK K;refine d9 rfl (fun hc0=>?_) (fun hc0=>?_)
 ·have hil:i<L.length:=by simpa using hc0
  have wi:=zW i (by omega);obtain⟨p,hp⟩:∃p,L[i]?=some p:=⟨_,List.getElem?_eq_getElem hil⟩;have hpm:=List.mem_of_getElem? hp;have hul:=r9 p;have hp5:=h5 p hpm;have hfd:=R5 g s (upN p) hnt.sf (by omega) (by omega);have hals:=b9O (g:=g) (s:=s) hp;have hall:=b9P (g:=g) (s:=s) (L:=L) (i:=i);generalize alR g s L i=AR at hals hall ⊢;have hgp:L[i]=p:=Option.some.inj (by rw[←List.getElem?_eq_getElem hil];exact hp);refine f6 ?_;simp only[zT,reduceIte,Nat.reduceEqDiff];refine hK2 _ _ ?_;refine b8 [2,3,4,5,8,10,11,12,13,14,15] ?_;simp only[zP,Nat.reduceEqDiff,reduceIte];refine d4 fun K3 hK3=>?_;refine e7 ?_;refine v5 l6 rfl fun K hK=>?_;simp -dsimp [hgp,pAV,hil,hall];refine d6 _ (hfd) (by simp) ?_;simp -dsimp [hgp,pAV,hil,hall];refine hK _ _ _ (by decide+kernel) ?_;clear hK K;refine aS fun K hK=>?_;simp -dsimp;apply hK;clear hK K;refine e7 ?_;refine b8 [2,3,4,5,8,10,11,12,13,14,15,16] ?_;simp only[zP,Nat.reduceEqDiff,reduceIte];refine g9 [2,3,4,5,8,10,11,12,13,14,15] (α:=Nat) (fun k=>[(16,I k)]) (fun k=>[some (.els 4 [g.cells]),some (.els 2 [s.cells]),some (.els 4 [[I 0,I 0,I 0,I 0]]),some (.els 1 ((paR N L ((L.take i).flatten++p.take k)).map i9)),some (.els 1 ((suR (tkK l sv) L i (B3 (tkK l sv) (p.take k))).map i9)),some (.els 1 ((alR g s L (i+1)).map i8))]) (fun k=>k≤p.length) (fun k=>p.length-k) 0 ?_ ?_ ?_
  ·exact Nat.zero_le _
  ·exact e8 [some 0,some 1,some 2,some 3,some 4,some 5] rfl (by simp) (by simp[←hals,List.map_set,B3,sm])
  rintro k k1;simp only[zP,Nat.reduceEqDiff,reduceIte];refine d4 fun K4 hK4=>?_;refine aS fun K hK=>?_;simp -dsimp [hp,pAV,hul];apply hK;clear hK K;refine d9 rfl (fun hc1=>?_) (fun hc1=>?_)
  ·have hkl:k<p.length:=by simpa [hul]using hc1
   have wk:=zW k (by omega);obtain⟨x,hx⟩:∃x,p[k]?=some x:=⟨_,List.getElem?_eq_getElem hkl⟩;have gx:=F1 hx;have hxm:=List.mem_of_getElem? hx;have hxN:=hlt p hpm x hxm;have gc:=hcu x hxN;have hps:=b8G (N:=N) (done:=(L.take i).flatten++p.take k) (hpa i p hp x hxm);have hpl2:=c0v (N:=N) (L:=L) (done:=(L.take i).flatten++p.take k);have hss:=b8K (us:=tkK l sv) (L:=L) (i:=i) (c:=B3 (tkK l sv) (p.take k)) (c':=B3 (tkK l sv) (p.take (k+1)));have hsg:=c0d (us:=tkK l sv) (c:=B3 (tkK l sv) (p.take k)) hil;have hsl2:=b8B (us:=tkK l sv) (L:=L) (i:=i) (c:=B3 (tkK l sv) (p.take k));have hsn:=X2 (us:=tkK l sv) hx;have hsb:=a2V hus (p.take k);rw[List.length_take]at hsb;have hux:=hus x;have hpt:p.take (k+1)=p.take k++[x]:=by rw[List.take_add_one,hx];rfl
   rw[List.append_assoc,←hpt]at hps;rw[hsn]at hss;have ws:IntKind.i64.wrap (B3 (tkK l sv) (p.take k)+igt (tkK l sv) x)=B3 (tkK l sv) (p.take k)+igt (tkK l sv) x:=i7 (by omega) (by omega);generalize paR N L ((L.take i).flatten++p.take k)=PR at hps hpl2 ⊢;generalize suR (tkK l sv) L i (B3 (tkK l sv) (p.take k))=SR at hss hsg hsl2 ⊢;generalize B3 (tkK l sv) (p.take k)=sm0 at hsg hsn hsb ws hss;have hal:i<SR.length:=by omega
   have hga:SR[i]=sm0:=Option.some.inj (by rw[←List.getElem?_eq_getElem hal];exact hsg);refine f6 ?_;simp only[zT,reduceIte,Nat.reduceEqDiff];refine hK4 _ _ ?_;refine b8 [2,3,4,5,8,10,11,12,13,14,15,16] ?_;simp only[zP,Nat.reduceEqDiff,reduceIte];refine d4 fun K5 hK5=>?_;refine e7 ?_;refine aS fun K hK=>?_;simp -dsimp [hp,pAV,gx,hpl2,hxN];apply hK;clear hK K;refine E1 l6 rfl fun K hK=>?_;simp -dsimp [hgp,pAV,gx,gc,hil,hsl2,hal,hga,ws];refine hK _ _ _ (by decide+kernel) ?_;clear hK K;simp only[zT,reduceIte,Nat.reduceEqDiff];refine hK5 _ _ ?_;refine b8 [2,3,4,5,8,10,11,12,13,14,15,16] ?_;simp only[zP,Nat.reduceEqDiff,reduceIte];refine aR fun K hK=>?_;simp -dsimp [wk];apply hK;clear hK K;simp only[zT,reduceIte,Nat.reduceEqDiff];exact⟨k+1,by omega,by omega,e8 [some 0,some 1,some 2,some 3,some 4,some 5] rfl (by simp) (by simp[←hps,←hss,hsn,List.map_set])⟩
  ·have hkl:¬k<p.length:=by simpa [hul]using hc1
   have hfl2:(L.take (i+1)).flatten=(L.take i).flatten++p:=by rw[List.take_add_one,hp,List.flatten_append];simp
   rw[show p.take k=p from List.take_of_length_le (by omega),←hfl2,b6K hp];refine j9 ?_;simp only[zT,reduceIte,Nat.reduceEqDiff];refine hK3 _ _ ?_;refine b8 [2,3,4,5,8,10,11,12,13,14,15] ?_;simp only[zP,Nat.reduceEqDiff,reduceIte];refine aR fun K hK=>?_;simp -dsimp [wi];apply hK;clear hK K;simp only[zT,reduceIte,Nat.reduceEqDiff];exact⟨i+1,by omega,by omega,e8 [some 0,some 1,some 2,some 3,some 4,some 5] rfl (by simp) (by simp)⟩
 ·have hil :i=L.length:=by have hx:¬i<L.length:=(by simpa using hc0);omega
  rw[hil,List.take_length];have gPA:=fun k (hk:k<N)=>c0w (L:=L) hk (hcov k hk);have gSU:=fun q p (hq:L[q]?=some p)=>b6D (us:=tkK l sv) (c:=0) hq;have gAL:=fun q p (hq:L[q]?=some p)=>b6x (g:=g) (s:=s) hq;generalize paR N L L.flatten=PR at gPA ⊢;generalize suR (tkK l sv) L L.length 0=SR at gSU ⊢;generalize alR g s L L.length=AR at gAL ⊢;refine j9 ?_;simp only[zT,reduceIte,Nat.reduceEqDiff];refine hK1 _ _ ?_;refine b8 [2,3,4,5,8,10,11,13,14] ?_;simp only[zP,Nat.reduceEqDiff,reduceIte];refine d4 fun K6 hK6=>?_;refine aS fun K hK=>?_;simp -dsimp;apply hK;clear hK K;refine e7 ?_;refine b8 [2,3,4,5,8,10,11,13,14,17] ?_;simp only[zP,Nat.reduceEqDiff,reduceIte];refine g9 [2,3,4,5,8,10,11,13,14] (α:=Nat) (fun i=>[(17,I i)]) (fun i=>[some (.els 4 [g.cells]),some (.els 2 [s.cells]),some (.els 4 [[I 0,I 0,I 0,I 0]]),some (.els 1 (PR.map i9)),some (.els 1 (SR.map i9)),some (.els 1 (AR.map i8))]) (fun i=>i≤l.length∧∀j,j<i→B8 g s l sv j=false) (fun i=>l.length-i) 0 ?_ ?_ ?_
  ·exact⟨Nat.zero_le _,fun j h=>by omega⟩
  ·exact e8 [some 0,some 1,some 2,some 3,some 4,some 5] rfl (by simp) (by simp)
  rintro i ⟨i1,i2⟩;simp only[zP,Nat.reduceEqDiff,reduceIte];refine d4 fun K7 hK7=>?_;refine aS fun K hK=>?_;simp -dsimp;apply hK;clear hK K;refine d9 rfl (fun hc2=>?_) (fun hc2=>?_)
  ·have hil:i<l.length:=by simpa using hc2
   have wi:=zW i (by omega);have gb:=s7 (l:=sv) (k:=i) (by omega);have gl:=t6 hil;have hat:=ld.at_ _ (List.mem_of_getElem? gl);obtain⟨kA,hkA⟩:∃kA:Nat,(ldA l i).At=kA:=⟨(ldA l i).At.toNat,by omega⟩;have hkt:(ldA l i).At.toNat=kA:=by omega
   have hkN:kA<N:=by omega
   have hq:=hpx kA hkN;have gpa:=gPA kA hkN;have gal:=gAL _ _ hq;have hdb:B8 g s l sv i=(bAt sv i&&(decide ((ldA l i).Units≠0)&&decide ((n8 g s (upN (s6 g s kA))).length=0))):=by unfold B8;rw[hkt]
   have hpxl:=(List.getElem?_eq_some_iff.1 hq).1;refine f6 ?_;simp only[zT,reduceIte,Nat.reduceEqDiff];refine hK7 _ _ ?_;refine b8 [2,3,4,5,8,10,11,13,14,17] ?_;simp only[zP,Nat.reduceEqDiff,reduceIte];refine d4 fun K8 hK8=>?_;refine e7 ?_;refine aS fun K hK=>?_;simp -dsimp [gb,hkA,hkN,gpa,gal,hpxl];refine j8 ((ldA l i).cells) (fun _=>by simp[gl]) ?_;simp -dsimp [gb,hkA,hkN,gpa,gal,hpxl];refine j8 ((ldA l i).cells) (fun _=>by simp[gl]) ?_;simp -dsimp [gb,hkA,hkN,gpa,gal,hpxl];apply hK;clear hK K;refine d9 rfl (fun hc3=>?_) (fun hc3=>?_)
   ·refine aS fun K hK=>?_;simp -dsimp;apply hK;clear hK K;have hdt:B8 g s l sv i=true:=by
     rw[hdb];have h0:decide ((n8 g s (upN (s6 g s kA))).length=0)= !decide (0<(n8 g s (upN (s6 g s kA))).length):=by rw[←decide_not];exact decide_eq_decide.2 (by omega)
     rw[h0];revert hc3;cases bAt sv i<;>simp
    have hcs:a6h g s l sv=some ⟨1,i,⟨0,1⟩⟩:=by unfold a6h;rw[find_some hil hdt i2]
    exact g7 (by rw[hcs];simp[a7F])
   ·have hdf:B8 g s l sv i=false:=by
     rw[hdb];have h0:decide ((n8 g s (upN (s6 g s kA))).length=0)= !decide (0<(n8 g s (upN (s6 g s kA))).length):=by rw[←decide_not];exact decide_eq_decide.2 (by omega)
     rw[h0];revert hc3;cases bAt sv i<;>simp
    refine f6 ?_;simp only[zT,reduceIte,Nat.reduceEqDiff];refine hK8 _ _ ?_;refine b8 [2,3,4,5,8,10,11,13,14,17] ?_;simp only[zP,Nat.reduceEqDiff,reduceIte];refine aR fun K hK=>?_;simp -dsimp [wi];apply hK;clear hK K;simp only[zT,reduceIte,Nat.reduceEqDiff];exact⟨i+1,⟨by omega,fun j hj=>by rcases Nat.lt_succ_iff_lt_or_eq.1 hj with h|rfl;exact i2 j h;exact hdf⟩,by omega,e8 [some 0,some 1,some 2,some 3,some 4,some 5] rfl (by simp) (by simp)⟩
  ·have hil :i=l.length:=by have hx:¬i<l.length:=(by simpa using hc2);omega
   rw[hil]at i2;have hdead:=b1G i2;refine j9 ?_;simp only[zT,reduceIte,Nat.reduceEqDiff];refine hK6 _ _ ?_;refine b8 [2,3,4,5,8,10,11,13] ?_;simp only[zP,Nat.reduceEqDiff,reduceIte];refine aS fun K hK=>?_;simp -dsimp [f0b];apply hK;clear hK K;refine d4 fun K9 hK9=>?_;refine aS fun K hK=>?_;simp -dsimp;apply hK;clear hK K;refine e7 ?_;refine b8 [2,3,4,5,8,10,11,13,18,19] ?_;simp only[zP,Nat.reduceEqDiff,reduceIte];refine g9 [2,3,4,5,8,10,11,13,18] (α:=Nat) (fun i=>[(19,I i)]) (fun i=>[some (.els 4 [g.cells]),some (.els 2 [s.cells]),some (.els 4 [[I 0,I 0,I 0,I 0]]),some (.els 1 (PR.map i9)),some (.els 1 (SR.map i9)),some (.els 1 (AR.map i8)),some (.els 1 (((ofR l.length (fun q=>bAt sv q&&O8 g s (tkK l sv) (ldA l q)) (fun _=>false) i)).map i8))]) (fun i=>i≤l.length) (fun i=>l.length-i) 0 ?_ ?_ ?_
   ·exact Nat.zero_le _
   ·exact e8 [some 0,some 1,some 2,some 3,some 4,some 5,some 6] rfl (by simp) (by simp[z4,a9Y])
   rintro i i1;simp only[zP,Nat.reduceEqDiff,reduceIte];refine d4 fun K10 hK10=>?_;refine aS fun K hK=>?_;simp -dsimp;apply hK;clear hK K;refine d9 rfl (fun hc4=>?_) (fun hc4=>?_)
   ·have hil:i<l.length:=by simpa using hc4
    have wi:=zW i (by omega);have gb:=s7 (l:=sv) (k:=i) (by omega);have gl:=t6 hil;have hat:=ld.at_ _ (List.mem_of_getElem? gl);obtain⟨kA,hkA⟩:∃kA:Nat,(ldA l i).At=kA:=⟨(ldA l i).At.toNat,by omega⟩;have hkt:(ldA l i).At.toNat=kA:=by omega
    have hkN:kA<N:=by omega
    have hq:=hpx kA hkN;have hpxl:=(List.getElem?_eq_some_iff.1 hq).1;have gpa:=gPA kA hkN;have gsu:=gSU _ _ hq;have hrb:O8 g s (tkK l sv) (ldA l i)=(decide ((ldA l i).Units<0)&&decide (B3 (tkK l sv) (s6 g s kA)<0)):=by unfold O8;rw[hkt]
    have hos:=b4Q (n:=l.length) (f:=fun q=>bAt sv q&&O8 g s (tkK l sv) (ldA l q)) (h:=fun _=>false) (i:=i) rfl;have hol:=a4U (n:=l.length) (f:=fun q=>bAt sv q&&O8 g s (tkK l sv) (ldA l q)) (h:=fun _=>false) (i:=i);simp only[hrb]at hos;generalize ofR l.length (fun q=>bAt sv q&&O8 g s (tkK l sv) (ldA l q)) (fun _=>false) i=OR at hos hol ⊢;refine f6 ?_;simp only[zT,reduceIte,Nat.reduceEqDiff];refine hK10 _ _ ?_;refine b8 [2,3,4,5,8,10,11,13,18,19] ?_;simp only[zP,Nat.reduceEqDiff,reduceIte];refine d4 fun K11 hK11=>?_;refine e7 ?_;refine aR fun K hK=>?_;simp -dsimp [gb,hkA,hkN,gpa,gsu,hpxl,hol,hil];refine j8 ((ldA l i).cells) (fun _=>by simp[gl]) ?_;simp -dsimp [gb,hkA,hkN,gpa,gsu,hpxl,hol,hil];refine j8 ((ldA l i).cells) (fun _=>by simp[gl]) ?_;simp -dsimp [gb,hkA,hkN,gpa,gsu,hpxl,hol,hil];apply hK;clear hK K;simp only[zT,reduceIte,Nat.reduceEqDiff];refine hK11 _ _ ?_;refine b8 [2,3,4,5,8,10,11,13,18,19] ?_;simp only[zP,Nat.reduceEqDiff,reduceIte];refine aR fun K hK=>?_;simp -dsimp [wi];apply hK;clear hK K;simp only[zT,reduceIte,Nat.reduceEqDiff];exact⟨i+1,by omega,by omega,e8 [some 0,some 1,some 2,some 3,some 4,some 5,some 6] rfl (by simp) (by simp[←hos,List.map_set,Bool.and_assoc])⟩
   ·have hil:i=l.length:=by have hx:¬i<l.length:=(by simpa using hc4);omega
    rw[hil];obtain⟨OR,hOR⟩:∃OR,OR=ofR l.length (fun q=>bAt sv q&&O8 g s (tkK l sv) (ldA l q)) (fun _=>false) l.length:=⟨_,rfl⟩;have hol:OR.length=l.length:=by rw[hOR,a4U]
    have hwo:=b0q l OR (by omega) hol;rw[b1J (sv:=sv) (q:=O8 g s (tkK l sv)) (fun i hi=>by rw[hOR,a8p,b4I hi])]at hwo;obtain⟨rt,hrt⟩:∃rt,rt=leL l sv (O8 g s (tkK l sv)) l.length:=⟨_,rfl⟩;have hrb:=O4 l sv (O8 g s (tkK l sv)) l.length;rw[←hrt]at hwo hrb hok;have hle:l.length≤OR.length:=by omega
    have htk:List.take l.length (OR.map i8)=OR.map i8:=List.take_of_length_le (by rw[List.length_map];omega);have hofn:=a8p (n:=l.length) (f:=fun q=>bAt sv q&&O8 g s (tkK l sv) (ldA l q)) (h:=fun _=>false);rw[←hOR]at hofn ⊢;refine j9 ?_;simp only[zT,reduceIte,Nat.reduceEqDiff];refine hK9 _ _ ?_;refine b8 [2,3,4,5,8,10,11,18] ?_;simp only[zP,Nat.reduceEqDiff,reduceIte];refine d4 fun K12 hK12=>?_;refine aS fun K hK=>?_;simp -dsimp [hle,htk];refine d6 _ (hwo) (by simp) ?_;simp -dsimp [hle,htk];apply hK;clear hK K;refine aS fun K hK=>?_;simp -dsimp;apply hK;clear hK K;refine d9 rfl (fun hc5=>?_) (fun hc5=>?_)
    ·have hr0:0≤rt:=by simpa using hc5
     have gl:=t6 (l:=l) (k:=rt.toNat) (by omega);have hrl:rt.toNat<l.length:=by omega
     refine aS fun K hK=>?_;simp -dsimp [hr0,gl];apply hK;clear hK K;have hcs:a6h g s l sv=some ⟨2,rt,⟨(ldA l rt.toNat).Units,1⟩⟩:=by unfold a6h;rw[hdead];simp only;rw[←hrt,if_pos hr0]
     exact g7 (by rw[hcs];simp[a7F])
    ·have hr0:¬0≤rt:=by simpa using hc5
     have hokk:=hok i2 (by omega);have hrs:=a9u g s l sv hnt (by omega) hsl ld h5';rw[if_pos hokk,hnn]at hrs;have hvt:=fun k (hk:k<N)=>b7h hnt h5' hus hokk (k:=k) (by omega);have gVS:=fun k (hk:k<N)=>a4W (vf:=vfS g s (tkK l sv)) hk;have hvlen:(vlA N (vfS g s (tkK l sv))).length=N:=by simp[vlA]
     have hfl:=fun i (hi:i<g.Feeds.length)=>b7d (vf:=vfS g s (tkK l sv)) hnt (fun k hk=>hvt k (by omega)) hi;have gFS:=fun i (hi:i<g.Feeds.length)=>b7R (g:=g) (s:=s) (vf:=vfS g s (tkK l sv)) hi;have hflen:(flA g s (vfS g s (tkK l sv))).length=g.Feeds.length:=by simp[flA]
     obtain⟨vf,hvf⟩:∃vf,vf=vfS g s (tkK l sv):=⟨_,rfl⟩;rw[←hvf]at hvt gVS hvlen hfl gFS hflen hrs;obtain⟨VS,hVS⟩:∃VS,VS=vlA N vf:=⟨_,rfl⟩;obtain⟨FS,hFS⟩:∃FS,FS=flA g s vf:=⟨_,rfl⟩;rw[←hVS]at gVS hvlen hrs;rw[←hFS]at gFS hflen hrs;refine f6 ?_;simp only[zT,reduceIte,Nat.reduceEqDiff];refine hK12 _ _ ?_;refine b8 [2,3,4,5,8,10,11,18] ?_;simp only[zP,Nat.reduceEqDiff,reduceIte];refine aS fun K hK=>?_;simp -dsimp;refine d6 _ (hrs) (by simp) ?_;simp -dsimp;apply hK;clear hK K;refine aS fun K hK=>?_;simp -dsimp [f1b];apply hK;clear hK K;refine d4 fun K13 hK13=>?_;refine aS fun K hK=>?_;simp -dsimp;apply hK;clear hK K;refine e7 ?_;refine b8 [2,3,4,8,11,18,21,22,24,25] ?_;simp only[zP,Nat.reduceEqDiff,reduceIte];refine g9 [2,3,4,8,11,18,21,22,24] (α:=Nat) (fun i=>[(25,I i)]) (fun i=>[some (.els 4 [g.cells]),some (.els 2 [s.cells]),some (.els 4 [[I 0,I 0,I 0,I 0]]),some (.els 1 (PR.map i9)),some (.els 1 (SR.map i9)),some (.els 1 (AR.map i8)),some (.els 1 (OR.map i8)),some (.els 1 ((lwR L.length (fun j=>a2y g vf l sv j) (fun j=>pix L (ldA l j).At.toNat) i).map i8))]) (fun i=>i≤l.length) (fun i=>l.length-i) 0 ?_ ?_ ?_
     ·exact Nat.zero_le _
     ·exact e8 [some 0,some 1,some 2,some 3,some 4,some 5,some 6,some 7] rfl (by simp) (by simp[b6Q])
     rintro i i1;simp only[zP,Nat.reduceEqDiff,reduceIte];refine d4 fun K14 hK14=>?_;refine aS fun K hK=>?_;simp -dsimp;apply hK;clear hK K;refine d9 rfl (fun hc6=>?_) (fun hc6=>?_)
     ·have hil:i<l.length:=by simpa using hc6
      have wi:=zW i (by omega);have gb:=s7 (l:=sv) (k:=i) (by omega);have gl:=t6 hil;have hat:=ld.at_ _ (List.mem_of_getElem? gl);obtain⟨kA,hkA⟩:∃kA:Nat,(ldA l i).At=kA:=⟨(ldA l i).At.toNat,by omega⟩;have hkt:(ldA l i).At.toNat=kA:=by omega
      have hkN:kA<N:=by omega
      have hq:=hpx kA hkN;have hpxl:=(List.getElem?_eq_some_iff.1 hq).1;have gpa:=gPA kA hkN;have gv:=gVS kA hkN;have hvb:=hvt kA hkN;have wm:IntKind.i64.wrap (g.Least*(vf kA).Den)=g.Least*(vf kA).Den:=i7 (by have:=Int.mul_nonneg (a:=g.Least) (b:=(vf kA).Den) (by omega) (by omega);omega) (by have:=Int.mul_le_mul (a:=g.Least) (b:=(vf kA).Den) hbd.2.2.2.2.2 hvb.2.1 (by omega) (by omega);omega);have hlc:a2y g vf l sv i=(bAt sv i&&(decide (0<(ldA l i).Units)&&decide ((vf kA).Num<g.Least*(vf kA).Den))):=by unfold a2y;rw[hkt]
      have hon:=c1T (m:=L.length) (C:=fun j=>a2y g vf l sv j) (kx:=fun j=>pix L (ldA l j).At.toNat) (i:=i);have hoff:=b8Y (m:=L.length) (C:=fun j=>a2y g vf l sv j) (kx:=fun j=>pix L (ldA l j).At.toNat) (i:=i);have hlwl:=b9y (m:=L.length) (C:=fun j=>a2y g vf l sv j) (kx:=fun j=>pix L (ldA l j).At.toNat) (i:=i);simp only[hkt]at hon;generalize lwR L.length (fun j=>a2y g vf l sv j) (fun j=>pix L (ldA l j).At.toNat) i=LW at hon hoff hlwl ⊢;refine f6 ?_;simp only[zT,reduceIte,Nat.reduceEqDiff];refine hK14 _ _ ?_;refine b8 [2,3,4,8,11,18,21,22,24,25] ?_;simp only[zP,Nat.reduceEqDiff,reduceIte];refine d4 fun K15 hK15=>?_;refine e7 ?_;refine aS fun K hK=>?_;simp -dsimp [gl,hkA,gv];apply hK;clear hK K;refine aS fun K hK=>?_;simp -dsimp [gb,wm];refine j8 ((ldA l i).cells) (fun _=>by simp[gl]) ?_;simp -dsimp [gb,wm];apply hK;clear hK K;refine d9 rfl (fun hc7=>?_) (fun hc7=>?_)
      ·refine aR fun K hK=>?_;simp -dsimp [gl,hkA,gpa,hpxl,hkN,hlwl];apply hK;clear hK K;simp only[zT,reduceIte,Nat.reduceEqDiff];refine hK15 _ _ ?_;refine b8 [2,3,4,8,11,18,21,22,24,25] ?_;simp only[zP,Nat.reduceEqDiff,reduceIte];refine aR fun K hK=>?_;simp -dsimp [wi];apply hK;clear hK K;simp only[zT,reduceIte,Nat.reduceEqDiff];have hlt:a2y g vf l sv i=true:=by rw[hlc,←Bool.and_assoc];exact hc7
       exact⟨i+1,by omega,by omega,e8 [some 0,some 1,some 2,some 3,some 4,some 5,some 6,some 7] rfl (by simp) (by simp[←hon hlt,List.map_set])⟩
      ·refine f6 ?_;simp only[zT,reduceIte,Nat.reduceEqDiff];refine hK15 _ _ ?_;refine b8 [2,3,4,8,11,18,21,22,24,25] ?_;simp only[zP,Nat.reduceEqDiff,reduceIte];refine aR fun K hK=>?_;simp -dsimp [wi];apply hK;clear hK K;simp only[zT,reduceIte,Nat.reduceEqDiff];have hlt:a2y g vf l sv i=false:=by rw[hlc,←Bool.and_assoc];exact hc7
       exact⟨i+1,by omega,by omega,e8 [some 0,some 1,some 2,some 3,some 4,some 5,some 6,some 7] rfl (by simp) (by simp[hoff hlt])⟩
     ·have hil:i=l.length:=by have hx:¬i<l.length:=(by simpa using hc6);omega
      rw[hil,hofn];have gLW:=fun q (hq:q<L.length)=>b8U (m:=L.length) (C:=fun j=>a2y g vf l sv j) (kx:=fun j=>pix L (ldA l j).At.toNat) (i:=l.length) hq;generalize lwR L.length (fun j=>a2y g vf l sv j) (fun j=>pix L (ldA l j).At.toNat) l.length=LW at gLW ⊢;refine j9 ?_;simp only[zT,reduceIte,Nat.reduceEqDiff];refine hK13 _ _ ?_;refine b8 [2,3,4,8,11,18,21,22,24] ?_;simp only[zP,Nat.reduceEqDiff,reduceIte];refine d4 fun K16 hK16=>?_;refine aS fun K hK=>?_;simp -dsimp;apply hK;clear hK K;refine e7 ?_;refine b8 [2,3,4,8,11,18,21,22,24,27] ?_;simp only[zP,Nat.reduceEqDiff,reduceIte];refine g9 [2,3,4,8,11,18,21,22,24] (α:=Nat) (fun i=>[(27,I i)]) (fun i=>[some (.els 4 [g.cells]),some (.els 2 [s.cells]),some (.els 4 [[I 0,I 0,I 0,I 0]]),some (.els 1 (PR.map i9)),some (.els 1 (SR.map i9)),some (.els 1 (AR.map i8)),some (.els 1 ((ofR l.length (fun q=>bAt sv q&&Y2 (M0 g s vf l sv l.length) (ldA l q)) (fun q=>bAt sv q&&O8 g s (tkK l sv) (ldA l q)) i).map i8)),some (.els 1 (LW.map i8))]) (fun i=>i≤l.length) (fun i=>l.length-i) 0 ?_ ?_ ?_
      ·exact Nat.zero_le _
      ·exact e8 [some 0,some 1,some 2,some 3,some 4,some 5,some 6,some 7] rfl (by simp) (by simp[a9Y])
      rintro i i1;simp only[zP,Nat.reduceEqDiff,reduceIte];refine d4 fun K17 hK17=>?_;refine aS fun K hK=>?_;simp -dsimp;apply hK;clear hK K;refine d9 rfl (fun hc8=>?_) (fun hc8=>?_)
      ·have hil:i<l.length:=by simpa using hc8
       have wi:=zW i (by omega);have gb:=s7 (l:=sv) (k:=i) (by omega);have gl:=t6 hil;have hat:=ld.at_ _ (List.mem_of_getElem? gl);obtain⟨kA,hkA⟩:∃kA:Nat,(ldA l i).At=kA:=⟨(ldA l i).At.toNat,by omega⟩;have hkt:(ldA l i).At.toNat=kA:=by omega
       have hkN:kA<N:=by omega
       have hq:=hpx kA hkN;have hpxl:=(List.getElem?_eq_some_iff.1 hq).1;have gpa:=gPA kA hkN;have glw:=gLW _ hpxl;have hlb:((List.range l.length).any fun j=>a2y g vf l sv j&&decide (pix L (ldA l j).At.toNat=pix L kA))=ibt (M0 g s vf l sv l.length) (ldA l i).At:=by
        rw[a9f];refine a9i fun j hj=>?_;have hjl:=List.mem_range.1 hj;have hatj:=ld.at_ _ (List.mem_of_getElem? (t6 hjl))
        congr 1
        refine decide_eq_decide.2 ?_;rw[W4,hkt,hL,b8C hnt (by omega) (by omega)];exact⟨fun h=>⟨by omega,h⟩,fun h=>h.2⟩
       rw[hlb]at glw;have hos:=b4Q (n:=l.length) (f:=(fun q=>bAt sv q&&Y2 (M0 g s vf l sv l.length) (ldA l q))) (h:=(fun q=>bAt sv q&&O8 g s (tkK l sv) (ldA l q))) (i:=i) (b:=bAt sv i&&(decide (0<(ldA l i).Units)&&ibt (M0 g s vf l sv l.length) (ldA l i).At)) rfl;have hol2:=a4U (n:=l.length) (f:=(fun q=>bAt sv q&&Y2 (M0 g s vf l sv l.length) (ldA l q))) (h:=(fun q=>bAt sv q&&O8 g s (tkK l sv) (ldA l q))) (i:=i);generalize ofR l.length (fun q=>bAt sv q&&Y2 (M0 g s vf l sv l.length) (ldA l q)) (fun q=>bAt sv q&&O8 g s (tkK l sv) (ldA l q)) i=OR2 at hos hol2 ⊢;generalize ibt (M0 g s vf l sv l.length) (ldA l i).At=ib at glw hos;refine f6 ?_;simp only[zT,reduceIte,Nat.reduceEqDiff];refine hK17 _ _ ?_;refine b8 [2,3,4,8,11,18,21,22,24,27] ?_;simp only[zP,Nat.reduceEqDiff,reduceIte];refine d4 fun K18 hK18=>?_;refine e7 ?_;refine aR fun K hK=>?_;simp -dsimp [gb,hkA,hkN,gpa,glw,hpxl,hol2,hil];refine j8 ((ldA l i).cells) (fun _=>by simp[gl]) ?_;simp -dsimp [gb,hkA,hkN,gpa,glw,hpxl,hol2,hil];refine j8 ((ldA l i).cells) (fun _=>by simp[gl]) ?_;simp -dsimp [gb,hkA,hkN,gpa,glw,hpxl,hol2,hil];apply hK;clear hK K;simp only[zT,reduceIte,Nat.reduceEqDiff];refine hK18 _ _ ?_;refine b8 [2,3,4,8,11,18,21,22,24,27] ?_;simp only[zP,Nat.reduceEqDiff,reduceIte];refine aR fun K hK=>?_;simp -dsimp [wi];apply hK;clear hK K;simp only[zT,reduceIte,Nat.reduceEqDiff];exact⟨i+1,by omega,by omega,e8 [some 0,some 1,some 2,some 3,some 4,some 5,some 6,some 7] rfl (by simp) (by simp[←hos,List.map_set,Bool.and_assoc])⟩
      ·have hil:i=l.length:=by have hx:¬i<l.length:=(by simpa using hc8);omega
       rw[hil];obtain⟨OL,hOL⟩:∃OL,OL=ofR l.length (fun q=>bAt sv q&&Y2 (M0 g s vf l sv l.length) (ldA l q)) (fun q=>bAt sv q&&O8 g s (tkK l sv) (ldA l q)) l.length:=⟨_,rfl⟩;have hol2:OL.length=l.length:=by rw[hOL,a4U]
       have hwo2:=b0q l OL (by omega) hol2;rw[b1J (sv:=sv) (q:=Y2 (M0 g s vf l sv l.length)) (fun i hi=>by rw[hOL,a8p,b4I hi])]at hwo2;obtain⟨lo,hlo⟩:∃lo,lo=leL l sv (Y2 (M0 g s vf l sv l.length)) l.length:=⟨_,rfl⟩;have hlb:=O4 l sv (Y2 (M0 g s vf l sv l.length)) l.length;rw[←hlo]at hwo2 hlb;have hle2:l.length≤OL.length:=by omega
       have htk2:List.take l.length (OL.map i8)=OL.map i8:=List.take_of_length_le (by rw[List.length_map];omega);rw[←hOL];refine j9 ?_;simp only[zT,reduceIte,Nat.reduceEqDiff];refine hK16 _ _ ?_;refine b8 [2,4,8,18,21,22] ?_;simp only[zP,Nat.reduceEqDiff,reduceIte];refine d4 fun K19 hK19=>?_;refine aS fun K hK=>?_;simp -dsimp [hle2,htk2];refine d6 _ (hwo2) (by simp) ?_;simp -dsimp [hle2,htk2];apply hK;clear hK K;refine aS fun K hK=>?_;simp -dsimp;apply hK;clear hK K;refine d9 rfl (fun hc9=>?_) (fun hc9=>?_)
       ·have hl0:0≤lo:=by simpa using hc9
        have gl:=t6 (l:=l) (k:=lo.toNat) (by omega);have hat:=ld.at_ _ (List.mem_of_getElem? gl);obtain⟨kA,hkA⟩:∃kA:Nat,(ldA l lo.toNat).At=kA:=⟨(ldA l lo.toNat).At.toNat,by omega⟩;have hkt:(ldA l lo.toNat).At.toNat=kA:=by omega
        have hkN:kA<N:=by omega
        have gv:=gVS kA hkN;have hll:lo.toNat<l.length:=by omega
        refine aS fun K hK=>?_;simp -dsimp [hl0,gl,hkA,gv];apply hK;clear hK K;have hcs:a6h g s l sv=some ⟨3,lo,vf kA⟩:=by unfold a6h;rw[hdead];simp only;rw[←hrt,if_neg hr0,←hvf,←hlo,if_pos hl0,hkt]
        exact g7 (by rw[hcs];simp[a7F])
       ·have hl0:¬0≤lo:=by simpa using hc9
        refine f6 ?_;simp only[zT,reduceIte,Nat.reduceEqDiff];refine hK19 _ _ ?_;refine b8 [4,8,22] ?_;simp only[zP,Nat.reduceEqDiff,reduceIte];refine aS fun K hK=>?_;simp -dsimp;apply hK;clear hK K;refine d4 fun K20 hK20=>?_;refine aS fun K hK=>?_;simp -dsimp;apply hK;clear hK K;refine e7 ?_;refine b8 [4,8,22,29,30] ?_;simp only[zP,Nat.reduceEqDiff,reduceIte];refine g9 [4,8,22] (α:=Nat) (fun k=>[(29,I (trL g FS k).1),(30,I k)]) (fun k=>[some (.els 4 [g.cells]),some (.els 2 [s.cells]),some (.els 4 [[I 0,I 0,I 0,I 0]])]) (fun k=>k≤g.Feeds.length) (fun k=>g.Feeds.length-k) 0 ?_ ?_ ?_
        ·exact Nat.zero_le _
        ·exact e8 [some 0,some 1,some 2] rfl (by simp[trL]) (by simp)
        rintro k k1;simp only[zP,Nat.reduceEqDiff,reduceIte];refine d4 fun K21 hK21=>?_;refine aS fun K hK=>?_;simp -dsimp;apply hK;clear hK K;refine d9 rfl (fun hc10=>?_) (fun hc10=>?_)
        ·have hkl:k<g.Feeds.length:=by simpa using hc10
         have wk:=zW k (by omega);have gg:=a2z hkl;have gf:=Q5 (fs:=FS) (k:=k) (by omega);have hfb:=hnt.feeds _ (List.mem_of_getElem? gg);have hfk:=hfl k hkl;rw[←gFS k hkl]at hfk;have hts:=W9 g FS k;unfold trS at hts;have htsm:=Y7 (g:=g) (fs:=FS) (n:=k);have htov:=b7q (g:=g) (fs:=FS) (n:=k);have hpr:∀q,q<g.Feeds.length→0≤(fdA g q).Limit*(frA FS q).Den∧(fdA g q).Limit*(frA FS q).Den≤4000000000000∧0≤(frA FS q).Num∧(frA FS q).Num≤40000000000000∧1≤(frA FS q).Den∧(frA FS q).Den≤2000000000:=fun q hq=>by
          have h1:=hnt.feeds _ (List.mem_of_getElem? (a2z hq));have h2:=hfl q hq;rw[←gFS q hq]at h2;exact⟨Int.mul_nonneg (by omega) (by omega),Int.le_trans (Int.mul_le_mul h1.2.2.2.2.2.2.2 h2.2.2.2.1 (by omega) (by omega)) (by omega),h2.1,h2.2.1,h2.2.2.1,h2.2.2.2.1⟩
         have hpk:=hpr k hkl;have wm:IntKind.i64.wrap ((fdA g k).Limit*(frA FS k).Den)=(fdA g k).Limit*(frA FS k).Den:=i7 (by omega) (by omega);have hov:=b4E (frA FS k) (fdA g k).Limit (by omega) (by omega);generalize trL g FS k=T at hts htsm htov ⊢;obtain⟨at_,most⟩:=T;simp only at hts htsm htov ⊢;have hpr':0≤at_→_:=fun h=>hpr at_.toNat (by have:=(htsm h).1;omega);have hFP:0≤at_→(fdA g k).Limit*(frA FS k).Den<(frA FS k).Num→FrP (ovr g FS k) (ovr g FS at_.toNat):=fun h h2=>by
          have h1:=hpr' h;have h3:=(htsm h).2;unfold ovr at h3 ⊢;simp only at h3;exact⟨by simp only;omega,by simp only;omega,by simp only;omega,by simp only;omega,by simp only;omega,by simp only;omega,by simp only;omega,by simp only;omega⟩
         refine f6 ?_;simp only[zT,reduceIte,Nat.reduceEqDiff];refine hK21 _ _ ?_;refine b8 [4,8,22,29,30] ?_;simp only[zP,Nat.reduceEqDiff,reduceIte];refine d4 fun K22 hK22=>?_;refine e7 ?_;refine aS fun K hK=>?_;simp -dsimp [gf];apply hK;clear hK K;refine v5 l6 rfl fun K hK=>?_;simp -dsimp [gg,wm];refine j8 ((frA FS k).cells) (fun _=>by simp[gf]) ?_;simp -dsimp [gg,wm];refine j8 ((fdA g k).cells) (fun _=>by simp[gg]) ?_;simp -dsimp [gg,wm];refine f8 _ (fun hm=>hov) (by simp) ?_;simp -dsimp [gg,wm];refine j8 ((frA FS at_.toNat).cells) (fun hm=>by simp at hm;have:=(htsm (by omega)).1;rw[List.getElem?_map,Q5 (show at_.toNat<FS.length by omega)];rfl) ?_;simp -dsimp [gg,wm];refine j8 ((fdA g at_.toNat).cells) (fun hm=>by simp at hm;have:=(htsm (by omega)).1;rw[List.getElem?_map,a2z (show at_.toNat<g.Feeds.length by omega)];rfl) ?_;simp -dsimp [gg,wm];refine f8 _ (fun hm=>b4E (frA FS at_.toNat) (fdA g at_.toNat).Limit (by simp at hm;have:=hpr' (by omega);omega) (by simp at hm;have:=hpr' (by omega);omega)) (by simp) ?_;simp -dsimp [gg,wm];refine f8 _ (fun hm=>b8E (ovr g FS k) (ovr g FS at_.toNat) (by simp at hm;exact hFP (by omega) (by omega))) (by simp) ?_;simp -dsimp [gg,wm];refine hK _ _ _ (by decide+kernel) ?_;clear hK K;refine d9 rfl (fun hc11=>?_) (fun hc11=>?_)
         ·refine aR fun K hK=>?_;simp -dsimp;apply hK;clear hK K;simp only[zT,reduceIte,Nat.reduceEqDiff];refine hK22 _ _ ?_;refine b8 [4,8,22,29,30] ?_;simp only[zP,Nat.reduceEqDiff,reduceIte];refine aR fun K hK=>?_;simp -dsimp [wk];apply hK;clear hK K;simp only[zT,reduceIte,Nat.reduceEqDiff];have hcc:(fdA g k).Limit*(frA FS k).Den<(frA FS k).Num∧(at_<0∨a6E (ovr g FS k) (ovr g FS at_.toNat)=true):=by simpa using hc11
          have hcd:0<(ovr g FS k).Num∧(at_<0∨most.Num*(ovr g FS k).Den<(ovr g FS k).Num*most.Den):=by
           refine⟨by show 0<(frA FS k).Num-(fdA g k).Limit*(frA FS k).Den;omega,?_⟩
           by_cases h:at_<0
           ·exact Or.inl h
           ·right;rw[htov (by omega)];exact of_decide_eq_true (hcc.2.resolve_left h)
          rw[if_pos hcd]at hts;exact⟨k+1,by omega,by omega,e8 [some 0,some 1,some 2] rfl (by simp[hts]) (by simp)⟩
         ·refine f6 ?_;simp only[zT,reduceIte,Nat.reduceEqDiff];refine hK22 _ _ ?_;refine b8 [4,8,22,29,30] ?_;simp only[zP,Nat.reduceEqDiff,reduceIte];refine aR fun K hK=>?_;simp -dsimp [wk];apply hK;clear hK K;simp only[zT,reduceIte,Nat.reduceEqDiff];have hcd:¬(0<(ovr g FS k).Num∧(at_<0∨most.Num*(ovr g FS k).Den<(ovr g FS k).Num*most.Den)):=by
           rintro⟨h1,h2⟩;change 0<(frA FS k).Num-(fdA g k).Limit*(frA FS k).Den at h1;have hcc:(fdA g k).Limit*(frA FS k).Den<(frA FS k).Num∧(at_<0∨a6E (ovr g FS k) (ovr g FS at_.toNat)=true):=by
            refine⟨by omega,?_⟩
            by_cases h:at_<0
            ·exact Or.inl h
            ·right;have:=h2.resolve_left h;rw[htov (by omega)]at this;exact decide_eq_true this
           rcases hcc with⟨h3,h4|h4⟩<;>simp[h3,h4]at hc11
          rw[if_neg hcd]at hts;exact⟨k+1,by omega,by omega,e8 [some 0,some 1,some 2] rfl (by simp[hts]) (by simp)⟩
        ·have hkl:k=g.Feeds.length:=by have hx:¬k<g.Feeds.length:=(by simpa using hc10);omega
         rw[hkl];obtain⟨tr,htr⟩:∃tr,tr=(trL g FS g.Feeds.length).1:=⟨_,rfl⟩;have htl:0≤tr→tr<g.Feeds.length:=fun h=>by have:=Y7 (g:=g) (fs:=FS) (n:=g.Feeds.length) (by omega);omega
         rw[←htr];refine j9 ?_;simp only[zT,reduceIte,Nat.reduceEqDiff];refine hK20 _ _ ?_;refine b8 [8,22,29] ?_;simp only[zP,Nat.reduceEqDiff,reduceIte];refine d4 fun K23 hK23=>?_;refine aS fun K hK=>?_;simp -dsimp;apply hK;clear hK K;refine d9 rfl (fun hc12=>?_) (fun hc12=>?_)
         ·have ht0:¬0≤tr:=by have:tr<0:=(by simpa using hc12);omega
          refine aS fun K hK=>?_;simp -dsimp;apply hK;clear hK K;have hcs:a6h g s l sv=none:=by unfold a6h;rw[hdead];simp only;rw[←hrt,if_neg hr0,←hvf,←hlo,if_neg hl0,←hFS,←htr,if_neg ht0]
          exact g7 (by rw[hcs];simp[a7F])
         ·have ht0:0≤tr:=by simpa using hc12
          have gf:=Q5 (fs:=FS) (k:=tr.toNat) (by have:=htl ht0;omega);refine f6 ?_;simp only[zT,reduceIte,Nat.reduceEqDiff];refine hK23 _ _ ?_;refine b8 [8,22,29] ?_;simp only[zP,Nat.reduceEqDiff,reduceIte];refine aS fun K hK=>?_;simp -dsimp [ht0,gf];apply hK;clear hK K;have hcs:a6h g s l sv=some ⟨4,tr,frA FS tr.toNat⟩:=by unfold a6h;rw[hdead];simp only;rw[←hrt,if_neg hr0,←hvf,←hlo,if_neg hl0,←hFS,←htr,if_pos ht0]
          exact g7 (by rw[hcs];simp[a7F])
end Go.Cur
end
section
namespace Go.Cur
open Go.AM Go.Proofs
theorem c2e (n:Nat) (hn:n≤1000):g6 Try.prog 20 [I n] [] [] (.row 0 0 n) [] [some (.els 1 ((List.replicate n true).map i8))]:=by
 have f0:C7 n 2:=k9 (by omega) (by omega);refine g6.of_bodyG [] Try.func20 rfl (by decide) (by simp[Try.ntmps20]) rfl rfl ?_;intro J hJ;simp only[Try.ntmps20,Try.results20];refine gS fun K hK=>?_;simp -dsimp;apply hK;clear hK K;refine gS fun K hK=>?_;simp -dsimp [f0];apply hK;clear hK K;refine b9 fun K1 hK1=>?_;refine gS fun K hK=>?_;simp -dsimp;apply hK;clear hK K;refine d7 ?_;refine b7 [0,3,4] (Or.inr (by simp)) ?_;simp only[zP,Nat.reduceEqDiff,reduceIte];refine g8 [0,3] (α:=Nat) (fun k=>[(4,I k)]) (fun k=>[some (.els 1 ((svK n k).map i8))]) (fun k=>k≤n) (fun k=>n-k) 0 ?_ ?_ ?_
 ·exact Nat.zero_le _
 ·exact m8 (e8 [some 0] rfl (by simp) (by simp[a1y,i8])) (by simp)
 rintro k k1;simp only[zP,Nat.reduceEqDiff,reduceIte];refine b9 fun K2 hK2=>?_;refine gS fun K hK=>?_;simp -dsimp;apply hK;clear hK K;refine d8 rfl (fun hc0=>?_) (fun hc0=>?_)
 ·have hkl:k<n:=by simpa using hc0
  have wk:=zW k (by omega);have hsl:=a5g (n:=n) (k:=k) k1;have hst:=a4D hkl;refine e9 ?_;simp only[zT,reduceIte,Nat.reduceEqDiff];refine hK2 _ _ ?_;refine b7 [0,3,4] (Or.inr (by simp)) ?_;simp only[zP,Nat.reduceEqDiff,reduceIte];refine b9 fun K3 hK3=>?_;refine d7 ?_;refine gR fun K hK=>?_;simp -dsimp [hkl,hsl];apply hK;clear hK K;simp only[zT,reduceIte,Nat.reduceEqDiff];refine hK3 _ _ ?_;refine b7 [0,3,4] (Or.inr (by simp)) ?_;simp only[zP,Nat.reduceEqDiff,reduceIte];refine gR fun K hK=>?_;simp -dsimp [wk];apply hK;clear hK K;simp only[zT,reduceIte,Nat.reduceEqDiff];exact⟨k+1,by omega,by omega,m8 (e8 [some 0] rfl (by simp) (by simp[←hst,List.map_set,i8])) (by simp)⟩
 ·have hke:k=n:=by have hn:¬k<n:=(by simpa using hc0);omega
  subst hke;refine i6 ?_;simp only[zT,reduceIte,Nat.reduceEqDiff];refine hK1 _ _ ?_;refine b7 [3] (Or.inr (by simp)) ?_;simp only[zP,Nat.reduceEqDiff,reduceIte];refine gS fun K hK=>?_;simp -dsimp;apply hK;clear hK K;rw[a4Z];exact k7 ⟨[some 0],rfl,by simp,by simp,by simp,by simp[y8,n5]⟩
def apC (z:SS) (c:Cu):SS:=if c.Kind=4 then⟨z.sv,z.fe.set c.Index.toNat false,z.cuts++[c]⟩else⟨z.sv.set c.Index.toNat false,z.fe,z.cuts++[c]⟩
section
variable {g:Gr} {wi:List Bool} {l:List Ld} {z:SS}
theorem b5Q:A3 g wi l z=(a6h g ⟨z.fe,wi⟩ l z.sv).map (apC z):=by
 unfold A3 a6h x9 H9 M2 B7 b0U b2f U9 vfZ
 cases hd:(List.range l.length).find? (B8 g ⟨z.fe,wi⟩ l z.sv)with
 |some i=>simp[apC]
 | none=>
  simp only[Option.map_none,Option.orElse_none];generalize leL l z.sv (O8 g ⟨z.fe,wi⟩ (tkK l z.sv)) l.length=rt;generalize vfS g ⟨z.fe,wi⟩ (tkK l z.sv)=vf;generalize leL l z.sv (Y2 (M0 g ⟨z.fe,wi⟩ vf l z.sv l.length)) l.length=lo;generalize (trL g (flA g ⟨z.fe,wi⟩ vf) g.Feeds.length).1=tr
  by_cases h1:0≤rt
  ·rw[if_pos h1,if_pos h1];simp[apC,Int.toNat_of_nonneg h1]
  ·rw[if_neg h1,if_neg h1];simp only[Option.orElse_none]
   by_cases h2:0≤lo
   ·rw[if_pos h2,if_pos h2];simp[apC,Int.toNat_of_nonneg h2]
   ·rw[if_neg h2,if_neg h2];simp only[Option.orElse_none]
    by_cases h3:0≤tr
    ·rw[if_pos h3,if_pos h3];simp[apC,Int.toNat_of_nonneg h3]
    ·rw[if_neg h3,if_neg h3];rfl
theorem c1K {c:Cu} (h:a6h g ⟨z.fe,wi⟩ l z.sv=some c):0≤c.Index∧(c.Kind=4→c.Index.toNat<g.Feeds.length)∧(c.Kind≠4→c.Index.toNat<l.length):=by
 unfold a6h at h
 split at h
 ·rename_i i hi;have hm:=List.mem_range.1 (List.mem_of_find?_eq_some hi);simp only[Option.some.injEq]at h;subst h;exact⟨by simp only;omega,fun h=>absurd h (by simp),fun _=>by simp only;omega⟩
 ·split at h
  ·rename_i h0;have:=O4 l z.sv (O8 g ⟨z.fe,wi⟩ (tkK l z.sv)) l.length;simp only[Option.some.injEq]at h;subst h;exact⟨h0,fun h=>absurd h (by simp),fun _=>by simp only;omega⟩
  ·split at h
   ·rename_i h0;have:=O4 l z.sv (Y2 (M0 g ⟨z.fe,wi⟩ (vfS g ⟨z.fe,wi⟩ (tkK l z.sv)) l z.sv l.length)) l.length;simp only[Option.some.injEq]at h;subst h;exact⟨h0,fun h=>absurd h (by simp),fun _=>by simp only;omega⟩
   ·split at h
    ·rename_i h0;have:=(Y7 h0).1;simp only[Option.some.injEq]at h;subst h;exact⟨h0,fun _=>by simp only;omega,fun h=>absurd rfl h⟩
    ·cases h
end
theorem a7i (g:Gr) (s:Sta) (l:List Ld) (h:y2 g s.Wires l) (hnt:o8 g s):
  d5 Try.prog 29 [g.av,s.av,lL l] (.agg (a7p g s.Wires l (t5 g s.Wires l s.Feeds)).cells):=by
 obtain⟨Z,hZ⟩:∃Z,t5 g s.Wires l s.Feeds=Z:=⟨_,rfl⟩;rw[hZ];have hAl:=c2e l.length (by have:=h.ll;omega);have hbd:=r7 hnt.gr;have hsf:=hnt.sf;have hsw:=hnt.sw;have f1:C7 s.Feeds.length 2:=k9 (by omega) (by omega);have f2:C7 s.Wires.length 2:=k9 (by omega) (by omega);refine d5.of_bodyG Try.func29 rfl (by decide) (by simp[Try.ntmps29]) ?_;intro J hJ;simp only[Try.ntmps29,Try.results29];refine gS fun K hK=>?_;simp -dsimp;apply hK;clear hK K;refine s4 l6 rfl (by decide) rfl rfl fun K hK=>?_;simp -dsimp [f1,f2];refine k8 [] [] [none,none,none,none,none,some 0] (hAl) (by decide) rfl (by simp) (by simp) rfl (by simp) ?_;simp -dsimp [f1,f2];refine hK _ _ _ (by decide+kernel) ?_;clear hK K;refine b9 fun K1 hK1=>?_;refine d7 ?_;refine b7 [2,3,6,7] (Or.inr (by simp)) ?_;simp only[zP,Nat.reduceEqDiff,reduceIte];refine g8 [2,3,6,7] (α:=SS) (fun z=>[]) (fun z=>[some (.els 4 [g.cells]),some (.els 2 [s.cells]),some (.els 6 [[.v (.slice none 0 0), .v (.slice none 0 0), .v (.slice none 0 0), .v (.slice none 0 0), .v (.slice none 0 0), .v (.slice none 0 0)]]),some (.els 1 (z.fe.map i8)),some (.els 1 (s.Wires.map i8)),some (.els 1 (z.sv.map i8)),some (.els 6 [[.v (.slice none 0 0), .v (.slice none 0 0), .row 3 0 s.Feeds.length, .row 4 0 s.Wires.length, .row 5 0 l.length, .row 7 0 z.cuts.length]]),some (.els 4 (z.cuts.map Cu.cells))]) (fun z=>ZOk g s.Wires l z∧F0 g s.Wires l (a4s z) z=Z) (fun z=>a4s z) (z0 l s.Feeds) ?_ ?_ ?_
 ·exact⟨b3r h hnt.sf,hZ⟩
 ·exact m8 ((M9 6 0 5 4 (sz0:=6) (es:=[[.v (.slice none 0 0), .v (.slice none 0 0), .row 3 0 s.Feeds.length, .row 4 0 s.Wires.length, .row 5 0 l.length, .v (.slice none 0 0)]]) (e:=[.v (.slice none 0 0), .v (.slice none 0 0), .row 3 0 s.Feeds.length, .row 4 0 s.Wires.length, .row 5 0 l.length, .v (.slice none 0 0)]) (by simp) (by simp) (by simp)).trans (e8 [some 0,some 1,some 2,some 3,some 4,some 5,some 6,some 7] rfl (by simp) (by simp[z0]))) (by simp)
 rintro z ⟨hz,hze⟩;have hntz:=h.net hz;have hzf:=hz.fe;have hzs:=hz.sv;have hzc:=hz.cu;have hcz:=c1q g ⟨z.fe,s.Wires⟩ l z.sv hntz h.ld h.ll (h.p5' z.fe) hzs (fun hd hr=>okZ h hz (by unfold x9;rw[b1G hd];rfl) (by unfold H9 b0U;rw[if_neg (by omega)]));have hsc:=b5Q (g:=g) (wi:=s.Wires) (l:=l) (z:=z);have tk1:List.take s.Feeds.length (z.fe.map i8)=z.fe.map i8:=List.take_of_length_le (by rw[List.length_map];omega);have tk2:List.take s.Wires.length (s.Wires.map i8)=s.Wires.map i8:=List.take_of_length_le (by simp);have tk3:List.take l.length (z.sv.map i8)=z.sv.map i8:=List.take_of_length_le (by rw[List.length_map];omega);have le1:s.Feeds.length≤z.fe.length:=by omega
 have le3:l.length≤z.sv.length:=by omega
 have f4:C7 (z.cuts.length+1) 33:=k9 (by omega) (by omega);have hin:=fun c (hc:a6h g ⟨z.fe,s.Wires⟩ l z.sv=some c)=>c1K hc;simp only[zP,Nat.reduceEqDiff,reduceIte];refine d7 ?_;generalize a6h g ⟨z.fe,s.Wires⟩ l z.sv=oc at hcz hsc hin
 rcases oc with _|c
 all_goals simp only[a7F]at hcz
 ·refine gS fun K hK=>?_;simp -dsimp [tk1,tk2,tk3,le1,le3];refine d6 _ (hcz) (by simp) ?_;simp -dsimp [tk1,tk2,tk3,le1,le3];apply hK;clear hK K;refine b9 fun K2 hK2=>?_;refine gS fun K hK=>?_;simp -dsimp;apply hK;clear hK K;refine d8 rfl (fun hc0=>?_) (fun hc0=>?_)
  ·have hst:A3 g s.Wires l z=none:=by rw[hsc];rfl
   obtain⟨e1,e2,e3,e4⟩:=a6I hst;have hok:=okZ h hz e1 e2;have hZz:z=Z:=by rw[H7 hst]at hze;exact hze
   have hrs:=a9u g ⟨z.fe,s.Wires⟩ l z.sv hntz (by have:=h.ll;omega) hzs h.ld (h.p5' z.fe);rw[if_pos hok]at hrs;subst hZz;obtain⟨VS,hVS⟩:∃VS,VS=vlA g.Nodes.toNat (vfS g ⟨z.fe,s.Wires⟩ (tkK l z.sv)):=⟨_,rfl⟩;obtain⟨FS,hFS⟩:∃FS,FS=flA g ⟨z.fe,s.Wires⟩ (vfS g ⟨z.fe,s.Wires⟩ (tkK l z.sv)):=⟨_,rfl⟩;rw[←hVS,←hFS]at hrs;have hsc2:a7p g s.Wires l z=⟨VS,FS,⟨z.fe,s.Wires⟩,z.sv,z.cuts⟩:=by rw[hVS,hFS];rfl
   refine i6 ?_;simp only[zT,reduceIte,Nat.reduceEqDiff];refine hK1 _ _ ?_;refine b7 [2,3,6,7] (Or.inr (by simp)) ?_;simp only[zP,Nat.reduceEqDiff,reduceIte];have tk4:List.take z.cuts.length (z.cuts.map Cu.cells)=z.cuts.map Cu.cells:=List.take_of_length_le (by simp);refine o9 (m8 (B5 (T':=[(2,lL l),(3, .ptr 0 0 0),(6, .ptr 1 0 0),(7, .ptr 2 0 0)]) (H':=[some (.els 4 [g.cells]),some (.els 6 [[.v (.slice none 0 0), .v (.slice none 0 0), .v (.slice none 0 0), .v (.slice none 0 0), .v (.slice none 0 0), .v (.slice none 0 0)]]),some (.els 6 [[.v (.slice none 0 0), .v (.slice none 0 0),bL z.fe,bL s.Wires,bL z.sv,cL z.cuts]])]) [some 0,some 2,some 6] rfl ⟨.inr (by simp), .inr (by simp), .inr (by simp), .inr (by simp),trivial⟩ (by simp[tk1,tk2,tk3,tk4,le1,le3])) (by simp)) ?_
   ·refine gS fun K hK=>?_;simp -dsimp;refine d6 _ (hrs) (by simp) ?_;simp -dsimp;apply hK;clear hK K;refine gS fun K hK=>?_;simp -dsimp;apply hK;clear hK K;exact k7 (by simp[y8,n5,hsc2])
  ·simp at hc0
 ·refine gS fun K hK=>?_;simp -dsimp [tk1,tk2,tk3,le1,le3];refine d6 _ (hcz) (by simp) ?_;simp -dsimp [tk1,tk2,tk3,le1,le3];apply hK;clear hK K;refine b9 fun K3 hK3=>?_;refine gS fun K hK=>?_;simp -dsimp;apply hK;clear hK K;refine d8 rfl (fun hc0=>?_) (fun hc0=>?_)
  ·simp at hc0
  ·obtain⟨i0,i4,i5⟩:=hin c rfl;have hst:A3 g s.Wires l z=some (apC z c):=by rw[hsc];rfl
   have hso:=I9 h hz hst;rw[←hso.2.1,w7 hst]at hze;have tk4:List.take z.cuts.length (z.cuts.map Cu.cells)=z.cuts.map Cu.cells:=List.take_of_length_le (by simp);refine e9 ?_;simp only[zT,reduceIte,Nat.reduceEqDiff];refine hK3 _ _ ?_;refine b7 [2,3,6,7,8] (Or.inr (by simp)) ?_;simp only[zP,Nat.reduceEqDiff,reduceIte];refine gS fun K hK=>?_;simp -dsimp [f4,tk4];apply hK;clear hK K;refine gS fun K hK=>?_;simp -dsimp;apply hK;clear hK K;refine d8 rfl (fun hc1=>?_) (fun hc1=>?_)
   ·have hk4:c.Kind=4:=by simpa using hc1
    have hap:apC z c=⟨z.sv,z.fe.set c.Index.toNat false,z.cuts++[c]⟩:=by unfold apC;rw[if_pos hk4]
    have hil:=i4 hk4;have hil2:c.Index.toNat<s.Feeds.length:=by omega
    have hil3:c.Index.toNat<z.fe.length:=by omega
    refine gR fun K hK=>?_;simp -dsimp [i0,hil2,hil3];apply hK;clear hK K;simp only[zT,reduceIte,Nat.reduceEqDiff];exact⟨apC z c,⟨hso.1,hze⟩,by omega,m8 (e8 [some 0,some 1,some 2,some 3,some 4,some 5,some 6,some 9] rfl (by simp) (by rw[hap];simp[List.map_set])) (by simp)⟩
   ·have hk4:¬c.Kind=4:=by simpa using hc1
    have hap:apC z c=⟨z.sv.set c.Index.toNat false,z.fe,z.cuts++[c]⟩:=by unfold apC;rw[if_neg hk4]
    have hil2:=i5 hk4;have hil3:c.Index.toNat<z.sv.length:=by omega
    refine gR fun K hK=>?_;simp -dsimp [i0,hil2,hil3];apply hK;clear hK K;simp only[zT,reduceIte,Nat.reduceEqDiff];exact⟨apC z c,⟨hso.1,hze⟩,by omega,m8 (e8 [some 0,some 1,some 2,some 3,some 4,some 5,some 6,some 9] rfl (by simp) (by rw[hap];simp[List.map_set])) (by simp)⟩
end Go.Cur
end
section
namespace Go.Cur
open Go.AM Go.Proofs
theorem a6B (g:Gr) (s:Sta) (l:List Ld):(w9 g s l=false∧b5H g s l=2)∨(w9 g s l=true∧G2 g s=true∧b5H g s l=3)∨(w9 g s l=true∧G2 g s=false∧b5H g s l=0):=by
 unfold b5H
 cases w9 g s l<;>cases G2 g s<;>simp
theorem b8e {g:Gr} {s:Sta} (hl:b7X g s=true) (hlo:G2 g s=false):∀p∈l8 g s,p.length≤5:=fun p hp=>by
 unfold b7X at hl;rw[List.all_eq_true]at hl;unfold G2 at hlo;rw[List.any_eq_false]at hlo;have h1:=hl p hp;have h2:=hlo p hp;simp[b7s]at h1 h2;omega
end Go.Cur
end
section
namespace Go.Cur
open Go.AM Go.Proofs
theorem d5.nil2 {P:Program} {f:FuncId} {res:AV} {sz:Nat} (h:d5 P f [.lst sz [], .lst sz []] res):d5 P f [.v (.slice none 0 0), .v (.slice none 0 0)] res:=by
 refine d5.argR h rfl fun i c c' h1 h2 w S y hy=>?_
 match i,h1,h2 with
 |0,h1,h2=>
  simp only[List.getElem?_cons_zero,Option.some.injEq]at h1 h2;rw[←h2];rw[←h1]at hy;exact a5u hy
 |1,h1,h2=>
  simp only[List.getElem?_cons_succ,List.getElem?_cons_zero,Option.some.injEq]at h1 h2;rw[←h2];rw[←h1]at hy;exact a5u hy
 |i+2,h1,h2=>simp at h1
theorem b7g:d5 Try.prog 28 [b3j,b3j] (Bo true):=by
 have h1:=d5.nil2 (a0A [] [] (by simp));have h2:=d5.nil2 (a1E [] [] (by simp));have h3:=d5.nil2 (b3z [] [] (by simp));unfold b3j;refine d5.of_body Try.func28 rfl (by decide) (by simp[Try.ntmps28]) ?_;simp only[Try.ntmps28,Try.results28];refine aS fun K hK=>?_;simp -dsimp;apply hK;clear hK K;refine aS fun K hK=>?_;simp -dsimp;refine d6 _ (h1) (by simp) ?_;simp -dsimp;refine f8 _ (fun hm=>h1) (by simp) ?_;simp -dsimp;refine f8 _ (fun hm=>h2) (by simp) ?_;simp -dsimp;refine f8 _ (fun hm=>h2) (by simp) ?_;simp -dsimp;refine f8 _ (fun hm=>h2) (by simp) ?_;simp -dsimp;refine f8 _ (fun hm=>h3) (by simp) ?_;simp -dsimp;apply hK;clear hK K;exact g7 (by simp)
theorem b6c (a:Stl) (b1:a.Volts.length≤100000) (b2:a.Feeds.length≤100000) (b3:a.State.Feeds.length≤100000) (b4:a.State.Wires.length≤100000) (b5:a.Served.length≤100000) (b6:a.Cuts.length≤100000):d5 Try.prog 28 [.agg a.cells, .agg a.cells] (Bo true):=by
 have h1:=a0A a.Volts a.Volts b1;have h2:=a0A a.Feeds a.Feeds b2;have h3:=a1E a.State.Feeds a.State.Feeds b3;have h4:=a1E a.State.Wires a.State.Wires b4;have h5:=a1E a.Served a.Served b5;have h6:=b3z a.Cuts a.Cuts b6;refine d5.of_body Try.func28 rfl (by decide) (by simp[Try.ntmps28]) ?_;simp only[Try.ntmps28,Try.results28];refine aS fun K hK=>?_;simp -dsimp;apply hK;clear hK K;refine aS fun K hK=>?_;simp -dsimp;refine d6 _ (h1) (by simp) ?_;simp -dsimp;refine f8 _ (fun hm=>h2) (by simp) ?_;simp -dsimp;refine f8 _ (fun hm=>h3) (by simp) ?_;simp -dsimp;refine f8 _ (fun hm=>h4) (by simp) ?_;simp -dsimp;refine f8 _ (fun hm=>h5) (by simp) ?_;simp -dsimp;refine f8 _ (fun hm=>h6) (by simp) ?_;simp -dsimp;apply hK;clear hK K;exact g7 (by simp)
theorem a1t (g:Gr) (s:Sta) (l:List Ld):d5 Try.prog 5 [g.av,s.av,lL l] (Bo true):=by
 have hk:=b1t;have hfw:=c1t g s l;have hal0:=b7g;refine d5.of_body Try.func5 rfl (by decide) (by simp[Try.ntmps5]) ?_;simp only[Try.ntmps5,Try.results5];refine aS fun K hK=>?_;simp -dsimp;apply hK;clear hK K;refine d4 fun K1 hK1=>?_;refine aS fun K hK=>?_;simp -dsimp;refine d6 _ (hfw) (by simp) ?_;simp -dsimp;apply hK;clear hK K;refine d9 rfl (fun hc0=>?_) (fun hc0=>?_)
 ·refine aS fun K hK=>?_;simp -dsimp;refine d6 _ (hk) (by simp) ?_;simp -dsimp;apply hK;clear hK K;exact g7 (by simp)
 ·have hfew:c0c g s l.length=true:=by simpa using hc0
  have hsp:=a4S hfew;have hrf:=b2Z g s l (by omega) (by omega) (by omega);have hlt:b5H g s l≠2→d5 Try.prog 17 [g.av,s.av] (Bo (b7X g s)):=fun h=>a9x g s (z9 (by rcases a6B g s l with h1|h1|h1;exact absurd h1.2 h;exact h1.1;exact h1.1));generalize hRE:b5H g s l=re at hrf hlt;refine f6 ?_;simp only[zT,reduceIte,Nat.reduceEqDiff];refine hK1 _ _ ?_;refine b8 [2,3,4] ?_;simp only[zP,Nat.reduceEqDiff,reduceIte];refine aS fun K hK=>?_;simp -dsimp;refine d6 _ (hrf) (by simp) ?_;simp -dsimp;apply hK;clear hK K;refine d4 fun K2 hK2=>?_;refine aS fun K hK=>?_;simp -dsimp;refine f8 _ (fun hm=>hlt (by simpa using hm)) (by simp) ?_;simp -dsimp;apply hK;clear hK K;refine d9 rfl (fun hc1=>?_) (fun hc1=>?_)
  ·refine aS fun K hK=>?_;simp -dsimp;refine d6 _ (hk) (by simp) ?_;simp -dsimp;apply hK;clear hK K;exact g7 (by simp)
  ·have hli:re=2∨b7X g s=true:=by
    by_cases h:re=2
    ·exact Or.inl h
    ·right;simp[h]at hc1;exact hc1
   have h5:w9 g s l=true→G2 g s=false→∀p∈l8 g s,p.length≤5:=fun h1 h2=>by
    refine b8e (hli.resolve_left fun h=>?_) h2;rw[←hRE]at h;unfold b5H at h;rw[if_pos h1]at h
    split at h<;>omega
   refine f6 ?_;simp only[zT,reduceIte,Nat.reduceEqDiff];refine hK2 _ _ ?_;refine b8 [2,3,4,7] ?_;simp only[zP,Nat.reduceEqDiff,reduceIte]
   rcases a6B g s l with⟨hfi,hre⟩|⟨hfi,hlo,hre⟩|⟨hfi,hlo,hre⟩
   all_goals rw[hRE]at hre
   all_goals subst hre
   rotate_left
   rotate_left
   have hnt:=z9 hfi;have B2:=c2i hfi (by omega) (h5 hfi hlo);have hst:=b0A g s l hfi hlo B2 _ rfl;have hrs:=a7i g s l B2 hnt;have hz0:=b3r B2 hnt.sf;have hzo:ZOk g s.Wires l (t5 g s.Wires l s.Feeds):=a2Y B2 hz0;have hbd:=r7 hnt.gr;have halt:=b6c (a7p g s.Wires l (t5 g s.Wires l s.Feeds)) (by simp[a7p,vlA];omega) (by simp[a7p,flA];omega) (by have:=hzo.fe;simp[a7p];omega) (by have:=hnt.sw;simp[a7p];omega) (by have:=hzo.sv;simp[a7p];omega) (by have:=hzo.cu;simp[a7p];omega);generalize a7p g s.Wires l (t5 g s.Wires l s.Feeds)=Z at hst hrs halt
   rotate_left
   ·refine aS fun K hK=>?_;simp -dsimp [b3j];refine d6 _ (b0C g s l (by omega) hfi) (by simp) ?_;simp -dsimp [b3j];apply hK;clear hK K;refine d4 fun K3 hK3=>?_;refine aS fun K hK=>?_;simp -dsimp;apply hK;clear hK K;refine d9 rfl (fun hc2=>?_) (fun hc2=>?_)
    ·refine aS fun K hK=>?_;simp -dsimp;refine f8 _ (fun hm=>hal0) (by simp) ?_;simp -dsimp;refine f8 _ (fun hm=>hk) (by simp) ?_;simp -dsimp;apply hK;clear hK K;exact g7 (by simp)
    ·simp at hc2
   ·refine aS fun K hK=>?_;simp -dsimp [b3j];refine d6 _ (b0H g s l (by omega) hfi (c0V hfew (z9 hfi).gr) hlo) (by simp) ?_;simp -dsimp [b3j];apply hK;clear hK K;refine d4 fun K4 hK4=>?_;refine aS fun K hK=>?_;simp -dsimp;apply hK;clear hK K;refine d9 rfl (fun hc2=>?_) (fun hc2=>?_)
    ·refine aS fun K hK=>?_;simp -dsimp;refine f8 _ (fun hm=>hal0) (by simp) ?_;simp -dsimp;refine f8 _ (fun hm=>hk) (by simp) ?_;simp -dsimp;apply hK;clear hK K;exact g7 (by simp)
    ·simp at hc2
   ·refine aS fun K hK=>?_;simp -dsimp;refine d6 _ (hst) (by simp) ?_;simp -dsimp;apply hK;clear hK K;refine d4 fun K5 hK5=>?_;refine aS fun K hK=>?_;simp -dsimp;apply hK;clear hK K;refine d9 rfl (fun hc2=>?_) (fun hc2=>?_)
    ·simp at hc2
    ·refine f6 ?_;simp only[zT,reduceIte,Nat.reduceEqDiff];refine hK5 _ _ ?_;refine b8 [2,3,4,8,9] ?_;simp only[zP,Nat.reduceEqDiff,reduceIte];refine v5 l6 rfl fun K hK=>?_;simp -dsimp;refine f8 _ (fun hm=>hrs) (by simp) ?_;simp -dsimp;refine f8 _ (fun hm=>halt) (by simp) ?_;simp -dsimp;refine f8 _ (fun hm=>hk) (by simp) ?_;simp -dsimp;refine hK _ _ _ (by decide+kernel) ?_;clear hK K;exact g7 (by simp)
end Go.Cur
end
section
namespace Go.Tram
open Go.AM Go.Proofs
def RC (w:World) (avs:List AV) (cs:List Value):Prop:=avs.length=cs.length∧∀(i:Nat) c x,avs[i]?=some c→cs[i]?=some x→q8 w (fun _=>False) c x∧O9 x=true
theorem RC.one {w:World} {a:AV} {x:Value} (h:q8 w (fun _=>False) a x) (hc:O9 x=true):RC w [a] [x]:=by
 refine⟨rfl,fun i c y h1 h2=>?_⟩
 cases i with
 |zero=>simp at h1 h2;subst h1 h2;exact⟨h,hc⟩
 |succ i=>simp at h1
theorem RC.app {w:World} {a b:List AV} {x y:List Value} (h:RC w a x) (k:RC w b y):RC w (a++b) (x++y):=by
 refine⟨by simp[h.1,k.1],fun i c u h1 h2=>?_⟩
 by_cases hi:i<a.length
 ·rw[List.getElem?_append_left hi]at h1;rw[List.getElem?_append_left (by rw[←h.1];exact hi)]at h2;exact h.2 i c u h1 h2
 ·rw[List.getElem?_append_right (by omega)]at h1;rw[List.getElem?_append_right (by rw[←h.1];omega),←h.1]at h2;exact k.2 _ c u h1 h2
def b5a:List (Nat×Nat×TypeId)→Nat→Nat→Bool
 |[],o,n=>o==n
 |(off,sz,_)::r,o,n=>off==o&&b5a r (o+sz) n
theorem b1X:∀(fs:List (Nat×Nat×TypeId)) (o n:Nat),b5a fs o n=true→o≤n
 |[],o,n,h=>by simp[b5a]at h;omega
 |(off,sz,t)::r,o,n,h=>by
  simp only[b5a,Bool.and_eq_true]at h;have:=b1X r _ _ h.2;omega
theorem b0f:∀(fs:List (Nat×Nat×TypeId)) (o n:Nat),b5a fs o n=true→∀f∈fs,o≤f.1
 |[],o,n,h,f,hf=>by cases hf
 |(off,sz,t)::r,o,n,h,f,hf=>by
  simp only[b5a,Bool.and_eq_true,beq_iff_eq]at h
  rcases List.mem_cons.1 hf with rfl|hf
  ·simp only[];omega
  ·have:=b0f r _ _ h.2 f hf;omega
theorem a9O {w:World} {Q:(Nat×Nat×TypeId)→List AV→Prop}:∀(fs:List (Nat×Nat×TypeId)) (o N:Nat) (cs:List Value),b5a fs o N=true→cs.length=N→
  (∀f∈fs,∃a,RC w a ((cs.drop f.1).take f.2.1)∧Q f a)→∃avs,RC w avs (cs.drop o)∧∀f∈fs,Q f ((avs.drop (f.1-o)).take f.2.1)
 |[],o,N,cs,h,hl,_=>by
  simp only[b5a,beq_iff_eq]at h;refine⟨[],⟨by simp;omega,fun i c x h1=>by simp at h1⟩,fun f hf=>by cases hf⟩
 |(off,sz,t)::r,o,N,cs,h,hl,hq=>by
  simp only[b5a,Bool.and_eq_true,beq_iff_eq]at h;obtain⟨rfl,h2⟩:=h;have hle:=b1X r _ _ h2;obtain⟨a,ha,hqa⟩:=hq _ (List.mem_cons_self ..);obtain⟨b,hb,hqb⟩:=a9O r (off+sz) N cs h2 hl (fun f hf=>hq f (List.mem_cons_of_mem _ hf));have hal:a.length=sz:=by rw[ha.1];simp;omega
  have hsplit:cs.drop off=(cs.drop off).take sz++cs.drop (off+sz):=by rw[←List.drop_drop,List.take_append_drop]
  refine⟨a++b,by rw[hsplit];exact ha.app hb,fun f hf=>?_⟩
  rcases List.mem_cons.1 hf with rfl|hf
  ·simp only[Nat.sub_self,List.drop_zero];rw[List.take_append_of_le_length (by omega),List.take_of_length_le (by omega)];exact hqa
  ·have ho:=b0f r _ _ h2 f hf;have:=hqb f hf;rw[List.drop_append,List.drop_eq_nil_of_le (by omega),List.nil_append,hal,show f.1-off-sz=f.1-(off+sz)by omega];exact this
section
variable {P:Program}
def a8e (P:Program):Nat→TypeId→Bool
 |0,_=>false
 | n+1,t=>match a2R P t with
  |some _=>true
  |none=>match j0 P t with
   | .slice e=>decide ((j0 P e).size≠0)&&a8e P n e
   | .agg z fs=>b5a fs 0 z.length&&fs.all fun f=>a8e P n f.2.2
   |_=>false
def x6 (P:Program):Nat→TypeId→List AV→Prop
 |0,_,_=>False
 | n+1,t,avs=>match a2R P t with
  |some (.i k)=>∃m,avs=[.v (.int k m)]∧(Lit.int k m).wf=true
  |some .b=>∃b,avs=[.v (.bool b)]
  |none=>match j0 P t with
   | .slice e=>∃els,avs=[.lst (j0 P e).size els]∧els.length≤maxLen∧∀el∈els,x6 P n e el
   | .agg z fs=>avs.length=z.length∧∀f∈fs,x6 P n f.2.2 ((avs.drop f.1).take f.2.1)
   |_=>False
theorem b0v (w:World) {e:TypeId} (h:j0 P e≠ .bad):P.cellsOf e=(j0 P e).size:=by
 obtain⟨i,h1,h2,_⟩:=V7 (P:=P) (w:=w) h;simp[Program.cellsOf,h1,h2]
theorem a8Q {w:World} {R:List AV→List Value→Prop} {g:Nat→Option (List Value)}:∀n,(∀i,i<n→∃cs,g i=some cs∧∃a,R a cs)→
  ∃(els:List (List AV)) (css:List (List Value)),els.length=n∧css.length=n∧∀(i:Nat) a cs,els[i]?=some a→css[i]?=some cs→g i=some cs∧R a cs
 |0,_=>⟨[],[],rfl,rfl,fun i a cs h=>by simp at h⟩
 | n+1,h=>by
  obtain⟨els,css,h1,h2,h3⟩:=a8Q (w:=w) (R:=R) (g:=g) n (fun i hi=>h i (by omega));obtain⟨cs,hg,a,ha⟩:=h n (by omega);refine⟨els++[a],css++[cs],by simp[h1],by simp[h2],fun i b ds k1 k2=>?_⟩
  by_cases hi:i<n
  ·rw[List.getElem?_append_left (by omega)]at k1 k2;exact h3 i b ds k1 k2
  ·have hn:i=n:=by
    have:=(List.getElem?_eq_some_iff.1 k1).1;simp[h1]at this;omega
   subst hn;rw[List.getElem?_append_right (by omega)]at k1 k2;simp[h1,h2]at k1 k2;subst k1 k2;exact⟨hg,ha⟩
theorem b3L {H:Type} {enc:TypeId×Value→H} {w:World} {spare:Nat→Bool} {held:Bool}:∀(n:Nat) (fuel:Nat) (t:TypeId) (cs:List Value) (x:DataW H×List MemPlace),a8e P n t=true→
  DataW.trod enc P w 0 spare held fuel t cs=some x→∃avs,RC w avs cs∧x6 P n t avs:=by
 intro n
 induction n with
 |zero=>intro fuel t cs x h;simp[a8e]at h
 | succ n ih=>
  intro fuel t cs x hg h;unfold a8e at hg;unfold x6
  cases hk:a2R P t with
  | some kt=>
   have hu:=(E4 hk).2.2.2
   cases kt with
   |i k=>
    obtain⟨m,rfl,rfl,hw⟩:=DataW.trod_int hu h;exact⟨[.v (.int k m)],RC.one (.v _) rfl,m,rfl,hw⟩
   |b=>
    obtain⟨b,rfl,rfl⟩:=DataW.trod_bool hu h;exact⟨[.v (.bool b)],RC.one (.v _) rfl,b,rfl⟩
  | none=>
   rw[hk]at hg;simp only at hg ⊢
   cases ht:j0 P t with
   |cell z=>rw[ht]at hg;simp at hg
   |arr z m e=>rw[ht]at hg;simp at hg
   |bad=>rw[ht]at hg;simp at hg
   | slice e=>
    rw[ht]at hg;simp only[Bool.and_eq_true,decide_eq_true_eq]at hg ⊢;obtain⟨hsz,hge⟩:=hg;have hne:j0 P e≠ .bad:=by intro hb;rw[hb]at hsz;exact hsz rfl
    have hc:=b0v w hne;obtain⟨info,h1,h2,_⟩:=o3 ht
    rcases DataW.trod_slice h2 h with⟨rfl,rfl⟩|⟨a,len,cap,elems,rest,n',rfl,rfl,rfl,hb,hl,hcap,hel,hall,_⟩
    ·exact⟨[.lst (j0 P e).size []],RC.one (.lstNil _ _ _) rfl,[],rfl,by simp,by simp⟩
    ·rw [hc]at hall;obtain⟨els,css,e1,e2,e3⟩:=a8Q (w:=w) (R:=fun a cs=>RC w a cs∧x6 P n e a) (g:=fun i=>w.cells? 0 (a.add (i*(j0 P e).size)) (j0 P e).size) len (fun i hi=>by
      have h3:=hall i hi;obtain⟨y,hy⟩:∃y,elems[i]?=some y:=⟨_,List.getElem?_eq_getElem (by omega)⟩;rw[hy,Option.bind_eq_some_iff]at h3;obtain⟨cs,q1,q2⟩:=h3;obtain⟨av,r1,r2⟩:=ih _ _ _ _ hge q2;exact⟨cs,q1,av,r1,r2⟩)
     refine⟨[.lst (j0 P e).size els],?_,els,rfl,by omega,?_⟩
     ·refine RC.one ?_ rfl
      by_cases hlen:len=0
      ·have:els=[]:=List.eq_nil_of_length_eq_zero (by omega);subst this;subst hlen;exact .lstNil _ _ _
      ·have hcell:∀(i j:Nat) cs,css[i]?=some cs→j<(j0 P e).size→w.cell? ((a.add (i*(j0 P e).size)).add j)=cs[j]?∧cs.length=(j0 P e).size:=by
        intro i j cs hi hj;have hil:=(List.getElem?_eq_some_iff.1 hi).1;obtain⟨av,hav⟩:∃av,els[i]?=some av:=⟨_,List.getElem?_eq_getElem (by omega)⟩;have:=World.cells?_some (e3 i av cs hav hi).1;exact⟨this.2.2 j hj,this.2.1⟩
       have hspot:a.spot=none:=by
        obtain⟨cs,hcs⟩:∃cs,css[0]?=some cs:=⟨_,List.getElem?_eq_getElem (by omega)⟩;obtain⟨k1,k2⟩:=hcell 0 0 cs hcs (by omega);rw[List.getElem?_eq_getElem (by omega)]at k1;have ha:(a.add (0*(j0 P e).size)).add 0=a:=by simp[Addr.add]
        rw[ha]at k1;exact World.cell?_spot k1
       obtain⟨b,off,sp⟩:=a;simp only at hspot;subst hspot;have hcl:∀c∈css,c.length=(j0 P e).size:=by
        intro c hc';obtain⟨i,hi⟩:=List.getElem?_of_mem hc';exact(hcell i 0 c hi (by omega)).2
       have hell:∀c∈els,c.length=(j0 P e).size:=by
        intro c hc';obtain⟨i,hi⟩:=List.getElem?_of_mem hc';have hil:=(List.getElem?_eq_some_iff.1 hi).1;obtain⟨cs,hcs⟩:∃cs,css[i]?=some cs:=⟨_,List.getElem?_eq_getElem (by omega)⟩;rw[(e3 i c cs hi hcs).2.1.1];exact hcl cs (List.mem_of_getElem? hcs)
       have key:∀(i:Nat) (x:Value),css.flatten[i]?=some x→∃q j cs,i=q*(j0 P e).size+j∧j<(j0 P e).size∧css[q]?=some cs∧cs[j]?=some x:=by
        intro i x hx;have hil:=(List.getElem?_eq_some_iff.1 hx).1;rw[l5 hcl]at hil;have hq:i/ (j0 P e).size<css.length:=by rw[Nat.div_lt_iff_lt_mul (by omega)];exact hil
        have hj:=Nat.mod_lt i (show(j0 P e).size>0 by omega);have hme:i=i/ (j0 P e).size*(j0 P e).size+i % (j0 P e).size:=by rw[Nat.mul_comm];exact(Nat.div_add_mod i _).symm
        obtain⟨cs,hcs⟩:∃cs,css[i/ (j0 P e).size]?=some cs:=⟨_,List.getElem?_eq_getElem hq⟩;refine⟨_,_,cs,hme,hj,hcs,?_⟩;have:=o5 hcl hcs (i % (j0 P e).size) hj;rw[←hme]at this;rw[←this];exact hx
       have hre:els.length=len:=e1;rw[←hre];have hblk:b<w.heap.size:=by
        obtain⟨cs,hcs⟩:∃cs,css[0]?=some cs:=⟨_,List.getElem?_eq_getElem (by omega)⟩;obtain⟨k1,k2⟩:=hcell 0 0 cs hcs (by omega);rw[List.getElem?_eq_getElem (by omega)]at k1;simp only[Nat.zero_mul,Addr.add_lit,Nat.add_zero]at k1
        rcases Nat.lt_or_ge b w.heap.size with hlt|hge
        ·exact hlt
        ·simp[World.cell?,Array.getElem?_eq_none hge]at k1
       refine q8.lst _ els b off cap css.flatten (fun h=>h) hblk (by omega) hell (by rw[l5 hell,l5 hcl,e1,e2]) ?_ ?_
       ·intro i x hx;obtain⟨q,j,cs,rfl,hj,hcs,hxj⟩:=key i x hx;obtain⟨k1,_⟩:=hcell q j cs hcs hj;rw[Addr.add_lit,Addr.add_lit,hxj]at k1;obtain⟨av,hav⟩:∃av,els[q]?=some av:=⟨_,List.getElem?_eq_getElem (by have:=(List.getElem?_eq_some_iff.1 hcs).1;omega)⟩;have hr:=(e3 q av cs hav hcs).2.1;obtain⟨c,hc'⟩:∃c,av[j]?=some c:=⟨_,List.getElem?_eq_getElem (by rw[hr.1];exact(List.getElem?_eq_some_iff.1 hxj).1)⟩;refine⟨?_,(hr.2 j c x hc' hxj).2⟩;rw[←Nat.add_assoc];exact k1
       ·intro i c x hc' hx;obtain⟨q,j,cs,rfl,hj,hcs,hxj⟩:=key i x hx;obtain⟨av,hav⟩:∃av,els[q]?=some av:=⟨_,List.getElem?_eq_getElem (by have:=(List.getElem?_eq_some_iff.1 hcs).1;omega)⟩;rw[o5 hell hav j hj]at hc';exact((e3 q av cs hav hcs).2.1.2 j c x hc' hxj).1
     ·intro el hel';obtain⟨i,hi⟩:=List.getElem?_of_mem hel';have hil:=(List.getElem?_eq_some_iff.1 hi).1;obtain⟨cs,hcs⟩:∃cs,css[i]?=some cs:=⟨_,List.getElem?_eq_getElem (by omega)⟩;exact(e3 i el cs hi hcs).2.2
   | agg z fs=>
    rw[ht]at hg;simp only[Bool.and_eq_true]at hg ⊢;obtain⟨hlay,hgf⟩:=hg;obtain⟨info,fa,h1,h2,h3,h4,hfs,_,hall⟩:=E2 ht;obtain⟨xs,n',rfl,rfl,hl,hxl,hf⟩:=DataW.trod_struct h2 h;have hcl:cs.length=z.length:=by rw[hl];simp[Program.cellsOf,h1,h4]
    obtain⟨avs,hr,hq⟩:=a9O (w:=w) (Q:=fun f a=>x6 P n f.2.2 a) fs 0 z.length cs hlay hcl (fun f hff=>by
     have hff':=hff;rw[hfs,List.mem_map]at hff';obtain⟨fd,hfd,rfl⟩:=hff';obtain⟨i,hi⟩:=List.getElem?_of_mem hfd;have hia:fa[i]?=some fd:=by simpa using hi
     have htr:=hf i fd hia;have hil:i<xs.length:=by rw[hxl];exact(Array.getElem?_eq_some_iff.1 hia).1
     rw[List.getElem?_eq_getElem hil]at htr;exact ih _ _ _ _ (List.all_eq_true.1 hgf _ hff) htr)
    rw[List.drop_zero]at hr;refine⟨avs,hr,by rw[hr.1,hcl],fun f hff=>?_⟩;have:=hq f hff
    rwa [Nat.sub_zero]at this
end
end Go.Tram
end
section
namespace Go.Cur
open Go.AM Go.Proofs Go.Tram
section
variable {P:Program}
theorem I3 {n:Nat} {t e:TypeId} {avs:List AV} (hk:a2R P t=none) (ht:j0 P t= .slice e) (h:x6 P (n+1) t avs):∃els,avs=[.lst (j0 P e).size els]∧els.length≤maxLen∧∀el∈els,x6 P n e el:=by
 simp only[x6,hk,ht]at h;exact h
theorem J6 {n:Nat} {t:TypeId} {z:List Value} {fs:List (Nat×Nat×TypeId)} {avs:List AV} (hk:a2R P t=none) (ht:j0 P t= .agg z fs) (h:x6 P (n+1) t avs):avs.length=z.length∧∀f∈fs,x6 P n f.2.2 ((avs.drop f.1).take f.2.1):=by
 simp only[x6,hk,ht]at h;exact h
theorem b0Y {n:Nat} {t:TypeId} {k:IntKind} {avs:List AV} (hk:a2R P t=some (.i k)) (h:x6 P (n+1) t avs):∃m,avs=[.v (.int k m)]∧(Lit.int k m).wf=true:=by
 simp only[x6,hk]at h;exact h
theorem a8P {n:Nat} {t:TypeId} {avs:List AV} (hk:a2R P t=some .b) (h:x6 P (n+1) t avs):∃b,avs=[.v (.bool b)]:=by
 simp only[x6,hk]at h;exact h
end
theorem a2P {α:Type} {c:α→List AV} {R:α→Prop}:∀{els:List (List AV)},(∀el∈els,∃a,el=c a∧R a)→∃l:List α,els=l.map c∧∀a∈l,R a
 |[],_=>⟨[],rfl,by simp⟩
 |e::els,h=>by
  obtain⟨a,rfl,ha⟩:=h e (List.mem_cons_self ..);obtain⟨l,rfl,hl⟩:=a2P (els:=els) (c:=c) (R:=R) (fun el hel=>h el (List.mem_cons_of_mem _ hel));refine⟨a::l,rfl,fun b hb=>?_⟩
  rcases List.mem_cons.1 hb with rfl|hb
  ·exact ha
  ·exact hl b hb
theorem a7v:(Try.prog).underlying 4=some .bool:=by kernel_rfl
theorem c3a:a2R Try.prog 3=some (.i .i64):=by kernel_rfl
theorem c0R:a2R Try.prog 4=some .b:=by kernel_rfl
def I64 (n:Int):Prop:=-9223372036854775808≤n∧n≤9223372036854775807
theorem c1D {m:Int} (h:(Lit.int .i64 m).wf=true):I64 m:=by
 simpa [Lit.wf,IntKind.min,IntKind.max,IntKind.signed,IntKind.bits,I64]using h
theorem O7 {n:Nat} {avs:List AV} (h:x6 Try.prog (n+1) 3 avs):∃m,avs=[I m]∧I64 m:=by
 obtain⟨m,h1,h2⟩:=b0Y c3a h;exact⟨m,h1,c1D h2⟩
theorem c3p {α:Type} {l:List α} (h:l.length=2):∃a b,l=[a,b]:=by match l,h with|[a,b],_=>exact⟨a,b,rfl⟩
theorem c3t {α:Type} {l:List α} (h:l.length=3):∃a b c,l=[a,b,c]:=by match l,h with|[a,b,c],_=>exact⟨a,b,c,rfl⟩
theorem c0u {α:Type} {l:List α} (h:l.length=4):∃a b c d,l=[a,b,c,d]:=by match l,h with|[a,b,c,d],_=>exact⟨a,b,c,d,rfl⟩
theorem c0L {n:Nat} {avs:List AV} (h:x6 Try.prog (n+1) 4 avs):∃b,avs=i8 b:=a8P c0R h
theorem b0h {n:Nat} {avs:List AV} (h:x6 Try.prog (n+2) 26 avs):∃l:List Bool,avs=[bL l]∧l.length≤maxLen:=by
 obtain⟨els,hl,hb,he⟩:=I3 (by kernel_rfl) c3L h;obtain⟨l,rfl,hR⟩:=a2P (c:=i8) (R:=fun _=>True) (fun el hel=>by obtain⟨b,h⟩:=c0L (he el hel);exact⟨b,h,trivial⟩);simp at hl hb;exact⟨l,hl,hb⟩
theorem b9t {n:Nat} {avs:List AV} (h:x6 Try.prog (n+2) 54 avs):∃s:Wr,avs=s.cells:=by
 obtain⟨h1,h2⟩:=J6 (by kernel_rfl) c3R h;obtain⟨a,b,c,d,rfl⟩:=c0u h1;obtain⟨x,hx,_⟩:=O7 (h2 (0,1,3) (by simp));obtain⟨y,hy,_⟩:=O7 (h2 (1,1,3) (by simp));obtain⟨z,hz,_⟩:=O7 (h2 (2,1,3) (by simp));obtain⟨u,hu⟩:=c0L (h2 (3,1,4) (by simp));simp at hx hy hz hu;subst hx hy hz hu;exact⟨⟨x,y,z,u⟩,rfl⟩
theorem b9s {n:Nat} {avs:List AV} (h:x6 Try.prog (n+2) 52 avs):∃s:Fd,avs=s.cells:=by
 obtain⟨h1,h2⟩:=J6 (by kernel_rfl) c4a h;obtain⟨a,b,c,d,rfl⟩:=c0u h1;obtain⟨x,hx,_⟩:=O7 (h2 (0,1,3) (by simp));obtain⟨y,hy,_⟩:=O7 (h2 (1,1,3) (by simp));obtain⟨z,hz,_⟩:=O7 (h2 (2,1,3) (by simp));obtain⟨u,hu,_⟩:=O7 (h2 (3,1,3) (by simp));simp at hx hy hz hu;subst hx hy hz hu;exact⟨⟨x,y,z,u⟩,rfl⟩
theorem c0q {n:Nat} {avs:List AV} (h:x6 Try.prog (n+2) 66 avs):∃s:Ld,avs=s.cells∧I64 s.Units:=by
 obtain⟨h1,h2⟩:=J6 (by kernel_rfl) c3F h;obtain⟨a,b,c,rfl⟩:=c3t h1;obtain⟨x,hx,_⟩:=O7 (h2 (0,1,3) (by simp));obtain⟨y,hy,iy⟩:=O7 (h2 (1,1,3) (by simp));obtain⟨z,hz,_⟩:=O7 (h2 (2,1,3) (by simp));simp at hx hy hz;subst hx hy hz;exact⟨⟨x,y,z⟩,rfl,iy⟩
theorem b2E {n:Nat} {avs:List AV} (h:x6 Try.prog (n+4) 25 avs):∃g:Gr,avs=g.cells∧g.Wires.length≤maxLen∧g.Feeds.length≤maxLen:=by
 obtain⟨h1,h2⟩:=J6 (by kernel_rfl) c3n h;obtain⟨a,b,c,d,rfl⟩:=c0u h1;obtain⟨x,hx,_⟩:=O7 (h2 (0,1,3) (by simp));obtain⟨e1,hl1,b1,he1⟩:=I3 (by kernel_rfl) c4c (h2 (1,1,22) (by simp));obtain⟨l1,rfl,_⟩:=a2P (c:=Wr.cells) (R:=fun _=>True) (fun el hel=>by obtain⟨b,h⟩:=b9t (he1 el hel);exact⟨b,h,trivial⟩);obtain⟨e2,hl2,b2,he2⟩:=I3 (by kernel_rfl) c3T (h2 (2,1,23) (by simp));obtain⟨l2,rfl,_⟩:=a2P (c:=Fd.cells) (R:=fun _=>True) (fun el hel=>by obtain⟨b,h⟩:=b9s (he2 el hel);exact⟨b,h,trivial⟩);obtain⟨y,hy,_⟩:=O7 (h2 (3,1,3) (by simp));simp at hx hl1 hl2 hy;subst hx hl1 hl2 hy;rw[List.length_map]at b1 b2;exact⟨⟨x,l1,l2,y⟩,by simp,b1,b2⟩
theorem b0a {n:Nat} {avs:List AV} (h:x6 Try.prog (n+4) 28 avs):∃s:Sta,avs=s.cells∧s.Feeds.length≤maxLen∧s.Wires.length≤maxLen:=by
 obtain⟨h1,h2⟩:=J6 (by kernel_rfl) c3h h;obtain⟨a,b,rfl⟩:=c3p h1;obtain⟨l1,hl1,b1⟩:=b0h (h2 (0,1,26) (by simp));obtain⟨l2,hl2,b2⟩:=b0h (h2 (1,1,26) (by simp));simp at hl1 hl2;subst hl1 hl2;exact⟨⟨l1,l2⟩,by simp,b1,b2⟩
theorem b0l {n:Nat} {avs:List AV} (h:x6 Try.prog (n+3) 29 avs):∃l:List Ld,avs=[lL l]∧l.length≤maxLen∧∀x∈l,I64 x.Units:=by
 obtain⟨els,hl,hb,he⟩:=I3 (by kernel_rfl) c3k h;obtain⟨l,rfl,hR⟩:=a2P (c:=Ld.cells) (R:=fun x=>I64 x.Units) (fun el hel=>c0q (he el hel));rw[List.length_map]at hb;exact⟨l,hl,hb,hR⟩
open Go.WideShapes in
theorem a4H {H:Type} {enc:TypeId×Value→H} {W:World} {base n:Nat} {t:TypeId} {v:Value} {d:DataW H} {p:List MemPlace} {z:List Value} {fs:List (Nat×Nat×TypeId)} (hg:a8e Try.prog n t=true) (ht:j0 Try.prog t= .agg z fs)
  (hv:Value.okWide Try.prog W .any base t v) (h:DataW.Trod enc Try.prog W 0 (fun _=>true) true t v d p):∃avs,q8 W (fun _=>False) (.agg avs) v∧x6 Try.prog n t avs:=by
 obtain⟨fuel,h⟩:=h;obtain⟨avs,hr,hs⟩:=b3L n fuel t _ _ hg h;obtain⟨info,fa,h1,h2,_⟩:=E2 ht;obtain⟨cs,rfl,_⟩:=okWide_struct h2 hv;refine⟨avs,?_,hs⟩;have:=q8.agg (w:=W) (S:=fun _=>False) avs cs.toList hr.1 (fun x hx=>by
  obtain⟨i,hi⟩:=List.getElem?_of_mem hx;have hil:=(List.getElem?_eq_some_iff.1 hi).1;obtain⟨c,hc⟩:∃c,avs[i]?=some c:=⟨_,List.getElem?_eq_getElem (by rw[hr.1];exact hil)⟩;exact(hr.2 i c x hc hi).2) (fun i c x h1 h2=>(hr.2 i c x h1 h2).1)
 simpa using this
open Go.WideShapes in
theorem a6z {H:Type} {enc:TypeId×Value→H} {W:World} {base n:Nat} {t e:TypeId} {v:Value} {d:DataW H} {p:List MemPlace} (hg:a8e Try.prog n t=true) (ht:j0 Try.prog t= .slice e)
  (hv:Value.okWide Try.prog W .any base t v) (h:DataW.Trod enc Try.prog W 0 (fun _=>true) true t v d p):∃av,q8 W (fun _=>False) av v∧x6 Try.prog n t [av]:=by
 obtain⟨fuel,h⟩:=h;obtain⟨avs,hr,hs⟩:=b3L n fuel t _ _ hg h;obtain⟨info,h1,h2,_⟩:=o3 ht;obtain⟨a,len,cap,rfl⟩:=okWide_slice h2 hv;have hl:avs.length=1:=by rw[hr.1];rfl
 match avs,hl,hr,hs with
 |[av],_,hr,hs=>exact⟨av,(hr.2 0 av _ rfl rfl).1,hs⟩
theorem c3D:laidOutB Try.prog=true:=by kernel_rfl
theorem c1k:mapsRowed Try.prog=true:=by kernel_rfl
theorem c3Y:Kids Try.prog (· <Try.prog.types.size):=kids_rows c3D c1k
theorem full:∀t e,t<Try.prog.types.size→Try.prog.underlying t=some (.slice e)→0<Try.prog.cellsOf e:=slices_full_of Try.prog (by kernel_rfl)
theorem b5q {w w':World} (h:Ext (fun _=>False) w w') {a:Addr} (ha:a.block<w.heap.size):w'.cell? a=w.cell? a:=y6 (h.block _ ha (fun k=>k))
theorem a9o {H:Type} {enc:TypeId×Value→H} {f:Func} {s:ChangeSpec} {fresh handsOn c1O:Bool} {W W':World} {args:Array Value} {v:Value} {ds:List (DataW H)} {before:List MemPlace}
  (hvars:s.vars=[]) (hres:(s.fn H ds).results=[.lit (.bool true)]) (hargs:(s.fn H ds).args=ds) (hvs:(s.fn H ds).vars=[]) (hf:f.resultTypes= #[4]) (hts:∀t∈f.params.toList,t<Try.prog.types.size)
  (hW:DataW.Whole enc Try.prog f.params.toList s.vars false W args.toList ds [] before) (hext:Ext (fun _=>False) W W') (hv:v= .bool true):
  s.post enc Try.prog f false fresh handsOn c1O W args v W':=by
 subst hv;have hlt:=hW.lt;have hW':=hW;obtain⟨p,q,hA,hV,hpq,hz,hn⟩:=hW;rw[hvars]at hV;obtain⟨_,rfl⟩:=Go.ChangeShapes.trodVars_none hV;rw[List.append_nil]at hpq;subst hpq;have carry:∀(ts:List TypeId) (vs:List Value) (ds:List (DataW H)) (ps:List MemPlace),DataW.TrodAll enc Try.prog W 0 (fun _=>true) true ts vs ds ps→(∀x∈ps,x.block<W.heap.size)→DataW.TrodAll enc Try.prog W' 0 (fun _=>true) true ts vs ds ps:=by
  intro ts
  induction ts with
  |nil=>intro vs ds ps h _;match vs,ds,h with|[],[],h=>exact h
  | cons t ts ih=>
   intro vs ds ps h hl
   match vs,ds,h with
   |v::vs,d::ds,⟨p1,q1,⟨n,h1⟩,h2,he⟩=>
    subst he;refine⟨p1,q1,⟨n,DataW.trod_carry n _ _ _ h1 (fun x hx=>?_)⟩,ih vs ds q1 h2 (fun x hx=>hl x (List.mem_append_right _ hx)),rfl⟩;have hb:=hl x (List.mem_append_left _ hx)
    cases x with
    |cell b off=>exact b5q hext hb
    |map b=>exact hext.block b hb (fun k=>k)
 have hA':=carry _ _ _ _ hA hlt;have hag:∀sp:Nat→Bool,(∀x∈before,sp x.block=true)→DataW.TrodAll enc Try.prog W' 0 sp true f.params.toList args.toList (s.fn H (ds++[])).args before:=by
  intro sp hs;rw[List.append_nil,hargs];exact hA'.respare c3Y full hts hs
 have hr:∀(b:Nat) (sp:Nat→Bool) (hd:Bool),DataW.TrodAll enc Try.prog W' b sp hd f.resultTypes.toList ((Value.bool true).resultList f.resultTypes.size) (s.fn H (ds++[])).results []:=by
  intro b sp hd;rw[List.append_nil,hres,hf];exact Go.ChangeShapes.trodAll_mk1 (Go.RowKit.shut_bool a7v _)
 have hkept:W.keptBut W' (· ∈before):=by
  refine⟨hext.os,hext.output,fun i hi=>?_⟩;rw[hext.block i hi (fun k=>k)]
  cases hb:W.heap[i]? with
  |none=>trivial
  |some o=>cases o<;>simp
 have hv0:∀sp:Nat→Bool,DataW.TrodVars enc Try.prog W' sp s.vars (s.fn H (ds++[])).vars []:=by
  intro sp;rw[hvars,List.append_nil,hvs]
  rfl
 have hold:∀x∈before,(fun b=>decide (b<W.heap.size)) x.block=true:=fun x hx=>by simpa using hlt x hx
 refine⟨ds,[],before,[],before,[],hW',hr _ _ _,hag _ hold,hv0 _,World.keptBut_mono (fun x hx=>⟨hx,Or.inr (Or.inl hx)⟩) hkept,fun _=>?_⟩;refine⟨Go.RowKit.ok_one hf rfl (Go.RowKit.okWide_bool_mk a7v _),_,_,([]++before)++[],⟨[]++before,[],Go.ChangeShapes.trodAll_append (hag _ (fun _ _=>rfl)) (hr _ _ _),hv0 _,rfl,?_,?_⟩,?_⟩
 ·intro b off hp;have hp':MemPlace.cell b off∈before:=by simpa using hp
  have hb:=hlt _ hp';have:W'.frozen? ⟨b,off,none⟩=W.frozen? ⟨b,off,none⟩:=by unfold World.frozen?;rw[hext.block b hb (fun k=>k)]
  rw[this];exact hz b off hp'
 ·intro ha;cases ha
 ·intro x hx _;simpa using hx
theorem a6F {P : Program} {f : FuncId} {fn : Func} {c : Code} {avs : List AV} {vs : List Value} {W : World} (hf : P.funcs[f]? = some fn) (hb : fn.body = some c) (hname : (fn.name == "runtime.NumGoroutine") = false)
  (h:d5 P f avs (Bo true)) (hl:avs.length=vs.length) (hr:∀(i:Nat) c x,avs[i]?=some c→vs[i]?=some x→q8 W (fun _=>False) c x):
  Calls P f vs.toArray W fun e W'=>e= .returned (.bool true)∧Ext (fun _=>False) W W':=by
 have hn' : ¬ fn.name = "runtime.NumGoroutine" := by simpa using hname
 rcases h with⟨_,h2⟩|h2
 ·refine(h2 (fun _=>False) W vs (fun b k=>k.elim) hl hr).mono fun e W' ⟨v,q1,q2,q3⟩=>?_
  cases q2
  exact⟨q1,q3⟩
 ·exfalso;obtain⟨v,q1,_⟩:=h2 (fun _=>False) W vs hl hr;have:(callFunc f vs.toArray).run P W= .ok (.enter f vs.toArray) W:=by simp[callFunc,hf,hn',hb]
  rw[this]at q1
  cases q1
theorem b3U {W:World}:∀(i:Nat) c x,([]:List AV)[i]?=some c→([]:List Value)[i]?=some x→q8 W (fun _=>False) c x:=fun i c x h=>by simp at h
theorem R8 {W:World} {a:AV} {v:Value} {xs:List AV} {vs:List Value} (h:q8 W (fun _=>False) a v) (k:∀(i:Nat) c x,xs[i]?=some c→vs[i]?=some x→q8 W (fun _=>False) c x):
  ∀(i:Nat) c x,(a::xs)[i]?=some c→(v::vs)[i]?=some x→q8 W (fun _=>False) c x:=fun i c x h1 h2=>by
 cases i with
 |zero=>simp at h1 h2;subst h1 h2;exact h
 |succ i=>exact k i c x (by simpa using h1) (by simpa using h2)
end Go.Cur
end
section
namespace Go.Cur
open Go.AM Go.Proofs
theorem a2X (g:Gr) (s:Sta) (hsw:s.Wires.length=g.Wires.length) (hn:g.Wires.length≤1000):d5 Try.prog 33 [g.av,s.av] (iL (a1C s.Wires g.Wires.length)):=by
 refine d5.of_body Try.func33 rfl (by decide) (by simp[Try.ntmps33]) ?_;simp only[Try.ntmps33,Try.results33];refine aS fun K hK=>?_;simp -dsimp;apply hK;clear hK K;refine aS fun K hK=>?_;simp -dsimp;apply hK;clear hK K;refine d4 fun K1 hK1=>?_;refine aS fun K hK=>?_;simp -dsimp;apply hK;clear hK K;refine e7 ?_;refine b8 [2,3,5,6] ?_;simp only[zP,Nat.reduceEqDiff,reduceIte];refine g9 [2,3] (α:=Nat) (fun k=>[(5, .row 2 0 (a1C s.Wires k).length),(6,I k)]) (fun k=>[some (.els 4 [g.cells]),some (.els 2 [s.cells]),some (.els 1 ((a1C s.Wires k).map i9))]) (fun k=>k≤g.Wires.length) (fun k=>g.Wires.length-k) 0 ?_ ?_ ?_
 ·exact Nat.zero_le _
 ·exact(z8 5 1 (by simp)).trans (j7 (by simp[a1C]))
 rintro k k1;simp only[zP,Nat.reduceEqDiff,reduceIte];refine d4 fun K2 hK2=>?_;refine aS fun K hK=>?_;simp -dsimp;apply hK;clear hK K;refine d9 rfl (fun hc0=>?_) (fun hc0=>?_)
 ·have hkl:k<g.Wires.length:=by simpa using hc0
  have wk:=zW k (by omega);have gb:=s7 (l:=s.Wires) (k:=k) (by omega);have hos:=W5 s.Wires k;unfold c0D at hos;have hol:=a1D s.Wires k;have f1:C7 ((a1C s.Wires k).length+1) 9:=k9 (by omega) (by omega);refine f6 ?_;simp only[zT,reduceIte,Nat.reduceEqDiff];refine hK2 _ _ ?_;refine b8 [2,3,5,6] ?_;simp only[zP,Nat.reduceEqDiff,reduceIte];refine d4 fun K3 hK3=>?_;refine e7 ?_;refine aS fun K hK=>?_;simp -dsimp [gb];apply hK;clear hK K;refine d9 rfl (fun hc1=>?_) (fun hc1=>?_)
  ·refine aR fun K hK=>?_;simp -dsimp [f1];apply hK;clear hK K;simp only[zT,reduceIte,Nat.reduceEqDiff];refine hK3 _ _ ?_;refine b8 [2,3,5,6] ?_;simp only[zP,Nat.reduceEqDiff,reduceIte];refine aR fun K hK=>?_;simp -dsimp [wk];apply hK;clear hK K;simp only[zT,reduceIte,Nat.reduceEqDiff];have hb:bAt s.Wires k=false:=by simpa using hc1
   rw[if_neg (by simp[hb])]at hos;exact⟨k+1,by omega,by omega,e8 [some 0,some 1,some 3] rfl (by simp[hos]) (by simp[hos])⟩
  ·refine f6 ?_;simp only[zT,reduceIte,Nat.reduceEqDiff];refine hK3 _ _ ?_;refine b8 [2,3,5,6] ?_;simp only[zP,Nat.reduceEqDiff,reduceIte];refine aR fun K hK=>?_;simp -dsimp [wk];apply hK;clear hK K;simp only[zT,reduceIte,Nat.reduceEqDiff];have hb:bAt s.Wires k=true:=by simpa using hc1
   rw[if_pos hb]at hos;exact⟨k+1,by omega,by omega,e8 [some 0,some 1,some 2] rfl (by simp[hos]) (by simp[hos])⟩
 ·have hke:k=g.Wires.length:=by have hx:¬k<g.Wires.length:=(by simpa using hc0);omega
  rw[hke];refine j9 ?_;simp only[zT,reduceIte,Nat.reduceEqDiff];refine hK1 _ _ ?_;refine b8 [5] ?_;simp only[zP,Nat.reduceEqDiff,reduceIte];refine aS fun K hK=>?_;simp -dsimp;apply hK;clear hK K;exact g7 (by simp)
def chL:Nat→List Int→List (List Int)
 |0,_=>[[]]
 |d+1,l=>(List.range l.length).flatMap fun i=>(chL d (l.drop (i+1))).map fun c=>at0 l (i:Nat)::c
def chN (d:Nat) (l:List Int) (n:Nat):List (List Int):=(List.range n).flatMap fun i=>(chL d (l.drop (i+1))).map fun c=>at0 l (i:Nat)::c
theorem a1Y (d:Nat) (l:List Int) (n:Nat):chN d l (n+1)=chN d l n++(chL d (l.drop (n+1))).map fun c=>at0 l (n:Nat)::c:=by
 unfold chN;rw[List.range_succ,List.flatMap_append];simp
theorem a4M:∀(d:Nat) (l:List Int),l.length≤6→(chL d l).length≤6^d
 |0,l,_=>by simp[chL]
 | d+1,l,h=>by
  have gen:∀n,n≤l.length→(chN d l n).length≤n*6^d:=by
   intro n
   induction n with
   |zero=>intro _;simp[chN]
   |succ n ih=>
    intro hn;have h1:=ih (by omega);have h2:=a4M d (l.drop (n+1)) (by simp;omega);rw[a1Y,List.length_append,List.length_map,Nat.add_mul];omega
  have h1:=gen l.length (Nat.le_refl _);have h2:chL (d+1) l=chN d l l.length:=rfl;rw[h2,Nat.pow_succ];have:=Nat.mul_le_mul_right (6^d) h;rw[Nat.mul_comm (6^d)];omega
theorem a5S:∀{d:Nat} {l c:List Int},c∈chL d l→c.length=d∧∀x∈c,x∈l
 |0,l,c,h=>by
  have:c=[]:=by simpa [chL]using h
  subst this;simp
 |d+1,l,c,h=>by
  have h':c∈(List.range l.length).flatMap fun i=>(chL d (l.drop (i+1))).map fun c=>at0 l (i:Nat)::c:=h;rw[List.mem_flatMap]at h';obtain⟨i,hi,h2⟩:=h';obtain⟨e,he,rfl⟩:=List.mem_map.1 h2;obtain⟨k1,k2⟩:=a5S he;rw[List.mem_range]at hi;refine⟨by simp[k1],fun x hx=>?_⟩
  rcases List.mem_cons.1 hx with rfl|hx
  ·exact List.mem_of_getElem? (B9 hi)
  ·exact List.mem_of_mem_drop (k2 x hx)
def cnN (x:Int) (O R:List (List Int)) (k:Nat):List (List Int):=O++(R.take k).map fun c=>x::c
theorem b9A {x:Int} {O R:List (List Int)} {k:Nat} (h:k≤R.length):(cnN x O R k).length=O.length+k:=by unfold cnN;simp;omega
theorem b7c {x:Int} {O R:List (List Int)} {k:Nat} {c:List Int} (h:R[k]?=some c):cnN x O R (k+1)=cnN x O R k++[x::c]:=by unfold cnN;rw[List.take_add_one,h];simp
theorem a4j:∀(d:Nat) (l:List Int),d≤6→l.length≤6→d5 Try.prog 62 [iL l,I d] (.lst 1 ((chL d l).map F7))
 |0,l,_,hl=>by
  refine d5.res (res:= .full 1 [[.v (.slice none 0 0)]]) ?_ fun w S y h=>b3p 1 3 _ _ h;refine d5.of_body Try.func62 rfl (by decide) (by simp[Try.ntmps62]) ?_;simp only[Try.ntmps62,Try.results62];refine aS fun K hK=>?_;simp -dsimp;apply hK;clear hK K;refine d4 fun K1 hK1=>?_;refine aS fun K hK=>?_;simp -dsimp;apply hK;clear hK K;refine d9 rfl (fun hc0=>?_) (fun hc0=>?_)
  ·refine aS fun K hK=>?_;simp -dsimp;apply hK;clear hK K;exact g7 (by simp)
  ·simp at hc0
 | d +1,l,hd,hl=>by
  have ih:=fun r (hr:r.length≤6)=>a4j d r (by omega) hr;have hcl:=fun r (hr:r.length≤6)=>a4M d r hr;have hcm:=fun r c (hc:c∈chL d r)=>(a5S hc).1;have hp6:6^d≤6^5:=Nat.pow_le_pow_right (by decide) (by omega);have hchN:chL (d+1) l=chN d l l.length:=rfl;rw[hchN];have wd:IntKind.i64.wrap (d:Int)=(d:Int):=i7 (by omega) (by omega);have hcn:∀n,n≤l.length→(chN d l n).length≤n*6^d:=by
   intro n
   induction n with
   |zero=>intro _;simp[chN]
   |succ n ihn=>
    intro hn;have h1:=ihn (by omega);have h2:=a4M d (l.drop (n+1)) (by simp;omega);rw[a1Y,List.length_append,List.length_map,Nat.add_mul];omega
  refine d5.of_body Try.func62 rfl (by decide) (by simp[Try.ntmps62]) ?_;simp only[Try.ntmps62,Try.results62];refine aS fun K hK=>?_;simp -dsimp;apply hK;clear hK K;refine d4 fun K1 hK1=>?_;refine aS fun K hK=>?_;simp -dsimp;apply hK;clear hK K;refine d9 rfl (fun hc0=>?_) (fun hc0=>?_)
  ·simp at hc0;omega
  ·refine f6 ?_;simp only[zT,reduceIte,Nat.reduceEqDiff];refine hK1 _ _ ?_;refine b8 [0,1] ?_;simp only[zP,Nat.reduceEqDiff,reduceIte];refine aS fun K hK=>?_;simp -dsimp;apply hK;clear hK K;refine d4 fun K2 hK2=>?_;refine aS fun K hK=>?_;simp -dsimp;apply hK;clear hK K;refine e7 ?_;refine b8 [0,1,5,6] ?_;simp only[zP,Nat.reduceEqDiff,reduceIte];refine g9 [0,1] (α:=Nat) (fun i=>[(5, .row 0 0 (chN d l i).length),(6,I i)]) (fun i=>[some (.els 1 ((chN d l i).map F7))]) (fun i=>i≤l.length) (fun i=>l.length-i) 0 ?_ ?_ ?_
   ·exact Nat.zero_le _
   ·exact(z8 5 1 (by simp)).trans (j7 (by simp[chN]))
   rintro i i1;simp only[zP,Nat.reduceEqDiff,reduceIte];refine d4 fun K3 hK3=>?_;refine aS fun K hK=>?_;simp -dsimp;apply hK;clear hK K;refine d9 rfl (fun hc1=>?_) (fun hc1=>?_)
   ·have hil:i<l.length:=by simpa using hc1
    have wi:=zW i (by omega);have hch:d5 Try.prog 62 [.lst 1 (List.drop (i+1) (List.map i9 l)),I d] (.lst 1 ((chL d (l.drop (i+1))).map F7)):=by rw[←List.map_drop];exact ih (l.drop (i+1)) (by simp;omega)
    have hi0:(0:Int)≤(i:Int)+1:=by omega
    have hi1:i+1≤l.length:=by omega
    have hcll:=hcl (l.drop (i+1)) (by simp;omega);have hcmm:=hcm (l.drop (i+1));have hcs:=a1Y d l i;have hcni:=hcn i (by omega);have hcn6:i*6^d≤6*6^5:=Nat.mul_le_mul (by omega) hp6;generalize chL d (l.drop (i+1))=R at hch hcll hcmm hcs;generalize chN d l i=O at hcs hcni ⊢;obtain⟨x,hx⟩:∃x,x=at0 l (i:Nat):=⟨_,rfl⟩;have gx:l[i]?=some x:=by rw[hx];exact B9 hil
    rw[←hx]at hcs;refine f6 ?_;simp only[zT,reduceIte,Nat.reduceEqDiff];refine hK3 _ _ ?_;refine b8 [0,1,5,6] ?_;simp only[zP,Nat.reduceEqDiff,reduceIte];refine d4 fun K4 hK4=>?_;refine e7 ?_;refine aS fun K hK=>?_;simp -dsimp [wi,wd,hi0,hi1];refine d6 _ (hch) (by simp) ?_;simp -dsimp [wi,wd,hi0,hi1];apply hK;clear hK K;refine aS fun K hK=>?_;simp -dsimp;apply hK;clear hK K;refine e7 ?_;refine b8 [0,1,5,6,7,8] ?_;simp only[zP,Nat.reduceEqDiff,reduceIte];refine g9 [0,1,6,7] (α:=Nat) (fun k=>[(5, .row 0 0 (cnN x O R k).length),(8,I k)]) (fun k=>[some (.els 1 ((cnN x O R k).map F7))]) (fun k=>k≤R.length) (fun k=>R.length-k) 0 ?_ ?_ ?_
    ·exact Nat.zero_le _
    ·exact e8 [some 0] rfl (by simp[cnN]) (by simp[cnN])
    rintro k k1;simp only[zP,Nat.reduceEqDiff,reduceIte];refine d4 fun K5 hK5=>?_;refine aS fun K hK=>?_;simp -dsimp;apply hK;clear hK K;refine d9 rfl (fun hc2=>?_) (fun hc2=>?_)
    ·have hkl:k<R.length:=by simpa using hc2
     have wk:=zW k (by omega);obtain⟨c,hc⟩:∃c,R[k]?=some c:=⟨_,List.getElem?_eq_getElem hkl⟩;have hcl':=hcmm c (List.mem_of_getElem? hc);have hql:=b9A (x:=x) (O:=O) k1;have hqs:=b7c (x:=x) (O:=O) hc;have f1:C7 (1+c.length) 9:=k9 (by omega) (by omega);have f2:C7 ((cnN x O R k).length+1) 25:=k9 (by omega) (by omega);generalize cnN x O R k=Q at hql hqs f2 ⊢;have htq:List.take Q.length (Q.map F7)=Q.map F7:=List.take_of_length_le (by simp);refine f6 ?_;simp only[zT,reduceIte,Nat.reduceEqDiff];refine hK5 _ _ ?_;refine b8 [0,1,5,6,7,8] ?_;simp only[zP,Nat.reduceEqDiff,reduceIte];refine d4 fun K6 hK6=>?_;refine e7 ?_;refine b5E (by decide) ?_;refine E1 l6 rfl fun K hK=>?_;simp -dsimp [gx,hc,f1,f2,htq];refine hK _ _ _ (by decide+kernel) ?_;clear hK K;simp only[zT,reduceIte,Nat.reduceEqDiff];refine hK6 _ _ ?_;refine b8 [0,1,5,6,7,8] ?_;simp only[zP,Nat.reduceEqDiff,reduceIte];refine aR fun K hK=>?_;simp -dsimp [wk];apply hK;clear hK K;simp only[zT,reduceIte,Nat.reduceEqDiff];have htc:List.take (1+c.length) ([I x]::c.map i9)=[I x]::c.map i9:=List.take_of_length_le (by simp;omega);have hle1:1+c.length≤c.length+1:=by omega
     refine⟨k+1,by omega,by omega,?_⟩;rw[hqs];exact B5 (T':=[(5, .row 0 0 (Q++[x::c]).length),(8,I ((k+1:Nat):Int)),(0,iL l),(1,I ((d:Int)+1)),(6,I i),(7, .lst 1 (R.map F7))]) (H':=[some (.els 1 ((Q++[x::c]).map F7))]) [some 4] rfl ⟨.inr (by simp), .inr (by simp), .inr (by simp), .inr (by simp), .inr (by simp), .inr (by simp),trivial⟩ (by simp[hle1,htc])
    ·have hkl:¬k<R.length:=by simpa using hc2
     have hkR:k=R.length:=by omega
     have hcs':chN d l (i+1)=cnN x O R k:=by rw[hcs];unfold cnN;rw[List.take_of_length_le (by omega)]
     rw[←hcs'];refine j9 ?_;simp only[zT,reduceIte,Nat.reduceEqDiff];refine hK4 _ _ ?_;refine b8 [0,1,5,6] ?_;simp only[zP,Nat.reduceEqDiff,reduceIte];refine aR fun K hK=>?_;simp -dsimp [wi];apply hK;clear hK K;simp only[zT,reduceIte,Nat.reduceEqDiff];exact⟨i+1,by omega,by omega,j7 (by simp)⟩
   ·have hil:¬i<l.length:=by simpa using hc1
    have hie:i=l.length:=by omega
    rw[hie];refine j9 ?_;simp only[zT,reduceIte,Nat.reduceEqDiff];refine hK2 _ _ ?_;refine b8 [5] ?_;simp only[zP,Nat.reduceEqDiff,reduceIte];refine aS fun K hK=>?_;simp -dsimp;apply hK;clear hK K;exact g7 (by simp)
end Go.Cur
end
section
namespace Go.Cur
open Go.AM Go.Proofs
theorem a9j {rl:List Int→Bool} {x:Int}:∀(L:List (List Int)),(L.map fun c=>x::c).find? rl=(L.find? fun c=>rl (x::c)).map fun c=>x::c
 |[]=>rfl
 |c::L=>by
  rw[List.map_cons,List.find?_cons,List.find?_cons]
  cases rl (x::c)with
  |true=>rfl
  |false=>exact a9j L
theorem a9m (rl:List Int→Bool):∀(d:Nat) (c r:List Int) (f:Option (List Int)),(∀e,(chL d r).find? (fun e=>rl (c++e))=some e→chF rl d c r f=(true,chA (c++e)))∧((chL d r).find? (fun e=>rl (c++e))=none→(chF rl d c r f).1=false)
 |0,c,r,f=>by
  have e0:chF rl 0 c r f=(rl c,chA c):=rfl;rw[e0];simp only[chL,List.find?_cons,List.find?_nil,List.append_nil]
  cases h:rl c with
  |true=>simp
  |false=>simp
 | d +1,c,r,f=>by
  have gen:∀n,n≤r.length→(∀e,(chN d r n).find? (fun e=>rl (c++e))=some e→(List.range n).foldl (chS rl d c r) (false,f)=(true,chA (c++e)))∧((chN d r n).find? (fun e=>rl (c++e))=none→((List.range n).foldl (chS rl d c r) (false,f)).1=false):=by
   intro n
   induction n with
   |zero=>intro _;exact⟨fun e h=>by simp[chN]at h,fun _=>rfl⟩
   | succ n ih=>
    intro hn;obtain⟨h1,h2⟩:=ih (by omega);rw[List.range_succ,List.foldl_append,a1Y,List.find?_append,a9j,List.foldl_cons,List.foldl_nil]
    cases hq:(chN d r n).find? (fun e=>rl (c++e))with
    |some e=>
     have:=h1 e hq;rw[this];refine⟨fun e' he=>?_,fun he=>by simp at he⟩;simp only[Option.some_or,Option.some.injEq]at he;subst he;exact if_pos rfl
    |none=>
     have hf:=h2 hq;generalize (List.range n).foldl (chS rl d c r) (false,f)=q at hf;have hc:chS rl d c r q n=chF rl d (c++[at0 r (n:Nat)]) (r.drop (n+1)) q.2:=if_neg (by rw[hf];simp);rw[hc];obtain⟨k1,k2⟩:=a9m rl d (c++[at0 r (n:Nat)]) (r.drop (n+1)) q.2;have ea:(fun e=>rl (c++[at0 r (n:Nat)]++e))=fun e=>rl (c++at0 r (n:Nat)::e):=funext fun e=>by rw[List.append_assoc];rfl
     rw[ea]at k1 k2;refine⟨fun e' he=>?_,fun he=>?_⟩
     ·simp only[Option.none_or,Option.map_eq_some_iff]at he;obtain⟨e,he,rfl⟩:=he;rw[k1 e he,List.append_assoc];rfl
     ·simp only[Option.none_or,Option.map_eq_none_iff]at he;exact k2 he
  have e1:chL (d+1) r=chN d r r.length:=rfl;rw[e1,a4Q];exact gen r.length (Nat.le_refl _)
def a7n (rl:List Int→Bool) (off:List Int):Option (List Int):=(List.range (off.length+1)).findSome? fun k=>(chL k off).find? rl
theorem b9W {α:Type} {h:Nat→Option α} {n m:Nat} {e:α} (hn:∀k,k<n→h k=none) (he:h n=some e) (hm:n<m):(List.range m).findSome? h=some e:=by
 have e1:List.range m=List.range n++(n::((List.range (m-n-1)).map fun j=>n+1+j)):=by
  have:m=n+(1+(m-n-1)):=by omega
  rw[this,List.range_add,List.range_add];simp;omega
 rw[e1,List.findSome?_append,List.findSome?_eq_none_iff.2 (fun k hk=>hn k (List.mem_range.1 hk)),List.findSome?_cons,he];rfl
theorem a2s (rl:List Int→Bool) (off:List Int):(∀e,a7n rl off=some e→b4B rl off=(true,chA e))∧(a7n rl off=none→(b4B rl off).1=false):=by
 have gen:∀n,(∀e,(List.range n).findSome? (fun k=>(chL k off).find? rl)=some e→(List.range n).foldl (b6C rl off) (false,none)=(true,chA e))∧((List.range n).findSome? (fun k=>(chL k off).find? rl)=none→((List.range n).foldl (b6C rl off) (false,none)).1=false):=by
  intro n
  induction n with
  |zero=>exact⟨fun e h=>by simp at h,fun _=>rfl⟩
  | succ n ih=>
   obtain⟨h1,h2⟩:=ih;rw[List.range_succ,List.foldl_append,List.findSome?_append,List.foldl_cons,List.foldl_nil]
   cases hq:(List.range n).findSome? (fun k=>(chL k off).find? rl)with
   |some e=>
    rw[h1 e hq];refine⟨fun e' he=>?_,fun he=>by simp at he⟩;simp only[Option.some_or,Option.some.injEq]at he;subst he;exact if_pos rfl
   | none=>
    have hf:=h2 hq;generalize (List.range n).foldl (b6C rl off) (false,none)=q at hf;have hc:b6C rl off q n=chF rl n [] off q.2:=if_neg (by rw[hf];simp);rw[hc];obtain⟨k1,k2⟩:=a9m rl n [] off q.2;simp only[List.nil_append]at k1 k2;refine⟨fun e' he=>?_,fun he=>?_⟩
    ·have:(chL n off).find? rl=some e':=by simpa using he
     exact k1 e' this
    ·have:(chL n off).find? rl=none:=by simpa using he
     exact k2 this
 exact gen _
theorem a7c (g:Gr) (s:Sta) (l:List Ld) (hnt:o8 g s) (off:List Int) (hoff:off=a1C s.Wires g.Wires.length) (h6:off.length≤6) (B2:∀ws:List Int,(∀w∈ws,w∈off)→y2 g (q9 s.Wires ws) l):
  d5 Try.prog 36 [g.av,s.av,lL l] (match a7n (rlB g s · l) off with|some e=> .tup [iL e,Bo true]|none=> .tup [.v (.slice none 0 0),Bo false]):=by
 have hbd:=r7 hnt.gr;have hsf:=hnt.sf;have hsw:=hnt.sw;have hsc:=a2X g s hsw (by omega);rw[←hoff]at hsc;have hom:∀w∈off,0≤w∧w<s.Wires.length:=fun w hw=>by rw[hoff]at hw;have:=R2 s.Wires hw;omega
 have hch:=fun d (hd:d≤6)=>a4j d off hd h6;have hcl:=fun d=>a4M d off h6;have hp6:∀d,d≤6→6^d≤6^6:=fun d hd=>Nat.pow_le_pow_right (by decide) hd;have hcm:=fun d c (hc:c∈chL d off)=>a5S hc;have fw:C7 s.Wires.length 2:=k9 (by omega) (by omega);refine d5.of_body Try.func36 rfl (by decide) (by simp[Try.ntmps36]) ?_;simp only[Try.ntmps36,Try.results36];refine aS fun K hK=>?_;simp -dsimp;apply hK;clear hK K;refine aS fun K hK=>?_;simp -dsimp;refine d6 _ (hsc) (by simp) ?_;simp -dsimp;apply hK;clear hK K;refine d4 fun K1 hK1=>?_;refine aS fun K hK=>?_;simp -dsimp;apply hK;clear hK K;refine e7 ?_;refine b8 [2,3,4,8,9] ?_;simp only[zP,Nat.reduceEqDiff,reduceIte];refine g9 [2,3,4,8] (α:=Nat) (fun d=>[(9,I d)]) (fun d=>[some (.els 4 [g.cells]),some (.els 2 [s.cells])]) (fun d=>d≤off.length+1∧∀k,k<d→(chL k off).find? (rlB g s · l)=none) (fun d=>off.length+1-d) 0 ?_ ?_ ?_
 ·exact⟨Nat.zero_le _,fun k h=>by omega⟩
 ·exact e8 [some 0,some 1] rfl (by simp) (by simp)
 rintro d ⟨d1,d2⟩;simp only[zP,Nat.reduceEqDiff,reduceIte];refine d4 fun K2 hK2=>?_;refine aS fun K hK=>?_;simp -dsimp;apply hK;clear hK K;refine d9 rfl (fun hc0=>?_) (fun hc0=>?_)
 ·have hdl:d≤off.length:=by simpa using hc0
  have wd:=zW d (by omega);have hcd:=hch d (by omega);have hcld:=hcl d;have hp:=hp6 d (by omega);have hcmd:=hcm d;have hplan:∀e,(chL d off).find? (rlB g s · l)=some e→a7n (rlB g s · l) off=some e:=fun e he=>b9W d2 he (by omega)
  have hnext:(chL d off).find? (rlB g s · l)=none→∀k,k<d+1→(chL k off).find? (rlB g s · l)=none:=fun h k hk=>by rcases Nat.lt_succ_iff_lt_or_eq.1 hk with h1|rfl;exact d2 k h1;exact h
  generalize chL d off=A at hcd hcld hcmd hplan hnext;refine f6 ?_;simp only[zT,reduceIte,Nat.reduceEqDiff];refine hK2 _ _ ?_;refine b8 [2,3,4,8,9] ?_;simp only[zP,Nat.reduceEqDiff,reduceIte];refine d4 fun K3 hK3=>?_;refine e7 ?_;refine aS fun K hK=>?_;simp -dsimp;refine d6 _ (hcd) (by simp) ?_;simp -dsimp;apply hK;clear hK K;refine aS fun K hK=>?_;simp -dsimp;apply hK;clear hK K;refine e7 ?_;refine b8 [2,3,4,8,9,10,11] ?_;simp only[zP,Nat.reduceEqDiff,reduceIte];refine g9 [2,3,4,8,9,10] (α:=Nat) (fun i=>[(11,I i)]) (fun i=>[some (.els 4 [g.cells]),some (.els 2 [s.cells])]) (fun i=>i≤A.length∧∀e∈A.take i,rlB g s e l=false) (fun i=>A.length-i) 0 ?_ ?_ ?_
  ·exact⟨Nat.zero_le _,by simp⟩
  ·exact e8 [some 0,some 1] rfl (by simp) (by simp)
  rintro i ⟨i1,i2⟩;simp only[zP,Nat.reduceEqDiff,reduceIte];refine d4 fun K4 hK4=>?_;refine aS fun K hK=>?_;simp -dsimp;apply hK;clear hK K;refine d9 rfl (fun hc1=>?_) (fun hc1=>?_)
  ·have hil:i<A.length:=by simpa using hc1
   have wi:=zW i (by omega);obtain⟨c,hc⟩:∃c,A[i]?=some c:=⟨_,List.getElem?_eq_getElem hil⟩;have hcmem:=hcmd c (List.mem_of_getElem? hc);have hcb:∀w∈c,0≤w∧w<s.Wires.length:=fun w hw=>hom w (hcmem.2 w hw);have hse:=B2 c hcmem.2;have hol:=E3 c s.Wires;refine f6 ?_;simp only[zT,reduceIte,Nat.reduceEqDiff];refine hK4 _ _ ?_;refine b8 [2,3,4,8,9,10,11] ?_;simp only[zP,Nat.reduceEqDiff,reduceIte];refine d4 fun K5 hK5=>?_;refine e7 ?_;refine v5 l6 rfl fun K hK=>?_;simp -dsimp [fw];refine hK _ _ _ (by decide+kernel) ?_;clear hK K;refine d4 fun K6 hK6=>?_;refine aS fun K hK=>?_;simp -dsimp;apply hK;clear hK K;refine e7 ?_;refine b8 [2,3,4,8,9,10,11,12,13] ?_;simp only[zP,Nat.reduceEqDiff,reduceIte];refine g9 [2,3,4,8,9,10,11,12] (α:=Nat) (fun k=>[(13,I k)]) (fun k=>[some (.els 4 [g.cells]),some (.els 2 [s.cells]),some (.els 1 ((q9 s.Wires (c.take k)).map i8)),some (.els 2 [[bL s.Feeds, .row 2 0 s.Wires.length]])]) (fun k=>k≤c.length) (fun k=>c.length-k) 0 ?_ ?_ ?_
   ·exact Nat.zero_le _
   ·exact e8 [some 0,some 1,some 2,some 3] rfl (by simp) (by simp[q9])
   rintro k k1;simp only[zP,Nat.reduceEqDiff,reduceIte];refine d4 fun K7 hK7=>?_;refine aS fun K hK=>?_;simp -dsimp [hc];apply hK;clear hK K;refine d9 rfl (fun hc2=>?_) (fun hc2=>?_)
   ·have hkl:k<c.length:=by simpa using hc2
    have wk:=zW k (by omega);obtain⟨w,hw⟩:∃w,c[k]?=some w:=⟨_,List.getElem?_eq_getElem hkl⟩;obtain⟨hw0,hw1⟩:=hcb w (List.mem_of_getElem? hw);have hon:=a0x (wi:=s.Wires) hw;have hol2:=E3 (c.take k) s.Wires;have hwl:w.toNat<s.Wires.length:=by omega
    generalize q9 s.Wires (c.take k)=W at hon hol2 ⊢;refine f6 ?_;simp only[zT,reduceIte,Nat.reduceEqDiff];refine hK7 _ _ ?_;refine b8 [2,3,4,8,9,10,11,12,13] ?_;simp only[zP,Nat.reduceEqDiff,reduceIte];refine d4 fun K8 hK8=>?_;refine e7 ?_;refine E1 l6 rfl fun K hK=>?_;simp -dsimp [hc,hw,hw0,hwl,hol2];refine hK _ _ _ (by decide+kernel) ?_;clear hK K;simp only[zT,reduceIte,Nat.reduceEqDiff];refine hK8 _ _ ?_;refine b8 [2,3,4,8,9,10,11,12,13] ?_;simp only[zP,Nat.reduceEqDiff,reduceIte];refine aR fun K hK=>?_;simp -dsimp [wk];apply hK;clear hK K;simp only[zT,reduceIte,Nat.reduceEqDiff];exact⟨k+1,by omega,by omega,e8 [some 0,some 1,some 2,some 3] rfl (by simp) (by simp[hon,List.map_set])⟩
   ·have hkl:¬k<c.length:=by simpa using hc2
    rw[List.take_of_length_le (show c.length≤k by omega)];have hnt2:o8 g ⟨s.Feeds,q9 s.Wires c⟩:=⟨hnt.gr,hsf,by rw[hol];exact hsw⟩;have hrp:=T2 g ⟨s.Feeds,q9 s.Wires c⟩ hnt2;have hps:=L9 g ⟨s.Feeds,q9 s.Wires c⟩;have hsm:=a5d (l8 g ⟨s.Feeds,q9 s.Wires c⟩) (by omega);have hst:a1e (l8 g ⟨s.Feeds,q9 s.Wires c⟩)=true:=by
     unfold a1e;rw[List.all_eq_true];intro p hp;have:=hse.p5' s.Feeds p hp;simp;omega
    rw[hst]at hsm;have hrs:=a7i g ⟨s.Feeds,q9 s.Wires c⟩ l hse hnt2;have hrl:rlB g s c l=decide ((a7p g (q9 s.Wires c) l (t5 g (q9 s.Wires c) l s.Feeds)).Cuts.length=0):=rfl;simp only at hrs;generalize a7p g (q9 s.Wires c) l (t5 g (q9 s.Wires c) l s.Feeds)=Z at hrs hrl;generalize l8 g ⟨s.Feeds,q9 s.Wires c⟩=PL at hrp hsm;have htw:List.take s.Wires.length ((q9 s.Wires c).map i8)=(q9 s.Wires c).map i8:=List.take_of_length_le (by simp[hol]);have hle:s.Wires.length≤(q9 s.Wires c).length:=by omega
    refine a0a (B5 (T':=[(2,lL l),(3, .ptr 0 0 0),(4, .ptr 1 0 0),(8,iL off),(9,I d),(10, .lst 1 (A.map F7)),(11,I i),(12, .ptr 2 0 0)]) (H':=[some (.els 4 [g.cells]),some (.els 2 [s.cells]),some (.els 2 [[bL s.Feeds,bL (q9 s.Wires c)]])]) [some 0,some 1,some 3] rfl ⟨.inr (by simp), .inr (by simp), .inr (by simp), .inr (by simp), .inr (by simp), .inr (by simp), .inr (by simp), .inr (by simp),trivial⟩ (by simp[htw,hle])) ?_;refine j9 ?_;simp only[zT,reduceIte,Nat.reduceEqDiff];refine hK6 _ _ ?_;refine b8 [2,3,4,8,9,10,11,12] ?_;simp only[zP,Nat.reduceEqDiff,reduceIte];refine aS fun K hK=>?_;simp -dsimp;refine d6 _ (hrp) (by simp) ?_;simp -dsimp;refine d6 _ (hsm) (by simp) ?_;simp -dsimp;refine f8 _ (fun hm=>hrs) (by simp) ?_;simp -dsimp;apply hK;clear hK K;refine d9 rfl (fun hc3=>?_) (fun hc3=>?_)
    ·refine aS fun K hK=>?_;simp -dsimp [hc];apply hK;clear hK K;have hrt:rlB g s c l=true:=by rw[hrl];simpa using hc3
     have hf:A.find? (rlB g s · l)=some c:=by
      have hA:A=A.take i++c::A.drop (i+1):=by
       have h1:=(List.take_append_drop i A).symm;rw[List.drop_eq_getElem_cons hil]at h1;have h2:A[i]=c:=Option.some.inj (by rw[←List.getElem?_eq_getElem hil];exact hc)
       rwa [h2]at h1
      have hn:(A.take i).find? (rlB g s · l)=none:=by rw[List.find?_eq_none];intro e he;simp[i2 e he]
      rw[hA,List.find?_append,hn,List.find?_cons,hrt];rfl
     exact g7 (by rw[hplan c hf];simp)
    ·refine f6 ?_;simp only[zT,reduceIte,Nat.reduceEqDiff];refine hK5 _ _ ?_;refine b8 [2,3,4,8,9,10,11] ?_;simp only[zP,Nat.reduceEqDiff,reduceIte];refine aR fun K hK=>?_;simp -dsimp [wi];apply hK;clear hK K;simp only[zT,reduceIte,Nat.reduceEqDiff];have hrt:rlB g s c l=false:=by rw[hrl];simpa using hc3
     refine⟨i+1,⟨by omega,fun e he=>?_⟩,by omega,e8 [some 0,some 1] rfl (by simp) (by simp)⟩;rw[List.take_add_one,hc]at he
     rcases List.mem_append.1 he with h|h
     ·exact i2 e h
     ·have:e=c:=by simpa using h
      rw[this];exact hrt
  ·have hil:¬i<A.length:=by simpa using hc1
   have hAn:A.find? (rlB g s · l)=none:=by rw[List.take_of_length_le (by omega)]at i2;rw[List.find?_eq_none];intro e he;simp[i2 e he]
   refine j9 ?_;simp only[zT,reduceIte,Nat.reduceEqDiff];refine hK3 _ _ ?_;refine b8 [2,3,4,8,9] ?_;simp only[zP,Nat.reduceEqDiff,reduceIte];refine aR fun K hK=>?_;simp -dsimp [wd];apply hK;clear hK K;simp only[zT,reduceIte,Nat.reduceEqDiff];exact⟨d+1,⟨by omega,hnext hAn⟩,by omega,e8 [some 0,some 1] rfl (by simp) (by simp)⟩
 ·have hdl:¬d≤off.length:=by simpa using hc0
  refine j9 ?_;simp only[zT,reduceIte,Nat.reduceEqDiff];refine hK1 _ _ ?_;refine b8 [] ?_;simp only[zP,Nat.reduceEqDiff,reduceIte];refine aS fun K hK=>?_;simp -dsimp;apply hK;clear hK K;have hpn:a7n (rlB g s · l) off=none:=by unfold a7n;rw[List.findSome?_eq_none_iff];intro k hk;exact d2 k (by have:=List.mem_range.1 hk;omega)
  exact g7 (by rw[hpn];simp)
end Go.Cur
end
section
namespace Go.Cur
open Go.AM Go.Proofs
theorem b7D {l:List Wr} {b:List Bool} {x:Wn}:x∈onW l b↔∃(i:Nat) (w:Wr),l[i]?=some w∧b[i]?=some true∧x=⟨w.A.toNat,w.B.toNat,w.Siem⟩:=by
 unfold onW;rw[List.mem_filterMap];constructor
 ·rintro⟨q,hq,h⟩;obtain⟨i,hi⟩:=List.getElem?_of_mem hq;rw[List.getElem?_zip_eq_some]at hi
  split at h
  ·rename_i hs;simp only[Option.some.injEq]at h;exact⟨i,q.1,hi.1,by rw[hi.2,hs],h.symm⟩
  ·cases h
 ·rintro⟨i,w,h1,h2,rfl⟩;exact⟨(w,true),List.mem_of_getElem? (List.getElem?_zip_eq_some.2 ⟨h1,h2⟩),rfl⟩
theorem b9z {g:Gr} {s s':Sta} (hnt':o8 g s') (h:∀i:Nat,s.Wires[i]?=some true→i<g.Wires.length→s'.Wires[i]?=some true) {p:List Nat} (hp:p∈l8 g s):∃q∈l8 g s',p.length≤q.length:=by
 have hE:∀e∈a2T g s,e∈a2T g s':=fun e he=>by
  obtain⟨w,hw,rfl⟩:=List.mem_map.1 he;obtain⟨i,v,h1,h2,rfl⟩:=b7D.1 hw;exact List.mem_map.2 ⟨_,b7D.2 ⟨i,v,h1,h i h2 (List.getElem?_eq_some_iff.1 h1).1,rfl⟩,rfl⟩
 obtain⟨i,hi,rfl⟩:=C8 hp;have hin:=(W8.1 hi).1;refine⟨_,List.mem_map.2 ⟨_,b4j (a0l hnt') hin,rfl⟩,?_⟩;have hU:a0W (a2T g s) fun x=>nm (a2T g s') g.Nodes.toNat x=nm (a2T g s') g.Nodes.toNat i:=fun e he=>by
  have:=b1h (a0l hnt') (hE e he);simp only[this]
 unfold cp;rw[←List.countP_eq_length_filter,←List.countP_eq_length_filter];refine List.countP_mono_left fun k hk h1=>?_;have hk2:k∈cp (a2T g s) g.Nodes.toNat i:=by
  rw[B4];exact⟨List.mem_range.1 hk,by simpa using h1⟩
 have:=a2D hU (a2E hi) rfl hk2;simpa using this
theorem d5.plan {P:Program} {f:FuncId} {args:List AV} {e:List Int} (h:d5 P f args (.tup [fA (chA e),I 0])):d5 P f args (.tup [iL e,I 0]):=by
 cases e with
 |cons x e=>exact h
 |nil=>exact d5.res (res:= .tup [.v (.slice none 0 0),I 0]) h fun w S y hy=>b3p 1 3 _ _ hy
theorem a2M (g:Gr) (s:Sta) (l:List Ld):d5 Try.prog 7 [g.av,s.av,lL l] (Bo true):=by
 have hk:=b1t;have hfw:=c1t g s l;have w00:IntKind.i64.wrap 0=0:=i7 (by decide) (by decide);refine d5.of_body Try.func7 rfl (by decide) (by simp[Try.ntmps7]) ?_;simp only[Try.ntmps7,Try.results7];refine aS fun K hK=>?_;simp -dsimp;apply hK;clear hK K;refine d4 fun K1 hK1=>?_;refine aS fun K hK=>?_;simp -dsimp;refine d6 _ (hfw) (by simp) ?_;simp -dsimp;apply hK;clear hK K;refine d9 rfl (fun hc0=>?_) (fun hc0=>?_)
 ·refine aS fun K hK=>?_;simp -dsimp;refine d6 _ (hk) (by simp) ?_;simp -dsimp;apply hK;clear hK K;exact g7 (by simp)
 ·have hfew:c0c g s l.length=true:=by simpa using hc0
  have hsp:=a4S hfew;have hfn:=b4R g s l (by omega) (by omega) (by omega);refine f6 ?_;simp only[zT,reduceIte,Nat.reduceEqDiff];refine hK1 _ _ ?_;refine b8 [2,3,4] ?_;simp only[zP,Nat.reduceEqDiff,reduceIte];refine aS fun K hK=>?_;simp -dsimp;refine d6 _ (hfn) (by simp) ?_;simp -dsimp;apply hK;clear hK K;refine d4 fun K2 hK2=>?_;refine aS fun K hK=>?_;simp -dsimp;apply hK;clear hK K;refine d9 rfl (fun hc1=>?_) (fun hc1=>?_)
  ·have hfi:w9 g s l=true:=hc1;have hnt:=z9 hfi;have hbd:=r7 hnt.gr;have hAl:=c1h g.Wires.length (by omega);obtain⟨al,hal⟩:∃al,al=List.replicate g.Wires.length true:=⟨_,rfl⟩;rw[←hal]at hAl;have hntA:o8 g ⟨s.Feeds,al⟩:=⟨hnt.gr,hnt.sf,by rw[hal];simp⟩;obtain⟨off,hoff⟩:∃off,off=a1C s.Wires g.Wires.length:=⟨_,rfl⟩;have hsc:=a2X g s hnt.sw (by omega);rw[←hoff]at hsc;have hli:=a9x g ⟨s.Feeds,al⟩ hntA;have hrp:=T2 g ⟨s.Feeds,al⟩ hntA;have hsm:=a5d (l8 g ⟨s.Feeds,al⟩) (by have:=L9 g ⟨s.Feeds,al⟩;omega);have hp5:b7X g ⟨s.Feeds,al⟩=true→a1e (l8 g ⟨s.Feeds,al⟩)=true→∀ws:List Int,y2 g (q9 s.Wires ws) l:=fun h1 h2 ws=>by
    refine⟨hnt.gr,by rw[E3];exact hnt.sw,a5m hfi,by omega,fun p hp=>?_⟩;obtain⟨q,hq,hpq⟩:=b9z (s:=⟨[],q9 s.Wires ws⟩) (s':=⟨s.Feeds,al⟩) hntA (fun i hi hl=>by show al[i]?=some true;rw[hal,List.getElem?_replicate,if_pos hl]) hp;rw[a3Y]at h2;have:=b8e h1 (by simpa using h2) q hq;omega
   generalize hA1:b7X g ⟨s.Feeds,al⟩=b1 at hli hp5;generalize hA2:a1e (l8 g ⟨s.Feeds,al⟩)=b2 at hsm hp5;generalize l8 g ⟨s.Feeds,al⟩=PL at hrp hsm;refine v5 l6 rfl fun K hK=>?_;simp -dsimp;refine d6 _ (hAl) (by simp) ?_;simp -dsimp;refine hK _ _ _ (by decide+kernel) ?_;clear hK K;refine d4 fun K3 hK3=>?_;refine aS fun K hK=>?_;simp -dsimp;refine d6 _ (hsc) (by simp) ?_;simp -dsimp;apply hK;clear hK K
   rcases Nat.lt_or_ge 6 off.length with hn6|hn6
   rotate_left
   rcases hpl:a7n (rlB g s · l) off with _|e
   ·refine aS fun K hK=>?_;simp -dsimp;refine d6 _ (hli) (by simp) ?_;simp -dsimp;refine f8 _ (fun hm=>hrp) (by simp) ?_;simp -dsimp;refine f8 _ (fun hm=>hsm) (by simp) ?_;simp -dsimp;apply hK;clear hK K;refine d9 rfl (fun hc2=>?_) (fun hc2=>?_)
    ·refine aS fun K hK=>?_;simp -dsimp;refine d6 _ (hk) (by simp) ?_;simp -dsimp;apply hK;clear hK K;exact g7 (by simp)
    ·have hcc:b1=true∧b2=true∧¬(5<off.length∧off.length≤6):=by
      simp only[Bool.or_eq_false_iff,Bool.and_eq_false_iff,Bool.not_eq_false',decide_eq_false_iff_not]at hc2;refine⟨hc2.1.1,hc2.2,fun h=>?_⟩;omega
     have B2:=hp5 hcc.1 hcc.2.1;have hoff2:off=a1C s.Wires s.Wires.length:=by rw[hnt.sw];exact hoff
     have hrl:∀c:List Int,(∀x∈c,x∈off)→c.length≤900→d5 Try.prog 60 [net g s,iL c,lL l] (Bo (rlB g s c l)):=fun c hc hcl=>b7j g s c l hnt (fun w hw=>by have h1:=hc w hw;rw[hoff2]at h1;exact R2 s.Wires h1) (B2 c) (by omega);refine f6 ?_;simp only[zT,reduceIte,Nat.reduceEqDiff];refine hK3 _ _ ?_;refine b8 [2,3,4] ?_;simp only[zP,Nat.reduceEqDiff,reduceIte];refine aR fun K hK=>?_;simp -dsimp;refine d6 _ (hsc) (by simp) ?_;simp -dsimp;apply hK;clear hK K;simp only[zT,reduceIte,Nat.reduceEqDiff];refine hK2 _ _ ?_;refine b8 [2,3,4,7] ?_;simp only[zP,Nat.reduceEqDiff,reduceIte];refine aS fun K hK=>?_;simp -dsimp;refine d6 _ (R3 g s l (by omega) hfi off hoff2 (rlB g s · l) (fun _=>hrl) (.tup [.v (.slice none 0 0),I 4]) (fun h=>absurd h (by omega)) (fun _ h=>absurd h (by rw[(a2s _ off).2 hpl];simp)) (fun _ _=>rfl)) (by simp) ?_
     simp -dsimp;apply hK;clear hK K;refine d4 fun K4 hK4=>?_;refine aS fun K hK=>?_;simp -dsimp;apply hK;clear hK K;refine d9 rfl (fun hc3=>?_) (fun hc3=>?_)
     ·simp at hc3;omega
     ·have hrr:=a7c g s l hnt off hoff hn6 (fun ws _=>B2 ws);rw[hpl]at hrr;refine f6 ?_;simp only[zT,reduceIte,Nat.reduceEqDiff];refine hK4 _ _ ?_;refine b8 [2,3,4,10,11] ?_;simp only[zP,Nat.reduceEqDiff,reduceIte];refine aS fun K hK=>?_;simp -dsimp;refine d6 _ (hrr) (by simp) ?_;simp -dsimp;apply hK;clear hK K;refine d4 fun K5 hK5=>?_;refine aS fun K hK=>?_;simp -dsimp;apply hK;clear hK K;refine d9 rfl (fun hc4=>?_) (fun hc4=>?_)
      ·refine aS fun K hK=>?_;simp -dsimp [w00];refine f8 _ (fun hm=>hk) (by simp) ?_;simp -dsimp [w00];apply hK;clear hK K;exact g7 (by simp)
      ·simp at hc4
   ·refine aS fun K hK=>?_;simp -dsimp;refine d6 _ (hli) (by simp) ?_;simp -dsimp;refine f8 _ (fun hm=>hrp) (by simp) ?_;simp -dsimp;refine f8 _ (fun hm=>hsm) (by simp) ?_;simp -dsimp;apply hK;clear hK K;refine d9 rfl (fun hc2=>?_) (fun hc2=>?_)
    ·refine aS fun K hK=>?_;simp -dsimp;refine d6 _ (hk) (by simp) ?_;simp -dsimp;apply hK;clear hK K;exact g7 (by simp)
    ·have hcc:b1=true∧b2=true∧¬(5<off.length∧off.length≤6):=by
      simp only[Bool.or_eq_false_iff,Bool.and_eq_false_iff,Bool.not_eq_false',decide_eq_false_iff_not]at hc2;refine⟨hc2.1.1,hc2.2,fun h=>?_⟩;omega
     have B2:=hp5 hcc.1 hcc.2.1;have hoff2:off=a1C s.Wires s.Wires.length:=by rw[hnt.sw];exact hoff
     have hrl:∀c:List Int,(∀x∈c,x∈off)→c.length≤900→d5 Try.prog 60 [net g s,iL c,lL l] (Bo (rlB g s c l)):=fun c hc hcl=>b7j g s c l hnt (fun w hw=>by have h1:=hc w hw;rw[hoff2]at h1;exact R2 s.Wires h1) (B2 c) (by omega);refine f6 ?_;simp only[zT,reduceIte,Nat.reduceEqDiff];refine hK3 _ _ ?_;refine b8 [2,3,4] ?_;simp only[zP,Nat.reduceEqDiff,reduceIte];refine aR fun K hK=>?_;simp -dsimp;refine d6 _ (hsc) (by simp) ?_;simp -dsimp;apply hK;clear hK K;simp only[zT,reduceIte,Nat.reduceEqDiff];refine hK2 _ _ ?_;refine b8 [2,3,4,7] ?_;simp only[zP,Nat.reduceEqDiff,reduceIte];refine aS fun K hK=>?_;simp -dsimp;refine d6 _ (d5.plan (R3 g s l (by omega) hfi off hoff2 (rlB g s · l) (fun _=>hrl) (.tup [fA (chA e),I 0]) (fun h=>absurd h (by omega)) (fun _ _=>by rw[(a2s _ off).1 e hpl]) (fun _ h=>absurd h (by rw[(a2s _ off).1 e hpl];simp)))) (by simp) ?_
     simp -dsimp;apply hK;clear hK K;refine d4 fun K6 hK6=>?_;refine aS fun K hK=>?_;simp -dsimp;apply hK;clear hK K;refine d9 rfl (fun hc3=>?_) (fun hc3=>?_)
     ·simp at hc3;omega
     ·have hrr:=a7c g s l hnt off hoff hn6 (fun ws _=>B2 ws);rw[hpl]at hrr;have hel:e.length≤100000:=by
       unfold a7n at hpl;obtain⟨k,hkm,hf⟩:=List.exists_of_findSome?_eq_some hpl;have h1:=(a5S (List.mem_of_find?_eq_some hf)).1;have:=List.mem_range.1 hkm;omega
      have heq:=a9Z e e hel;refine f6 ?_;simp only[zT,reduceIte,Nat.reduceEqDiff];refine hK6 _ _ ?_;refine b8 [2,3,4,10,11] ?_;simp only[zP,Nat.reduceEqDiff,reduceIte];refine aS fun K hK=>?_;simp -dsimp;refine d6 _ (hrr) (by simp) ?_;simp -dsimp;apply hK;clear hK K;refine d4 fun K7 hK7=>?_;refine aS fun K hK=>?_;simp -dsimp;apply hK;clear hK K;refine d9 rfl (fun hc4=>?_) (fun hc4=>?_)
      ·simp at hc4
      ·refine f6 ?_;simp only[zT,reduceIte,Nat.reduceEqDiff];refine hK7 _ _ ?_;refine b8 [10,11,12] ?_;simp only[zP,Nat.reduceEqDiff,reduceIte];refine aS fun K hK=>?_;simp -dsimp;refine f8 _ (fun hm=>heq) (by simp) ?_;simp -dsimp;refine f8 _ (fun hm=>hk) (by simp) ?_;simp -dsimp;apply hK;clear hK K;exact g7 (by simp)
   ·refine aS fun K hK=>?_;simp -dsimp;refine d6 _ (hli) (by simp) ?_;simp -dsimp;refine f8 _ (fun hm=>hrp) (by simp) ?_;simp -dsimp;refine f8 _ (fun hm=>hsm) (by simp) ?_;simp -dsimp;apply hK;clear hK K;refine d9 rfl (fun hc2=>?_) (fun hc2=>?_)
    ·refine aS fun K hK=>?_;simp -dsimp;refine d6 _ (hk) (by simp) ?_;simp -dsimp;apply hK;clear hK K;exact g7 (by simp)
    ·have hcc:b1=true∧b2=true∧¬(5<off.length∧off.length≤6):=by
      simp only[Bool.or_eq_false_iff,Bool.and_eq_false_iff,Bool.not_eq_false',decide_eq_false_iff_not]at hc2;refine⟨hc2.1.1,hc2.2,fun h=>?_⟩;omega
     have B2:=hp5 hcc.1 hcc.2.1;have hoff2:off=a1C s.Wires s.Wires.length:=by rw[hnt.sw];exact hoff
     have hrl:∀c:List Int,(∀x∈c,x∈off)→c.length≤900→d5 Try.prog 60 [net g s,iL c,lL l] (Bo (rlB g s c l)):=fun c hc hcl=>b7j g s c l hnt (fun w hw=>by have h1:=hc w hw;rw[hoff2]at h1;exact R2 s.Wires h1) (B2 c) (by omega);refine f6 ?_;simp only[zT,reduceIte,Nat.reduceEqDiff];refine hK3 _ _ ?_;refine b8 [2,3,4] ?_;simp only[zP,Nat.reduceEqDiff,reduceIte];refine aR fun K hK=>?_;simp -dsimp;refine d6 _ (hsc) (by simp) ?_;simp -dsimp;apply hK;clear hK K;simp only[zT,reduceIte,Nat.reduceEqDiff];refine hK2 _ _ ?_;refine b8 [2,3,4,7] ?_;simp only[zP,Nat.reduceEqDiff,reduceIte];refine aS fun K hK=>?_;simp -dsimp;refine d6 _ (R3 g s l (by omega) hfi off hoff2 (rlB g s · l) (fun h=>absurd h (by omega)) (.tup [.v (.slice none 0 0),I 2]) (fun _=>rfl) (fun h=>absurd h (by omega)) (fun h=>absurd h (by omega))) (by simp) ?_
     simp -dsimp;apply hK;clear hK K;refine d4 fun K8 hK8=>?_;refine aS fun K hK=>?_;simp -dsimp;apply hK;clear hK K;refine d9 rfl (fun hc3=>?_) (fun hc3=>?_)
     ·refine aS fun K hK=>?_;simp -dsimp [w00];refine f8 _ (fun hm=>hk) (by simp) ?_;simp -dsimp [w00];apply hK;clear hK K;exact g7 (by simp)
     ·simp at hc3;omega
  ·have hfi:w9 g s l=false:=hc1;refine f6 ?_;simp only[zT,reduceIte,Nat.reduceEqDiff];refine hK2 _ _ ?_;refine b8 [2,3,4,7] ?_;simp only[zP,Nat.reduceEqDiff,reduceIte];refine aS fun K hK=>?_;simp -dsimp;refine d6 _ (b1i g s l (by omega) hfi) (by simp) ?_;simp -dsimp;apply hK;clear hK K;refine d4 fun K9 hK9=>?_;refine aS fun K hK=>?_;simp -dsimp;apply hK;clear hK K;refine d9 rfl (fun hc3=>?_) (fun hc3=>?_)
   ·refine aS fun K hK=>?_;simp -dsimp [w00];refine f8 _ (fun hm=>hk) (by simp) ?_;simp -dsimp [w00];apply hK;clear hK K;exact g7 (by simp)
   ·rw[hfi]at hc3;simp at hc3
end Go.Cur
end
