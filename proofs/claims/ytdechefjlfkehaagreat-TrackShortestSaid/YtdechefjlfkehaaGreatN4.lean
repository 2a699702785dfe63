import Derived.Test.YtdechefjlfkehaaGreatN3
import Derived.Laws.Bits64b
import Derived.Laws.FloatArith
import Derived.OpenShut
import Derived.ProofKit
import Derived.WalkKit
import GoSem.Extern.MathSqrt
import Derived.Test.YtdechefjlfkehaaGreatRows
set_option maxRecDepth 100000
set_option maxHeartbeats 8000000
set_option linter.unusedVariables false
set_option linter.unusedSimpArgs false
section
namespace Go.Sq
open Ieee
theorem read_big {q r:Nat} (hq:1≤q) (hq2:q<2047) (hr:r<4503599627370496):double.read (q*4503599627370496+r)= .number false (4503599627370496+r) (double.leastPlace+(q-1:Nat)):=by
 have hb:double.binade=4503599627370496:=by decide
 have hs:double.signWeight=9223372036854775808:=by decide
 have hi:double.infRung=2047*4503599627370496:=by decide
 unfold Format.read;rw[hb,hs,hi];have h1:q*4503599627370496+r<9223372036854775808:=by omega
 rw[Nat.mod_eq_of_lt h1,Nat.div_eq_of_lt h1];have h2:¬q*4503599627370496+r<4503599627370496:=by omega
 have h3:q*4503599627370496+r<2047*4503599627370496:=by omega
 have h4:(q*4503599627370496+r)/4503599627370496=q:=by omega
 have h5:(q*4503599627370496+r) % 4503599627370496=r:=by omega
 simp only[h2,h3,if_true,if_false,h4,h5];simp
theorem cut_le {n drop:Nat} (h:n<2^(53+drop)):Toward.even.cut false n drop≤2^53:=by
 unfold Toward.cut;simp only[Nat.shiftLeft_eq,Nat.one_mul]
 by_cases hd:drop≤n.log2+2
 ·rw[Nat.min_eq_left hd];have hlow:n/2^drop<2^53:=by rw[Nat.div_lt_iff_lt_mul (Nat.two_pow_pos _),←Nat.pow_add];exact h
  have:∀b:Bool,b.toNat≤1:=by intro b;cases b<;>simp
  refine Nat.le_trans (Nat.add_le_add_left (this _) _) hlow
 ·rw[Nat.min_eq_right (by omega)];have hlt:n<2^(n.log2+2):=Nat.lt_of_lt_of_le (Nat.lt_log2_self) (Nat.pow_le_pow_right (by omega) (by omega));rw[Nat.div_eq_of_lt hlt];have:∀b:Bool,b.toNat≤1:=by intro b;cases b<;>simp
  exact Nat.le_trans (Nat.add_le_add_left (this _) _) (by decide)
theorem cut_none (n:Nat):Toward.even.cut false n 0=n:=by
 unfold Toward.cut;simp[Nat.mod_one]
theorem cut_zero_le (n drop:Nat):Toward.zero.cut false n drop≤n/2^drop:=by
 unfold Toward.cut;simp only[Nat.shiftLeft_eq,Nat.one_mul,Bool.toNat_false,Nat.add_zero]
 by_cases hd:drop≤n.log2+2
 ·rw[Nat.min_eq_left hd];exact Nat.le_refl _
 ·rw[Nat.min_eq_right (by omega)];have hlt:n<2^(n.log2+2):=Nat.lt_of_lt_of_le (Nat.lt_log2_self) (Nat.pow_le_pow_right (by omega) (by omega));rw[Nat.div_eq_of_lt hlt];exact Nat.zero_le _
theorem rootFrom_sq (n:Nat):∀todo root,root*root≤n→Datum.rootFrom n todo root*Datum.rootFrom n todo root≤n
 |0,root,h=>by simpa [Datum.rootFrom]using h
 |todo+1,root,h=>by
  simp only[Datum.rootFrom];refine rootFrom_sq n todo _ ?_
  split
  ·assumption
  ·exact h
theorem read_nat {n:Nat} (h1:1≤n) (h2:n<2^53):∃m:Nat,∃e:Int,double.read (double.write (.number false n 0))= .number false m e∧2^52≤m∧m<2^53∧e=(n.log2:Int)-52:=by
 have hn:n≠0:=by omega
 have hL:n.log2<53:=(Nat.log2_lt hn).2 h2;have hlo:=Nat.log2_self_le hn;have hhi:= @Nat.lt_log2_self n;have hlp:double.leastPlace=-1074:=by decide
 have hb:double.binade=4503599627370496:=by decide
 have hi:double.infRung=2047*4503599627370496:=by decide
 have hf:double.fractionBits=52:=rfl;refine⟨n*2^(52-n.log2),(n.log2:Int)-52,?_,?_,?_,rfl⟩
 ·simp only[Format.write,Format.nearest,hn,if_false,hf,hlp,hi,hb];have hmax:max ((0:Int)+(n.log2:Int)-(52:Nat)) (-1074)=(n.log2:Int)-52:=by omega
  rw[hmax];have e1:((0:Int)-((n.log2:Int)-52)).toNat=52-n.log2:=by omega
  have e2:(((n.log2:Int)-52)-0).toNat=0:=by omega
  have e3:(((n.log2:Int)-52)- -1074).toNat=n.log2+1022:=by omega
  rw[e1,e2,e3,cut_none,Nat.shiftLeft_eq];have hk1:2^52≤n*2^(52-n.log2):=by
   have:=Nat.mul_le_mul_right (2^(52-n.log2)) hlo;rw[←Nat.pow_add]at this
   rwa [show n.log2+(52-n.log2)=52 by omega]at this
  have hk2:n*2^(52-n.log2)<2^53:=by
   have:=Nat.mul_lt_mul_of_pos_right hhi (Nat.two_pow_pos (52-n.log2));rw[←Nat.pow_add]at this
   rwa [show n.log2+1+(52-n.log2)=53 by omega]at this
  generalize n*2^(52-n.log2)=k at hk1 hk2 ⊢;rw[Nat.min_eq_left (by omega)];have hq:(n.log2+1022)*4503599627370496+k=(n.log2+1023)*4503599627370496+(k-4503599627370496):=by omega
  simp only[Format.word,Bool.false_eq_true,if_false];rw[hq,read_big (by omega) (by omega) (by omega),hlp];rw[show 4503599627370496+(k-4503599627370496)=k by omega,show(-1074:Int)+((n.log2+1023-1:Nat):Int)=(n.log2:Int)-52 by omega]
 ·have:=Nat.mul_le_mul_right (2^(52-n.log2)) hlo;rw[←Nat.pow_add]at this
  rwa [show n.log2+(52-n.log2)=52 by omega]at this
 ·have:=Nat.mul_lt_mul_of_pos_right hhi (Nat.two_pow_pos (52-n.log2));rw[←Nat.pow_add]at this
  rwa [show n.log2+1+(52-n.log2)=53 by omega]at this
theorem read_write {m:Nat} {e:Int} (h1:1≤m) (hm:m<2^60) (he:-100≤e) (he2:e≤100):∃(k:Nat) (d:Int),double.read (double.write (.number false m e))= .number false k d∧k≤2^53∧d≤e+(m.log2:Int)-51∧-1000≤d:=by
 have hn:m≠0:=by omega
 have hL:m.log2<60:=(Nat.log2_lt hn).2 hm;have hhi:= @Nat.lt_log2_self m;have hlp:double.leastPlace=-1074:=by decide
 have hb:double.binade=4503599627370496:=by decide
 have hi:double.infRung=2047*4503599627370496:=by decide
 have hf:double.fractionBits=52:=rfl;simp only[Format.write,Format.nearest,hn,if_false,hf,hlp,hi,hb];have hmax:max (e+(m.log2:Int)-(52:Nat)) (-1074)=e+(m.log2:Int)-52:=by omega
 rw[hmax];have hkept:Toward.even.cut false (m<<< (e-(e+(m.log2:Int)-52)).toNat) ((e+(m.log2:Int)-52)-e).toNat≤2^53:=by
  refine cut_le ?_;rw[Nat.shiftLeft_eq];have:=Nat.mul_lt_mul_of_pos_right hhi (Nat.two_pow_pos (e-(e+(m.log2:Int)-52)).toNat);rw[←Nat.pow_add]at this;refine Nat.lt_of_lt_of_le this (Nat.pow_le_pow_right (by omega) ?_);omega
 generalize Toward.even.cut false (m<<< (e-(e+(m.log2:Int)-52)).toNat) ((e+(m.log2:Int)-52)-e).toNat=k at hkept;obtain⟨q,hq⟩:∃q:Nat,(e+(m.log2:Int)-52- -1074).toNat=q:=⟨_,rfl⟩;rw[hq];have hq1:(q:Int)=e+(m.log2:Int)+1022:=by omega
 rw[Nat.min_eq_left (by omega)];simp only[Format.word,Bool.false_eq_true,if_false];have hkq:q*4503599627370496+k=(q+k/4503599627370496)*4503599627370496+k % 4503599627370496:=by omega
 rw[hkq,read_big (by omega) (by omega) (by omega),hlp];refine⟨_,_,rfl,by omega,by omega,by omega⟩
theorem sqrt_bd {n:Nat} (h:n<2^50):∃r x:Nat,FloatKind.f64.format.sqrt (FloatKind.f64.nearest n)=some r∧floatToIntVal .f64 r .i64=some (x:Int)∧x≤2^30:=by
 have hfm:FloatKind.f64.format=double:=rfl
 by_cases h0:n=0
 ·subst h0;exact⟨0,0,by decide,by decide,by decide⟩
 have hne:FloatKind.f64.nearest (n:Int)=double.write (.number false n 0):=by
  simp only[FloatKind.nearest,FloatKind.encode,hfm,Int.natAbs_natCast]
  congr 1
 obtain⟨m,e,hr,hm1,hm2,he⟩:=read_nat (n:=n) (by omega) (Nat.lt_trans h (by decide));have hL:n.log2<50:=(Nat.log2_lt h0).2 h;have hmne:m≠0:=by omega
 have hml:m.log2=52:=by
  have a1:m.log2<53:=(Nat.log2_lt hmne).2 hm2;have a2:52≤m.log2:=(Nat.le_log2 hmne).2 hm1;omega
 have hf:double.fractionBits=52:=rfl;rw[hne,hfm];simp only[Format.sqrt,hr,hf,Datum.root,hmne,if_false,hml,Bool.false_eq_true];obtain⟨t,ht⟩:∃t:Nat,2*(52+2)-52+((e-((2*(52+2)-52:Nat):Int)) % 2).toNat=t:=⟨_,rfl⟩;rw[ht];have ht1:56≤t∧t≤57:=by omega
 obtain⟨w,hw⟩:∃w,Datum.rootFrom (m<<<t) ((m<<<t).log2/2+1) 0=w:=⟨_,rfl⟩;have hws:w*w≤m<<<t:=by rw[←hw];exact rootFrom_sq _ _ _ (Nat.zero_le _)
 rw[hw];have hN:m<<<t<2^110:=by
  rw[Nat.shiftLeft_eq];have:=Nat.mul_lt_mul_of_pos_right hm2 (Nat.two_pow_pos t);rw[←Nat.pow_add]at this;exact Nat.lt_of_lt_of_le this (Nat.pow_le_pow_right (by omega) (by omega))
 have hw55:w<2^55:=by
  rcases Nat.lt_or_ge w (2^55)with h|h
  ·exact h
  ·have:=Nat.mul_le_mul h h;rw[←Nat.pow_add]at this;omega
 have hNpos:0<m<<<t:=by rw[Nat.shiftLeft_eq];exact Nat.mul_pos (by omega) (Nat.two_pow_pos _)
 obtain⟨g,hg⟩:∃g,2*w+(w*w !=m<<<t).toNat=g:=⟨_,rfl⟩;have hbt:∀b:Bool,b.toNat≤1:=by intro b;cases b<;>simp
 have hg1:1≤g:=by
  rw[←hg]
  by_cases hw0:w=0
  ·subst hw0;have:(0*0 !=m<<<t)=true:=by simp;omega
   rw[this];decide
  ·omega
 have hg2:g<2^56:=by rw[←hg];have:=hbt (w*w !=m<<<t);omega
 rw[hg];simp only[Option.map_some];obtain⟨k,d,hk,hk1,hd1,hd2⟩:=read_write (m:=g) (e:=(e-(t:Int))/2-1) hg1 (Nat.lt_trans hg2 (by decide)) (by omega) (by omega);have hgl:g.log2<56:=(Nat.log2_lt (by omega)).2 hg2;refine⟨_,Toward.zero.cut false k (-d).toNat,rfl,?_,?_⟩
 ·have hd0:d.toNat=0:=by omega
  have hx:Toward.zero.cut false k (-d).toNat≤k:=Nat.le_trans (cut_zero_le _ _) (Nat.div_le_self _ _);have hI:(FloatKind.f64.decode (double.write (.number false g ((e-(t:Int))/2-1)))).toInt .zero=some ((Toward.zero.cut false k (-d).toNat:Nat):Int):=by
   simp only[FloatKind.decode,hfm,hk,Datum.toInt,Datum.integral,hd0,signed,Nat.shiftLeft_zero,Bool.false_eq_true,if_false]
  unfold floatToIntVal;rw[hI];have hmin:IntKind.i64.min=-9223372036854775808:=by decide
  have hmax:IntKind.i64.max=9223372036854775807:=by decide
  simp only[hmin,hmax];rw[if_pos (by omega)]
 ·refine Nat.le_trans (cut_zero_le _ _) ?_;have h27:27≤(-d).toNat:=by omega
  have:k/2^(-d).toNat≤k/2^27:=Nat.div_le_div_left (Nat.pow_le_pow_right (by omega) h27) (by decide);refine Nat.le_trans this ?_;omega
end Go.Sq
end
section
namespace Go.Tram
open Go.AM
def cmpI (a b:Int):Int:=if a<b then-1 else if b<a then 1 else 0
def dotS (a b c d:Spot):Int:=(b.X-a.X)*(d.X-c.X)+(b.Y-a.Y)*(d.Y-c.Y)
def crossS (a b c d:Spot):Int:=(b.X-a.X)*(d.Y-c.Y)-(b.Y-a.Y)*(d.X-c.X)
def spotted (a b p:Spot) (d:Int):Int:=
 if dotS a b a p≤0 then cmpI (dotS a p a p) (d*d)
 else if dotS a b a b≤dotS a b a p then cmpI (dotS b p b p) (d*d)
 else cmpI (crossS a b a p*crossS a b a p) (d*d*dotS a b a b)
def sideS (a b p:Spot):Int:=cmpI (crossS a b a p) 0
def crossing (a b c d:Spot):Bool:=decide (sideS a b c*sideS a b d<0)&&decide (sideS c d a*sideS c d b<0)
def min4 (a b c d:Int):Int:=min (min (min a b) c) d
def apart (a b c d:Spot) (r:Int):Int:=if crossing a b c d=true then cmpI 0 r else min4 (spotted a b c r) (spotted a b d r) (spotted c d a r) (spotted c d b r)
def bis (f:Int→Bool):Nat→Int→Int→Int
 |0,lo,_=>lo
 |n+1,lo,hi=>if hi-lo>1 then(if f ((lo+hi)/2)then bis f n ((lo+hi)/2) hi else bis f n lo ((lo+hi)/2))else lo
def gap (a b c d:Spot):Int:=bis (fun r=>decide (0≤apart a b c d r)) 5000 0 5001
end Go.Tram
namespace Go.Tram
open Go.AM
structure SS where
 Rail:Int
 Segment:Int
 a:Spot
 b:Spot
 bends:List Spot
 From:Int
 To:Int
 deriving Inhabited
@[simp] def SS.cells (s:SS):List AV:=[I s.Rail,I s.Segment,I s.a.X,I s.a.Y,I s.b.X,I s.b.Y, .lst 2 (s.bends.map Spot.cells),I s.From,I s.To]
abbrev SS.av (s:SS):AV:= .agg s.cells
def straightB (l:List Spot) (k:Nat):Bool:=decide (crossS (nth l (k-1)) (nth l k) (nth l k) (nth l (k+1))=0)&&decide (0<dotS (nth l (k-1)) (nth l k) (nth l k) (nth l (k+1)))
def bendB (l:List Spot) (k:Nat):Bool:=decide (0<k)&&(decide (k+1<l.length)&& !straightB l k)
def bendL (l:List Spot) (k:Nat):List Spot:=if bendB l k then [nth l k]else []
def stripOf (l:List Spot) (r:Int) (k:Nat):SS:=⟨r,k,nth l k,nth l (k+1),bendL l k++bendL l (k+1),sumTo l k,sumTo l (k+1)⟩
def Plan.strip (p:Plan) (s:Strip):SS:=stripOf (p.line s.Rail) s.Rail s.Segment.toNat
theorem valid_parts {p:Plan} (h:validB p=true):(1≤p.Nodes.length∧p.Nodes.length≤300)∧(1≤p.Rails.length∧p.Rails.length≤400)∧p.Nodes.all nodeB=true∧p.Rails.all (railB p)=true∧validE p=true:=by
 simp only[validB,validA,Bool.and_eq_true,inr_iff]at h;obtain⟨⟨⟨⟨h1,h2⟩,h3⟩,h4⟩,h5⟩:=h;exact⟨by omega,by omega,h3,h4,h5⟩
structure RailOk (p:Plan) (r:Int):Prop where
 f:0≤(p.rail r).From∧(p.rail r).From<p.Nodes.length
 t:0≤(p.rail r).To∧(p.rail r).To<p.Nodes.length
 s:(p.rail r).Shape.length≤30
 spots:(p.line r).all spotB=true
 spot:∀k,k<(p.line r).length→spotB (nth (p.line r) k)=true
 seg:∀k,k+1<(p.line r).length→1≤segLen (p.line r) k∧segLen (p.line r) k≤1000000
 len:(p.line r).length=(p.rail r).Shape.length+2
theorem rail_ok {p:Plan} (h:validB p=true) {r:Int} (h0:0≤r) (h1:r<p.Rails.length):RailOk p r:=by
 obtain⟨_,_,hA,hR,_⟩:=valid_parts h;have hb:railB p (p.rail r)=true:=List.all_eq_true.1 hR _ (List.mem_of_getElem? (p.rail_get h0 h1));simp only[railB,railA,Bool.and_eq_true,inr_iff,decide_eq_true_eq]at hb;obtain⟨⟨b1,b2,b3,b4,b5⟩,b6,b7⟩:=hb;have sF:=nodeB_spot (node_ends hA (i:=(p.rail r).From) (by omega) (by omega));have sT:=nodeB_spot (node_ends hA (i:=(p.rail r).To) (by omega) (by omega));have hl:=line_len p r;have hsp:=line_spots (p:=p) (i:=r) sF sT b6;refine⟨by omega,by omega,b3,hsp,fun k hk=>List.all_eq_true.1 hsp _ (List.mem_of_getElem? (nth_get hk)),fun k hk=>?_,hl⟩;have:=List.all_eq_true.1 b7 k (by simp;omega);simp only[segB,inr_iff]at this;exact this
theorem sumTo_bd {p:Plan} {r:Int} (h:RailOk p r):∀k,k+1≤(p.line r).length→(k:Int)≤sumTo (p.line r) k∧sumTo (p.line r) k≤1000000*k
 |0,_=>by simp[sumTo]
 |k+1,hk=>by
  have h1:=sumTo_bd h k (by omega);have h2:=h.seg k (by omega);simp only[sumTo];omega
end Go.Tram
namespace Go.Tram
open Go.AM
structure Pair where
 a:Strip
 b:Strip
 gap:Int
 deriving Inhabited
@[simp] def Pair.cells (q:Pair):List AV:=[I q.a.Rail,I q.a.Segment,I q.b.Rail,I q.b.Segment,I q.gap]
end Go.Tram
namespace Go.Tram
open Go.AM
section
variable {m:Spot→Spot}
structure Mv (m:Spot→Spot) (s s':SS):Prop where
 a:s'.a=m s.a
 b:s'.b=m s.b
 bends:s'.bends=s.bends.map m
end
end Go.Tram
end
section
namespace Go.Tram
open Go.AM Go.Proofs
theorem c_Grow (n:Int) (h0:1≤n) (h1:n≤1000):OwnCall Tryz.prog 164 [.v (.slice none 0 0),I n] 0 0 2 (List.replicate n.toNat [I 0,I 0]):=by
 have w1:IntKind.i64.wrap 0=0:=by decide
 have w2:IntKind.i64.wrap n=n:=wrap_in (by omega) (by omega);have f1:Fits n.toNat 17:=fits_of (by omega) (by omega);have n1:¬n<0:=by omega
 have n2:0<n:=by omega
 have n3:¬n≤0:=by omega
 refine OwnCall.of_body Tryz.func164 rfl (by decide) (by simp[Tryz.ntmps164]) (by simp) (by simp;omega) ?_;simp only[Tryz.ntmps164,Tryz.results164];refine aS fun K hK=>?_;simp -dsimp [w1,w2,f1,n1,n2,n3,h0];apply hK;clear hK K;refine awp_seq_k fun K1 hK1=>?_;refine aS fun K hK=>?_;simp -dsimp [w1,w2,f1,n1,n2,n3,h0];apply hK;clear hK K;refine awp_cond rfl (fun hc0=>?_) (fun hc0=>?_)
 ·simp at hc0
 ·refine awp_skip ?_;simp only[zT,reduceIte,Nat.reduceEqDiff];refine hK1 _ _ ?_;refine awp_prune [0,1] ?_;simp only[zP,Nat.reduceEqDiff,reduceIte];refine awp_seq_k fun K2 hK2=>?_;refine aS fun K hK=>?_;simp -dsimp [w1,w2,f1,n1,n2,n3,h0];apply hK;clear hK K;refine aS fun K hK=>?_;simp -dsimp [w1,w2,f1,n1,n2,n3,h0];apply hK;clear hK K;refine awp_cond rfl (fun hc1=>?_) (fun hc1=>?_)
  ·refine aR fun K hK=>?_;simp -dsimp [w1,w2,f1,n1,n2,n3,h0];apply hK;clear hK K;simp only[zT,reduceIte,Nat.reduceEqDiff];refine hK2 _ _ ?_;refine awp_prune [0] ?_;simp only[zP,Nat.reduceEqDiff,reduceIte];refine aS fun K hK=>?_;simp -dsimp [w1,w2,f1,n1,n2,n3,h0];apply hK;clear hK K;exact awp_ret ⟨4,0,rfl,by simp,by simp⟩
  ·simp at hc1
theorem c_isNaN (n:Int):PureCall Tryz.prog 194 [I n] (Bo false):=by
 refine PureCall.of_body Tryz.func194 rfl (by decide) (by simp[Tryz.ntmps194]) ?_;simp only[Tryz.ntmps194,Tryz.results194];refine aS fun K hK=>?_;simp -dsimp;apply hK;clear hK K;refine aS fun K hK=>?_;simp -dsimp;apply hK;clear hK K;exact awp_ret (by simp)
theorem c_Compare (a b:Int):PureCall Tryz.prog 148 [I a,I b] (I (cmpI a b)):=by
 refine PureCall.of_body Tryz.func148 rfl (by decide) (by simp[Tryz.ntmps148]) ?_;simp only[Tryz.ntmps148,Tryz.results148];refine aS fun K hK=>?_;simp -dsimp;apply hK;clear hK K;refine aS fun K hK=>?_;simp -dsimp;refine callK_intro _ (c_isNaN a) (by simp) ?_;simp -dsimp;apply hK;clear hK K;refine aS fun K hK=>?_;simp -dsimp;refine callK_intro _ (c_isNaN b) (by simp) ?_;simp -dsimp;apply hK;clear hK K;refine awp_seq_k fun K1 hK1=>?_;refine aS fun K hK=>?_;simp -dsimp;apply hK;clear hK K;refine awp_cond rfl (fun hc0=>?_) (fun hc0=>?_)
 ·simp at hc0
 ·refine awp_skip ?_;simp only[zT,reduceIte,Nat.reduceEqDiff];refine hK1 _ _ ?_;refine awp_prune [0,1,6] ?_;simp only[zP,Nat.reduceEqDiff,reduceIte];refine awp_seq_k fun K2 hK2=>?_;refine aS fun K hK=>?_;simp -dsimp;apply hK;clear hK K;refine awp_cond rfl (fun hc2=>?_) (fun hc2=>?_)
  ·simp at hc2
  ·refine awp_skip ?_;simp only[zT,reduceIte,Nat.reduceEqDiff];refine hK2 _ _ ?_;refine awp_prune [0,1] ?_;simp only[zP,Nat.reduceEqDiff,reduceIte];refine awp_seq_k fun K3 hK3=>?_;refine aS fun K hK=>?_;simp -dsimp;apply hK;clear hK K;refine awp_cond rfl (fun hc3=>?_) (fun hc3=>?_)
   ·skip
    try simp at hc3
    refine aS fun K hK=>?_;simp -dsimp;apply hK;clear hK K;exact awp_ret (by simp_all [cmpI];try omega)
   ·skip
    try simp at hc3
    refine awp_skip ?_;simp only[zT,reduceIte,Nat.reduceEqDiff];refine hK3 _ _ ?_;refine awp_prune [0,1] ?_;simp only[zP,Nat.reduceEqDiff,reduceIte];refine awp_seq_k fun K4 hK4=>?_;refine aS fun K hK=>?_;simp -dsimp;apply hK;clear hK K;refine awp_cond rfl (fun hc4=>?_) (fun hc4=>?_)
    ·skip
     try simp at hc4
     refine aS fun K hK=>?_;simp -dsimp;apply hK;clear hK K;exact awp_ret (by simp_all [cmpI];try omega)
    ·skip
     try simp at hc4
     refine awp_skip ?_;simp only[zT,reduceIte,Nat.reduceEqDiff];refine hK4 _ _ ?_;refine awp_prune [] ?_;simp only[zP,Nat.reduceEqDiff,reduceIte];refine aS fun K hK=>?_;simp -dsimp;apply hK;clear hK K;exact awp_ret (by simp_all [cmpI];try omega)
def partsAV (parts:List (List Spot)):AV:= .lst 1 (parts.map fun q=>[.lst 2 (q.map Spot.cells)])
@[irreducible] def tot (parts:List (List Spot)) (k:Nat):Nat:=(parts.take k).flatten.length
theorem tot_zero (parts:List (List Spot)):tot parts 0=0:=by unfold tot;simp
theorem tot_succ {parts:List (List Spot)} {k:Nat} {q:List Spot} (h:parts[k]?=some q):tot parts (k+1)=tot parts k+q.length:=by
 unfold tot;rw[List.take_add_one,h];simp
theorem tot_all {parts:List (List Spot)} {k:Nat} (h:parts.length≤k):tot parts k=parts.flatten.length:=by unfold tot;rw[List.take_of_length_le h]
theorem tot_le (parts:List (List Spot)) (k:Nat):tot parts k≤parts.flatten.length:=by
 unfold tot;have:=congrArg (fun l=>l.flatten.length) (List.take_append_drop k parts);simp only[List.flatten_append,List.length_append]at this;omega
def cat (parts:List (List Spot)) (k:Nat):List (List AV):=(parts.take k).flatten.map Spot.cells
theorem cat_succ {parts:List (List Spot)} {k:Nat} {q:List Spot} (h:parts[k]?=some q):cat parts (k+1)=cat parts k++q.map Spot.cells:=by
 unfold cat;rw[List.take_add_one,h];simp
theorem cat_len (parts:List (List Spot)) (k:Nat):(cat parts k).length=tot parts k:=by unfold cat tot;rw[List.length_map]
theorem cat_ren (parts:List (List Spot)) (k:Nat) (g:List (Option Nat)):(cat parts k).map (fun e=>e.map (renAV g 3))=cat parts k:=by unfold cat;rw[List.map_map];exact List.map_congr_left fun s _=>rfl
theorem cat_frz (parts:List (List Spot)) (k:Nat) (H:Hp):(cat parts k).map (fun e=>e.map (frzP H 5))=cat parts k:=by unfold cat;rw[List.map_map];exact List.map_congr_left fun s _=>rfl
theorem cat_all {parts:List (List Spot)} {k:Nat} (h:parts.length≤k):cat parts k=parts.flatten.map Spot.cells:=by unfold cat;rw[List.take_of_length_le h]
theorem c_Concat (parts:List (List Spot)) (h1:1≤parts.flatten.length) (h2:parts.flatten.length≤1000) (h3:parts.length≤1000):PureCall Tryz.prog 125 [partsAV parts] (.lst 2 (parts.flatten.map Spot.cells)):=by
 unfold partsAV;refine PureCall.of_body Tryz.func125 rfl (by decide) (by simp[Tryz.ntmps125]) ?_;simp only[Tryz.ntmps125,Tryz.results125];refine aS fun K hK=>?_;simp -dsimp;apply hK;clear hK K;refine aS fun K hK=>?_;simp -dsimp;apply hK;clear hK K;refine awp_seq_k fun K1 hK1=>?_;refine aS fun K hK=>?_;simp -dsimp;apply hK;clear hK K;refine awp_block ?_;refine awp_prune [0,3,9,10,11] ?_;simp only[zP,Nat.reduceEqDiff,reduceIte];refine awp_loop_l [0,9,10] (α:=Nat) (fun k=>[(3,I (tot parts k:Nat)),(11,I k)]) (fun _=>[]) (fun k=>k≤parts.length) (fun k=>parts.length-k) 0 ?_ ?_ ?_
 ·simp
 ·exact sub_same (by simp[tot_zero])
 rintro k k1;simp only[zP,Nat.reduceEqDiff,reduceIte];refine aS fun K hK=>?_;simp -dsimp;apply hK;clear hK K;refine awp_seq_k fun K2 hK2=>?_;refine awp_cond rfl (fun hc0=>?_) (fun hc0=>?_)
 ·skip
  try simp at hc0
  obtain⟨q,hq⟩:∃q,parts[k]?=some q:=⟨_,List.getElem?_eq_getElem hc0⟩;have hs:=tot_succ hq;have hle:=tot_le parts (k+1);have w1:IntKind.i64.wrap ((tot parts k:Int)+(q.length:Int))=(tot parts (k+1):Nat):=by rw[wrap_in (by omega) (by omega)];omega
  have wk:=zW k (by omega);have wn:¬((tot parts (k+1):Nat):Int)<0:=by omega
  refine awp_skip ?_;simp only[zT,reduceIte,Nat.reduceEqDiff];refine hK2 _ _ ?_;refine awp_prune [0,3,9,10,11] ?_;simp only[zP,Nat.reduceEqDiff,reduceIte];refine awp_seq_k fun K3 hK3=>?_;refine awp_block ?_;refine aS fun K hK=>?_;simp -dsimp [hq];apply hK;clear hK K;refine aS fun K hK=>?_;simp -dsimp [w1];apply hK;clear hK K;refine aS fun K hK=>?_;simp -dsimp [wn];apply hK;clear hK K;refine awp_cond rfl (fun hc1=>?_) (fun hc1=>?_)
  ·simp at hc1
  ·refine awp_skip ?_;simp only[zT,reduceIte,Nat.reduceEqDiff];refine hK3 _ _ ?_;refine awp_prune [0,3,9,10,11] ?_;simp only[zP,Nat.reduceEqDiff,reduceIte];refine aR fun K hK=>?_;simp -dsimp [wk];apply hK;clear hK K;simp only[zT,reduceIte,Nat.reduceEqDiff];exact⟨k+1,by omega,by omega,sub_same (by simp)⟩
 ·skip
  try simp at hc0
  have hk:tot parts k=parts.flatten.length:=tot_all (by omega);refine awp_exit ?_;simp only[zT,reduceIte,Nat.reduceEqDiff];refine hK1 _ _ ?_;refine awp_prune [0,3] ?_;simp only[zP,Nat.reduceEqDiff,reduceIte];refine aS fun K hK=>?_;simp -dsimp;refine callK_own (c_Grow (tot parts k:Nat) (by omega) (by omega)) ?_;simp -dsimp;apply hK;clear hK K;refine awp_seq_k fun K4 hK4=>?_;refine aS fun K hK=>?_;simp -dsimp;apply hK;clear hK K;refine awp_block ?_;refine awp_prune [6,25,26,27] ?_;simp only[zP,Nat.reduceEqDiff,reduceIte];refine awp_loop_l [25,26] (α:=Nat×List (List AV)) (fun x=>[(6, .row 0 0 (tot parts x.1)),(27,I x.1)]) (fun x=>[some (.els 2 x.2)]) (fun x=>x.1≤parts.length∧x.2.take (tot parts x.1)=cat parts x.1∧tot parts x.1≤x.2.length) (fun x=>parts.length-x.1) (0,List.replicate (tot parts k) [I 0,I 0]) ?_ ?_ ?_
  ·simp[tot_zero,cat]
  ·exact sub_same (by simp[tot_zero])
  rintro⟨k,es⟩ ⟨k1,k2,k3⟩;simp only at k1 k2 k3;simp only[zP,Nat.reduceEqDiff,reduceIte];refine aS fun K hK=>?_;simp -dsimp;apply hK;clear hK K;refine awp_seq_k fun K5 hK5=>?_;refine awp_cond rfl (fun hc2=>?_) (fun hc2=>?_)
  ·skip
   try simp at hc2
   obtain⟨q,hq⟩:∃q,parts[k]?=some q:=⟨_,List.getElem?_eq_getElem hc2⟩;have hs:=tot_succ hq;have hle:=tot_le parts (k+1);have hcl:=cat_len parts k;have wk:=zW k (by omega);have f1:Fits (tot parts k+q.length) 17:=fits_of (by omega) (by omega);refine awp_skip ?_;simp only[zT,reduceIte,Nat.reduceEqDiff];refine hK5 _ _ ?_;refine awp_prune [6,25,26,27] ?_;simp only[zP,Nat.reduceEqDiff,reduceIte];refine awp_seq_k fun K6 hK6=>?_;refine awp_block ?_;refine aS fun K hK=>?_;simp -dsimp [hq];apply hK;clear hK K;refine aR fun K hK=>?_;simp -dsimp [k2,k3,hcl,f1];apply hK;clear hK K;simp only[zT,reduceIte,Nat.reduceEqDiff];refine hK6 _ _ ?_;refine awp_prune [6,25,26,27] ?_;simp only[zP,Nat.reduceEqDiff,reduceIte];refine aR fun K hK=>?_;simp -dsimp [wk];apply hK;clear hK K;simp only[zT,reduceIte,Nat.reduceEqDiff];exact⟨(k+1,cat parts (k+1)),⟨by omega,by rw[List.take_of_length_le (by rw[cat_len];exact Nat.le_refl _)],by rw[cat_len];exact Nat.le_refl _⟩,by simp;omega,sub_rb [some 1] rfl (by simp[hs]) (by simp[cat_succ hq,cat_ren,Function.comp_def])⟩
  ·skip
   try simp at hc2
   refine awp_exit ?_;simp only[zT,reduceIte,Nat.reduceEqDiff];refine hK4 _ _ ?_;refine awp_prune [6] ?_;simp only[zP,Nat.reduceEqDiff,reduceIte];refine aS fun K hK=>?_;simp -dsimp;apply hK;clear hK K;exact awp_ret (by simp[k2,k3,cat_frz];rw[cat_all hc2,List.map_flatten])
end Go.Tram
end
section
namespace Go.Tram
open Go.AM Go.Proofs
theorem c_tline (p:Plan) (r:Rail) (hf:0≤r.From∧r.From<p.Nodes.length) (ht:0≤r.To∧r.To<p.Nodes.length) (hs:r.Shape.length≤900):
  PureCall Tryz.prog 83 [p.av,r.av] (.lst 2 ((lineOf p r).map Spot.cells)):=by
 have e2:p.Nodes[r.From.toNat]?=some (p.node r.From):=Plan.node_get hf.1 hf.2;have e3:p.Nodes[r.To.toNat]?=some (p.node r.To):=Plan.node_get ht.1 ht.2;have hc:=(c_Concat [[(p.node r.From).Spot],r.Shape,[(p.node r.To).Spot]] (by simp) (by simp;omega) (by simp)).wk (args:=[.full 1 [[.full 2 [[I (p.node r.From).Spot.X,I (p.node r.From).Spot.Y]]],[.lst 2 (r.Shape.map Spot.cells)],[.full 2 [[I (p.node r.To).Spot.X,I (p.node r.To).Spot.Y]]]]]) (by simp[AM.wk,partsAV,Function.comp_def]);refine PureCall.of_body Tryz.func83 rfl (by decide) (by simp[Tryz.ntmps83]) ?_;simp only[Tryz.ntmps83,Tryz.results83];refine aS fun K hK=>?_;simp -dsimp;apply hK;clear hK K;refine awp_sd mixed rfl fun K hK=>?_;simp -dsimp [e2,e3,hf.1,ht.1];refine callK_intro _ (hc) (by simp) ?_;simp -dsimp [e2,e3,hf.1,ht.1];refine hK _ _ _ (by decide+kernel) ?_;clear hK K;exact awp_ret (by simp[lineOf])
theorem c_tspot (s:Spot):PureCall Tryz.prog 161 [s.av] (Bo (spotB s)):=by
 refine PureCall.of_body Tryz.func161 rfl (by decide) (by simp[Tryz.ntmps161]) ?_;simp only[Tryz.ntmps161,Tryz.results161];refine aS fun K hK=>?_;simp -dsimp;apply hK;clear hK K;refine aS fun K hK=>?_;simp -dsimp;refine callK_intro _ (c_within _ _ _) (by simp) ?_;simp -dsimp;refine callK_may _ (fun hm=>c_within _ _ _) (by simp) ?_;simp -dsimp;apply hK;clear hK K;exact awp_ret (by simp[spotB])
theorem c_sizes:PureCall Tryz.prog 162 [] (.agg [I 0,I 1,I 2,I 4,I 3,I 3,I 3]):=by
 refine PureCall.of_body Tryz.func162 rfl (by decide) (by simp[Tryz.ntmps162]) ?_;simp only[Tryz.ntmps162,Tryz.results162];refine aS fun K hK=>?_;simp -dsimp;apply hK;clear hK K;refine aS fun K hK=>?_;simp -dsimp [Value.oneCell'];apply hK;clear hK K;exact awp_ret (by simp)
theorem c_ending (p:Plan) (e:REnd) (h0:0≤e.Rail) (h1:e.Rail<p.Rails.length):PureCall Tryz.prog 87 [p.av,e.av] (I (p.at e)):=by
 have e1:p.Rails[e.Rail.toNat]?=some (p.rail e.Rail):=Plan.rail_get h0 h1;refine PureCall.of_body Tryz.func87 rfl (by decide) (by simp[Tryz.ntmps87]) ?_;simp only[Tryz.ntmps87,Tryz.results87];refine aS fun K hK=>?_;simp -dsimp;apply hK;clear hK K;refine awp_seq_k fun K1 hK1=>?_;refine aS fun K hK=>?_;simp -dsimp;apply hK;clear hK K;refine awp_cond rfl (fun hc0=>?_) (fun hc0=>?_)
 ·skip
  try simp at hc0
  refine aS fun K hK=>?_;simp -dsimp [e1,h0];apply hK;clear hK K;exact awp_ret (by simp[Plan.at,hc0])
 ·skip
  try simp at hc0
  refine awp_skip ?_;simp only[zT,reduceIte,Nat.reduceEqDiff];refine hK1 _ _ ?_;refine awp_prune [2,3] ?_;simp only[zP,Nat.reduceEqDiff,reduceIte];refine aS fun K hK=>?_;simp -dsimp [e1,h0];apply hK;clear hK K;exact awp_ret (by simp[Plan.at,hc0])
theorem c_Sqrt (n:Nat) (h:n<2^50):∃r x:Nat,PureCall Tryz.prog 165 [.v (.float .f64 (FloatKind.f64.nearest n))] (.v (.float .f64 r))∧floatToIntVal .f64 r .i64=some (x:Int)∧x≤2^30:=by
 obtain⟨r,x,h1,h2,h3⟩:=Sq.sqrt_bd h;have hs:PureCall Tryz.prog 205 [.v (.float .f64 (FloatKind.f64.nearest n))] (.v (.float .f64 r)):=by
  refine PureCall.of_ext (us:=[.float .f64 (FloatKind.f64.nearest n)]) (e:=Extern.MathSqrt.sqrt) Tryz.func205 (by rfl) (by rfl) (by rfl) (by rfl) (fun w=>?_);have e:Extern.MathSqrt.sqrt #[.float .f64 (FloatKind.f64.nearest n)]=(match FloatKind.f64.format.sqrt (FloatKind.f64.nearest n)with
   |some r=>pure (.float .f64 r)
   |none=>do pure (.float .f64 (←choose (.nanBits .f64 (FloatKind.f64.nearest n) (FloatKind.f64.nearest n))))):=rfl
  rw[h1]at e;show(Extern.MathSqrt.sqrt #[.float .f64 (FloatKind.f64.nearest n)]).run _ w=_;rw[e]
  rfl
 refine⟨r,x,?_,h2,h3⟩;refine PureCall.of_body Tryz.func165 rfl (by decide) (by simp[Tryz.ntmps165]) ?_;simp only[Tryz.ntmps165,Tryz.results165];refine aS fun K hK=>?_;simp -dsimp;apply hK;clear hK K;refine aS fun K hK=>?_;simp -dsimp;refine callK_intro _ (hs) (by simp) ?_;simp -dsimp;apply hK;clear hK K;exact awp_ret (by simp)
theorem und_int:(Tryz.prog).underlying 3=some (.int .i64):=by kernel_rfl
theorem und_f64:(Tryz.prog).underlying 292=some (.float .f64):=by kernel_rfl
theorem conv_if (n:Int) (w:World):(convert 3 292 (.int .i64 n)).run Tryz.prog w= .ok (.float .f64 (FloatKind.f64.nearest n)) w:=by
 simp[convert,run_underlying und_int,run_underlying und_f64,Conv.intToFloat]
theorem sq_le {a b:Int} (h0:0≤a) (h:a≤b):a*a≤b*b:=Int.mul_le_mul h h h0 (by omega)
theorem c_troot (n:Int) (h0:0≤n) (h1:n<1000000000000000):PureCall Tryz.prog 126 [I n] (I (isq n)):=by
 obtain⟨m,rfl⟩:∃m:Nat,n=m:=⟨n.toNat,by omega⟩;obtain⟨r,x,hs,hx,hxb⟩:=c_Sqrt m (by omega);have hsq:=isq_spec h0;obtain⟨s1,s2,s3⟩:=hsq;generalize hq:isq (m:Int)=q at s1 s2 s3;have hqb:q≤40000000:=by
  rcases Int.lt_or_le 40000000 q with h|h
  ·have:=sq_le (by omega) (Int.le_of_lt h);omega
  ·exact h
 refine PureCall.of_body Tryz.func126 rfl (by decide) (by simp[Tryz.ntmps126]) ?_;simp only[Tryz.ntmps126,Tryz.results126];refine aS fun K hK=>?_;simp -dsimp;apply hK;clear hK K;refine aS fun K hK=>?_;simp -dsimp;refine⟨_,conv_if m,?_⟩;simp;refine callK_intro _ (hs) (by simp) ?_;simp -dsimp;refine⟨_,fun w=>run_convert_float_int w _ _ .f64 .i64 r x (by rw[und_f64];rfl) und_int hx,?_⟩
 try simp
 apply hK;clear hK K;refine awp_seq_k fun K1 hK1=>?_;refine awp_block ?_;refine awp_prune [0,3] ?_;simp only[zP,Nat.reduceEqDiff,reduceIte];refine awp_loop_l [0] (α:=Int) (fun x=>[(3,I x)]) (fun _=>[]) (fun x=>0≤x∧x≤1100000000) (fun x=>x.toNat) (x:Int) ?_ ?_ ?_
 ·omega
 ·exact sub_same (by simp)
 rintro y ⟨y1,y2⟩;have b1:=mul_bd (a:=y) (b:=y) (A:=1100000000) (B:=1100000000) (by omega) (by omega) (by omega) (by omega);have w1:IntKind.i64.wrap (y*y)=y*y:=wrap_in (by omega) (by omega);have w2:IntKind.i64.wrap (y-1)=y-1:=wrap_in (by omega) (by omega);simp only[zP,Nat.reduceEqDiff,reduceIte];refine awp_seq_k fun K2 hK2=>?_;refine aS fun K hK=>?_;simp -dsimp [w1];apply hK;clear hK K;refine awp_cond rfl (fun hc0=>?_) (fun hc0=>?_)
 ·skip
  try simp at hc0
  have y0:y≠0:=by rintro rfl;simp at hc0;omega
  refine awp_skip ?_;simp only[zT,reduceIte,Nat.reduceEqDiff];refine hK2 _ _ ?_;refine awp_prune [0,3] ?_;simp only[zP,Nat.reduceEqDiff,reduceIte];refine awp_block ?_;refine aR fun K hK=>?_;simp -dsimp [w2];apply hK;clear hK K;simp only[zT,reduceIte,Nat.reduceEqDiff];exact⟨y-1,⟨by omega,by omega⟩,by omega,sub_same (by simp)⟩
 ·skip
  try simp at hc0
  have hyq:y≤q:=by
   rcases Int.lt_or_le q y with h|h
   ·have:=sq_le (a:=q+1) (b:=y) (by omega) (by omega);omega
   ·exact h
  refine awp_exit ?_;simp only[zT,reduceIte,Nat.reduceEqDiff];refine hK1 _ _ ?_;refine awp_prune [0,3] ?_;simp only[zP,Nat.reduceEqDiff,reduceIte];refine awp_seq_k fun K3 hK3=>?_;refine awp_block ?_;refine awp_prune [0,3] ?_;simp only[zP,Nat.reduceEqDiff,reduceIte];refine awp_loop_l [0] (α:=Int) (fun x=>[(3,I x)]) (fun _=>[]) (fun x=>0≤x∧x≤q) (fun x=>(q-x).toNat) y ?_ ?_ ?_
  ·omega
  ·exact sub_same (by simp)
  rintro z ⟨z1,z2⟩;have b2:=mul_bd (a:=z+1) (b:=z+1) (A:=1100000000) (B:=1100000000) (by omega) (by omega) (by omega) (by omega);have w3:IntKind.i64.wrap (z+1)=z+1:=wrap_in (by omega) (by omega);have w4:IntKind.i64.wrap ((z+1)*(z+1))=(z+1)*(z+1):=wrap_in (by omega) (by omega);simp only[zP,Nat.reduceEqDiff,reduceIte];refine awp_seq_k fun K4 hK4=>?_;refine aS fun K hK=>?_;simp -dsimp [w3,w4];apply hK;clear hK K;refine awp_cond rfl (fun hc1=>?_) (fun hc1=>?_)
  ·skip
   try simp at hc1
   have hzq:z+1≤q:=by
    rcases Int.lt_or_le q (z+1)with h|h
    ·have:=sq_le (a:=q+1) (b:=z+1) (by omega) (by omega);omega
    ·exact h
   refine awp_skip ?_;simp only[zT,reduceIte,Nat.reduceEqDiff];refine hK4 _ _ ?_;refine awp_prune [0,3] ?_;simp only[zP,Nat.reduceEqDiff,reduceIte];refine awp_block ?_;refine aR fun K hK=>?_;simp -dsimp [w3];apply hK;clear hK K;simp only[zT,reduceIte,Nat.reduceEqDiff];exact⟨z+1,⟨by omega,by omega⟩,by omega,sub_same (by simp)⟩
  ·skip
   try simp at hc1
   have hzq:z=q:=by
    rcases Int.lt_or_le z q with h|h
    ·have:=sq_le (a:=z+1) (b:=q) (by omega) (by omega);omega
    ·omega
   refine awp_exit ?_;simp only[zT,reduceIte,Nat.reduceEqDiff];refine hK3 _ _ ?_;refine awp_prune [3] ?_;simp only[zP,Nat.reduceEqDiff,reduceIte];refine aS fun K hK=>?_;simp -dsimp;apply hK;clear hK K;exact awp_ret (by simp[hq,hzq])
end Go.Tram
end
section
namespace Go.Tram
open Go.AM Go.Proofs
theorem c_span (a b:Spot) (ha:spotB a=true) (hb:spotB b=true):PureCall Tryz.prog 84 [a.av,b.av] (I (far a b)):=by
 have hs:=sqd_bd ha hb;have ha':=spotB_iff.1 ha;have hb':=spotB_iff.1 hb;have w1:IntKind.i64.wrap (a.X-b.X)=a.X-b.X:=wrap_in (by omega) (by omega);have w2:IntKind.i64.wrap (a.Y-b.Y)=a.Y-b.Y:=wrap_in (by omega) (by omega);have h1:=mul_bd (a:=a.X-b.X) (b:=a.X-b.X) (A:=20000000) (B:=20000000) (by omega) (by omega) (by omega) (by omega);have h2:=mul_bd (a:=a.Y-b.Y) (b:=a.Y-b.Y) (A:=20000000) (B:=20000000) (by omega) (by omega) (by omega) (by omega);have w3:IntKind.i64.wrap ((a.X-b.X)*(a.X-b.X))=(a.X-b.X)*(a.X-b.X):=wrap_in (by omega) (by omega);have w4:IntKind.i64.wrap ((a.Y-b.Y)*(a.Y-b.Y))=(a.Y-b.Y)*(a.Y-b.Y):=wrap_in (by omega) (by omega);have w5:IntKind.i64.wrap ((a.X-b.X)*(a.X-b.X)+(a.Y-b.Y)*(a.Y-b.Y))=sqd a b:=wrap_in (by unfold sqd at hs;omega) (by unfold sqd at hs;omega);refine PureCall.of_body Tryz.func84 rfl (by decide) (by simp[Tryz.ntmps84]) ?_;simp only[Tryz.ntmps84,Tryz.results84];refine aS fun K hK=>?_;simp -dsimp [w1,w2,w3,w4,w5];apply hK;clear hK K;refine awp_sd mixed rfl fun K hK=>?_;simp -dsimp [w1,w2,w3,w4,w5];refine hK _ _ _ (by decide+kernel) ?_;clear hK K;refine aS fun K hK=>?_;simp -dsimp [w1,w2,w3,w4,w5];refine callK_intro _ (c_troot _ hs.1 (by omega)) (by simp) ?_;simp -dsimp [w1,w2,w3,w4,w5];apply hK;clear hK K;exact awp_ret (by simp[far])
theorem sizes_get {k:Int} (h1:1≤k) (h6:k≤6):(List.take 1 (List.drop k.toNat [I 0,I 1,I 2,I 4,I 3,I 3,I 3])).head?.getD AV.any=I (endsN k):=by
 have:k=1∨k=2∨k=3∨k=4∨k=5∨k=6:=by omega
 rcases this with rfl|rfl|rfl|rfl|rfl|rfl<;>rfl
theorem c_tnode (n:Node):PureCall Tryz.prog 119 [n.av] (Bo (nodeB n)):=by
 refine PureCall.of_body Tryz.func119 rfl (by decide) (by simp[Tryz.ntmps119]) ?_;simp only[Tryz.ntmps119,Tryz.results119];refine aS fun K hK=>?_;simp -dsimp;apply hK;clear hK K;refine awp_seq_k fun K1 hK1=>?_;refine awp_sd mixed rfl fun K hK=>?_;simp -dsimp;refine callK_may _ (fun hm=>c_tspot n.Spot) (by simp) ?_;simp -dsimp;refine callK_may _ (fun hm=>c_sizes) (by simp) ?_;simp -dsimp;refine⟨by omega,valK_intro (I (endsN n.Kind)) (fun hm=>by simp at hm;exact sizes_get (by omega) (by omega)) ?_⟩;simp;refine hK _ _ _ (by decide+kernel) ?_;clear hK K;refine awp_cond rfl (fun hc0=>?_) (fun hc0=>?_)
 ·skip
  try simp at hc0
  refine aS fun K hK=>?_;simp -dsimp;apply hK;clear hK K;refine awp_ret ?_;have:nodeB n=false:=by
   cases hq:nodeB n with
   |false=>rfl
   |true=>
    simp[nodeB]at hq;have hk:1≤n.Kind∧n.Kind≤6:=by have:=hq.2.2.1;unfold endsN at this;repeat (split at this;omega);omega
    simp[hq]at hc0;omega
  simp[this]
 ·skip
  try simp at hc0
  have he:endsN n.Kind≠0:=by have:=hc0.1.1;unfold endsN;repeat (split;omega);omega
  refine awp_skip ?_;simp only[zT,reduceIte,Nat.reduceEqDiff];refine hK1 _ _ ?_;refine awp_prune [1] ?_;simp only[zP,Nat.reduceEqDiff,reduceIte];refine awp_seq_k fun K2 hK2=>?_;refine aS fun K hK=>?_;simp -dsimp;apply hK;clear hK K;refine awp_cond rfl (fun hc1=>?_) (fun hc1=>?_)
  ·skip
   try simp at hc1
   refine aS fun K hK=>?_;simp -dsimp;refine callK_intro _ (c_within _ _ _) (by simp) ?_;simp -dsimp;apply hK;clear hK K;refine awp_ret ?_;simp[nodeB,hc0,hc1,he]
  ·skip
   try simp at hc1
   refine awp_skip ?_;simp only[zT,reduceIte,Nat.reduceEqDiff];refine hK2 _ _ ?_;refine awp_prune [1] ?_;simp only[zP,Nat.reduceEqDiff,reduceIte];refine aS fun K hK=>?_;simp -dsimp;apply hK;clear hK K;refine awp_ret ?_;simp[nodeB,hc0,hc1,he];exact Bool.eq_iff_iff.2 (by simp)
theorem railA_iff {p:Plan} {r:Rail} (h:railA p r=true):(0≤r.From∧r.From<p.Nodes.length)∧(0≤r.To∧r.To<p.Nodes.length)∧r.Shape.length≤30:=by
 simp only[railA,Bool.and_eq_true,inr_iff,decide_eq_true_eq]at h;omega
theorem railB_line {p:Plan} {r:Rail} (hA:p.Nodes.all nodeB=true):railB p r=(railA p r&&((lineOf p r).all spotB&&(List.range (r.Shape.length+1)).all (segB (lineOf p r)))):=by
 cases h:railA p r with
 |false=>simp[railB,h]
 |true=>
  obtain⟨h1,h2,_⟩:=railA_iff h;have sF:=nodeB_spot (node_ends hA (i:=r.From) h1.1 h1.2);have sT:=nodeB_spot (node_ends hA (i:=r.To) h2.1 h2.2);simp only[railB,h,lineOf,List.all_cons,List.all_append,List.all_nil,sF,sT,Bool.true_and,Bool.and_true]
theorem lineOf_len (p:Plan) (r:Rail):(lineOf p r).length=r.Shape.length+2:=by simp[lineOf]
theorem c_trail (p:Plan) (r:Rail) (hA:p.Nodes.all nodeB=true) (hN:p.Nodes.length≤300):PureCall Tryz.prog 122 [p.av,r.av] (Bo (railB p r)):=by
 have wn:IntKind.i64.wrap ((p.Nodes.length:Int)-1)=(p.Nodes.length:Int)-1:=wrap_in (by omega) (by omega);have hl:=lineOf_len p r;refine PureCall.of_body Tryz.func122 rfl (by decide) (by simp[Tryz.ntmps122]) ?_;simp only[Tryz.ntmps122,Tryz.results122];refine aS fun K hK=>?_;simp -dsimp;apply hK;clear hK K;refine awp_seq_k fun K1 hK1=>?_;refine aS fun K hK=>?_;simp -dsimp [wn];refine callK_intro _ (c_within _ _ _) (by simp) ?_;simp -dsimp [wn];refine callK_may _ (fun hm=>c_within _ _ _) (by simp) ?_;simp -dsimp [wn];refine callK_may _ (fun hm=>c_within _ _ _) (by simp) ?_;simp -dsimp [wn];refine callK_may _ (fun hm=>c_within _ _ _) (by simp) ?_;simp -dsimp [wn];apply hK;clear hK K;refine awp_cond rfl (fun hc0=>?_) (fun hc0=>?_)
 ·skip
  try simp at hc0
  refine aS fun K hK=>?_;simp -dsimp;apply hK;clear hK K;refine awp_ret ?_;have hra:railA p r=false:=by
   cases hq:railA p r with
   |false=>rfl
   |true=>simp[railA]at hq;simp[hq,wn]at hc0;omega
  simp[railB,hra]
 ·skip
  try simp at hc0
  have hra:railA p r=true:=by simp[railA,hc0];omega
  obtain⟨hF,hT,hsl⟩:=railA_iff hra;refine awp_skip ?_;simp only[zT,reduceIte,Nat.reduceEqDiff];refine hK1 _ _ ?_;refine awp_prune [2,3] ?_;simp only[zP,Nat.reduceEqDiff,reduceIte];refine aS fun K hK=>?_;simp -dsimp;refine callK_intro _ (c_tline p r hF hT (by omega)) (by simp) ?_;simp -dsimp;apply hK;clear hK K;refine awp_seq_k fun K2 hK2=>?_;refine aS fun K hK=>?_;simp -dsimp;apply hK;clear hK K;refine awp_block ?_;refine awp_prune [5,47,48,49] ?_;simp only[zP,Nat.reduceEqDiff,reduceIte];refine awp_loop_l [5,47,48] (α:=Nat) (fun k=>[(49,I k)]) (fun _=>[some (.els 2 [p.cells]),some (.els 5 [r.cells])]) (fun k=>k≤(lineOf p r).length∧∀m,m<k→spotB (nth (lineOf p r) m)=true∧(0<m→segB (lineOf p r) (m-1)=true)) (fun k=>(lineOf p r).length-k) 0 ?_ ?_ ?_
  ·exact⟨by omega,fun m hm=>by omega⟩
  ·exact sub_same (by simp)
  rintro k ⟨k1,k2⟩;simp only[zP,Nat.reduceEqDiff,reduceIte];refine aS fun K hK=>?_;simp -dsimp;apply hK;clear hK K;refine awp_seq_k fun K3 hK3=>?_;refine awp_cond rfl (fun hc1=>?_) (fun hc1=>?_)
  ·skip
   try simp at hc1
   have g0:=nth_get (l:=lineOf p r) (k:=k) (by omega);have wk:=zW k (by omega);have wm:0<k→IntKind.i64.wrap ((k:Int)-1)=((k-1:Nat):Int):=fun h=>by rw[wrap_in (by omega) (by omega)];omega
   refine awp_skip ?_;simp only[zT,reduceIte,Nat.reduceEqDiff];refine hK3 _ _ ?_;refine awp_prune [5,47,48,49] ?_;simp only[zP,Nat.reduceEqDiff,reduceIte];refine awp_seq_k fun K4 hK4=>?_;refine awp_block ?_;refine aS fun K hK=>?_;simp -dsimp [g0];apply hK;clear hK K;refine awp_sd mixed rfl fun K hK=>?_;simp -dsimp;refine callK_intro _ (c_tspot (nth (lineOf p r) k)) (by simp) ?_;simp -dsimp;refine⟨fun _ h=>by rw[wm h];omega,idxK_intro (Spot.cells (nth (lineOf p r) (k-1))) (fun hm=>by simp at hm;rw[wm hm.2];simp[nth_get (l:=lineOf p r) (k:=k-1) (by omega)]) ?_⟩;simp;refine callK_may _ (fun hm=>c_span (nth (lineOf p r) (k-1)) (nth (lineOf p r) k) (by simp at hm;exact(k2 (k-1) (by omega)).1) (by simp at hm;exact hm.1)) (by simp) ?_;simp -dsimp;refine callK_may _ (fun hm=>c_within _ _ _) (by simp) ?_;simp -dsimp;refine hK _ _ _ (by decide+kernel) ?_;clear hK K;refine awp_cond rfl (fun hc2=>?_) (fun hc2=>?_)
   ·skip
    try simp at hc2
    have hB:railB p r=false:=by
     rw[railB_line hA]
     by_cases hs:spotB (nth (lineOf p r) k)=true
     ·have h3:0<k∧inr (far (nth (lineOf p r) (k-1)) (nth (lineOf p r) k)) 1 1000000=false:=by simp[hs]at hc2;exact hc2
      have hseg:segB (lineOf p r) (k-1)=false:=by simp only[segB,segLen];rw[show k-1+1=k by omega];exact h3.2
      have:(List.range (r.Shape.length+1)).all (segB (lineOf p r))=false:=by rw[List.all_eq_false];exact⟨k-1,by simp;omega,by simp[hseg]⟩
      simp[this]
     ·have:(lineOf p r).all spotB=false:=all_ff g0 (by simpa using hs);simp only[this,Bool.false_and,Bool.and_false]
    refine aS fun K hK=>?_;simp -dsimp;apply hK;clear hK K;exact awp_ret (by simp[hB])
   ·skip
    try simp at hc2
    refine awp_skip ?_;simp only[zT,reduceIte,Nat.reduceEqDiff];refine hK4 _ _ ?_;refine awp_prune [5,47,48,49] ?_;simp only[zP,Nat.reduceEqDiff,reduceIte];refine aR fun K hK=>?_;simp -dsimp [wk];apply hK;clear hK K;simp only[zT,reduceIte,Nat.reduceEqDiff];refine⟨k+1,⟨by omega,fun m hm=>?_⟩,by omega,sub_rb [some 0,some 1] rfl (by simp) (by simp[Function.comp_def])⟩
    by_cases hmk:m<k
    ·exact k2 m hmk
    ·obtain rfl:m=k:=by omega
     refine⟨hc2.1,fun h=>?_⟩;simp only[segB,segLen];rw[show m-1+1=m by omega];exact hc2.2 h
  ·skip
   try simp at hc1
   have hB:railB p r=true:=by
    rw[railB_line hA,hra];simp only[Bool.true_and,Bool.and_eq_true,List.all_eq_true,List.mem_range];refine⟨fun s hs=>?_,fun m hm=>?_⟩
    ·obtain⟨m,hm⟩:=List.getElem?_of_mem hs;have hml:=(List.getElem?_eq_some_iff.1 hm).1;have:=(k2 m (by omega)).1;rw[nth_get hml]at hm;simp only[Option.some.injEq]at hm
     rwa [hm]at this
    ·exact(k2 (m+1) (by omega)).2 (by omega)
   refine awp_exit ?_;simp only[zT,reduceIte,Nat.reduceEqDiff];refine hK2 _ _ ?_;refine awp_prune [] ?_;simp only[zP,Nat.reduceEqDiff,reduceIte];refine aS fun K hK=>?_;simp -dsimp;apply hK;clear hK K;exact awp_ret (by simp[hB])
end Go.Tram
end
section
namespace Go.Tram
open Go.AM Go.Proofs
def ipts:List (List AV)→List AV
 |[]=>[]
 |c::cs=> .iptr c::ipts cs
@[simp] theorem ipts_frz (H:Nat→Option ARow) (n:Nat):∀cl:List (List AV),(ipts cl).map (frz H n)=ipts cl
 |[]=>rfl
 |c::cs=>by simp only[ipts,List.map_cons,ipts_frz H n cs,List.cons.injEq,and_true];cases n<;>rfl
@[simp] theorem ipts_noRef (n:Nat):∀cl:List (List AV),(ipts cl).all (AV.noRef n)=true
 |[]=>rfl
 |c::cs=>by simp only[ipts,List.all_cons,ipts_noRef n cs,Bool.and_true];cases n<;>rfl
@[simp] theorem ipts_rd (H:Nat→Option ARow) (n:Nat):∀cl:List (List AV),(ipts cl).flatMap (frzRd H n)=[]
 |[]=>rfl
 |c::cs=>by simp only[ipts,List.flatMap_cons,ipts_rd H n cs,List.append_nil];cases n<;>rfl
def firstI {α:Type} (l:List α) (q:α→Bool):Int:=match l.findIdx? q with|some i=>i|none=>-1
theorem firstI_none {α:Type} {l:List α} {q:α→Bool} (h:l.any q=false):firstI l q=-1:=by
 have:l.findIdx? q=none:=by
  rw[List.findIdx?_eq_none_iff];intro x hx;rw[List.any_eq_false]at h;simpa using h x hx
 unfold firstI;rw[this]
theorem firstI_hit {α:Type} {l:List α} {q:α→Bool} {k:Nat} {x:α} (hx:l[k]?=some x) (hq:q x=true) (hn:(l.take k).any q=false):firstI l q=k:=by
 obtain⟨hk,he⟩:=List.getElem?_eq_some_iff.1 hx;have:l.findIdx? q=some k:=by
  rw[List.findIdx?_eq_some_iff_getElem];refine⟨hk,by rw[he];exact hq,fun j hj=>?_⟩;rw[List.any_eq_false]at hn;have:=hn l[j] (by rw[List.mem_take_iff_getElem];exact⟨j,by omega,rfl⟩);simpa using this
 unfold firstI;rw[this]
theorem firstI_nn {α:Type} (l:List α) (q:α→Bool):decide (0≤firstI l q)=l.any q:=by
 cases h:l.any q with
 |false=>rw[firstI_none h];rfl
 |true=>
  rw[List.any_eq_true]at h;obtain⟨x,hx,hq⟩:=h;unfold firstI
  cases hi:l.findIdx? q with
  |none=>rw[List.findIdx?_eq_none_iff]at hi;exact absurd hq (by simp[hi x hx])
  |some i=>simp
theorem any_take {α:Type} {l:List α} {q:α→Bool} {k:Nat} {x:α} (h:l[k]?=some x):(l.take (k+1)).any q=((l.take k).any q||q x):=by
 rw[List.take_add_one,List.any_append,h];simp
theorem any_of_take {α:Type} {l:List α} {q:α→Bool} {k:Nat} (hk:l.length≤k) (h:(l.take k).any q=false):l.any q=false:=by rwa [List.take_of_length_le hk]at h
theorem c_Index_Node (l:List Node) (f:FuncId) (cl:List (List AV)) (q:Node→Bool) (h:∀x∈l,PureCall Tryz.prog f (.agg x.cells::ipts cl) (Bo (q x))) (hn:l.length≤100000):
  PureCall Tryz.prog 160 [.lst 5 (l.map Node.cells), .clo f (ipts cl)] (I (firstI l q)):=by
 refine PureCall.of_body Tryz.func160 rfl (by decide) (by simp[Tryz.ntmps160]) ?_;simp only[Tryz.ntmps160,Tryz.results160];refine aS fun K hK=>?_;simp -dsimp;apply hK;clear hK K;refine awp_seq_k fun K1 hK1=>?_;refine aS fun K hK=>?_;simp -dsimp;apply hK;clear hK K;refine awp_block ?_;refine awp_prune [0,1,7,8] ?_;simp only[zP,Nat.reduceEqDiff,reduceIte];refine awp_loop_l [0,1,7] (α:=Nat) (fun k=>[(8,I k)]) (fun _=>[]) (fun k=>k≤l.length∧(l.take k).any q=false) (fun k=>l.length-k) 0 ?_ ?_ ?_
 ·simp
 ·exact sub_same (by simp)
 rintro k ⟨k1,k2⟩;simp only[zP,Nat.reduceEqDiff,reduceIte];refine aS fun K hK=>?_;simp -dsimp;apply hK;clear hK K;refine awp_seq_k fun K2 hK2=>?_;refine awp_cond rfl (fun hc0=>?_) (fun hc0=>?_)
 ·skip
  try simp at hc0
  obtain⟨x,hx⟩:∃x,l[k]?=some x:=⟨_,List.getElem?_eq_getElem hc0⟩;have wk:=zW k (by omega);refine awp_skip ?_;simp only[zT,reduceIte,Nat.reduceEqDiff];refine hK2 _ _ ?_;refine awp_prune [0,1,7,8] ?_;simp only[zP,Nat.reduceEqDiff,reduceIte];refine awp_seq_k fun K3 hK3=>?_;refine awp_block ?_;refine aS fun K hK=>?_;simp -dsimp;apply hK;clear hK K;refine aS fun K hK=>?_;simp -dsimp [hx];refine callK_intro _ (h x (List.mem_of_getElem? hx)) (by simp) ?_;simp -dsimp [hx];apply hK;clear hK K;refine awp_cond rfl (fun hc1=>?_) (fun hc1=>?_)
  ·skip
   try simp at hc1
   refine aS fun K hK=>?_;simp -dsimp;apply hK;clear hK K;exact awp_ret (by simp[firstI_hit hx hc1 k2])
  ·skip
   try simp at hc1
   refine awp_skip ?_;simp only[zT,reduceIte,Nat.reduceEqDiff];refine hK3 _ _ ?_;refine awp_prune [0,1,7,8] ?_;simp only[zP,Nat.reduceEqDiff,reduceIte];refine aR fun K hK=>?_;simp -dsimp [wk];apply hK;clear hK K;simp only[zT,reduceIte,Nat.reduceEqDiff];exact⟨k+1,⟨by omega,by rw[any_take hx,k2,hc1];rfl⟩,by omega,sub_same (by simp)⟩
 ·skip
  try simp at hc0
  have hall:=any_of_take (by omega) k2;refine awp_exit ?_;simp only[zT,reduceIte,Nat.reduceEqDiff];refine hK1 _ _ ?_;refine awp_prune [] ?_;simp only[zP,Nat.reduceEqDiff,reduceIte];refine aS fun K hK=>?_;simp -dsimp;apply hK;clear hK K;exact awp_ret (by simp[firstI_none hall])
theorem c_Cont_Node (l:List Node) (f:FuncId) (cl:List (List AV)) (q:Node→Bool) (h:∀x∈l,PureCall Tryz.prog f (.agg x.cells::ipts cl) (Bo (q x))) (hn:l.length≤100000):
  PureCall Tryz.prog 117 [.lst 5 (l.map Node.cells), .clo f (ipts cl)] (Bo (l.any q)):=by
 refine PureCall.of_body Tryz.func117 rfl (by decide) (by simp[Tryz.ntmps117]) ?_;simp only[Tryz.ntmps117,Tryz.results117];refine aS fun K hK=>?_;simp -dsimp;apply hK;clear hK K;refine aS fun K hK=>?_;simp -dsimp;refine callK_intro _ (c_Index_Node l f cl q h hn) (by simp) ?_;simp -dsimp;apply hK;clear hK K;exact awp_ret (by simp[firstI_nn])
theorem c_Index_Rail (l:List Rail) (f:FuncId) (cl:List (List AV)) (q:Rail→Bool) (h:∀x∈l,PureCall Tryz.prog f (.agg x.cells::ipts cl) (Bo (q x))) (hn:l.length≤100000):
  PureCall Tryz.prog 163 [.lst 5 (l.map Rail.cells), .clo f (ipts cl)] (I (firstI l q)):=by
 refine PureCall.of_body Tryz.func163 rfl (by decide) (by simp[Tryz.ntmps163]) ?_;simp only[Tryz.ntmps163,Tryz.results163];refine aS fun K hK=>?_;simp -dsimp;apply hK;clear hK K;refine awp_seq_k fun K1 hK1=>?_;refine aS fun K hK=>?_;simp -dsimp;apply hK;clear hK K;refine awp_block ?_;refine awp_prune [0,1,7,8] ?_;simp only[zP,Nat.reduceEqDiff,reduceIte];refine awp_loop_l [0,1,7] (α:=Nat) (fun k=>[(8,I k)]) (fun _=>[]) (fun k=>k≤l.length∧(l.take k).any q=false) (fun k=>l.length-k) 0 ?_ ?_ ?_
 ·simp
 ·exact sub_same (by simp)
 rintro k ⟨k1,k2⟩;simp only[zP,Nat.reduceEqDiff,reduceIte];refine aS fun K hK=>?_;simp -dsimp;apply hK;clear hK K;refine awp_seq_k fun K2 hK2=>?_;refine awp_cond rfl (fun hc0=>?_) (fun hc0=>?_)
 ·skip
  try simp at hc0
  obtain⟨x,hx⟩:∃x,l[k]?=some x:=⟨_,List.getElem?_eq_getElem hc0⟩;have wk:=zW k (by omega);refine awp_skip ?_;simp only[zT,reduceIte,Nat.reduceEqDiff];refine hK2 _ _ ?_;refine awp_prune [0,1,7,8] ?_;simp only[zP,Nat.reduceEqDiff,reduceIte];refine awp_seq_k fun K3 hK3=>?_;refine awp_block ?_;refine aS fun K hK=>?_;simp -dsimp;apply hK;clear hK K;refine aS fun K hK=>?_;simp -dsimp [hx];refine callK_intro _ (h x (List.mem_of_getElem? hx)) (by simp) ?_;simp -dsimp [hx];apply hK;clear hK K;refine awp_cond rfl (fun hc1=>?_) (fun hc1=>?_)
  ·skip
   try simp at hc1
   refine aS fun K hK=>?_;simp -dsimp;apply hK;clear hK K;exact awp_ret (by simp[firstI_hit hx hc1 k2])
  ·skip
   try simp at hc1
   refine awp_skip ?_;simp only[zT,reduceIte,Nat.reduceEqDiff];refine hK3 _ _ ?_;refine awp_prune [0,1,7,8] ?_;simp only[zP,Nat.reduceEqDiff,reduceIte];refine aR fun K hK=>?_;simp -dsimp [wk];apply hK;clear hK K;simp only[zT,reduceIte,Nat.reduceEqDiff];exact⟨k+1,⟨by omega,by rw[any_take hx,k2,hc1];rfl⟩,by omega,sub_same (by simp)⟩
 ·skip
  try simp at hc0
  have hall:=any_of_take (by omega) k2;refine awp_exit ?_;simp only[zT,reduceIte,Nat.reduceEqDiff];refine hK1 _ _ ?_;refine awp_prune [] ?_;simp only[zP,Nat.reduceEqDiff,reduceIte];refine aS fun K hK=>?_;simp -dsimp;apply hK;clear hK K;exact awp_ret (by simp[firstI_none hall])
theorem c_Cont_Rail (l:List Rail) (f:FuncId) (cl:List (List AV)) (q:Rail→Bool) (h:∀x∈l,PureCall Tryz.prog f (.agg x.cells::ipts cl) (Bo (q x))) (hn:l.length≤100000):
  PureCall Tryz.prog 120 [.lst 5 (l.map Rail.cells), .clo f (ipts cl)] (Bo (l.any q)):=by
 refine PureCall.of_body Tryz.func120 rfl (by decide) (by simp[Tryz.ntmps120]) ?_;simp only[Tryz.ntmps120,Tryz.results120];refine aS fun K hK=>?_;simp -dsimp;apply hK;clear hK K;refine aS fun K hK=>?_;simp -dsimp;refine callK_intro _ (c_Index_Rail l f cl q h hn) (by simp) ?_;simp -dsimp;apply hK;clear hK K;exact awp_ret (by simp[firstI_nn])
theorem c_Check1 (n:Node):PureCall Tryz.prog 118 [.agg n.cells] (Bo (!nodeB n)):=by
 refine PureCall.of_body Tryz.func118 rfl (by decide) (by simp[Tryz.ntmps118]) ?_;simp only[Tryz.ntmps118,Tryz.results118];refine aS fun K hK=>?_;simp -dsimp;apply hK;clear hK K;refine aS fun K hK=>?_;simp -dsimp;refine callK_intro _ (c_tnode n) (by simp) ?_;simp -dsimp;apply hK;clear hK K;exact awp_ret (by simp)
theorem c_Check2 (p:Plan) (r:Rail) (hA:p.Nodes.all nodeB=true) (hN:p.Nodes.length≤300):PureCall Tryz.prog 121 [.agg r.cells, .iptr p.cells] (Bo (!railB p r)):=by
 refine PureCall.of_body Tryz.func121 rfl (by decide) (by simp[Tryz.ntmps121]) ?_;simp only[Tryz.ntmps121,Tryz.results121];refine aS fun K hK=>?_;simp -dsimp;apply hK;clear hK K;refine aS fun K hK=>?_;simp -dsimp;refine callK_intro _ (c_trail p r hA hN) (by simp) ?_;simp -dsimp;apply hK;clear hK K;exact awp_ret (by simp)
end Go.Tram
end
section
namespace Go.Tram
open Go.AM Go.Proofs
def keyOf (e:REnd):List KC:=[.i .i64 e.Rail, .b e.Last]
theorem keyOf_inj {a b:REnd}:keyOf a=keyOf b↔a=b:=by
 cases a;cases b;simp[keyOf]
def seenK (l:List (Nat×REnd)):List (List KC×Value):=l.map fun x=>(keyOf x.2,Value.bool true)
theorem kvGet_seen (e:REnd):∀l:List (Nat×REnd),kvGet (seenK l) [.i .i64 e.Rail, .b e.Last]=if e∈l.map (·.2)then some (.bool true)else none
 |[]=>by simp[seenK,kvGet]
 |x::l=>by
  have ih:=kvGet_seen e l;have hk:([.i .i64 e.Rail, .b e.Last]:List KC)=keyOf x.2↔e=x.2:=keyOf_inj (a:=e);simp only[seenK,List.map_cons,kvGet,List.mem_cons]at ih ⊢
  by_cases h:e=x.2
  ·rw[if_pos (hk.2 h),if_pos (Or.inl h)]
  ·rw[if_neg (fun q=>h (hk.1 q)),ih];simp only[h,false_or]
theorem kvSet_seen {e:REnd} {i:Nat}:∀{l:List (Nat×REnd)},e∉l.map (·.2)→kvSet (seenK l) [.i .i64 e.Rail, .b e.Last] (.bool true)=seenK (l++[(i,e)])
 |[],_=>by simp[seenK,kvSet,keyOf]
 |x::l,h=>by
  simp only[List.map_cons,List.mem_cons,not_or]at h;have ih:=kvSet_seen (i:=i) h.2;have hk:([.i .i64 e.Rail, .b e.Last]:List KC)=keyOf x.2↔e=x.2:=keyOf_inj (a:=e);simp only[seenK,List.map_cons,kvSet,List.cons_append]at ih ⊢;rw[if_neg (fun q=>h.1 (hk.1 q)),ih]
theorem c_Check (p:Plan):PureCall Tryz.prog 75 [p.av] (I (if validB p then 0 else 2)):=by
 refine PureCall.of_body Tryz.func75 rfl (by decide) (by simp[Tryz.ntmps75]) ?_;simp only[Tryz.ntmps75,Tryz.results75];refine aS fun K hK=>?_;simp -dsimp;apply hK;clear hK K;refine awp_seq_k fun K1 hK1=>?_;refine aS fun K hK=>?_;simp -dsimp;refine callK_intro _ (c_within _ _ _) (by simp) ?_;simp -dsimp;refine callK_may _ (fun hm=>c_within _ _ _) (by simp) ?_;simp -dsimp;apply hK;clear hK K;refine awp_cond rfl (fun hc0=>?_) (fun hc0=>?_)
 ·skip
  try simp at hc0
  have hv:validB p=false:=by simp[validB,validA];intro h1 h2;simp_all
  refine aS fun K hK=>?_;simp -dsimp;apply hK;clear hK K;exact awp_ret (by simp[hv])
 ·skip
  try simp at hc0
  have hN:=inr_iff.1 hc0.1;have hR:=inr_iff.1 hc0.2;refine awp_skip ?_;simp only[zT,reduceIte,Nat.reduceEqDiff];refine hK1 _ _ ?_;refine awp_prune [1] ?_;simp only[zP,Nat.reduceEqDiff,reduceIte];refine awp_seq_k fun K2 hK2=>?_;refine aS fun K hK=>?_;simp -dsimp;refine callK_intro _ (c_Cont_Node p.Nodes 118 [] (fun n=> !nodeB n) (fun n _=>c_Check1 n) (by omega)) (by simp) ?_;simp -dsimp;refine callK_may _ (fun hm=>c_Cont_Rail p.Rails 121 [p.cells] (fun r=> !railB p r) (fun r _=>c_Check2 p r (by simp at hm;exact List.all_eq_true.2 hm) (by omega)) (by omega)) (by simp) ?_;simp -dsimp;apply hK;clear hK K;refine awp_cond rfl (fun hc1=>?_) (fun hc1=>?_)
  ·have hv:validB p=false:=by
    cases hq:validB p with
    |false=>rfl
    |true=>
     obtain⟨_,_,hA,hB,_⟩:=valid_parts hq;rw[List.all_eq_true]at hA hB;have e1:(p.Nodes.any fun n=> !nodeB n)=false:=by rw[List.any_eq_false];intro x hx;simp[hA x hx]
     have e2:(p.Rails.any fun r=> !railB p r)=false:=by rw[List.any_eq_false];intro x hx;simp[hB x hx]
     simp[e1,e2]at hc1
   refine aS fun K hK=>?_;simp -dsimp;apply hK;clear hK K;exact awp_ret (by simp[hv])
  ·have hA:p.Nodes.all nodeB=true:=by simp at hc1;exact List.all_eq_true.2 hc1.1
   have hB:p.Rails.all (railB p)=true:=by simp at hc1;exact List.all_eq_true.2 hc1.2
   refine awp_skip ?_;simp only[zT,reduceIte,Nat.reduceEqDiff];refine hK2 _ _ ?_;refine awp_prune [1] ?_;simp only[zP,Nat.reduceEqDiff,reduceIte];refine aS fun K hK=>?_;simp -dsimp;apply hK;clear hK K;refine awp_seq_k fun K3 hK3=>?_;refine aS fun K hK=>?_;simp -dsimp;apply hK;clear hK K;refine awp_block ?_;refine awp_prune [1,3,31,32,33] ?_;simp only[zP,Nat.reduceEqDiff,reduceIte];refine awp_loop_l [1,3,31,32] (α:=Nat) (fun i=>[(33,I i)]) (fun i=>[some (.els 2 [p.cells]),some (.map true [.i .i64, .b] (seenK (endsOf p i)))]) (fun i=>i≤p.Nodes.length∧(endsOf p i).all (endB p)=true∧((endsOf p i).map (·.2)).Nodup) (fun i=>p.Nodes.length-i) 0 ?_ ?_ ?_
   ·simp[endsOf]
   ·exact sub_same (by simp[endsOf,seenK])
   rintro i ⟨i1,i2,i3⟩;simp only[zP,Nat.reduceEqDiff,reduceIte];refine aS fun K hK=>?_;simp -dsimp;apply hK;clear hK K;refine awp_seq_k fun K4 hK4=>?_;refine awp_cond rfl (fun hc2=>?_) (fun hc2=>?_)
   ·skip
    try simp at hc2
    have n0:=p.node_get (i:=(i:Int)) (by omega) (by omega);simp only[Int.toNat_natCast]at n0;have wi:=zW i (by omega);have wr:IntKind.i64.wrap ((p.Rails.length:Int)-1)=(p.Rails.length:Int)-1:=wrap_in (by omega) (by omega);have hle:=nodeB_len (node_ends hA (i:=(i:Int)) (by omega) (by omega));refine awp_skip ?_;simp only[zT,reduceIte,Nat.reduceEqDiff];refine hK4 _ _ ?_;refine awp_prune [1,3,31,32,33] ?_;simp only[zP,Nat.reduceEqDiff,reduceIte];refine awp_seq_k fun K5 hK5=>?_;refine awp_block ?_;refine aS fun K hK=>?_;simp -dsimp [n0];apply hK;clear hK K;refine aS fun K hK=>?_;simp -dsimp;apply hK;clear hK K;refine awp_block ?_;refine awp_prune [1,3,4,31,32,33,39,40,41] ?_;simp only[zP,Nat.reduceEqDiff,reduceIte];refine awp_loop_l [1,3,4,31,32,33,39,40] (α:=Nat) (fun j=>[(41,I j)]) (fun j=>[some (.els 2 [p.cells]),some (.map true [.i .i64, .b] (seenK (curE p i j)))]) (fun j=>j≤(p.node i).Ends.length∧(curE p i j).all (endB p)=true∧((curE p i j).map (·.2)).Nodup) (fun j=>(p.node i).Ends.length-j) 0 ?_ ?_ ?_
    ·rw[curE_zero];exact⟨by omega,i2,i3⟩
    ·simp only[curE_zero];exact sub_rb [some 0,some 1] rfl (by simp) (by simp)
    rintro j ⟨j1,j2,j3⟩;simp only[zP,Nat.reduceEqDiff,reduceIte];refine aS fun K hK=>?_;simp -dsimp;apply hK;clear hK K;refine awp_seq_k fun K6 hK6=>?_;refine awp_cond rfl (fun hc3=>?_) (fun hc3=>?_)
    ·skip
     try simp at hc3
     obtain⟨e,he⟩:∃e,(p.node i).Ends[j]?=some e:=⟨_,List.getElem?_eq_getElem hc3⟩;have wj:=zW j (by omega);refine awp_skip ?_;simp only[zT,reduceIte,Nat.reduceEqDiff];refine hK6 _ _ ?_;refine awp_prune [1,3,4,31,32,33,39,40,41] ?_;simp only[zP,Nat.reduceEqDiff,reduceIte];refine awp_seq_k fun K7 hK7=>?_;refine awp_block ?_;refine aS fun K hK=>?_;simp -dsimp [he];apply hK;clear hK K;refine awp_seq_k fun K8 hK8=>?_;refine aS fun K hK=>?_;simp -dsimp [wr];refine callK_intro _ (c_within _ _ _) (by simp) ?_;simp -dsimp [wr];refine valK_intro (Bo (decide (e∈(curE p i j).map (·.2)))) (fun hm=>by rw[kvGet_seen];split<;>simp_all) ?_
     simp -dsimp [wr];refine callK_may _ (fun hm=>c_ending p e (by simp[inr_iff]at hm;omega) (by simp[inr_iff]at hm;omega)) (by simp) ?_;simp -dsimp [wr];apply hK;clear hK K;refine awp_cond rfl (fun hc4=>?_) (fun hc4=>?_)
     ·have hv:validB p=false:=by
       by_cases hb:endB p (i,e)=true
       ·have hb':=hb;simp only[endB,Bool.and_eq_true,decide_eq_true_eq]at hb';simp[hb'.1,hb'.2]at hc4;obtain⟨a,ha⟩:=hc4;obtain⟨m,hm⟩:=List.getElem?_of_mem ha;exact valid_ff_dup hc2 he hm rfl
       ·exact valid_ff_end hc2 he (by simpa using hb)
      refine aS fun K hK=>?_;simp -dsimp;apply hK;clear hK K;exact awp_ret (by simp[hv])
     ·have hc4':inr e.Rail 0 (p.Rails.length-1)=true∧e∉ (curE p i j).map (·.2)∧p.at e=(i:Int):=by simp at hc4;simp;grind
      obtain⟨q1,q2,q3⟩:=hc4';have hset:=kvSet_seen (i:=i) q2;refine awp_skip ?_;simp only[zT,reduceIte,Nat.reduceEqDiff];refine hK8 _ _ ?_;refine awp_prune [1,3,4,7,31,32,33,39,40,41] ?_;simp only[zP,Nat.reduceEqDiff,reduceIte];refine aR fun K hK=>?_;simp -dsimp [hset];apply hK;clear hK K;simp only[zT,reduceIte,Nat.reduceEqDiff];refine hK7 _ _ ?_;refine awp_prune [1,3,4,31,32,33,39,40,41] ?_;simp only[zP,Nat.reduceEqDiff,reduceIte];refine aR fun K hK=>?_;simp -dsimp [wj];apply hK;clear hK K;simp only[zT,reduceIte,Nat.reduceEqDiff];refine⟨j+1,⟨by omega,?_,?_⟩,by omega,sub_rb [some 0,some 1] rfl (by simp) (by simp[curE_succ he])⟩
      ·rw[curE_succ he,List.all_append,j2];simp[endB,q1,q3]
      ·rw[curE_succ he,List.map_append,List.nodup_append];refine⟨j3,by simp,?_⟩;intro a ha b hb;simp only[List.map_cons,List.map_nil,List.mem_singleton]at hb;subst hb;intro hab;exact q2 (hab▸ha)
    ·skip
     try simp at hc3
     have hce:=curE_all (p:=p) (i:=i) (j:=j) (by omega);refine awp_exit ?_;simp only[zT,reduceIte,Nat.reduceEqDiff];refine hK5 _ _ ?_;refine awp_prune [1,3,31,32,33] ?_;simp only[zP,Nat.reduceEqDiff,reduceIte];refine aR fun K hK=>?_;simp -dsimp [wi];apply hK;clear hK K;simp only[zT,reduceIte,Nat.reduceEqDiff];exact⟨i+1,⟨by omega,by rw[←hce];exact j2,by rw[←hce];exact j3⟩,by omega,by simp only[←hce];exact sub_same (by simp)⟩
   ·skip
    try simp at hc2
    have hii:i=p.Nodes.length:=by omega
    subst hii;have hle:=endsOf_len hA p.Nodes.length (Nat.le_refl _);have w2:IntKind.i64.wrap (2*(p.Rails.length:Int))=2*(p.Rails.length:Int):=wrap_in (by omega) (by omega);have hsl:(seenK (endsOf p p.Nodes.length)).length=(endsOf p p.Nodes.length).length:=by simp[seenK]
    refine awp_exit ?_;simp only[zT,reduceIte,Nat.reduceEqDiff];refine hK3 _ _ ?_;refine awp_prune [1,3] ?_;simp only[zP,Nat.reduceEqDiff,reduceIte];refine awp_seq_k fun K9 hK9=>?_;refine aS fun K hK=>?_;simp -dsimp [w2,hsl];apply hK;clear hK K;refine awp_cond rfl (fun hc5=>?_) (fun hc5=>?_)
    ·have hv:validB p=decide ((endsOf p p.Nodes.length).length=2*p.Rails.length):=by simp[validB,validA,validE,hc0,hA,hB,i2,i3]
     try simp at hc5
     refine aS fun K hK=>?_;simp -dsimp;apply hK;clear hK K;exact awp_ret (by simp[hv];omega)
    ·have hv:validB p=decide ((endsOf p p.Nodes.length).length=2*p.Rails.length):=by simp[validB,validA,validE,hc0,hA,hB,i2,i3]
     try simp at hc5
     refine awp_skip ?_;simp only[zT,reduceIte,Nat.reduceEqDiff];refine hK9 _ _ ?_;refine awp_prune [] ?_;simp only[zP,Nat.reduceEqDiff,reduceIte];refine aS fun K hK=>?_;simp -dsimp;apply hK;clear hK K;exact awp_ret (by simp[hv];omega)
end Go.Tram
end
section
namespace Go.Tram
open Go.AM Go.Proofs
def putE (kvs:List (List KC×Value)) (es:List REnd):Nat→List (List KC×Value)
 |0=>kvs
 |j+1=>kvSet (putE kvs es j) (keyOf (es[j]?.getD default)) (.int .i64 j)
def placesK (p:Plan):Nat→List (List KC×Value)
 |0=>[]
 |i+1=>putE (placesK p i) (p.node i).Ends (p.node i).Ends.length
def lensA (p:Plan) (n:Nat):List (List AV):=(List.range n).map fun(r:Nat)=>[I (p.len r)]
def net (p:Plan):List AV:=p.cells++[.lst 1 (lensA p p.Rails.length), .mpc true [.i .i64, .b] (placesK p p.Nodes.length)]
theorem lensA_len (p:Plan) (n:Nat):(lensA p n).length=n:=by simp[lensA]
theorem lensA_succ (p:Plan) (n:Nat):lensA p (n+1)=lensA p n++[[I (p.len n)]]:=by simp[lensA,List.range_succ]
theorem lensA_get {p:Plan} {n k:Nat} (h:k<n):(lensA p n)[k]?=some [I (p.len k)]:=by simp[lensA,h]
theorem lensA_ren (p:Plan) (n:Nat) (g:List (Option Nat)):(lensA p n).map (fun e=>e.map (renAV g 3))=lensA p n:=by unfold lensA;rw[List.map_map];exact List.map_congr_left fun s _=>rfl
theorem lensA_frz (p:Plan) (n m:Nat) (H:Hp):(lensA p n).map (fun e=>e.map (frzP H (m+1)))=lensA p n:=by unfold lensA;rw[List.map_map];exact List.map_congr_left fun s _=>rfl
theorem c_rline (p:Plan) (r:Int) (ro:RailOk p r):PureCall Tryz.prog 83 [p.av,(p.rail r).av] (.lst 2 ((p.line r).map Spot.cells)):=
 c_tline p (p.rail r) ro.f ro.t (by have:=ro.s;omega)
theorem c_open_t (p:Plan) (h:validB p=true):PureCall Tryz.prog 39 [p.av] (.tup [.iptr (net p),Bo true]):=by
 have hck:=c_Check p;rw[h]at hck;obtain⟨hN,hR,hA,hB,_⟩:=valid_parts h;refine PureCall.of_body Tryz.func39 rfl (by decide) (by simp[Tryz.ntmps39]) ?_;simp only[Tryz.ntmps39,Tryz.results39];refine aS fun K hK=>?_;simp -dsimp;apply hK;clear hK K;refine awp_seq_k fun K1 hK1=>?_;refine aS fun K hK=>?_;simp -dsimp;refine callK_intro _ (hck) (by simp) ?_;simp -dsimp;apply hK;clear hK K;refine awp_cond rfl (fun hc0=>?_) (fun hc0=>?_)
 ·simp at hc0
 ·refine awp_skip ?_;simp only[zT,reduceIte,Nat.reduceEqDiff];refine hK1 _ _ ?_;refine awp_prune [1] ?_;simp only[zP,Nat.reduceEqDiff,reduceIte];refine aS fun K hK=>?_;simp -dsimp;apply hK;clear hK K;refine awp_seq_k fun K2 hK2=>?_;refine aS fun K hK=>?_;simp -dsimp;apply hK;clear hK K;refine awp_block ?_;refine awp_prune [1,4,22,23,24] ?_;simp only[zP,Nat.reduceEqDiff,reduceIte];refine awp_loop_l [1,4,22,23] (α:=Nat) (fun k=>[(24,I k)]) (fun k=>[some (.els 2 [p.cells]),some (.map true [.i .i64, .b] []),some (.els 4 [p.cells++[.row 3 0 (lensA p k).length, .mp 1]]),some (.els 1 (lensA p k))]) (fun k=>k≤p.Rails.length) (fun k=>p.Rails.length-k) 0 ?_ ?_ ?_
  ·simp
  ·exact(sub_nilc 2 0 2 1 (es:=[p.cells++[.v (.slice none 0 0), .mp 1]]) (e:=p.cells++[.v (.slice none 0 0), .mp 1]) (by simp) (by simp) (by simp)).trans (sub_same (by simp[lensA]))
  rintro k k1;simp only[zP,Nat.reduceEqDiff,reduceIte];refine aS fun K hK=>?_;simp -dsimp;apply hK;clear hK K;refine awp_seq_k fun K3 hK3=>?_;refine awp_cond rfl (fun hc1=>?_) (fun hc1=>?_)
  ·skip
   try simp at hc1
   have g0:=p.rail_get (i:=(k:Int)) (by omega) (by omega);simp only[Int.toNat_natCast]at g0;have ro:=rail_ok h (r:=(k:Int)) (by omega) (by omega);have hl:=ro.len;have hs30:=ro.s;have wk:=zW k (by omega);have f1:Fits (k+1) 9:=fits_of (by omega) (by omega);have hll:=lensA_len p k;have htk:(lensA p k).take k=lensA p k:=List.take_of_length_le (by omega);refine awp_skip ?_;simp only[zT,reduceIte,Nat.reduceEqDiff];refine hK3 _ _ ?_;refine awp_prune [1,4,22,23,24] ?_;simp only[zP,Nat.reduceEqDiff,reduceIte];refine awp_seq_k fun K4 hK4=>?_;refine awp_block ?_;refine aS fun K hK=>?_;simp -dsimp [g0];apply hK;clear hK K;refine aS fun K hK=>?_;simp -dsimp;refine callK_intro _ (c_rline p k ro) (by simp) ?_;simp -dsimp;apply hK;clear hK K;refine aS fun K hK=>?_;simp -dsimp;apply hK;clear hK K;refine awp_seq_k fun K5 hK5=>?_;refine aS fun K hK=>?_;simp -dsimp;apply hK;clear hK K;refine awp_block ?_;refine awp_prune [1,4,7,8,9,22,23,24] ?_;simp only[zP,Nat.reduceEqDiff,reduceIte];refine awp_loop_l [1,4,7,22,23,24] (α:=Nat) (fun i=>[(8,I (sumTo (p.line k) (i-1))),(9,I i)]) (fun _=>[some (.els 2 [p.cells]),some (.map true [.i .i64, .b] []),some (.els 4 [p.cells++[.row 3 0 (lensA p k).length, .mp 1]]),some (.els 1 (lensA p k))]) (fun i=>1≤i∧i≤(p.line k).length) (fun i=>(p.line k).length-i) 1 ?_ ?_ ?_
   ·omega
   ·exact sub_rb [some 0,some 1,some 2,some 3] rfl (by simp[sumTo]) (by simp[lensA_ren])
   rintro i ⟨j1,j2⟩;simp only[zP,Nat.reduceEqDiff,reduceIte];refine awp_seq_k fun K6 hK6=>?_;refine aS fun K hK=>?_;simp -dsimp;apply hK;clear hK K;refine awp_cond rfl (fun hc2=>?_) (fun hc2=>?_)
   ·skip
    try simp at hc2
    have wi:IntKind.i64.wrap ((i:Int)-1)=((i-1:Nat):Int):=by rw[wrap_in (by omega) (by omega)];omega
    have wj:=zW i (by omega);have g1:=nth_get (l:=p.line k) (k:=i-1) (by omega);have g2:=nth_get (l:=p.line k) (k:=i) (by omega);have q1:=sumTo_bd ro (i-1) (by omega);have q2:=far_bd (ro.spot (i-1) (by omega)) (ro.spot i (by omega));have wa:IntKind.i64.wrap (sumTo (p.line k) (i-1)+far (nth (p.line k) (i-1)) (nth (p.line k) i))=sumTo (p.line k) (i-1)+far (nth (p.line k) (i-1)) (nth (p.line k) i):=wrap_in (by omega) (by omega);refine awp_skip ?_;simp only[zT,reduceIte,Nat.reduceEqDiff];refine hK6 _ _ ?_;refine awp_prune [1,4,7,8,9,22,23,24] ?_;simp only[zP,Nat.reduceEqDiff,reduceIte];refine awp_seq_k fun K7 hK7=>?_;refine awp_block ?_;refine awp_draw mixed rfl fun K hK=>?_;simp -dsimp [wi,g1,g2,wa];refine callK_intro _ (c_span (nth (p.line k) (i-1)) (nth (p.line k) i) (ro.spot _ (by omega)) (ro.spot _ (by omega))) (by simp) ?_;simp -dsimp [wi,g1,g2,wa];refine hK _ _ _ (by decide+kernel) ?_;clear hK K;simp only[zT,reduceIte,Nat.reduceEqDiff];refine hK7 _ _ ?_;refine awp_prune [1,4,7,8,9,22,23,24] ?_;simp only[zP,Nat.reduceEqDiff,reduceIte];refine aR fun K hK=>?_;simp -dsimp [wj];apply hK;clear hK K;simp only[zT,reduceIte,Nat.reduceEqDiff];obtain⟨j,rfl⟩:∃j,i=j+1:=⟨i-1,by omega⟩;exact⟨j+2,⟨by omega,by omega⟩,by omega,sub_same (by simp[sumTo,segLen]<;>omega)⟩
   ·skip
    try simp at hc2
    have hlen:sumTo (p.line k) (i-1)=p.len k:=by unfold Plan.len;congr 1;omega
    refine awp_exit ?_;simp only[zT,reduceIte,Nat.reduceEqDiff];refine hK5 _ _ ?_;refine awp_prune [1,4,8,22,23,24] ?_;simp only[zP,Nat.reduceEqDiff,reduceIte];refine aR fun K hK=>?_;simp -dsimp [hlen,hll,f1];apply hK;clear hK K;simp only[zT,reduceIte,Nat.reduceEqDiff];refine hK4 _ _ ?_;refine awp_prune [1,4,22,23,24] ?_;simp only[zP,Nat.reduceEqDiff,reduceIte];refine aR fun K hK=>?_;simp -dsimp [wk];apply hK;clear hK K;simp only[zT,reduceIte,Nat.reduceEqDiff];exact⟨k+1,by omega,by omega,sub_rb [some 0,some 1,some 2,some 4] rfl (by simp) (by simp[lensA_succ,lensA_ren,hll,htk])⟩
  ·skip
   try simp at hc1
   have hk:k=p.Rails.length:=by omega
   subst hk;refine awp_exit ?_;simp only[zT,reduceIte,Nat.reduceEqDiff];refine hK2 _ _ ?_;refine awp_prune [1,4] ?_;simp only[zP,Nat.reduceEqDiff,reduceIte];refine awp_seq_k fun K8 hK8=>?_;refine aS fun K hK=>?_;simp -dsimp;apply hK;clear hK K;refine awp_block ?_;refine awp_prune [4,61,62,63] ?_;simp only[zP,Nat.reduceEqDiff,reduceIte];refine awp_loop_l [4,61,62] (α:=Nat) (fun i=>[(63,I i)]) (fun i=>[some (.els 2 [p.cells]),some (.map true [.i .i64, .b] (placesK p i)),some (.els 4 [p.cells++[.row 3 0 (lensA p p.Rails.length).length, .mp 1]]),some (.els 1 (lensA p p.Rails.length))]) (fun i=>i≤p.Nodes.length) (fun i=>p.Nodes.length-i) 0 ?_ ?_ ?_
   ·simp
   ·exact sub_same (by simp)
   rintro i i1;simp only[zP,Nat.reduceEqDiff,reduceIte];refine aS fun K hK=>?_;simp -dsimp;apply hK;clear hK K;refine awp_seq_k fun K9 hK9=>?_;refine awp_cond rfl (fun hc3=>?_) (fun hc3=>?_)
   ·skip
    try simp at hc3
    have n0:=p.node_get (i:=(i:Int)) (by omega) (by omega);simp only[Int.toNat_natCast]at n0;have wi:=zW i (by omega);have hle:=nodeB_len (node_ends hA (i:=(i:Int)) (by omega) (by omega));refine awp_skip ?_;simp only[zT,reduceIte,Nat.reduceEqDiff];refine hK9 _ _ ?_;refine awp_prune [4,61,62,63] ?_;simp only[zP,Nat.reduceEqDiff,reduceIte];refine awp_seq_k fun K10 hK10=>?_;refine awp_block ?_;refine aS fun K hK=>?_;simp -dsimp [n0];apply hK;clear hK K;refine aS fun K hK=>?_;simp -dsimp;apply hK;clear hK K;refine awp_block ?_;refine awp_prune [4,61,62,63,68,69,70] ?_;simp only[zP,Nat.reduceEqDiff,reduceIte];refine awp_loop_l [4,61,62,63,68,69] (α:=Nat) (fun j=>[(70,I j)]) (fun j=>[some (.els 2 [p.cells]),some (.map true [.i .i64, .b] (putE (placesK p i) (p.node i).Ends j)),some (.els 4 [p.cells++[.row 3 0 (lensA p p.Rails.length).length, .mp 1]]),some (.els 1 (lensA p p.Rails.length))]) (fun j=>j≤(p.node i).Ends.length) (fun j=>(p.node i).Ends.length-j) 0 ?_ ?_ ?_
    ·simp
    ·exact sub_rb [some 0,some 1,some 2,some 3] rfl (by simp) (by simp[putE,lensA_ren])
    rintro j j1;simp only[zP,Nat.reduceEqDiff,reduceIte];refine aS fun K hK=>?_;simp -dsimp;apply hK;clear hK K;refine awp_seq_k fun K11 hK11=>?_;refine awp_cond rfl (fun hc4=>?_) (fun hc4=>?_)
    ·skip
     try simp at hc4
     obtain⟨e,he⟩:∃e,(p.node i).Ends[j]?=some e:=⟨_,List.getElem?_eq_getElem hc4⟩;have wj:=zW j (by omega);refine awp_skip ?_;simp only[zT,reduceIte,Nat.reduceEqDiff];refine hK11 _ _ ?_;refine awp_prune [4,61,62,63,68,69,70] ?_;simp only[zP,Nat.reduceEqDiff,reduceIte];refine awp_seq_k fun K12 hK12=>?_;refine awp_block ?_;refine aS fun K hK=>?_;simp -dsimp [he];apply hK;clear hK K;refine awp_draw mixed rfl fun K hK=>?_;simp -dsimp;refine hK _ _ _ (by decide+kernel) ?_;clear hK K;simp only[zT,reduceIte,Nat.reduceEqDiff];refine hK12 _ _ ?_;refine awp_prune [4,61,62,63,68,69,70] ?_;simp only[zP,Nat.reduceEqDiff,reduceIte];refine aR fun K hK=>?_;simp -dsimp [wj];apply hK;clear hK K;simp only[zT,reduceIte,Nat.reduceEqDiff];exact⟨j+1,by omega,by omega,sub_rb [some 0,some 1,some 2,some 3] rfl (by simp) (by simp[putE,he,keyOf,lensA_ren])⟩
    ·skip
     try simp at hc4
     have hj:j=(p.node i).Ends.length:=by omega
     subst hj;refine awp_exit ?_;simp only[zT,reduceIte,Nat.reduceEqDiff];refine hK10 _ _ ?_;refine awp_prune [4,61,62,63] ?_;simp only[zP,Nat.reduceEqDiff,reduceIte];refine aR fun K hK=>?_;simp -dsimp [wi];apply hK;clear hK K;simp only[zT,reduceIte,Nat.reduceEqDiff];exact⟨i+1,by omega,by omega,sub_same (by simp[placesK])⟩
   ·skip
    try simp at hc3
    have hi:i=p.Nodes.length:=by omega
    subst hi;refine awp_exit ?_;simp only[zT,reduceIte,Nat.reduceEqDiff];refine hK8 _ _ ?_;refine awp_prune [4] ?_;simp only[zP,Nat.reduceEqDiff,reduceIte];refine aS fun K hK=>?_;simp -dsimp;apply hK;clear hK K;exact awp_ret (by simp[net,lensA_frz])
theorem c_nhas (p:Plan) (r:Int) (b:Bool) (h:validB p=true):PureCall Tryz.prog 40 [.iptr (net p), .agg [I r,Bo b]] (Bo (inr r 0 (p.Rails.length-1))):=by
 obtain⟨hN,hR,_⟩:=valid_parts h;have w:IntKind.i64.wrap ((p.Rails.length:Int)-1)=(p.Rails.length:Int)-1:=wrap_in (by omega) (by omega);unfold net;refine PureCall.of_body Tryz.func40 rfl (by decide) (by simp[Tryz.ntmps40]) ?_;simp only[Tryz.ntmps40,Tryz.results40];refine aS fun K hK=>?_;simp -dsimp;apply hK;clear hK K;refine awp_sd mixed rfl fun K hK=>?_;simp -dsimp [w];refine callK_intro _ (c_within _ _ _) (by simp) ?_;simp -dsimp [w];refine hK _ _ _ (by decide+kernel) ?_;clear hK K;exact awp_ret (by simp)
theorem c_tLength (p:Plan) (r:Int) (h:validB p=true) (h0:0≤r) (h1:r<p.Rails.length):PureCall Tryz.prog 32 [p.av,I r] (.tup [I (p.len r),I 0]):=by
 have hin:inr r 0 (p.Rails.length-1)=true:=inr_iff.2 (by omega);have hg:(lensA p p.Rails.length)[r.toNat]?=some [I (p.len r)]:=by rw[lensA_get (by omega)];rw[show((r.toNat:Nat):Int)=r by omega]
 refine PureCall.of_body Tryz.func32 rfl (by decide) (by simp[Tryz.ntmps32]) ?_;simp only[Tryz.ntmps32,Tryz.results32];refine aS fun K hK=>?_;simp -dsimp;apply hK;clear hK K;refine aS fun K hK=>?_;simp -dsimp;refine callK_intro _ (c_open_t p h) (by simp) ?_;simp -dsimp;apply hK;clear hK K;refine awp_seq_k fun K1 hK1=>?_;refine aS fun K hK=>?_;simp -dsimp;refine callK_may _ (fun hm=>c_nhas p r false h) (by simp) ?_;simp -dsimp;apply hK;clear hK K;refine awp_cond rfl (fun hc0=>?_) (fun hc0=>?_)
 ·simp[hin]at hc0
 ·refine awp_skip ?_;simp only[zT,reduceIte,Nat.reduceEqDiff];refine hK1 _ _ ?_;refine awp_prune [1,6] ?_;simp only[zP,Nat.reduceEqDiff,reduceIte];refine aS fun K hK=>?_;simp -dsimp [net,hg,h0];apply hK;clear hK K;exact awp_ret (by simp)
end Go.Tram
end
section
namespace Go.Tram
open Go.AM Go.Proofs
abbrev U (n:Int):AV:= .v (.int .u64 n)
theorem u64_in {n:Int} (h0:0≤n) (h1:n<18446744073709551616):IntKind.u64.wrap n=n:=by rw[IntKind.wrap_u64];omega
end Go.Tram
end
section
namespace Go.Tram
open Go.AM Go.Proofs
attribute [-simp] minI maxI
def orI:List Int→Int
 |[]=>0
 |x::r=>if x≠0 then x else orI r
theorem orI_hit:∀{l:List Int} {k:Nat} {x:Int},l[k]?=some x→x≠0→(l.take k).all (· ==0)=true→orI l=x
 |[],k,x,h,_,_=>by simp at h
 |y::l,0,x,h,hx,_=>by simp at h;subst h;simp[orI,hx]
 |y::l,k+1,x,h,hx,ha=>by
  simp at h ha;unfold orI;rw[if_neg (by simp[ha.1])];exact orI_hit h hx (by simpa using ha.2)
theorem orI_none:∀{l:List Int},l.all (· ==0)=true→orI l=0
 |[],_=>rfl
 |y::l,ha=>by
  simp at ha;unfold orI;rw[if_neg (by simp[ha.1])];exact orI_none (by simpa using ha.2)
theorem c_Or (l:List Int) (hn:l.length≤1000):PureCall Tryz.prog 254 [.full 1 (l.map fun x=>[I x])] (I (orI l)):=by
 refine PureCall.of_body Tryz.func254 rfl (by decide) (by simp[Tryz.ntmps254]) ?_;simp only[Tryz.ntmps254,Tryz.results254];refine aS fun K hK=>?_;simp -dsimp;apply hK;clear hK K;refine aS fun K hK=>?_;simp -dsimp;apply hK;clear hK K;refine awp_seq_k fun K1 hK1=>?_;refine aS fun K hK=>?_;simp -dsimp;apply hK;clear hK K;refine awp_block ?_;refine awp_prune [3,6,7,8] ?_;simp only[zP,Nat.reduceEqDiff,reduceIte];refine awp_loop_l [3,6,7] (α:=Nat) (fun k=>[(8,I k)]) (fun _=>[]) (fun k=>k≤l.length∧(l.take k).all (· ==0)=true) (fun k=>l.length-k) 0 ?_ ?_ ?_
 ·simp
 ·exact sub_same (by simp)
 rintro k ⟨k1,k2⟩;simp only[zP,Nat.reduceEqDiff,reduceIte];refine aS fun K hK=>?_;simp -dsimp;apply hK;clear hK K;refine awp_seq_k fun K2 hK2=>?_;refine awp_cond rfl (fun hc0=>?_) (fun hc0=>?_)
 ·skip
  try simp at hc0
  obtain⟨x,hx⟩:∃x,l[k]?=some x:=⟨_,List.getElem?_eq_getElem hc0⟩;have wk:=zW k (by omega);refine awp_skip ?_;simp only[zT,reduceIte,Nat.reduceEqDiff];refine hK2 _ _ ?_;refine awp_prune [3,6,7,8] ?_;simp only[zP,Nat.reduceEqDiff,reduceIte];refine awp_seq_k fun K3 hK3=>?_;refine awp_block ?_;refine aS fun K hK=>?_;simp -dsimp [hx];apply hK;clear hK K;refine aS fun K hK=>?_;simp -dsimp;apply hK;clear hK K;refine awp_cond rfl (fun hc1=>?_) (fun hc1=>?_)
  ·skip
   try simp at hc1
   have ho:=orI_hit hx hc1 k2;refine aS fun K hK=>?_;simp -dsimp;apply hK;clear hK K;exact awp_ret (by simp[ho])
  ·skip
   try simp at hc1
   refine awp_skip ?_;simp only[zT,reduceIte,Nat.reduceEqDiff];refine hK3 _ _ ?_;refine awp_prune [3,6,7,8] ?_;simp only[zP,Nat.reduceEqDiff,reduceIte];refine aR fun K hK=>?_;simp -dsimp [wk];apply hK;clear hK K;simp only[zT,reduceIte,Nat.reduceEqDiff];exact⟨k+1,⟨by omega,by rw[take_all' hx,k2];simp[hc1]⟩,by omega,sub_same (by simp)⟩
 ·skip
  try simp at hc0
  have ho:=orI_none (all_of_take (by omega) k2);refine awp_exit ?_;simp only[zT,reduceIte,Nat.reduceEqDiff];refine hK1 _ _ ?_;refine awp_prune [3] ?_;simp only[zP,Nat.reduceEqDiff,reduceIte];refine aS fun K hK=>?_;simp -dsimp;apply hK;clear hK K;exact awp_ret (by simp[ho])
theorem und_u64:(Tryz.prog).underlying 304=some (.int .u64):=by kernel_rfl
@[simp] def segC (a b:Spot):List AV:=[I a.X,I a.Y,I b.X,I b.Y]
abbrev seg (a b:Spot):AV:= .agg (segC a b)
end Go.Tram
end
section
namespace Go.Tram
open Go.AM Go.Proofs
def flatC:AV→Bool
 | .v _=>true
 | .lst _ _=>true
 | .full _ _=>true
 | .iptr _=>true
 |_=>false
theorem flatC_ren {x:AV} (h:flatC x=true) (g:List (Option Nat)) (n:Nat):renAV g n x=x:=by cases x<;>first|(cases n<;>rfl)|cases h
theorem flatC_renF {x:AV} (h:flatC x=true) (H:Nat→Option ARow) (g:List (Option Nat)) (n:Nat):renF H g n x=x:=by cases x<;>first|(cases n<;>rfl)|cases h
theorem flatC_frzP {x:AV} (h:flatC x=true) (H:Hp) (n:Nat):frzP H n x=x:=by cases x<;>first|(cases n<;>rfl)|cases h
theorem map_flatC {f:AV→AV} (hf:∀x,flatC x=true→f x=x) {es:List (List AV)} (h:es.all (fun e=>e.all flatC)=true):es.map (fun e=>e.map f)=es:=by
 have:es.map (fun e=>e.map f)=es.map id:=by
  refine List.map_congr_left fun e he=>?_;have he':=List.all_eq_true.1 h e he;have:e.map f=e.map id:=List.map_congr_left fun x hx=>hf x (List.all_eq_true.1 he' x hx);simpa using this
 simpa using this
end Go.Tram
end
section
namespace Go.Tram
open Go.AM Go.Proofs
structure Plan.Fit (p:Plan):Prop where
 n:p.Nodes.length≤9223372036854775807
 r:p.Rails.length≤9223372036854775807
def exPlan:Plan:=
 {Nodes:=[⟨⟨0,0⟩,1,[⟨0,false⟩],0⟩,⟨⟨1000,0⟩,4,[⟨0,true⟩,⟨1,false⟩,⟨2,false⟩],0⟩,⟨⟨2000,0⟩,1,[⟨1,true⟩],0⟩,⟨⟨2000,500⟩,1,[⟨2,true⟩],0⟩]
  Rails:=[⟨0,1,[],8000,0⟩,⟨1,2,[],8000,0⟩,⟨1,3,[⟨1600,0⟩],8000,0⟩]}
def exLit:AV:= .agg [.full 5 [[I 0,I 0,I 1, .full 2 [[I 0,Bo false]],I 0],[I 1000,I 0,I 4, .full 2 [[I 0,Bo true],[I 1,Bo false],[I 2,Bo false]],I 0],[I 2000,I 0,I 1, .full 2 [[I 1,Bo true]],I 0],[I 2000,I 500,I 1, .full 2 [[I 2,Bo true]],I 0]],
 .full 5 [[I 0,I 1, .v (.slice none 0 0),I 8000,I 0],[I 1,I 2, .v (.slice none 0 0),I 8000,I 0],[I 1,I 3, .full 2 [[I 1600,I 0]],I 8000,I 0]]]
theorem ex_len (a b:Spot) (k:Int) (hk:IsSq (sqd a b) k):far a b=k:=isq_of hk
theorem ex00:segLen (exPlan.line 0) 0=1000:=by unfold segLen;exact ex_len _ _ 1000 (by unfold IsSq;decide+kernel)
theorem ex10:segLen (exPlan.line 1) 0=1000:=by unfold segLen;exact ex_len _ _ 1000 (by unfold IsSq;decide+kernel)
theorem ex20:segLen (exPlan.line 2) 0=600:=by unfold segLen;exact ex_len _ _ 600 (by unfold IsSq;decide+kernel)
theorem ex21:segLen (exPlan.line 2) 1=640:=by unfold segLen;exact ex_len _ _ 640 (by unfold IsSq;decide+kernel)
theorem ex_r0:railB exPlan (exPlan.rail 0)=true:=by
 have h1:railA exPlan (exPlan.rail 0)=true:=by decide+kernel
 have h2:(exPlan.rail 0).Shape=[]:=by decide+kernel
 have e:lineOf exPlan (exPlan.rail 0)=exPlan.line 0:=rfl;simp[railB,h1,h2,e,List.range_succ,segB,ex00,inr]
theorem ex_r1:railB exPlan (exPlan.rail 1)=true:=by
 have h1:railA exPlan (exPlan.rail 1)=true:=by decide+kernel
 have h2:(exPlan.rail 1).Shape=[]:=by decide+kernel
 have e:lineOf exPlan (exPlan.rail 1)=exPlan.line 1:=rfl;simp[railB,h1,h2,e,List.range_succ,segB,ex10,inr]
theorem ex_r2:railB exPlan (exPlan.rail 2)=true:=by
 have h1:railA exPlan (exPlan.rail 2)=true:=by decide+kernel
 have h2:(exPlan.rail 2).Shape=[⟨1600,0⟩]:=by decide+kernel
 have h3:spotB ⟨1600,0⟩=true:=by decide+kernel
 have e:lineOf exPlan (exPlan.rail 2)=exPlan.line 2:=rfl;simp[railB,h1,h2,h3,e,List.range_succ,segB,ex20,ex21,inr]
theorem ex_valid:validB exPlan=true:=by
 have h1:exPlan.Nodes.all nodeB=true:=by decide+kernel
 have h2:validE exPlan=true:=by decide+kernel
 have e:exPlan.Rails=[exPlan.rail 0,exPlan.rail 1,exPlan.rail 2]:=by unfold Plan.rail;rfl
 have h3:exPlan.Rails.all (railB exPlan)=true:=by rw[e];simp[ex_r0,ex_r1,ex_r2]
 have h4:inr (exPlan.Nodes.length) 1 300=true:=by decide+kernel
 have h5:inr (exPlan.Rails.length) 1 400=true:=by decide+kernel
 simp[validB,validA,h1,h2,h3,h4,h5]
theorem ex_len0:exPlan.len 0=1000:=by
 unfold Plan.len;have h2:(exPlan.rail 0).Shape=[]:=by decide+kernel
 simp[h2,sumTo,ex00]
theorem ex_len2:exPlan.len 2=1240:=by
 unfold Plan.len;have h2:(exPlan.rail 2).Shape=[⟨1600,0⟩]:=by decide+kernel
 simp[h2,sumTo,ex20,ex21]
end Go.Tram
end
section
namespace Go.Tram
open Go.AM Go.Proofs
def RC (w:World) (avs:List AV) (cs:List Value):Prop:=avs.length=cs.length∧∀(i:Nat) c x,avs[i]?=some c→cs[i]?=some x→RepP w (fun _=>False) c x∧isCell x=true
theorem RC.one {w:World} {a:AV} {x:Value} (h:RepP w (fun _=>False) a x) (hc:isCell x=true):RC w [a] [x]:=by
 refine⟨rfl,fun i c y h1 h2=>?_⟩
 cases i with
 |zero=>simp at h1 h2;subst h1 h2;exact⟨h,hc⟩
 |succ i=>simp at h1
theorem RC.app {w:World} {a b:List AV} {x y:List Value} (h:RC w a x) (k:RC w b y):RC w (a++b) (x++y):=by
 refine⟨by simp[h.1,k.1],fun i c u h1 h2=>?_⟩
 by_cases hi:i<a.length
 ·rw[List.getElem?_append_left hi]at h1;rw[List.getElem?_append_left (by rw[←h.1];exact hi)]at h2;exact h.2 i c u h1 h2
 ·rw[List.getElem?_append_right (by omega)]at h1;rw[List.getElem?_append_right (by rw[←h.1];omega),←h.1]at h2;exact k.2 _ c u h1 h2
def layB:List (Nat×Nat×TypeId)→Nat→Nat→Bool
 |[],o,n=>o==n
 |(off,sz,_)::r,o,n=>off==o&&layB r (o+sz) n
theorem layB_le:∀(fs:List (Nat×Nat×TypeId)) (o n:Nat),layB fs o n=true→o≤n
 |[],o,n,h=>by simp[layB]at h;omega
 |(off,sz,t)::r,o,n,h=>by
  simp only[layB,Bool.and_eq_true]at h;have:=layB_le r _ _ h.2;omega
theorem layB_off:∀(fs:List (Nat×Nat×TypeId)) (o n:Nat),layB fs o n=true→∀f∈fs,o≤f.1
 |[],o,n,h,f,hf=>by cases hf
 |(off,sz,t)::r,o,n,h,f,hf=>by
  simp only[layB,Bool.and_eq_true,beq_iff_eq]at h
  rcases List.mem_cons.1 hf with rfl|hf
  ·simp only[];omega
  ·have:=layB_off r _ _ h.2 f hf;omega
theorem assemble {w:World} {Q:(Nat×Nat×TypeId)→List AV→Prop}:∀(fs:List (Nat×Nat×TypeId)) (o N:Nat) (cs:List Value),layB fs o N=true→cs.length=N→
  (∀f∈fs,∃a,RC w a ((cs.drop f.1).take f.2.1)∧Q f a)→∃avs,RC w avs (cs.drop o)∧∀f∈fs,Q f ((avs.drop (f.1-o)).take f.2.1)
 |[],o,N,cs,h,hl,_=>by
  simp only[layB,beq_iff_eq]at h;refine⟨[],⟨by simp;omega,fun i c x h1=>by simp at h1⟩,fun f hf=>by cases hf⟩
 |(off,sz,t)::r,o,N,cs,h,hl,hq=>by
  simp only[layB,Bool.and_eq_true,beq_iff_eq]at h;obtain⟨rfl,h2⟩:=h;have hle:=layB_le r _ _ h2;obtain⟨a,ha,hqa⟩:=hq _ (List.mem_cons_self ..);obtain⟨b,hb,hqb⟩:=assemble r (off+sz) N cs h2 hl (fun f hf=>hq f (List.mem_cons_of_mem _ hf));have hal:a.length=sz:=by rw[ha.1];simp;omega
  have hsplit:cs.drop off=(cs.drop off).take sz++cs.drop (off+sz):=by rw[←List.drop_drop,List.take_append_drop]
  refine⟨a++b,by rw[hsplit];exact ha.app hb,fun f hf=>?_⟩
  rcases List.mem_cons.1 hf with rfl|hf
  ·simp only[Nat.sub_self,List.drop_zero];rw[List.take_append_of_le_length (by omega),List.take_of_length_le (by omega)];exact hqa
  ·have ho:=layB_off r _ _ h2 f hf;have:=hqb f hf;rw[List.drop_append,List.drop_eq_nil_of_le (by omega),List.nil_append,hal,show f.1-off-sz=f.1-(off+sz)by omega];exact this
section
variable {P:Program}
def goodB (P:Program):Nat→TypeId→Bool
 |0,_=>false
 | n+1,t=>match ktOf P t with
  |some _=>true
  |none=>match tdOf P t with
   | .slice e=>decide ((tdOf P e).size≠0)&&goodB P n e
   | .agg z fs=>layB fs 0 z.length&&fs.all fun f=>goodB P n f.2.2
   |_=>false
def Shaped (P:Program):Nat→TypeId→List AV→Prop
 |0,_,_=>False
 | n+1,t,avs=>match ktOf P t with
  |some (.i k)=>∃m,avs=[.v (.int k m)]∧(Lit.int k m).wf=true
  |some .b=>∃b,avs=[.v (.bool b)]
  |none=>match tdOf P t with
   | .slice e=>∃els,avs=[.lst (tdOf P e).size els]∧els.length≤maxLen∧∀el∈els,Shaped P n e el
   | .agg z fs=>avs.length=z.length∧∀f∈fs,Shaped P n f.2.2 ((avs.drop f.1).take f.2.1)
   |_=>False
theorem cellsOf_td (w:World) {e:TypeId} (h:tdOf P e≠ .bad):P.cellsOf e=(tdOf P e).size:=by
 obtain⟨i,h1,h2,_⟩:=td_size (P:=P) (w:=w) h;simp[Program.cellsOf,h1,h2]
theorem elems_of {w:World} {R:List AV→List Value→Prop} {g:Nat→Option (List Value)}:∀n,(∀i,i<n→∃cs,g i=some cs∧∃a,R a cs)→
  ∃(els:List (List AV)) (css:List (List Value)),els.length=n∧css.length=n∧∀(i:Nat) a cs,els[i]?=some a→css[i]?=some cs→g i=some cs∧R a cs
 |0,_=>⟨[],[],rfl,rfl,fun i a cs h=>by simp at h⟩
 | n+1,h=>by
  obtain⟨els,css,h1,h2,h3⟩:=elems_of (w:=w) (R:=R) (g:=g) n (fun i hi=>h i (by omega));obtain⟨cs,hg,a,ha⟩:=h n (by omega);refine⟨els++[a],css++[cs],by simp[h1],by simp[h2],fun i b ds k1 k2=>?_⟩
  by_cases hi:i<n
  ·rw[List.getElem?_append_left (by omega)]at k1 k2;exact h3 i b ds k1 k2
  ·have hn:i=n:=by
    have:=(List.getElem?_eq_some_iff.1 k1).1;simp[h1]at this;omega
   subst hn;rw[List.getElem?_append_right (by omega)]at k1 k2;simp[h1,h2]at k1 k2;subst k1 k2;exact⟨hg,ha⟩
theorem trod_rc {H:Type} {enc:TypeId×Value→H} {w:World} {spare:Nat→Bool} {held:Bool}:∀(n:Nat) (fuel:Nat) (t:TypeId) (cs:List Value) (x:DataW H×List MemPlace),goodB P n t=true→
  DataW.trod enc P w 0 spare held fuel t cs=some x→∃avs,RC w avs cs∧Shaped P n t avs:=by
 intro n
 induction n with
 |zero=>intro fuel t cs x h;simp[goodB]at h
 | succ n ih=>
  intro fuel t cs x hg h;unfold goodB at hg;unfold Shaped
  cases hk:ktOf P t with
  | some kt=>
   have hu:=(ktOf_cell hk).2.2.2
   cases kt with
   |i k=>
    obtain⟨m,rfl,rfl,hw⟩:=DataW.trod_int hu h;exact⟨[.v (.int k m)],RC.one (.v _) rfl,m,rfl,hw⟩
   |b=>
    obtain⟨b,rfl,rfl⟩:=DataW.trod_bool hu h;exact⟨[.v (.bool b)],RC.one (.v _) rfl,b,rfl⟩
  | none=>
   rw[hk]at hg;simp only at hg ⊢
   cases ht:tdOf P t with
   |cell z=>rw[ht]at hg;simp at hg
   |arr z m e=>rw[ht]at hg;simp at hg
   |bad=>rw[ht]at hg;simp at hg
   | slice e=>
    rw[ht]at hg;simp only[Bool.and_eq_true,decide_eq_true_eq]at hg ⊢;obtain⟨hsz,hge⟩:=hg;have hne:tdOf P e≠ .bad:=by intro hb;rw[hb]at hsz;exact hsz rfl
    have hc:=cellsOf_td w hne;obtain⟨info,h1,h2,_⟩:=tdOf_slice ht
    rcases DataW.trod_slice h2 h with⟨rfl,rfl⟩|⟨a,len,cap,elems,rest,n',rfl,rfl,rfl,hb,hl,hcap,hel,hall,_⟩
    ·exact⟨[.lst (tdOf P e).size []],RC.one (.lstNil _ _ _) rfl,[],rfl,by simp,by simp⟩
    ·rw [hc]at hall;obtain⟨els,css,e1,e2,e3⟩:=elems_of (w:=w) (R:=fun a cs=>RC w a cs∧Shaped P n e a) (g:=fun i=>w.cells? 0 (a.add (i*(tdOf P e).size)) (tdOf P e).size) len (fun i hi=>by
      have h3:=hall i hi;obtain⟨y,hy⟩:∃y,elems[i]?=some y:=⟨_,List.getElem?_eq_getElem (by omega)⟩;rw[hy,Option.bind_eq_some_iff]at h3;obtain⟨cs,q1,q2⟩:=h3;obtain⟨av,r1,r2⟩:=ih _ _ _ _ hge q2;exact⟨cs,q1,av,r1,r2⟩)
     refine⟨[.lst (tdOf P e).size els],?_,els,rfl,by omega,?_⟩
     ·refine RC.one ?_ rfl
      by_cases hlen:len=0
      ·have:els=[]:=List.eq_nil_of_length_eq_zero (by omega);subst this;subst hlen;exact .lstNil _ _ _
      ·have hcell:∀(i j:Nat) cs,css[i]?=some cs→j<(tdOf P e).size→w.cell? ((a.add (i*(tdOf P e).size)).add j)=cs[j]?∧cs.length=(tdOf P e).size:=by
        intro i j cs hi hj;have hil:=(List.getElem?_eq_some_iff.1 hi).1;obtain⟨av,hav⟩:∃av,els[i]?=some av:=⟨_,List.getElem?_eq_getElem (by omega)⟩;have:=World.cells?_some (e3 i av cs hav hi).1;exact⟨this.2.2 j hj,this.2.1⟩
       have hspot:a.spot=none:=by
        obtain⟨cs,hcs⟩:∃cs,css[0]?=some cs:=⟨_,List.getElem?_eq_getElem (by omega)⟩;obtain⟨k1,k2⟩:=hcell 0 0 cs hcs (by omega);rw[List.getElem?_eq_getElem (by omega)]at k1;have ha:(a.add (0*(tdOf P e).size)).add 0=a:=by simp[Addr.add]
        rw[ha]at k1;exact World.cell?_spot k1
       obtain⟨b,off,sp⟩:=a;simp only at hspot;subst hspot;have hcl:∀c∈css,c.length=(tdOf P e).size:=by
        intro c hc';obtain⟨i,hi⟩:=List.getElem?_of_mem hc';exact(hcell i 0 c hi (by omega)).2
       have hell:∀c∈els,c.length=(tdOf P e).size:=by
        intro c hc';obtain⟨i,hi⟩:=List.getElem?_of_mem hc';have hil:=(List.getElem?_eq_some_iff.1 hi).1;obtain⟨cs,hcs⟩:∃cs,css[i]?=some cs:=⟨_,List.getElem?_eq_getElem (by omega)⟩;rw[(e3 i c cs hi hcs).2.1.1];exact hcl cs (List.mem_of_getElem? hcs)
       have key:∀(i:Nat) (x:Value),css.flatten[i]?=some x→∃q j cs,i=q*(tdOf P e).size+j∧j<(tdOf P e).size∧css[q]?=some cs∧cs[j]?=some x:=by
        intro i x hx;have hil:=(List.getElem?_eq_some_iff.1 hx).1;rw[length_flatten hcl]at hil;have hq:i/ (tdOf P e).size<css.length:=by rw[Nat.div_lt_iff_lt_mul (by omega)];exact hil
        have hj:=Nat.mod_lt i (show(tdOf P e).size>0 by omega);have hme:i=i/ (tdOf P e).size*(tdOf P e).size+i % (tdOf P e).size:=by rw[Nat.mul_comm];exact(Nat.div_add_mod i _).symm
        obtain⟨cs,hcs⟩:∃cs,css[i/ (tdOf P e).size]?=some cs:=⟨_,List.getElem?_eq_getElem hq⟩;refine⟨_,_,cs,hme,hj,hcs,?_⟩;have:=flatten_get hcl hcs (i % (tdOf P e).size) hj;rw[←hme]at this;rw[←this];exact hx
       have hre:els.length=len:=e1;rw[←hre];have hblk:b<w.heap.size:=by
        obtain⟨cs,hcs⟩:∃cs,css[0]?=some cs:=⟨_,List.getElem?_eq_getElem (by omega)⟩;obtain⟨k1,k2⟩:=hcell 0 0 cs hcs (by omega);rw[List.getElem?_eq_getElem (by omega)]at k1;simp only[Nat.zero_mul,Addr.add_lit,Nat.add_zero]at k1
        rcases Nat.lt_or_ge b w.heap.size with hlt|hge
        ·exact hlt
        ·simp[World.cell?,Array.getElem?_eq_none hge]at k1
       refine RepP.lst _ els b off cap css.flatten (fun h=>h) hblk (by omega) hell (by rw[length_flatten hell,length_flatten hcl,e1,e2]) ?_ ?_
       ·intro i x hx;obtain⟨q,j,cs,rfl,hj,hcs,hxj⟩:=key i x hx;obtain⟨k1,_⟩:=hcell q j cs hcs hj;rw[Addr.add_lit,Addr.add_lit,hxj]at k1;obtain⟨av,hav⟩:∃av,els[q]?=some av:=⟨_,List.getElem?_eq_getElem (by have:=(List.getElem?_eq_some_iff.1 hcs).1;omega)⟩;have hr:=(e3 q av cs hav hcs).2.1;obtain⟨c,hc'⟩:∃c,av[j]?=some c:=⟨_,List.getElem?_eq_getElem (by rw[hr.1];exact(List.getElem?_eq_some_iff.1 hxj).1)⟩;refine⟨?_,(hr.2 j c x hc' hxj).2⟩;rw[←Nat.add_assoc];exact k1
       ·intro i c x hc' hx;obtain⟨q,j,cs,rfl,hj,hcs,hxj⟩:=key i x hx;obtain⟨av,hav⟩:∃av,els[q]?=some av:=⟨_,List.getElem?_eq_getElem (by have:=(List.getElem?_eq_some_iff.1 hcs).1;omega)⟩;rw[flatten_get hell hav j hj]at hc';exact((e3 q av cs hav hcs).2.1.2 j c x hc' hxj).1
     ·intro el hel';obtain⟨i,hi⟩:=List.getElem?_of_mem hel';have hil:=(List.getElem?_eq_some_iff.1 hi).1;obtain⟨cs,hcs⟩:∃cs,css[i]?=some cs:=⟨_,List.getElem?_eq_getElem (by omega)⟩;exact(e3 i el cs hi hcs).2.2
   | agg z fs=>
    rw[ht]at hg;simp only[Bool.and_eq_true]at hg ⊢;obtain⟨hlay,hgf⟩:=hg;obtain⟨info,fa,h1,h2,h3,h4,hfs,_,hall⟩:=tdOf_agg ht;obtain⟨xs,n',rfl,rfl,hl,hxl,hf⟩:=DataW.trod_struct h2 h;have hcl:cs.length=z.length:=by rw[hl];simp[Program.cellsOf,h1,h4]
    obtain⟨avs,hr,hq⟩:=assemble (w:=w) (Q:=fun f a=>Shaped P n f.2.2 a) fs 0 z.length cs hlay hcl (fun f hff=>by
     have hff':=hff;rw[hfs,List.mem_map]at hff';obtain⟨fd,hfd,rfl⟩:=hff';obtain⟨i,hi⟩:=List.getElem?_of_mem hfd;have hia:fa[i]?=some fd:=by simpa using hi
     have htr:=hf i fd hia;have hil:i<xs.length:=by rw[hxl];exact(Array.getElem?_eq_some_iff.1 hia).1
     rw[List.getElem?_eq_getElem hil]at htr;exact ih _ _ _ _ (List.all_eq_true.1 hgf _ hff) htr)
    rw[List.drop_zero]at hr;refine⟨avs,hr,by rw[hr.1,hcl],fun f hff=>?_⟩;have:=hq f hff
    rwa [Nat.sub_zero]at this
end
end Go.Tram
end
section
namespace Go.Tram
open Go.AM Go.Proofs
section
variable {P:Program}
theorem shaped_slice {n:Nat} {t e:TypeId} {avs:List AV} (hk:ktOf P t=none) (ht:tdOf P t= .slice e) (h:Shaped P (n+1) t avs):∃els,avs=[.lst (tdOf P e).size els]∧els.length≤maxLen∧∀el∈els,Shaped P n e el:=by
 simp only[Shaped,hk,ht]at h;exact h
theorem shaped_agg {n:Nat} {t:TypeId} {z:List Value} {fs:List (Nat×Nat×TypeId)} {avs:List AV} (hk:ktOf P t=none) (ht:tdOf P t= .agg z fs) (h:Shaped P (n+1) t avs):avs.length=z.length∧∀f∈fs,Shaped P n f.2.2 ((avs.drop f.1).take f.2.1):=by
 simp only[Shaped,hk,ht]at h;exact h
theorem shaped_int {n:Nat} {t:TypeId} {k:IntKind} {avs:List AV} (hk:ktOf P t=some (.i k)) (h:Shaped P (n+1) t avs):∃m,avs=[.v (.int k m)]∧(Lit.int k m).wf=true:=by
 simp only[Shaped,hk]at h;exact h
theorem shaped_bool {n:Nat} {t:TypeId} {avs:List AV} (hk:ktOf P t=some .b) (h:Shaped P (n+1) t avs):∃b,avs=[.v (.bool b)]:=by
 simp only[Shaped,hk]at h;exact h
end
theorem list_of {α:Type} {c:α→List AV} {R:α→Prop}:∀{els:List (List AV)},(∀el∈els,∃a,el=c a∧R a)→∃l:List α,els=l.map c∧∀a∈l,R a
 |[],_=>⟨[],rfl,by simp⟩
 |e::els,h=>by
  obtain⟨a,rfl,ha⟩:=h e (List.mem_cons_self ..);obtain⟨l,rfl,hl⟩:=list_of (els:=els) (c:=c) (R:=R) (fun el hel=>h el (List.mem_cons_of_mem _ hel));refine⟨a::l,rfl,fun b hb=>?_⟩
  rcases List.mem_cons.1 hb with rfl|hb
  ·exact ha
  ·exact hl b hb
theorem und_bool2:(Tryz.prog).underlying 4=some .bool:=by kernel_rfl
theorem k_int:ktOf Tryz.prog 3=some (.i .i64):=by kernel_rfl
theorem k_kind:ktOf Tryz.prog 154=some (.i .i64):=by kernel_rfl
theorem k_bool:ktOf Tryz.prog 4=some .b:=by kernel_rfl
def I64 (n:Int):Prop:=-9223372036854775808≤n∧n≤9223372036854775807
theorem wf_i64 {m:Int} (h:(Lit.int .i64 m).wf=true):I64 m:=by
 simpa [Lit.wf,IntKind.min,IntKind.max,IntKind.signed,IntKind.bits,I64]using h
theorem sh_int {n:Nat} {avs:List AV} (h:Shaped Tryz.prog (n+1) 3 avs):∃m,avs=[I m]∧I64 m:=by
 obtain⟨m,h1,h2⟩:=shaped_int k_int h;exact⟨m,h1,wf_i64 h2⟩
theorem list2 {α:Type} {l:List α} (h:l.length=2):∃a b,l=[a,b]:=by match l,h with|[a,b],_=>exact⟨a,b,rfl⟩
theorem list5 {α:Type} {l:List α} (h:l.length=5):∃a b c d e,l=[a,b,c,d,e]:=by match l,h with|[a,b,c,d,e],_=>exact⟨a,b,c,d,e,rfl⟩
theorem sh_spot {n:Nat} {avs:List AV} (h:Shaped Tryz.prog (n+2) 153 avs):∃s:Spot,avs=s.cells:=by
 obtain⟨h1,h2⟩:=shaped_agg (by kernel_rfl) td153 h;obtain⟨a,b,rfl⟩:=list2 h1;obtain⟨x,hx,_⟩:=sh_int (h2 (0,1,3) (by simp));obtain⟨y,hy,_⟩:=sh_int (h2 (1,1,3) (by simp));simp at hx hy;subst hx hy;exact⟨⟨x,y⟩,rfl⟩
theorem sh_end {n:Nat} {avs:List AV} (h:Shaped Tryz.prog (n+2) 166 avs):∃s:REnd,avs=s.cells:=by
 obtain⟨h1,h2⟩:=shaped_agg (by kernel_rfl) td166 h;obtain⟨a,b,rfl⟩:=list2 h1;obtain⟨x,hx,_⟩:=sh_int (h2 (0,1,3) (by simp));obtain⟨y,hy⟩:=shaped_bool k_bool (h2 (1,1,4) (by simp));simp at hx hy;subst hx hy;exact⟨⟨x,y⟩,rfl⟩
theorem sh_node {n:Nat} {avs:List AV} (h:Shaped Tryz.prog (n+5) 157 avs):∃s:Node,avs=s.cells:=by
 obtain⟨h1,h2⟩:=shaped_agg (by kernel_rfl) td157 h;obtain⟨a,b,c,d,e,rfl⟩:=list5 h1;obtain⟨s,hs⟩:=sh_spot (h2 (0,2,153) (by simp));obtain⟨k,hk,_⟩:=shaped_int k_kind (h2 (2,1,154) (by simp));obtain⟨els,hl,_,hels⟩:=shaped_slice (by kernel_rfl) td155 (h2 (3,1,155) (by simp));obtain⟨m,hm,_⟩:=sh_int (h2 (4,1,3) (by simp));obtain⟨l,rfl,_⟩:=list_of (c:=REnd.cells) (R:=fun _=>True) (fun el hel=>by obtain⟨s,hs⟩:=sh_end (hels el hel);exact⟨s,hs,trivial⟩);simp at hs hk hl hm;obtain⟨rfl,rfl⟩:=hs;subst hk hl hm;exact⟨⟨s,k,l,m⟩,by simp⟩
theorem sh_rail {n:Nat} {avs:List AV} (h:Shaped Tryz.prog (n+5) 162 avs):∃s:Rail,avs=s.cells:=by
 obtain⟨h1,h2⟩:=shaped_agg (by kernel_rfl) td162 h;obtain⟨a,b,c,d,e,rfl⟩:=list5 h1;obtain⟨x,hx,_⟩:=sh_int (h2 (0,1,3) (by simp));obtain⟨y,hy,_⟩:=sh_int (h2 (1,1,3) (by simp));obtain⟨els,hl,_,hels⟩:=shaped_slice (by kernel_rfl) td160 (h2 (2,1,160) (by simp));obtain⟨u,hu,_⟩:=sh_int (h2 (3,1,3) (by simp));obtain⟨v,hv,_⟩:=sh_int (h2 (4,1,3) (by simp));obtain⟨l,rfl,_⟩:=list_of (c:=Spot.cells) (R:=fun _=>True) (fun el hel=>by obtain⟨s,hs⟩:=sh_spot (hels el hel);exact⟨s,hs,trivial⟩);simp at hx hy hl hu hv;subst hx hy hl hu hv;exact⟨⟨x,y,l,u,v⟩,by simp⟩
theorem sh_plan {n:Nat} {avs:List AV} (h:Shaped Tryz.prog (n+8) 25 avs):∃p:Plan,avs=p.cells∧p.Fit:=by
 obtain⟨h1,h2⟩:=shaped_agg (by kernel_rfl) td25 h;obtain⟨a,b,rfl⟩:=list2 h1;obtain⟨e1,hl1,b1,he1⟩:=shaped_slice (by kernel_rfl) td22 (h2 (0,1,22) (by simp));obtain⟨e2,hl2,b2,he2⟩:=shaped_slice (by kernel_rfl) td23 (h2 (1,1,23) (by simp));obtain⟨l1,rfl,_⟩:=list_of (c:=Node.cells) (R:=fun _=>True) (fun el hel=>by obtain⟨s,hs⟩:=sh_node (he1 el hel);exact⟨s,hs,trivial⟩);obtain⟨l2,rfl,_⟩:=list_of (c:=Rail.cells) (R:=fun _=>True) (fun el hel=>by obtain⟨s,hs⟩:=sh_rail (he2 el hel);exact⟨s,hs,trivial⟩);simp at hl1 hl2;subst hl1 hl2;rw[List.length_map]at b1 b2;have hm:maxLen=9223372036854775807:=by decide
 exact⟨⟨l1,l2⟩,by simp,⟨by simp only[];omega,by simp only[];omega⟩⟩
open Go.WideShapes in
theorem arg_agg {H:Type} {enc:TypeId×Value→H} {W:World} {base n:Nat} {t:TypeId} {v:Value} {d:DataW H} {p:List MemPlace} {z:List Value} {fs:List (Nat×Nat×TypeId)} (hg:goodB Tryz.prog n t=true) (ht:tdOf Tryz.prog t= .agg z fs)
  (hv:Value.okWide Tryz.prog W .any base t v) (h:DataW.Trod enc Tryz.prog W 0 (fun _=>true) true t v d p):∃avs,RepP W (fun _=>False) (.agg avs) v∧Shaped Tryz.prog n t avs:=by
 obtain⟨fuel,h⟩:=h;obtain⟨avs,hr,hs⟩:=trod_rc n fuel t _ _ hg h;obtain⟨info,fa,h1,h2,_⟩:=tdOf_agg ht;obtain⟨cs,rfl,_⟩:=okWide_struct h2 hv;refine⟨avs,?_,hs⟩;have:=RepP.agg (w:=W) (S:=fun _=>False) avs cs.toList hr.1 (fun x hx=>by
  obtain⟨i,hi⟩:=List.getElem?_of_mem hx;have hil:=(List.getElem?_eq_some_iff.1 hi).1;obtain⟨c,hc⟩:∃c,avs[i]?=some c:=⟨_,List.getElem?_eq_getElem (by rw[hr.1];exact hil)⟩;exact(hr.2 i c x hc hi).2) (fun i c x h1 h2=>(hr.2 i c x h1 h2).1)
 simpa using this
theorem arg_int {H:Type} {enc:TypeId×Value→H} {W:World} {base:Nat} {v:Value} {d:DataW H} {p:List MemPlace}
  (hv:Value.okWide Tryz.prog W .any base 3 v) (h:DataW.Trod enc Tryz.prog W 0 (fun _=>true) true 3 v d p):∃n,RepP W (fun _=>False) (I n) v∧I64 n:=by
 obtain⟨n,rfl,rfl,rfl,w0⟩:=Go.ChangeShapes.open_int und_int hv h;exact⟨n, .v _,wf_i64 w0⟩
theorem laid:laidOutB Tryz.prog=true:=by kernel_rfl
theorem mapped:mapsRowed Tryz.prog=true:=by kernel_rfl
theorem kids:Kids Tryz.prog (· <Tryz.prog.types.size):=kids_rows laid mapped
theorem full:∀t e,t<Tryz.prog.types.size→Tryz.prog.underlying t=some (.slice e)→0<Tryz.prog.cellsOf e:=slices_full_of Tryz.prog (by kernel_rfl)
theorem ext_cell {w w':World} (h:Ext (fun _=>False) w w') {a:Addr} (ha:a.block<w.heap.size):w'.cell? a=w.cell? a:=cell_of_block (h.block _ ha (fun k=>k))
theorem post_ext {H:Type} {enc:TypeId×Value→H} {f:Func} {s:ChangeSpec} {fresh handsOn again:Bool} {W W':World} {args:Array Value} {v:Value} {ds:List (DataW H)} {before:List MemPlace}
  (hvars:s.vars=[]) (hres:(s.fn H ds).results=[.lit (.bool true)]) (hargs:(s.fn H ds).args=ds) (hvs:(s.fn H ds).vars=[]) (hf:f.resultTypes= #[4]) (hts:∀t∈f.params.toList,t<Tryz.prog.types.size)
  (hW:DataW.Whole enc Tryz.prog f.params.toList s.vars false W args.toList ds [] before) (hext:Ext (fun _=>False) W W') (hv:v= .bool true):
  s.post enc Tryz.prog f false fresh handsOn again W args v W':=by
 subst hv;have hlt:=hW.lt;have hW':=hW;obtain⟨p,q,hA,hV,hpq,hz,hn⟩:=hW;rw[hvars]at hV;obtain⟨_,rfl⟩:=Go.ChangeShapes.trodVars_none hV;rw[List.append_nil]at hpq;subst hpq;have carry:∀(ts:List TypeId) (vs:List Value) (ds:List (DataW H)) (ps:List MemPlace),DataW.TrodAll enc Tryz.prog W 0 (fun _=>true) true ts vs ds ps→(∀x∈ps,x.block<W.heap.size)→DataW.TrodAll enc Tryz.prog W' 0 (fun _=>true) true ts vs ds ps:=by
  intro ts
  induction ts with
  |nil=>intro vs ds ps h _;match vs,ds,h with|[],[],h=>exact h
  | cons t ts ih=>
   intro vs ds ps h hl
   match vs,ds,h with
   |v::vs,d::ds,⟨p1,q1,⟨n,h1⟩,h2,he⟩=>
    subst he;refine⟨p1,q1,⟨n,DataW.trod_carry n _ _ _ h1 (fun x hx=>?_)⟩,ih vs ds q1 h2 (fun x hx=>hl x (List.mem_append_right _ hx)),rfl⟩;have hb:=hl x (List.mem_append_left _ hx)
    cases x with
    |cell b off=>exact ext_cell hext hb
    |map b=>exact hext.block b hb (fun k=>k)
 have hA':=carry _ _ _ _ hA hlt;have hag:∀sp:Nat→Bool,(∀x∈before,sp x.block=true)→DataW.TrodAll enc Tryz.prog W' 0 sp true f.params.toList args.toList (s.fn H (ds++[])).args before:=by
  intro sp hs;rw[List.append_nil,hargs];exact hA'.respare kids full hts hs
 have hr:∀(b:Nat) (sp:Nat→Bool) (hd:Bool),DataW.TrodAll enc Tryz.prog W' b sp hd f.resultTypes.toList ((Value.bool true).resultList f.resultTypes.size) (s.fn H (ds++[])).results []:=by
  intro b sp hd;rw[List.append_nil,hres,hf];exact Go.ChangeShapes.trodAll_mk1 (Go.RowKit.shut_bool und_bool2 _)
 have hkept:W.keptBut W' (· ∈before):=by
  refine⟨hext.os,hext.output,fun i hi=>?_⟩;rw[hext.block i hi (fun k=>k)]
  cases hb:W.heap[i]? with
  |none=>trivial
  |some o=>cases o<;>simp
 have hv0:∀sp:Nat→Bool,DataW.TrodVars enc Tryz.prog W' sp s.vars (s.fn H (ds++[])).vars []:=by
  intro sp;rw[hvars,List.append_nil,hvs]
  rfl
 have hold:∀x∈before,(fun b=>decide (b<W.heap.size)) x.block=true:=fun x hx=>by simpa using hlt x hx
 refine⟨ds,[],before,[],before,[],hW',hr _ _ _,hag _ hold,hv0 _,World.keptBut_mono (fun x hx=>⟨hx,Or.inr (Or.inl hx)⟩) hkept,fun _=>?_⟩;refine⟨Go.RowKit.ok_one hf rfl (Go.RowKit.okWide_bool_mk und_bool2 _),_,_,([]++before)++[],⟨[]++before,[],Go.ChangeShapes.trodAll_append (hag _ (fun _ _=>rfl)) (hr _ _ _),hv0 _,rfl,?_,?_⟩,?_⟩
 ·intro b off hp;have hp':MemPlace.cell b off∈before:=by simpa using hp
  have hb:=hlt _ hp';have:W'.frozen? ⟨b,off,none⟩=W.frozen? ⟨b,off,none⟩:=by unfold World.frozen?;rw[hext.block b hb (fun k=>k)]
  rw[this];exact hz b off hp'
 ·intro ha;cases ha
 ·intro x hx _;simpa using hx
theorem law_calls {P : Program} {f : FuncId} {fn : Func} {c : Code} {avs : List AV} {vs : List Value} {W : World} (hf : P.funcs[f]? = some fn) (hb : fn.body = some c) (hname : (fn.name == "runtime.NumGoroutine") = false)
  (h:PureCall P f avs (Bo true)) (hl:avs.length=vs.length) (hr:∀(i:Nat) c x,avs[i]?=some c→vs[i]?=some x→RepP W (fun _=>False) c x):
  Calls P f vs.toArray W fun e W'=>e= .returned (.bool true)∧Ext (fun _=>False) W W':=by
 have hn' : ¬ fn.name = "runtime.NumGoroutine" := by simpa using hname
 rcases h with⟨_,h2⟩|h2
 ·refine(h2 (fun _=>False) W vs (fun b k=>k.elim) hl hr).mono fun e W' ⟨v,q1,q2,q3⟩=>?_
  cases q2
  exact⟨q1,q3⟩
 ·exfalso;obtain⟨v,q1,_⟩:=h2 (fun _=>False) W vs hl hr;have:(callFunc f vs.toArray).run P W= .ok (.enter f vs.toArray) W:=by simp[callFunc,hf,hn',hb]
  rw[this]at q1
  cases q1
theorem rep_nil {W:World}:∀(i:Nat) c x,([]:List AV)[i]?=some c→([]:List Value)[i]?=some x→RepP W (fun _=>False) c x:=fun i c x h=>by simp at h
theorem rep_cons {W:World} {a:AV} {v:Value} {xs:List AV} {vs:List Value} (h:RepP W (fun _=>False) a v) (k:∀(i:Nat) c x,xs[i]?=some c→vs[i]?=some x→RepP W (fun _=>False) c x):
  ∀(i:Nat) c x,(a::xs)[i]?=some c→(v::vs)[i]?=some x→RepP W (fun _=>False) c x:=fun i c x h1 h2=>by
 cases i with
 |zero=>simp at h1 h2;subst h1 h2;exact h
 |succ i=>exact k i c x (by simpa using h1) (by simpa using h2)
end Go.Tram
end
section
namespace Go.Tram
open Go.AM Go.Proofs
def ins (x:Int):List Int→List Int
 |[]=>[x]
 |y::l=>if x<y then x::y::l else y::ins x l
def srt (l:List Int):List Int:=l.foldl (fun s x=>ins x s) []
theorem ins_len (x:Int):∀l,(ins x l).length=l.length+1
 |[]=>rfl
 |y::l=>by
  simp only[ins]
  split
  ·rfl
  ·simp[ins_len x l]
theorem ins_mem (x z:Int):∀l,z∈ins x l↔z=x∨z∈l
 |[]=>by simp[ins]
 | y::l=>by
  simp only[ins]
  split
  ·simp
  ·simp only[List.mem_cons,ins_mem x z l];constructor
   ·rintro(h|h|h)<;>simp[h]
   ·rintro(h|h|h)<;>simp[h]
theorem ins_sorted (x:Int):∀l:List Int,l.Pairwise (· ≤ ·)→(ins x l).Pairwise (· ≤ ·)
 |[],_=>by simp[ins]
 | y::l,h=>by
  rw[List.pairwise_cons]at h;simp only[ins]
  split
  ·rename_i hx;rw[List.pairwise_cons,List.pairwise_cons];refine⟨fun z hz=>?_,h⟩
   rcases List.mem_cons.1 hz with rfl|hz
   ·omega
   ·have:=h.1 z hz;omega
  ·rename_i hx;rw[List.pairwise_cons];refine⟨fun z hz=>?_,ins_sorted x l h.2⟩
   rcases(ins_mem x z l).1 hz with rfl|hz
   ·omega
   ·exact h.1 z hz
theorem ins_split (x:Int) (B:List Int) (hB:∀y∈B,x<y):∀A:List Int,(∀y∈A,y≤x)→ins x (A++B)=A++x::B
 |[],_=>by
  cases B with
  |nil=>rfl
  |cons y B=>simp only[List.nil_append,ins];rw[if_pos (hB y (by simp))]
 |a::A,h=>by
  simp only[List.cons_append,ins];rw[if_neg (by have:=h a (by simp);omega),ins_split x B hB A fun y hy=>h y (by simp[hy])]
theorem srt_take {l:List Int} {i:Nat} {x:Int} (h:l[i]?=some x):srt (l.take (i+1))=ins x (srt (l.take i)):=by
 rw[List.take_add_one,h];simp[srt]
theorem srt_len (l:List Int):(srt l).length=l.length:=by
 have gen:∀(l s:List Int),(l.foldl (fun s x=>ins x s) s).length=s.length+l.length:=by
  intro l
  induction l with
  |nil=>simp
  |cons x l ih=>intro s;rw[List.foldl_cons,ih,ins_len];simp;omega
 have:=gen l [];simpa [srt]using this
theorem srt_sorted (l:List Int):(srt l).Pairwise (· ≤ ·):=by
 have gen:∀(l s:List Int),s.Pairwise (· ≤ ·)→(l.foldl (fun s x=>ins x s) s).Pairwise (· ≤ ·):=by
  intro l
  induction l with
  |nil=>intro s h;exact h
  |cons x l ih=>intro s h;exact ih _ (ins_sorted x s h)
 exact gen l [] List.Pairwise.nil
theorem srt_le {L:List Int} (h:L.Pairwise (· ≤ ·)) {j:Nat} {y:Int} (hy:L[j]?=some y):∀a∈L.take (j+1),a≤y:=by
 intro a ha;obtain⟨hj,he⟩:=List.getElem?_eq_some_iff.1 hy;rw[List.take_add_one,hy]at ha
 rcases List.mem_append.1 ha with ha|ha
 ·have hs:L=L.take j++y::L.drop (j+1):=by rw[←he,List.getElem_cons_drop,List.take_append_drop]
  rw[hs,List.pairwise_append]at h;exact h.2.2 a ha y (by simp)
 ·simp at ha;omega
def wayL (L:List Int) (x:Int) (R:List Int) (j:Nat):List Int:=L.take j++x::(L.drop j++R)
theorem wayL_at {L:List Int} {x:Int} {R:List Int} {j:Nat} (h:j≤L.length):(wayL L x R j)[j]?=some x:=by
 unfold wayL;rw[List.getElem?_append_right (by simp;omega)];simp[Nat.min_eq_left h]
theorem wayL_before {L:List Int} {x y:Int} {R:List Int} {j:Nat} (h:L[j]?=some y):(wayL L x R (j+1))[j]?=some y:=by
 have hj:=(List.getElem?_eq_some_iff.1 h).1;unfold wayL;rw[List.getElem?_append_left (by simp;omega),List.getElem?_take];simp[h]
theorem wayL_swap {L:List Int} {x y:Int} {R:List Int} {j:Nat} (h:L[j]?=some y):((wayL L x R (j+1)).set (j+1) y).set j x=wayL L x R j:=by
 obtain⟨hj,hy⟩:=List.getElem?_eq_some_iff.1 h;have h1:L.take (j+1)=L.take j++[y]:=by rw[List.take_add_one,h];rfl
 have h2:L.drop j=y::L.drop (j+1):=by rw[List.drop_eq_getElem_cons hj,hy]
 have hl:(L.take j).length=j:=by rw[List.length_take];omega
 unfold wayL;rw[h1,h2,List.append_assoc,List.set_append,if_neg (by omega),List.set_append,if_neg (by omega),hl];simp
@[simp] def nCell (n:Int):List AV:=[I n]
theorem flat_n (l:List Int):(l.map nCell).all (fun e=>e.all flatC)=true:=by simp[flatC]
@[simp high] theorem flat_n_ren (l:List Int) (g:List (Option Nat)) (n:Nat):(l.map nCell).map (fun e=>e.map (renAV g n))=l.map nCell:=map_flatC (fun x h=>flatC_ren h g n) (flat_n l)
@[simp high] theorem flat_n_frzP (l:List Int) (H:Hp) (n:Nat):(l.map nCell).map (fun e=>e.map (frzP H n))=l.map nCell:=map_flatC (fun x h=>flatC_frzP h H n) (flat_n l)
theorem c_Less (a b:Int):PureCall Tryz.prog 172 [I a,I b] (Bo (decide (a<b))):=by
 refine PureCall.of_body Tryz.func172 rfl (by decide) (by simp[Tryz.ntmps172]) ?_;simp only[Tryz.ntmps172,Tryz.results172];refine aS fun K hK=>?_;simp -dsimp;apply hK;clear hK K;refine aS fun K hK=>?_;simp -dsimp;refine callK_intro _ (c_isNaN a) (by simp) ?_;simp -dsimp;refine callK_may _ (fun hm=>c_isNaN b) (by simp) ?_;simp -dsimp;apply hK;clear hK K;exact awp_ret (by simp)
theorem m_isort (xs:List Int) (h1:1≤xs.length) (hn:xs.length≤1000):MutCall Tryz.prog 166 [.row 0 0 xs.length,I 0,I xs.length] [some (.els 1 (xs.map nCell))] [] (.tup []) [some (.els 1 ((srt xs).map nCell))] []:=by
 have w01:IntKind.i64.wrap 1=1:=wrap_in (by omega) (by omega);have wm1:IntKind.i64.wrap (-1)=-1:=wrap_in (by omega) (by omega);refine MutCall.of_bodyG [0] Tryz.func166 rfl (by decide) (by simp[Tryz.ntmps166]) rfl rfl ?_;intro J hJ;simp only[Tryz.ntmps166,Tryz.results166];refine gS fun K hK=>?_;simp -dsimp [w01];apply hK;clear hK K;refine gwp_block ?_;refine gwp_prune [0,1,2,6] (Or.inr (by simp)) ?_;simp only[zP,Nat.reduceEqDiff,reduceIte];refine gwp_loop_l [0,1,2] (α:=Nat) (fun i=>[(6,I i)]) (fun i=>[some (.els 1 ((srt (xs.take i)++xs.drop i).map nCell))]) (fun i=>1≤i∧i≤xs.length) (fun i=>xs.length-i) 1 ?_ ?_ ?_
 ·exact⟨Nat.le_refl _,h1⟩
 ·refine gsub (sub_rb [some 0] rfl (by simp) ?_) (by simp);obtain⟨x,l,rfl⟩:∃x l,xs=x::l:=by cases xs with|nil=>simp at h1|cons x l=>exact⟨x,l,rfl⟩
  simp[srt,ins]
 rintro i ⟨i1,i2⟩;simp only[zP,Nat.reduceEqDiff,reduceIte];refine gwp_seq_k fun K1 hK1=>?_;refine gS fun K hK=>?_;simp -dsimp;apply hK;clear hK K;refine gwp_cond rfl (fun hc0=>?_) (fun hc0=>?_)
 ·skip
  try simp at hc0
  have wi:=zW i (by omega);obtain⟨x,hx⟩:∃x,xs[i]?=some x:=⟨_,List.getElem?_eq_getElem hc0⟩;obtain⟨hxi,hxe⟩:=List.getElem?_eq_some_iff.1 hx;have hdr:xs.drop i=x::xs.drop (i+1):=by rw[List.drop_eq_getElem_cons hxi,hxe]
  have hdm:(xs.map nCell).drop i=[I x]::(xs.drop (i+1)).map nCell:=by rw[←List.map_drop,hdr];rfl
  have hst:=srt_take hx;have hsl:(srt (xs.take i)).length=i:=by rw[srt_len,List.length_take];omega
  have hso:=srt_sorted (xs.take i);generalize srt (xs.take i)=L at hst hsl hso ⊢;generalize hR:xs.drop (i+1)=R at hdr hdm ⊢;have hRl:R.length=xs.length-(i+1):=by rw[←hR,List.length_drop]
  refine gwp_skip ?_;simp only[zT,reduceIte,Nat.reduceEqDiff];refine hK1 _ _ ?_;refine gwp_prune [0,1,2,6] (Or.inr (by simp)) ?_;simp only[zP,Nat.reduceEqDiff,reduceIte];refine gwp_seq_k fun K2 hK2=>?_;refine gwp_block ?_;refine gS fun K hK=>?_;simp -dsimp;apply hK;clear hK K;refine gwp_block ?_;refine gwp_prune [0,1,2,6,7] (Or.inr (by simp)) ?_;simp only[zP,Nat.reduceEqDiff,reduceIte];refine gwp_loop_l [0,1,2,6] (α:=Nat) (fun j=>[(7,I j)]) (fun j=>[some (.els 1 ((wayL L x R j).map nCell))]) (fun j=>j≤i∧∀y∈L.drop j,x<y) (fun j=>j) i ?_ ?_ ?_
  ·exact⟨Nat.le_refl _,by rw[List.drop_of_length_le (by omega)];simp⟩
  ·refine gsub (sub_rb [some 0] rfl (by simp) ?_) (by simp);simp[wayL,hdm,List.take_of_length_le (show L.length≤i by omega),List.drop_of_length_le (show L.length≤i by omega)]
  rintro j ⟨j1,j2⟩
  rcases j with _|j
  rotate_left
  obtain⟨y,hy⟩:∃y,L[j]?=some y:=⟨_,List.getElem?_eq_getElem (by omega)⟩;have gj:=wayL_at (L:=L) (x:=x) (R:=R) (j:=j+1) (by omega);have gb:=wayL_before (x:=x) (R:=R) hy;have wj:IntKind.i64.wrap (j:Int)=j:=wrap_in (by omega) (by omega);have hj1:j+1<xs.length:=by omega
  have hj0:j<xs.length:=by omega
  have hdj:L.drop j=y::L.drop (j+1):=by obtain⟨hh,he⟩:=List.getElem?_eq_some_iff.1 hy;rw[List.drop_eq_getElem_cons hh,he]
  rotate_left
  ·simp only[zP,Nat.reduceEqDiff,reduceIte];refine gwp_seq_k fun K3 hK3=>?_;refine gwp_sd mixed rfl (by decide) rfl rfl fun K hK=>?_;simp -dsimp [wayL_at (L:=L) (x:=x) (R:=R) (Nat.zero_le _),wm1];refine callK_may _ (fun hm=>c_Less x x) (by simp) ?_;simp -dsimp [wayL_at (L:=L) (x:=x) (R:=R) (Nat.zero_le _),wm1];refine hK _ _ _ (by decide+kernel) ?_;clear hK K;refine gwp_cond rfl (fun hc1=>?_) (fun hc1=>?_)
   ·simp at hc1
   ·have hfin:ins x L=x::L:=by have:=ins_split x L (by simpa using j2) [] (by simp);simpa using this
    have he:srt (xs.take (i+1))++xs.drop (i+1)=wayL L x R 0:=by rw[hst,hR,hfin];simp[wayL]
    refine gwp_exit ?_;simp only[zT,reduceIte,Nat.reduceEqDiff];refine hK2 _ _ ?_;refine gwp_prune [0,1,2,6] (Or.inr (by simp)) ?_;simp only[zP,Nat.reduceEqDiff,reduceIte];refine gR fun K hK=>?_;simp -dsimp [wi];apply hK;clear hK K;simp only[zT,reduceIte,Nat.reduceEqDiff];exact⟨i+1,⟨by omega,by omega⟩,by omega,gsub (sub_rb [some 0] rfl (by simp) (by simp only[he];simp)) (by simp)⟩
  ·simp only[zP,Nat.reduceEqDiff,reduceIte];refine gwp_seq_k fun K4 hK4=>?_;refine gwp_sd mixed rfl (by decide) rfl rfl fun K hK=>?_;simp -dsimp [gj,gb,wj,hj1,hj0];refine⟨by omega,?_⟩
   try simp -dsimp [gj,gb,wj,hj1,hj0]
   refine callK_may _ (fun hm=>c_Less x y) (by simp) ?_;simp -dsimp [gj,gb,wj,hj1,hj0];refine hK _ _ _ (by decide+kernel) ?_;clear hK K;refine gwp_cond rfl (fun hc1=>?_) (fun hc1=>?_)
   ·skip
    try simp at hc1
    refine gwp_skip ?_;simp only[zT,reduceIte,Nat.reduceEqDiff];refine hK4 _ _ ?_;refine gwp_prune [0,1,2,6,7] (Or.inr (by simp)) ?_;simp only[zP,Nat.reduceEqDiff,reduceIte];refine gwp_seq_k fun K5 hK5=>?_;refine gwp_block ?_;refine gwp_draw mixed rfl (by decide) rfl rfl fun K hK=>?_;simp -dsimp [gj,gb,wj,hj1,hj0]
    repeat (refine⟨by omega,?_⟩;try simp -dsimp [gj,gb,wj,hj1,hj0])
    refine hK _ _ _ (by decide+kernel) ?_;clear hK K;simp only[zT,reduceIte,Nat.reduceEqDiff];refine hK5 _ _ ?_;refine gwp_prune [0,1,2,6,7] (Or.inr (by simp)) ?_;simp only[zP,Nat.reduceEqDiff,reduceIte];refine gR fun K hK=>?_;simp -dsimp [wj];apply hK;clear hK K;simp only[zT,reduceIte,Nat.reduceEqDiff];have hsw:(((wayL L x R (j+1)).map nCell).set (j+1) [I y]).set j [I x]=(wayL L x R j).map nCell:=by rw[←wayL_swap hy,List.map_set,List.map_set];rfl
    exact⟨j,⟨by omega,by intro z hz;rw[hdj]at hz;rcases List.mem_cons.1 hz with rfl|hz;exact hc1;exact j2 z hz⟩,by omega,gsub (sub_rb [some 0] rfl (by simp) (by simp[hsw])) (by simp)⟩
   ·skip
    try simp at hc1
    have hfin:ins x L=L.take (j+1)++x::L.drop (j+1):=by have:=ins_split x (L.drop (j+1)) j2 (L.take (j+1)) (fun a ha=>Int.le_trans (srt_le hso hy a ha) hc1);rwa [List.take_append_drop]at this
    have he:srt (xs.take (i+1))++xs.drop (i+1)=wayL L x R (j+1):=by rw[hst,hR,hfin];simp[wayL]
    refine gwp_exit ?_;simp only[zT,reduceIte,Nat.reduceEqDiff];refine hK2 _ _ ?_;refine gwp_prune [0,1,2,6] (Or.inr (by simp)) ?_;simp only[zP,Nat.reduceEqDiff,reduceIte];refine gR fun K hK=>?_;simp -dsimp [wi];apply hK;clear hK K;simp only[zT,reduceIte,Nat.reduceEqDiff];exact⟨i+1,⟨by omega,by omega⟩,by omega,gsub (sub_rb [some 0] rfl (by simp) (by simp only[he];simp)) (by simp)⟩
 ·skip
  try simp at hc0
  have hie:i=xs.length:=by omega
  subst hie;refine gwp_exit ?_
  try simp only[zT,reduceIte,Nat.reduceEqDiff]
  exact⟨[some 0],rfl,by simp,by simp,by simp[h1],by simp[resP,tupOf]⟩
theorem und_str:(Tryz.prog).underlying 9=some .string:=by kernel_rfl
theorem und_u8:(Tryz.prog).underlying 5=some (.int .u8):=by kernel_rfl
theorem und_uint:(Tryz.prog).underlying 259=some (.int .u64):=by kernel_rfl
theorem str_index (s:ByteArray) (n:Int) (h0:0≤n) (h1:n.toNat<s.size) (w:World):(Instr.index 9 (.string s) (.int .u8 n)).run Tryz.prog w= .ok (.int .u8 (s[n.toNat]).toNat) w:=by
 have hs:s[n.toNat]?=some s[n.toNat]:=getElem?_pos s n.toNat h1;simp[Instr.index,asIntOf,run_underlying und_str,h0,hs]
theorem conv_in (n:Int) (w:World):(convert 3 259 (.int .i64 n)).run Tryz.prog w= .ok (.int .u64 (IntKind.u64.wrap n)) w:=by
 simp[convert,run_underlying und_int,run_underlying und_uint,Conv.intToInt]
theorem conv_u8 (n:Int) (w:World):(convert 304 5 (.int .u64 n)).run Tryz.prog w= .ok (.int .u8 (IntKind.u8.wrap n)) w:=by
 simp[convert,run_underlying und_u64,run_underlying und_u8,Conv.intToInt]
theorem conv_8i (n:Int) (w:World):(convert 5 3 (.int .u8 n)).run Tryz.prog w= .ok (.int .i64 (IntKind.i64.wrap n)) w:=by
 simp[convert,run_underlying und_int,run_underlying und_u8,Conv.intToInt]
theorem c_Len64 (n:Int) (h0:0≤n) (h1:n≤200):∃k,PureCall Tryz.prog 176 [U n] (I k):=by
 have w8:IntKind.u8.wrap n=n:=by rw[IntKind.wrap_u8];omega
 have h2:¬4294967296≤n:=by omega
 have h3:¬65536≤n:=by omega
 have h4:¬256≤n:=by omega
 apply Exists.intro;refine PureCall.of_body Tryz.func176 rfl (by decide) (by simp[Tryz.ntmps176]) ?_;simp only[Tryz.ntmps176,Tryz.results176];refine aS fun K hK=>?_;simp -dsimp;apply hK;clear hK K;refine awp_seq_k fun K1 hK1=>?_;refine aS fun K hK=>?_;simp -dsimp;apply hK;clear hK K;refine awp_cond rfl (fun hc0=>?_) (fun hc0=>?_)
 ·skip
  try simp at hc0
  omega
 ·skip
  try simp at hc0
  refine awp_skip ?_;simp only[zT,reduceIte,Nat.reduceEqDiff];refine hK1 _ _ ?_;refine awp_prune [0,2] ?_;simp only[zP,Nat.reduceEqDiff,reduceIte];refine awp_seq_k fun K2 hK2=>?_;refine aS fun K hK=>?_;simp -dsimp;apply hK;clear hK K;refine awp_cond rfl (fun hc1=>?_) (fun hc1=>?_)
  ·skip
   try simp at hc1
   omega
  ·skip
   try simp at hc1
   refine awp_skip ?_;simp only[zT,reduceIte,Nat.reduceEqDiff];refine hK2 _ _ ?_;refine awp_prune [0,2] ?_;simp only[zP,Nat.reduceEqDiff,reduceIte];refine awp_seq_k fun K3 hK3=>?_;refine aS fun K hK=>?_;simp -dsimp;apply hK;clear hK K;refine awp_cond rfl (fun hc2=>?_) (fun hc2=>?_)
   ·skip
    try simp at hc2
    omega
   ·skip
    try simp at hc2
    refine awp_skip ?_;simp only[zT,reduceIte,Nat.reduceEqDiff];refine hK3 _ _ ?_;refine awp_prune [0,2] ?_;simp only[zP,Nat.reduceEqDiff,reduceIte];refine aS fun K hK=>?_;simp -dsimp;refine⟨_,conv_u8 n,?_⟩
    try simp -dsimp [w8]
    refine⟨_,str_index _ n h0 (Nat.lt_of_lt_of_le (show n.toNat<256 by omega) (by decide+kernel)),?_⟩
    try simp -dsimp
    refine⟨_,conv_8i _,?_⟩
    try simp -dsimp
    apply hK;clear hK K;exact awp_ret rfl
theorem c_Len (n:Int) (h0:0≤n) (h1:n≤200):∃k,PureCall Tryz.prog 135 [U n] (I k):=by
 obtain⟨k,hk⟩:=c_Len64 n h0 h1;refine⟨k,?_⟩;refine PureCall.of_body Tryz.func135 rfl (by decide) (by simp[Tryz.ntmps135]) ?_;simp only[Tryz.ntmps135,Tryz.results135];refine aS fun K hK=>?_;simp -dsimp;apply hK;clear hK K;refine awp_seq_k fun K1 hK1=>?_;refine awp_cond rfl (fun hc0=>?_) (fun hc0=>?_)
 ·simp at hc0
 ·refine awp_skip ?_;simp only[zT,reduceIte,Nat.reduceEqDiff];refine hK1 _ _ ?_;refine awp_prune [0] ?_;simp only[zP,Nat.reduceEqDiff,reduceIte];refine aS fun K hK=>?_;simp -dsimp;refine callK_intro _ (hk) (by simp) ?_;simp -dsimp;apply hK;clear hK K;exact awp_ret (by simp)
theorem m_pdq (xs:List Int) (k:Int) (h1:1≤xs.length) (hn:xs.length≤12):MutCall Tryz.prog 134 [.row 0 0 xs.length,I 0,I xs.length,I k] [some (.els 1 (xs.map nCell))] [] (.tup []) [some (.els 1 ((srt xs).map nCell))] []:=by
 have hs:=m_isort xs h1 (by omega);have wl:IntKind.i64.wrap (xs.length:Int)=xs.length:=wrap_in (by omega) (by omega);refine MutCall.of_bodyG [0] Tryz.func134 rfl (by decide) (by simp[Tryz.ntmps134]) rfl rfl ?_;intro J hJ;simp only[Tryz.ntmps134,Tryz.results134];refine gS fun K hK=>?_;simp -dsimp;apply hK;clear hK K;refine gS fun K hK=>?_;simp -dsimp;apply hK;clear hK K;refine gwp_block ?_;refine gwp_prune [0,1,2,3,8,9] (Or.inr (by simp)) ?_;simp only[zP,Nat.reduceEqDiff,reduceIte];refine gwp_loop_l [0] (α:=Unit) (fun _=>[(1,I 0),(2,I xs.length),(3,I k),(8,Bo true),(9,Bo true)]) (fun _=>[some (.els 1 (xs.map nCell))]) (fun _=>True) (fun _=>0) () ?_ ?_ ?_
 ·simp
 ·exact gsub (sub_same (by simp)) (by simp)
 rintro u-;simp only[zP,Nat.reduceEqDiff,reduceIte];refine gwp_block ?_;refine gS fun K hK=>?_;simp -dsimp [wl];apply hK;clear hK K;refine gwp_seq_k fun K1 hK1=>?_;refine gS fun K hK=>?_;simp -dsimp;apply hK;clear hK K;refine gwp_cond rfl (fun hc0=>?_) (fun hc0=>?_)
 ·skip
  try simp at hc0
  refine gS fun K hK=>?_;simp -dsimp;refine callK_mut [0] [] [some 0] (hs) (by decide) rfl (by simp) (by simp) rfl (by simp) ?_;simp -dsimp;apply hK;clear hK K;exact gwp_ret ⟨[some 0],rfl,by simp,by simp,by simp[h1],by simp[resP,tupOf]⟩
 ·skip
  try simp at hc0
  omega
theorem m_Sort (xs:List Int) (h1:1≤xs.length) (hn:xs.length≤12):MutCall Tryz.prog 90 [.row 0 0 xs.length] [some (.els 1 (xs.map nCell))] [] (.tup []) [some (.els 1 ((srt xs).map nCell))] []:=by
 obtain⟨k,hk⟩:=c_Len xs.length (by omega) (by omega);have hs:=m_pdq xs k h1 hn;have wu:IntKind.u64.wrap (xs.length:Int)=xs.length:=u64_in (by omega) (by omega);refine MutCall.of_bodyG [0] Tryz.func90 rfl (by decide) (by simp[Tryz.ntmps90]) rfl rfl ?_;intro J hJ;simp only[Tryz.ntmps90,Tryz.results90];refine gS fun K hK=>?_;simp -dsimp;apply hK;clear hK K;refine gR fun K hK=>?_;simp -dsimp;refine⟨_,conv_in _,?_⟩;simp -dsimp [wu];refine callK_intro _ (hk) (by simp) ?_;simp -dsimp;refine callK_mut [0] [] [some 0] (hs) (by decide) rfl (by simp) (by simp) rfl (by simp) ?_;simp -dsimp;apply hK;clear hK K
 try simp only[zT,reduceIte,Nat.reduceEqDiff]
 exact⟨[some 0],rfl,by simp,by simp,by simp[h1],by simp[resP,tupOf]⟩
theorem c_isort0:PureCall Tryz.prog 166 [.lst 1 [],I 0,I 0] (.tup []):=by
 have w01:IntKind.i64.wrap 1=1:=wrap_in (by omega) (by omega);refine PureCall.of_body Tryz.func166 rfl (by decide) (by simp[Tryz.ntmps166]) ?_;simp only[Tryz.ntmps166,Tryz.results166];refine aS fun K hK=>?_;simp -dsimp [w01];apply hK;clear hK K;refine awp_block ?_;refine awp_prune [0,1,2,6] ?_;simp only[zP,Nat.reduceEqDiff,reduceIte];refine awp_loop_l [0,1,2] (α:=Unit) (fun i=>[(6,I 1)]) (fun i=>[]) (fun i=>True) (fun i=>0) () ?_ ?_ ?_
 ·simp
 ·exact sub_same (by simp)
 rintro u-;simp only[zP,Nat.reduceEqDiff,reduceIte];refine awp_seq_k fun K1 hK1=>?_;refine aS fun K hK=>?_;simp -dsimp;apply hK;clear hK K;refine awp_cond rfl (fun hc0=>?_) (fun hc0=>?_)
 ·simp at hc0
 ·refine awp_exit ?_
  try simp only[zT,reduceIte,Nat.reduceEqDiff]
  simp[resP,tupOf]
theorem c_pdq0 (k:Int):PureCall Tryz.prog 134 [.lst 1 [],I 0,I 0,I k] (.tup []):=by
 have wl:IntKind.i64.wrap 0=0:=wrap_in (by omega) (by omega);refine PureCall.of_body Tryz.func134 rfl (by decide) (by simp[Tryz.ntmps134]) ?_;simp only[Tryz.ntmps134,Tryz.results134];refine aS fun K hK=>?_;simp -dsimp;apply hK;clear hK K;refine aS fun K hK=>?_;simp -dsimp;apply hK;clear hK K;refine awp_block ?_;refine awp_prune [0,1,2,3,8,9] ?_;simp only[zP,Nat.reduceEqDiff,reduceIte];refine awp_loop_l [0] (α:=Unit) (fun _=>[(1,I 0),(2,I 0),(3,I k),(8,Bo true),(9,Bo true)]) (fun _=>[]) (fun _=>True) (fun _=>0) () ?_ ?_ ?_
 ·simp
 ·exact sub_same (by simp)
 rintro u-;simp only[zP,Nat.reduceEqDiff,reduceIte];refine awp_block ?_;refine aS fun K hK=>?_;simp -dsimp [wl];apply hK;clear hK K;refine awp_seq_k fun K1 hK1=>?_;refine aS fun K hK=>?_;simp -dsimp;apply hK;clear hK K;refine awp_cond rfl (fun hc0=>?_) (fun hc0=>?_)
 ·refine aS fun K hK=>?_;simp -dsimp;refine callK_intro _ (c_isort0) (by simp) ?_;simp -dsimp;apply hK;clear hK K;exact awp_ret (by simp[resP,tupOf])
 ·simp at hc0
theorem c_Sort0:PureCall Tryz.prog 90 [.lst 1 []] (.tup []):=by
 obtain⟨k,hk⟩:=c_Len 0 (by omega) (by omega);have wu:IntKind.u64.wrap 0=0:=u64_in (by omega) (by omega);refine PureCall.of_body Tryz.func90 rfl (by decide) (by simp[Tryz.ntmps90]) ?_;simp only[Tryz.ntmps90,Tryz.results90];refine aS fun K hK=>?_;simp -dsimp;apply hK;clear hK K;refine aR fun K hK=>?_;simp -dsimp;refine⟨_,conv_in _,?_⟩;simp -dsimp [wu];refine callK_intro _ (hk) (by simp) ?_;simp -dsimp;refine callK_intro _ (c_pdq0 k) (by simp) ?_;simp -dsimp;apply hK;clear hK K
 try simp only[zT,reduceIte,Nat.reduceEqDiff]
 simp[resP,tupOf]
end Go.Tram
end
section
namespace Go.Tram
open Go.AM Go.Proofs
structure Move where
 Rail:Int
 Back:Bool
 deriving DecidableEq,Inhabited
@[simp] def Move.cells (m:Move):List AV:=[I m.Rail,Bo m.Back]
abbrev Move.av (m:Move):AV:= .agg m.cells
def arrE (m:Move):REnd:=⟨m.Rail, !m.Back⟩
def leaE (m:Move):REnd:=⟨m.Rail,m.Back⟩
def numM (m:Move):Int:=if m.Back then 2*m.Rail+1 else 2*m.Rail
def moveM (k:Int):Move:=⟨k/2,decide (k % 2=1)⟩
def movB (p:Plan) (m:Move):Bool:=inr m.Rail 0 (p.Rails.length-1)
theorem kvGet_set (q k:List KC) (u:Value):∀kvs:List (List KC×Value),kvGet (kvSet kvs k u) q=if q=k then some u else kvGet kvs q
 |[]=>by simp[kvSet,kvGet]
 | (k0,v0)::r=>by
  simp only[kvSet]
  split
  ·rename_i e;subst e;simp only[kvGet]
   split<;>rfl
  ·rename_i e;simp only[kvGet]
   split
   ·rename_i e2;subst e2;rw[if_neg (fun h=>e h.symm)]
   ·exact kvGet_set q k u r
def plcV (p:Plan) (e:REnd):Value:=(kvGet (placesK p p.Nodes.length) [.i .i64 e.Rail, .b e.Last]).getD (.int .i64 0)
def plc (p:Plan) (e:REnd):Int:=match plcV p e with| .int _ n=>n|_=>0
def intsK (kvs:List (List KC×Value)):Prop:=∀q v,kvGet kvs q=some v→∃n:Nat,n≤1000∧v= .int .i64 n
theorem intsK_put {kvs:List (List KC×Value)} {es:List REnd} (h:intsK kvs):∀j,j≤1000→intsK (putE kvs es j)
 |0,_=>h
 |j+1,hj=>by
  intro q v hq;simp only[putE]at hq;rw[kvGet_set]at hq
  split at hq
  ·simp only[Option.some.injEq]at hq;exact⟨j,by omega,hq.symm⟩
  ·exact intsK_put h j (by omega) q v hq
theorem intsK_places {p:Plan} (hE:∀i:Nat,i<p.Nodes.length→(p.node i).Ends.length≤4):∀i,i≤p.Nodes.length→intsK (placesK p i)
 |0,_=>by intro q v h;simp[placesK,kvGet]at h
 |i+1,hi=>by
  simp only[placesK];exact intsK_put (intsK_places hE i (by omega)) _ (by have:=hE i (by omega);omega)
theorem node_fine {p:Plan} (hv:validB p=true) {i:Int} (h0:0≤i) (h1:i<p.Nodes.length):nodeB (p.node i)=true:=List.all_eq_true.1 (valid_parts hv).2.2.1 _ (List.mem_of_getElem? (p.node_get h0 h1))
theorem node_kind {n:Node} (h:nodeB n=true):(1≤n.Kind∧n.Kind≤6)∧n.Ends.length≤4∧(0≤n.Normal∧n.Normal≤2):=by
 simp only[nodeB,Bool.and_eq_true,decide_eq_true_eq]at h;obtain⟨h1,_,h2,h3⟩:=h;unfold endsN at h2 h3;refine⟨by omega,by omega,?_⟩
 split at h1
 ·have:=inr_iff.1 h1;omega
 ·simp only[decide_eq_true_eq]at h1;omega
theorem plc_val {p:Plan} (hv:validB p=true) (e:REnd):plcV p e= .int .i64 (plc p e)∧0≤plc p e∧plc p e≤1000:=by
 have hi:=intsK_places (p:=p) (fun i hi=>(node_kind (node_fine hv (i:=i) (by omega) (by omega))).2.1) p.Nodes.length (Nat.le_refl _);have key:∃n:Nat,n≤1000∧plcV p e= .int .i64 n:=by
  unfold plcV
  cases hk:kvGet (placesK p p.Nodes.length) [.i .i64 e.Rail, .b e.Last]with
  |none=>exact⟨0,by omega,rfl⟩
  |some v=>obtain⟨n,h1,h2⟩:=hi _ v hk;exact⟨n,h1,h2⟩
 obtain⟨n,h1,h2⟩:=key;unfold plc;rw[h2];exact⟨rfl,by show(0:Int)≤n;omega,by show(n:Int)≤1000;omega⟩
def letsB (n:Node) (f t:Int):Bool:=
 if n.Kind=1 then false else if n.Kind=2 then decide (f≠t)else if n.Kind=3 then decide (f≠t)&&decide ((f+t) % 2=0)
 else if n.Kind=4 then decide (f≠t)&&(decide (f=0)||decide (t=0))else if n.Kind=5 then(decide (f≠0)&&decide (t=0))||(decide (f=0)&&decide (t=n.Normal))
 else(decide (f=0)&&decide (t=n.Normal))||(decide (f=n.Normal)&&decide (t=0))
theorem c_pend (n:Node) (f t:Int):PureCall Tryz.prog 128 [.agg n.cells,I f,I t] (Bo false):=by
 refine PureCall.of_body Tryz.func128 rfl (by decide) (by simp[Tryz.ntmps128]) ?_;simp only[Tryz.ntmps128,Tryz.results128];refine aS fun K hK=>?_;simp -dsimp;apply hK;clear hK K;refine aS fun K hK=>?_;simp -dsimp;apply hK;clear hK K;exact awp_ret (by simp)
theorem c_pplain (n:Node) (f t:Int):PureCall Tryz.prog 129 [.agg n.cells,I f,I t] (Bo (decide (f≠t))):=by
 refine PureCall.of_body Tryz.func129 rfl (by decide) (by simp[Tryz.ntmps129]) ?_;simp only[Tryz.ntmps129,Tryz.results129];refine aS fun K hK=>?_;simp -dsimp;apply hK;clear hK K;refine aS fun K hK=>?_;simp -dsimp;apply hK;clear hK K;refine awp_ret ?_;simp;exact Bool.eq_iff_iff.2 (by simp)
theorem c_pcross (n:Node) (f t:Int) (hf:0≤f∧f≤1000) (ht:0≤t∧t≤1000):PureCall Tryz.prog 130 [.agg n.cells,I f,I t] (Bo (decide (f≠t)&&decide ((f+t) % 2=0))):=by
 have w:IntKind.i64.wrap (f+t)=f+t:=wrap_in (by omega) (by omega);have w2:(f+t).tmod 2=(f+t) % 2:=Int.tmod_eq_emod_of_nonneg (by omega);refine PureCall.of_body Tryz.func130 rfl (by decide) (by simp[Tryz.ntmps130]) ?_;simp only[Tryz.ntmps130,Tryz.results130];refine aS fun K hK=>?_;simp -dsimp;apply hK;clear hK K;refine aS fun K hK=>?_;simp -dsimp [w,w2];apply hK;clear hK K;refine awp_ret ?_;simp;exact Bool.eq_iff_iff.2 (by simp)
theorem c_pset (n:Node) (f t:Int):PureCall Tryz.prog 131 [.agg n.cells,I f,I t] (Bo (decide (f≠t)&&(decide (f=0)||decide (t=0)))):=by
 refine PureCall.of_body Tryz.func131 rfl (by decide) (by simp[Tryz.ntmps131]) ?_;simp only[Tryz.ntmps131,Tryz.results131];refine aS fun K hK=>?_;simp -dsimp;apply hK;clear hK K;refine aS fun K hK=>?_;simp -dsimp;apply hK;clear hK K;refine awp_ret ?_;simp;exact Bool.eq_iff_iff.2 (by simp)
theorem c_pspring (n:Node) (f t:Int):PureCall Tryz.prog 132 [.agg n.cells,I f,I t] (Bo ((decide (f≠0)&&decide (t=0))||(decide (f=0)&&decide (t=n.Normal)))):=by
 refine PureCall.of_body Tryz.func132 rfl (by decide) (by simp[Tryz.ntmps132]) ?_;simp only[Tryz.ntmps132,Tryz.results132];refine aS fun K hK=>?_;simp -dsimp;apply hK;clear hK K;refine aS fun K hK=>?_;simp -dsimp;apply hK;clear hK K;refine awp_ret ?_;simp;exact Bool.eq_iff_iff.2 (by simp)
theorem c_plocked (n:Node) (f t:Int):PureCall Tryz.prog 133 [.agg n.cells,I f,I t] (Bo ((decide (f=0)&&decide (t=n.Normal))||(decide (f=n.Normal)&&decide (t=0)))):=by
 refine PureCall.of_body Tryz.func133 rfl (by decide) (by simp[Tryz.ntmps133]) ?_;simp only[Tryz.ntmps133,Tryz.results133];refine aS fun K hK=>?_;simp -dsimp;apply hK;clear hK K;refine aS fun K hK=>?_;simp -dsimp;apply hK;clear hK K;refine awp_ret ?_;simp;exact Bool.eq_iff_iff.2 (by simp)
theorem c_lets1 (n:Node) (f t:Int) (hf:0≤f∧f≤1000) (ht:0≤t∧t≤1000) (hk:n.Kind=1):PureCall Tryz.prog 89 [.agg n.cells,I f,I t] (Bo (letsB n f t)):=by
 have hc:=c_pend n f t;unfold letsB;simp only[Node.cells,hk,Int.reduceEq,if_false,if_true,reduceIte]at hc ⊢;refine PureCall.of_body Tryz.func89 rfl (by decide) (by simp[Tryz.ntmps89]) ?_;simp only[Tryz.ntmps89,Tryz.results89];refine aS fun K hK=>?_;simp -dsimp;apply hK;clear hK K;refine aS fun K hK=>?_;simp -dsimp;apply hK;clear hK K;refine awp_sd mixed rfl fun K hK=>?_;simp -dsimp;refine callK_intro _ (hc) (by simp) ?_;simp -dsimp;refine hK _ _ _ (by decide+kernel) ?_;clear hK K;exact awp_ret (by simp)
theorem c_lets2 (n:Node) (f t:Int) (hf:0≤f∧f≤1000) (ht:0≤t∧t≤1000) (hk:n.Kind=2):PureCall Tryz.prog 89 [.agg n.cells,I f,I t] (Bo (letsB n f t)):=by
 have hc:=c_pplain n f t;unfold letsB;simp only[Node.cells,hk,Int.reduceEq,if_false,if_true,reduceIte]at hc ⊢;refine PureCall.of_body Tryz.func89 rfl (by decide) (by simp[Tryz.ntmps89]) ?_;simp only[Tryz.ntmps89,Tryz.results89];refine aS fun K hK=>?_;simp -dsimp;apply hK;clear hK K;refine aS fun K hK=>?_;simp -dsimp;apply hK;clear hK K;refine awp_sd mixed rfl fun K hK=>?_;simp -dsimp;refine callK_intro _ (hc) (by simp) ?_;simp -dsimp;refine hK _ _ _ (by decide+kernel) ?_;clear hK K;exact awp_ret (by simp)
theorem c_lets3 (n:Node) (f t:Int) (hf:0≤f∧f≤1000) (ht:0≤t∧t≤1000) (hk:n.Kind=3):PureCall Tryz.prog 89 [.agg n.cells,I f,I t] (Bo (letsB n f t)):=by
 have hc:=c_pcross n f t hf ht;unfold letsB;simp only[Node.cells,hk,Int.reduceEq,if_false,if_true,reduceIte]at hc ⊢;refine PureCall.of_body Tryz.func89 rfl (by decide) (by simp[Tryz.ntmps89]) ?_;simp only[Tryz.ntmps89,Tryz.results89];refine aS fun K hK=>?_;simp -dsimp;apply hK;clear hK K;refine aS fun K hK=>?_;simp -dsimp;apply hK;clear hK K;refine awp_sd mixed rfl fun K hK=>?_;simp -dsimp;refine callK_intro _ (hc) (by simp) ?_;simp -dsimp;refine hK _ _ _ (by decide+kernel) ?_;clear hK K;exact awp_ret (by simp)
theorem c_lets4 (n:Node) (f t:Int) (hf:0≤f∧f≤1000) (ht:0≤t∧t≤1000) (hk:n.Kind=4):PureCall Tryz.prog 89 [.agg n.cells,I f,I t] (Bo (letsB n f t)):=by
 have hc:=c_pset n f t;unfold letsB;simp only[Node.cells,hk,Int.reduceEq,if_false,if_true,reduceIte]at hc ⊢;refine PureCall.of_body Tryz.func89 rfl (by decide) (by simp[Tryz.ntmps89]) ?_;simp only[Tryz.ntmps89,Tryz.results89];refine aS fun K hK=>?_;simp -dsimp;apply hK;clear hK K;refine aS fun K hK=>?_;simp -dsimp;apply hK;clear hK K;refine awp_sd mixed rfl fun K hK=>?_;simp -dsimp;refine callK_intro _ (hc) (by simp) ?_;simp -dsimp;refine hK _ _ _ (by decide+kernel) ?_;clear hK K;exact awp_ret (by simp)
theorem c_lets5 (n:Node) (f t:Int) (hf:0≤f∧f≤1000) (ht:0≤t∧t≤1000) (hk:n.Kind=5):PureCall Tryz.prog 89 [.agg n.cells,I f,I t] (Bo (letsB n f t)):=by
 have hc:=c_pspring n f t;unfold letsB;simp only[Node.cells,hk,Int.reduceEq,if_false,if_true,reduceIte]at hc ⊢;refine PureCall.of_body Tryz.func89 rfl (by decide) (by simp[Tryz.ntmps89]) ?_;simp only[Tryz.ntmps89,Tryz.results89];refine aS fun K hK=>?_;simp -dsimp;apply hK;clear hK K;refine aS fun K hK=>?_;simp -dsimp;apply hK;clear hK K;refine awp_sd mixed rfl fun K hK=>?_;simp -dsimp;refine callK_intro _ (hc) (by simp) ?_;simp -dsimp;refine hK _ _ _ (by decide+kernel) ?_;clear hK K;exact awp_ret (by simp)
theorem c_lets6 (n:Node) (f t:Int) (hf:0≤f∧f≤1000) (ht:0≤t∧t≤1000) (hk:n.Kind=6):PureCall Tryz.prog 89 [.agg n.cells,I f,I t] (Bo (letsB n f t)):=by
 have hc:=c_plocked n f t;unfold letsB;simp only[Node.cells,hk,Int.reduceEq,if_false,if_true,reduceIte]at hc ⊢;refine PureCall.of_body Tryz.func89 rfl (by decide) (by simp[Tryz.ntmps89]) ?_;simp only[Tryz.ntmps89,Tryz.results89];refine aS fun K hK=>?_;simp -dsimp;apply hK;clear hK K;refine aS fun K hK=>?_;simp -dsimp;apply hK;clear hK K;refine awp_sd mixed rfl fun K hK=>?_;simp -dsimp;refine callK_intro _ (hc) (by simp) ?_;simp -dsimp;refine hK _ _ _ (by decide+kernel) ?_;clear hK K;exact awp_ret (by simp)
theorem c_lets (n:Node) (f t:Int) (hf:0≤f∧f≤1000) (ht:0≤t∧t≤1000) (hk:1≤n.Kind∧n.Kind≤6):PureCall Tryz.prog 89 [.agg n.cells,I f,I t] (Bo (letsB n f t)):=by
 have:n.Kind=1∨n.Kind=2∨n.Kind=3∨n.Kind=4∨n.Kind=5∨n.Kind=6:=by omega
 rcases this with h|h|h|h|h|h
 ·exact c_lets1 n f t hf ht h
 ·exact c_lets2 n f t hf ht h
 ·exact c_lets3 n f t hf ht h
 ·exact c_lets4 n f t hf ht h
 ·exact c_lets5 n f t hf ht h
 ·exact c_lets6 n f t hf ht h
theorem c_arrives (m:Move):PureCall Tryz.prog 88 [m.av] (.agg [I m.Rail,Bo (!m.Back)]):=by
 refine PureCall.of_body Tryz.func88 rfl (by decide) (by simp[Tryz.ntmps88]) ?_;simp only[Tryz.ntmps88,Tryz.results88];refine aS fun K hK=>?_;simp -dsimp;apply hK;clear hK K;refine aS fun K hK=>?_;simp -dsimp;apply hK;clear hK K;exact awp_ret (by simp)
theorem c_number (m:Move) (h0:0≤m.Rail) (h1:m.Rail≤100000):PureCall Tryz.prog 42 [m.av] (I (numM m)):=by
 have w1:IntKind.i64.wrap (2*m.Rail)=2*m.Rail:=wrap_in (by omega) (by omega);have w2:IntKind.i64.wrap (2*m.Rail+1)=2*m.Rail+1:=wrap_in (by omega) (by omega);refine PureCall.of_body Tryz.func42 rfl (by decide) (by simp[Tryz.ntmps42]) ?_;simp only[Tryz.ntmps42,Tryz.results42];refine aS fun K hK=>?_;simp -dsimp;apply hK;clear hK K;refine awp_seq_k fun K1 hK1=>?_;refine aS fun K hK=>?_;simp -dsimp;apply hK;clear hK K;refine awp_cond rfl (fun hc0=>?_) (fun hc0=>?_)
 ·skip
  try simp at hc0
  refine aS fun K hK=>?_;simp -dsimp [w1,w2];apply hK;clear hK K;exact awp_ret (by simp[numM,hc0])
 ·skip
  try simp at hc0
  refine awp_skip ?_;simp only[zT,reduceIte,Nat.reduceEqDiff];refine hK1 _ _ ?_;refine awp_prune [1] ?_;simp only[zP,Nat.reduceEqDiff,reduceIte];refine aS fun K hK=>?_;simp -dsimp [w1];apply hK;clear hK K;exact awp_ret (by simp[numM,hc0])
theorem c_move (k:Int) (h0:0≤k) (h1:k≤1000000):PureCall Tryz.prog 91 [I k] (.agg [I (moveM k).Rail,Bo (moveM k).Back]):=by
 have w1:k.tdiv 2=k/2:=Int.tdiv_eq_ediv_of_nonneg h0;have w2:k.tmod 2=k % 2:=Int.tmod_eq_emod_of_nonneg h0;have w3:IntKind.i64.wrap (k/2)=k/2:=wrap_in (by omega) (by omega);refine PureCall.of_body Tryz.func91 rfl (by decide) (by simp[Tryz.ntmps91]) ?_;simp only[Tryz.ntmps91,Tryz.results91];refine aS fun K hK=>?_;simp -dsimp;apply hK;clear hK K;refine aS fun K hK=>?_;simp -dsimp [w1,w2,w3];apply hK;clear hK K;refine awp_ret ?_;simp[moveM];exact Bool.eq_iff_iff.2 (by simp)
theorem c_tnext (p:Plan) (m:Move):PureCall Tryz.prog 43 [.iptr (net p),m.av] (.clo 86 [.iptr [.iptr (net p)], .iptr m.cells]):=by
 generalize net p=sh;refine PureCall.of_body Tryz.func43 rfl (by decide) (by simp[Tryz.ntmps43]) ?_;simp only[Tryz.ntmps43,Tryz.results43];refine aS fun K hK=>?_;simp -dsimp;apply hK;clear hK K;refine aS fun K hK=>?_;simp -dsimp;apply hK;clear hK K;exact awp_ret (by simp)
end Go.Tram
end
section
namespace Go.Tram
open Go.AM Go.Proofs
structure Fnd where
 Move:Int
 Len:Int
 Mv:Int
 deriving DecidableEq,Inhabited
@[simp] def Fnd.cells (x:Fnd):List AV:=[I x.Move,I x.Len,I x.Mv]
abbrev Fnd.av (x:Fnd):AV:= .agg x.cells
def ltF (a b:Fnd):Bool:=decide (a.Len<b.Len)||(decide (a.Len=b.Len)&&decide (a.Mv<b.Mv))
section
variable {α:Type} [Inhabited α] (lt:α→α→Bool)
def gd (l:List α) (i:Nat):α:=l.getD i default
def swpG (l:List α) (i j:Nat):List α:=(l.set i (gd l j)).set j (gd l i)
def upL:Nat→List α→Nat→List α
 |0,l,_=>l
 |k+1,l,j=>if (j-1)/2=j∨lt (gd l j) (gd l ((j-1)/2))=false then l else upL k (swpG l ((j-1)/2) j) ((j-1)/2)
def kidL (l:List α) (i n:Nat):Nat:=if 2*i+2<n∧lt (gd l (2*i+2)) (gd l (2*i+1))=true then 2*i+2 else 2*i+1
def downL:Nat→List α→Nat→Nat→List α
 |0,l,_,_=>l
 |k+1,l,i,n=>if n≤2*i+1∨lt (gd l (kidL lt l i n)) (gd l i)=false then l else downL k (swpG l i (kidL lt l i n)) (kidL lt l i n) n
theorem swpG_len (l:List α) (i j:Nat):(swpG l i j).length=l.length:=by simp[swpG]
theorem upL_len:∀(k:Nat) (l:List α) (j:Nat),(upL lt k l j).length=l.length
 |0,l,j=>rfl
 |k+1,l,j=>by
  simp only[upL]
  split
  ·rfl
  ·rw[upL_len k,swpG_len]
theorem downL_len:∀(k:Nat) (l:List α) (i n:Nat),(downL lt k l i n).length=l.length
 |0,l,i,n=>rfl
 |k+1,l,i,n=>by
  simp only[downL]
  split
  ·rfl
  ·rw[downL_len k,swpG_len]
def pushL (l:List α) (x:α):List α:=upL lt (l.length+1) (l++[x]) l.length
end
@[simp] theorem mtl_Push : mtOf Tryz.prog 194 "Push" = some (260, none) := by kernel_rfl
@[simp] theorem mtl_Pop : mtOf Tryz.prog 194 "Pop" = some (259, none) := by kernel_rfl
@[simp] theorem mtl_Len : mtOf Tryz.prog 194 "Len" = some (257, (some 198)) := by kernel_rfl
@[simp] theorem mtl_Less : mtOf Tryz.prog 194 "Less" = some (258, (some 198)) := by kernel_rfl
@[simp] theorem mtl_Swap : mtOf Tryz.prog 194 "Swap" = some (261, (some 198)) := by kernel_rfl
@[simp] theorem mtl_best : mtOf Tryz.prog 194 "tramline/track.best" = some (262, none) := by kernel_rfl
theorem flat_f (l:List Fnd):(l.map Fnd.cells).all (fun e=>e.all flatC)=true:=by simp[flatC]
@[simp high] theorem flat_f_ren (l:List Fnd) (g:List (Option Nat)) (n:Nat):(l.map Fnd.cells).map (fun e=>e.map (renAV g n))=l.map Fnd.cells:=map_flatC (fun x h=>flatC_ren h g n) (flat_f l)
theorem c_lLen (l:List Fnd):PureCall Tryz.prog 257 [.lst 3 (l.map Fnd.cells)] (I l.length):=by
 refine PureCall.of_body Tryz.func257 rfl (by decide) (by simp[Tryz.ntmps257]) ?_;simp only[Tryz.ntmps257,Tryz.results257];refine aS fun K hK=>?_;simp -dsimp;apply hK;clear hK K;refine aS fun K hK=>?_;simp -dsimp;apply hK;clear hK K;exact awp_ret (by simp)
theorem c_lLess (l:List Fnd) (i j:Nat) (a b:Fnd) (hi:l[i]?=some a) (hj:l[j]?=some b):PureCall Tryz.prog 258 [.lst 3 (l.map Fnd.cells),I i,I j] (Bo (ltF a b)):=by
 have hor:=c_Or [cmpI a.Len b.Len,cmpI a.Mv b.Mv] (by simp);simp only[List.map_cons,List.map_nil]at hor;refine PureCall.of_body Tryz.func258 rfl (by decide) (by simp[Tryz.ntmps258]) ?_;simp only[Tryz.ntmps258,Tryz.results258];refine aS fun K hK=>?_;simp -dsimp;apply hK;clear hK K;refine awp_sd mixed rfl fun K hK=>?_;simp -dsimp [hi,hj];refine callK_intro _ (c_Compare a.Len b.Len) (by simp) ?_;simp -dsimp [hi,hj];refine callK_intro _ (c_Compare a.Mv b.Mv) (by simp) ?_;simp -dsimp [hi,hj];refine callK_intro _ (hor) (by simp) ?_;simp -dsimp [hi,hj];refine hK _ _ _ (by decide+kernel) ?_;clear hK K;refine awp_ret ?_;simp;simp only[ltF,orI,cmpI];rcases Int.lt_trichotomy a.Len b.Len with h|h|h<;>rcases Int.lt_trichotomy a.Mv b.Mv with h'|h'|h'<;>(try simp[h,h'])<;>(repeat' split)<;>(try simp_all)<;>omega
theorem m_lSwap (l:List Fnd) (n i j:Nat) (a b:Fnd) (hi:l[i]?=some a) (hj:l[j]?=some b) (hin:i<n) (hjn:j<n) (hn:n≤l.length):MutCall Tryz.prog 261 [.row 0 0 n,I i,I j] [some (.els 3 (l.map Fnd.cells))] [] (.tup []) [some (.els 3 ((swpG l i j).map Fnd.cells))] []:=by
 have hs:(((l.map Fnd.cells).set i b.cells).set j a.cells)=(swpG l i j).map Fnd.cells:=by simp[swpG,List.map_set,gd,List.getD_eq_getElem?_getD,hi,hj]
 have hj2:((l.map Fnd.cells).set i [I b.Move,I b.Len,I b.Mv])[j]?=some [I b.Move,I b.Len,I b.Mv]:=by
  rw[List.getElem?_set];obtain⟨hjl,_⟩:=List.getElem?_eq_some_iff.1 hj;obtain⟨hil,_⟩:=List.getElem?_eq_some_iff.1 hi
  split
  ·rw[if_pos (by simpa using hil)]
  ·rw[List.getElem?_map,hj];rfl
 simp only[Fnd.cells]at hs;refine MutCall.of_bodyG [0] Tryz.func261 rfl (by decide) (by simp[Tryz.ntmps261]) rfl rfl ?_;intro J hJ;simp only[Tryz.ntmps261,Tryz.results261];refine gwp_draw mixed rfl (by decide) rfl rfl fun K hK=>?_;simp -dsimp [hi,hj,hin,hjn,hj2];refine hK _ _ _ (by decide+kernel) ?_;clear hK K
 try simp only[zT,reduceIte,Nat.reduceEqDiff]
 exact⟨[some 0],rfl,by simp,by simp[←hs],by simp;omega,by simp[resP,tupOf]⟩
theorem getD_at {α:Type} [Inhabited α] {l:List α} {i:Nat} (h:i<l.length):l[i]?=some (gd l i):=by unfold gd;rw[List.getD_eq_getElem?_getD,List.getElem?_eq_getElem h];rfl
theorem c_lLessT (l:List Fnd) (n i j:Nat) (x y:Int) (hx:x=i) (hy:y=j) (hn:n≤l.length) (hi:i<n) (hj:j<n):PureCall Tryz.prog 258 [if n≤l.length then .lst 3 ((l.map Fnd.cells).take n)else .any,I x,I y] (Bo (ltF (gd l i) (gd l j))):=by
 have h:=c_lLess (l.take n) i j (gd l i) (gd l j) (by rw[List.getElem?_take,if_pos hi];exact getD_at (by omega)) (by rw[List.getElem?_take,if_pos hj];exact getD_at (by omega));subst hx hy;rw[if_pos hn,←List.map_take];exact h
theorem c_lLenT (l:List Fnd) (n:Nat) (hn:n≤l.length):PureCall Tryz.prog 257 [if n≤l.length then .lst 3 ((l.map Fnd.cells).take n)else .any] (I n):=by
 have h:=c_lLen (l.take n);rw[List.length_take,Nat.min_eq_left hn]at h;rw[if_pos hn,←List.map_take];exact h
theorem m_lSwap' (l:List Fnd) (n i j:Nat) (x y:Int) (hx:x=i) (hy:y=j) (hin:i<n) (hjn:j<n) (hn:n≤l.length):MutCall Tryz.prog 261 [.row 0 0 n,I x,I y] [some (.els 3 (l.map Fnd.cells))] [] (.tup []) [some (.els 3 ((swpG l i j).map Fnd.cells))] []:=by
 subst hx hy;exact m_lSwap l n i j _ _ (getD_at (by omega)) (getD_at (by omega)) hin hjn hn
abbrev qAV:AV:= .ifc 194 (.ptr 0 0 0)
theorem m_up (l:List Fnd) (n j k:Nat) (hj:j<n) (hn:n≤l.length) (hk:j<k) (hb:l.length≤1000000):
  MutCall Tryz.prog 92 [qAV,I j] [some (.els 1 [[.row 1 0 n]])] [some (.els 3 (l.map Fnd.cells))] (.tup []) [some (.els 1 [[.row 1 0 n]])] [some (.els 3 ((upL ltF k l j).map Fnd.cells))]:=by
 refine MutCall.of_bodyG [0] Tryz.func92 rfl (by decide) (by simp[Tryz.ntmps92]) rfl rfl ?_;intro J hJ;simp only[Tryz.ntmps92,Tryz.results92];refine gwp_block ?_;refine gwp_prune [0,1] (Or.inr (by simp)) ?_;simp only[zP,Nat.reduceEqDiff,reduceIte];refine gwp_loop_l [0] (α:=List Fnd×Nat×Nat) (fun s=>[(1,I s.2.1)]) (fun s=>[some (.els 1 [[.row 1 0 n]]),some (.els 3 (s.1.map Fnd.cells))]) (fun s=>s.1.length=l.length∧s.2.1<n∧s.2.1<s.2.2∧upL ltF s.2.2 s.1 s.2.1=upL ltF k l j) (fun s=>s.2.2) (l,j,k) ?_ ?_ ?_
 ·exact⟨rfl,hj,hk,rfl⟩
 ·exact gsub (sub_same (by simp)) (by simp)
 rintro⟨l',j',k'⟩ ⟨i1,i2,i3,i4⟩;simp only at i1 i2 i3 i4 ⊢;obtain⟨k',rfl⟩:∃q,k'=q+1:=⟨k'-1,by omega⟩;have w1:IntKind.i64.wrap ((j':Int)-1)=(j':Int)-1:=wrap_in (by omega) (by omega);have w2:IntKind.i64.wrap (((j':Int)-1).tdiv 2)=(((j'-1)/2:Nat):Int):=by rcases j' with _|q;rfl;rw[show(((q+1:Nat):Int)-1)=(q:Int)by omega,Int.tdiv_eq_ediv_of_nonneg (by omega),wrap_in (by omega) (by omega)];simp
 obtain⟨i',hi'⟩:∃i',i'=(j'-1)/2:=⟨_,rfl⟩;rw[←hi']at w2;have hil:i'≤j':=by omega
 simp only[upL,←hi']at i4;simp only[zP,Nat.reduceEqDiff,reduceIte];refine gwp_block ?_;refine gS fun K hK=>?_;simp -dsimp [w1,w2];apply hK;clear hK K;refine gwp_seq_k fun K1 hK1=>?_;refine gS fun K hK=>?_;simp -dsimp;refine callK_may _ (fun hm=>c_lLessT l' n j' i' _ _ rfl rfl (by omega) (by omega) (by omega)) (by simp) ?_;simp -dsimp;apply hK;clear hK K;refine gwp_cond rfl (fun hc0=>?_) (fun hc0=>?_)
 ·have h0:i'=j'∨ltF (gd l' j') (gd l' i')=false:=by simp at hc0;rcases hc0 with h|h;exact Or.inl (by omega);exact Or.inr h
  have hfin:upL ltF k l j=l':=by rw[←i4,if_pos h0]
  refine gwp_exit ?_
  try simp only[zT,reduceIte,Nat.reduceEqDiff]
  exact⟨[some 0,some 1],rfl,by simp,by simp[hfin],by simp,by simp[resP,tupOf]⟩
 ·have hne:¬(i'=j'∨ltF (gd l' j') (gd l' i')=false):=by rintro(h|h);simp[h]at hc0;rw[h]at hc0;simp at hc0
  have hne1:i'≠j':=fun h=>hne (Or.inl h);rw[if_neg hne]at i4;refine gwp_skip ?_;simp only[zT,reduceIte,Nat.reduceEqDiff];refine hK1 _ _ ?_;refine gwp_prune [0,1,4] (Or.inr (by simp)) ?_;simp only[zP,Nat.reduceEqDiff,reduceIte];refine gS fun K hK=>?_;simp -dsimp;refine callK_mut [1] [] [none,some 0] (m_lSwap' l' n i' j' _ _ rfl rfl (by omega) (by omega) (by omega)) (by decide) rfl (by simp) (by simp) rfl (by simp) ?_;simp -dsimp;apply hK;clear hK K;refine gR fun K hK=>?_;simp -dsimp;apply hK;clear hK K;simp only[zT,reduceIte,Nat.reduceEqDiff];exact⟨(swpG l' i' j',i',k'),⟨by rw[swpG_len];exact i1,by show i'<n;omega,by show i'<k';omega,i4⟩,by simp,gsub (sub_rb [some 0,some 1] rfl (by simp) (by simp)) (by simp)⟩
def downI:Nat→List Fnd→Nat→Nat→Nat
 |0,_,i,_=>i
 |k+1,l,i,n=>if n≤2*i+1∨ltF (gd l (kidL ltF l i n)) (gd l i)=false then i else downI k (swpG l i (kidL ltF l i n)) (kidL ltF l i n) n
theorem m_down (l:List Fnd) (n' n i k:Nat) (hn:n≤n') (hn':n'≤l.length) (hi:i<n') (hk:n<i+k) (hb:l.length≤1000000):
  ∃b,MutCall Tryz.prog 93 [qAV,I i,I n] [some (.els 1 [[.row 1 0 n']])] [some (.els 3 (l.map Fnd.cells))] (Bo b) [some (.els 1 [[.row 1 0 n']])] [some (.els 3 ((downL ltF k l i n).map Fnd.cells))]:=by
 refine⟨decide (i<downI k l i n),?_⟩;refine MutCall.of_bodyG [0] Tryz.func93 rfl (by decide) (by simp[Tryz.ntmps93]) rfl rfl ?_;intro J hJ;simp only[Tryz.ntmps93,Tryz.results93];refine gS fun K hK=>?_;simp -dsimp;apply hK;clear hK K;refine gS fun K hK=>?_;simp -dsimp;apply hK;clear hK K;refine gwp_seq_k fun K1 hK1=>?_;refine gwp_block ?_;refine gwp_prune [0,1,2,7] (Or.inr (by simp)) ?_;simp only[zP,Nat.reduceEqDiff,reduceIte];refine gwp_loop_l [0,1,2] (α:=List Fnd×Nat×Nat) (fun s=>[(7,I s.2.1)]) (fun s=>[some (.els 1 [[.row 1 0 n']]),some (.els 3 (s.1.map Fnd.cells))]) (fun s=>s.1.length=l.length∧s.2.1<n'∧n<s.2.1+s.2.2∧downL ltF s.2.2 s.1 s.2.1 n=downL ltF k l i n∧downI s.2.2 s.1 s.2.1 n=downI k l i n) (fun s=>s.2.2) (l,i,k) ?_ ?_ ?_
 ·exact⟨rfl,hi,hk,rfl,rfl⟩
 ·exact gsub (sub_same (by simp)) (by simp)
 rintro⟨l',i',k'⟩ ⟨i1,i2,i3,i4,i5⟩;simp only at i1 i2 i3 i4 i5 ⊢;have w0:IntKind.i64.wrap (2*(i':Int))=2*(i':Int):=wrap_in (by omega) (by omega);have w1:IntKind.i64.wrap (2*(i':Int)+1)=2*(i':Int)+1:=wrap_in (by omega) (by omega);have w2:IntKind.i64.wrap (2*(i':Int)+1+1)=2*(i':Int)+2:=by rw[show 2*(i':Int)+1+1=2*(i':Int)+2 by omega];exact wrap_in (by omega) (by omega)
 simp only[zP,Nat.reduceEqDiff,reduceIte];refine gwp_block ?_;refine gS fun K hK=>?_;simp -dsimp [w0,w1];apply hK;clear hK K;refine gwp_seq_k fun K2 hK2=>?_;refine gS fun K hK=>?_;simp -dsimp;apply hK;clear hK K;refine gwp_cond rfl (fun hc0=>?_) (fun hc0=>?_)
 ·have h0:n≤2*i'+1:=by simp at hc0;omega
  have hfin:downL ltF k l i n=l'∧downI k l i n=i':=by rcases k' with _|k';exact⟨i4.symm,i5.symm⟩;simp only[downL,downI,if_pos (Or.inl h0:n≤2*i'+1∨_)]at i4 i5;exact⟨i4.symm,i5.symm⟩
  refine gwp_exit ?_;simp only[zT,reduceIte,Nat.reduceEqDiff];refine hK1 _ _ ?_;refine gwp_prune [0,1,7] (Or.inr (by simp)) ?_;simp only[zP,Nat.reduceEqDiff,reduceIte];refine gS fun K hK=>?_;simp -dsimp;apply hK;clear hK K;exact gwp_ret ⟨[some 0,some 1],rfl,by simp,by simp[hfin.1],by simp,by simp[resP,tupOf,hfin.2]⟩
 ·have h0:2*i'+1<n:=by simp at hc0;omega
  obtain⟨k',rfl⟩:∃q,k'=q+1:=⟨k'-1,by omega⟩;simp only[downL,downI]at i4 i5;have hkid:kidL ltF l' i' n=if 2*i'+2<n∧ltF (gd l' (2*i'+2)) (gd l' (2*i'+1))=true then 2*i'+2 else 2*i'+1:=rfl;refine gwp_skip ?_;simp only[zT,reduceIte,Nat.reduceEqDiff];refine hK2 _ _ ?_;refine gwp_prune [0,1,2,7,8] (Or.inr (by simp)) ?_;simp only[zP,Nat.reduceEqDiff,reduceIte];refine gS fun K hK=>?_;simp -dsimp;apply hK;clear hK K;refine gwp_seq_k fun K3 hK3=>?_;refine gS fun K hK=>?_;simp -dsimp [w2];apply hK;clear hK K;refine gS fun K hK=>?_;simp -dsimp;refine callK_may _ (fun hm=>c_lLessT l' n' (2*i'+2) (2*i'+1) _ _ (by omega) (by omega) (by omega) (by simp at hm;omega) (by omega)) (by simp) ?_;simp -dsimp;apply hK;clear hK K;refine gwp_cond rfl (fun hc1=>?_) (fun hc1=>?_)
  ·have h1:2*i'+2<n∧ltF (gd l' (2*i'+2)) (gd l' (2*i'+1))=true:=by rw[Bool.and_eq_true,decide_eq_true_eq]at hc1;exact⟨by omega,hc1.2⟩
   rw[if_pos h1]at hkid;refine gR fun K hK=>?_;simp -dsimp;apply hK;clear hK K;simp only[zT,reduceIte,Nat.reduceEqDiff];refine hK3 _ _ ?_;refine gwp_prune [0,1,2,7,9] (Or.inr (by simp)) ?_;simp only[zP,Nat.reduceEqDiff,reduceIte];refine gwp_seq_k fun K4 hK4=>?_;refine gS fun K hK=>?_;simp -dsimp;refine callK_intro _ (c_lLessT l' n' (2*i'+2) i' _ _ (by omega) rfl (by omega) (by omega) (by omega)) (by simp) ?_;simp -dsimp;apply hK;clear hK K;refine gwp_cond rfl (fun hc2=>?_) (fun hc2=>?_)
   ·rw[hkid]at i4 i5;simp only[Bool.not_eq_true']at hc2;rw[if_pos (Or.inr hc2)]at i4 i5;have hfin:downL ltF k l i n=l'∧downI k l i n=i':=⟨i4.symm,i5.symm⟩;refine gwp_exit ?_;simp only[zT,reduceIte,Nat.reduceEqDiff];refine hK1 _ _ ?_;refine gwp_prune [0,1,7] (Or.inr (by simp)) ?_;simp only[zP,Nat.reduceEqDiff,reduceIte];refine gS fun K hK=>?_;simp -dsimp;apply hK;clear hK K;exact gwp_ret ⟨[some 0,some 1],rfl,by simp,by simp[hfin.1],by simp,by simp[resP,tupOf,hfin.2]⟩
   ·rw[hkid]at i4 i5;simp only[Bool.not_eq_false']at hc2;rw[hc2,if_neg (by simp;omega)]at i4 i5;refine gwp_skip ?_;simp only[zT,reduceIte,Nat.reduceEqDiff];refine hK4 _ _ ?_;refine gwp_prune [0,1,2,7,9] (Or.inr (by simp)) ?_;simp only[zP,Nat.reduceEqDiff,reduceIte];refine gS fun K hK=>?_;simp -dsimp;refine callK_mut [1] [] [none,some 0] (m_lSwap' l' n' i' (2*i'+2) _ (2*(i':Int)+2) rfl (by omega) (by omega) (by omega) (by omega)) (by decide) rfl (by simp) (by simp) rfl (by simp) ?_;simp -dsimp;apply hK;clear hK K;refine gR fun K hK=>?_;simp -dsimp;apply hK;clear hK K;simp only[zT,reduceIte,Nat.reduceEqDiff];exact⟨(swpG l' i' (2*i'+2),2*i'+2,k'),⟨by rw[swpG_len];exact i1,by show 2*i'+2<n';omega,by show n<2*i'+2+k';omega,i4,i5⟩,by simp,gsub (sub_rb [some 0,some 1] rfl (by simp) (by simp)) (by simp)⟩
  ·have h1:¬(2*i'+2<n∧ltF (gd l' (2*i'+2)) (gd l' (2*i'+1))=true):=by rintro⟨g1,g2⟩;rw[g2]at hc1;simp at hc1;omega
   rw[if_neg h1]at hkid;refine gwp_skip ?_;simp only[zT,reduceIte,Nat.reduceEqDiff];refine hK3 _ _ ?_;refine gwp_prune [0,1,2,7,9] (Or.inr (by simp)) ?_;simp only[zP,Nat.reduceEqDiff,reduceIte];refine gwp_seq_k fun K5 hK5=>?_;refine gS fun K hK=>?_;simp -dsimp;refine callK_intro _ (c_lLessT l' n' (2*i'+1) i' _ _ (by omega) rfl (by omega) (by omega) (by omega)) (by simp) ?_;simp -dsimp;apply hK;clear hK K;refine gwp_cond rfl (fun hc2=>?_) (fun hc2=>?_)
   ·rw[hkid]at i4 i5;simp only[Bool.not_eq_true']at hc2;rw[if_pos (Or.inr hc2)]at i4 i5;have hfin:downL ltF k l i n=l'∧downI k l i n=i':=⟨i4.symm,i5.symm⟩;refine gwp_exit ?_;simp only[zT,reduceIte,Nat.reduceEqDiff];refine hK1 _ _ ?_;refine gwp_prune [0,1,7] (Or.inr (by simp)) ?_;simp only[zP,Nat.reduceEqDiff,reduceIte];refine gS fun K hK=>?_;simp -dsimp;apply hK;clear hK K;exact gwp_ret ⟨[some 0,some 1],rfl,by simp,by simp[hfin.1],by simp,by simp[resP,tupOf,hfin.2]⟩
   ·rw[hkid]at i4 i5;simp only[Bool.not_eq_false']at hc2;rw[hc2,if_neg (by simp;omega)]at i4 i5;refine gwp_skip ?_;simp only[zT,reduceIte,Nat.reduceEqDiff];refine hK5 _ _ ?_;refine gwp_prune [0,1,2,7,9] (Or.inr (by simp)) ?_;simp only[zP,Nat.reduceEqDiff,reduceIte];refine gS fun K hK=>?_;simp -dsimp;refine callK_mut [1] [] [none,some 0] (m_lSwap' l' n' i' (2*i'+1) _ (2*(i':Int)+1) rfl (by omega) (by omega) (by omega) (by omega)) (by decide) rfl (by simp) (by simp) rfl (by simp) ?_;simp -dsimp;apply hK;clear hK K;refine gR fun K hK=>?_;simp -dsimp;apply hK;clear hK K;simp only[zT,reduceIte,Nat.reduceEqDiff];exact⟨(swpG l' i' (2*i'+1),2*i'+1,k'),⟨by rw[swpG_len];exact i1,by show 2*i'+1<n';omega,by show n<2*i'+1+k';omega,i4,i5⟩,by simp,gsub (sub_rb [some 0,some 1] rfl (by simp) (by simp)) (by simp)⟩
end Go.Tram
end
section
namespace Go.Tram
open Go.AM Go.Proofs
abbrev fAV (x:Fnd):AV:= .ifc 196 x.av
abbrev hrow (r n:Nat):Option ARow:=some (.els 1 [[.row r 0 n]])
abbrev frow (l:List Fnd):Option ARow:=some (.els 3 (l.map Fnd.cells))
theorem m_lPush (l:List Fnd) (n:Nat) (x:Fnd) (hn:n≤l.length) (hb:l.length≤900000):
  MutCall Tryz.prog 260 [.ptr 0 0 0,fAV x] [hrow 1 n] [frow l] (.tup []) [hrow 1 (n+1)] [frow (l.take n++[x])]:=by
 have f1:Fits (n+1) 25:=fits_of (by omega) (by omega);refine MutCall.of_bodyG [0] Tryz.func260 rfl (by decide) (by simp[Tryz.ntmps260]) rfl rfl ?_;intro J hJ;simp only[Tryz.ntmps260,Tryz.results260];refine gwp_draw mixed rfl (by decide) rfl rfl fun K hK=>?_;simp -dsimp [f1,hn];refine hK _ _ _ (by decide+kernel) ?_;clear hK K
 try simp only[zT,reduceIte,Nat.reduceEqDiff]
 exact⟨[some 0,some 3],rfl,by simp,by simp,by simp,by simp[resP,tupOf]⟩
theorem m_lPop (l:List Fnd) (n:Nat) (x:Fnd) (h1:1≤n) (hn:n≤l.length) (hb:l.length≤900000) (hx:l[n-1]?=some x):
  MutCall Tryz.prog 259 [.ptr 0 0 0] [hrow 1 n] [frow l] (fAV x) [hrow 1 (n-1)] [frow l]:=by
 have w1:IntKind.i64.wrap ((n:Int)-1)=((n-1:Nat):Int):=by rw[wrap_in (by omega) (by omega)];omega
 have h2:n-1<n:=by omega
 have h3:n-1≤l.length:=by omega
 have h4:n-1≤n:=by omega
 have h5:¬n=0:=by omega
 refine MutCall.of_bodyG [0] Tryz.func259 rfl (by decide) (by simp[Tryz.ntmps259]) rfl rfl ?_;intro J hJ;simp only[Tryz.ntmps259,Tryz.results259];refine gS fun K hK=>?_;simp -dsimp;apply hK;clear hK K;refine gwp_sd mixed rfl (by decide) rfl rfl fun K hK=>?_;simp -dsimp [w1,hx,h2,hn];refine hK _ _ _ (by decide+kernel) ?_;clear hK K;refine gwp_sd mixed rfl (by decide) rfl rfl fun K hK=>?_;simp -dsimp [w1,h2,h3,h4,h5,hn];refine hK _ _ _ (by decide+kernel) ?_;clear hK K;refine gS fun K hK=>?_;simp -dsimp;apply hK;clear hK K;exact gwp_ret ⟨[some 0,some 1],rfl,by simp,by simp,by simp,by simp[resP,tupOf]⟩
theorem m_hPush (l:List Fnd) (n:Nat) (x:Fnd) (hn:n≤l.length) (hb:l.length≤900000):
  MutCall Tryz.prog 46 [qAV,fAV x] [hrow 1 n] [frow l] (.tup []) [hrow 1 (n+1)] [frow (pushL ltF (l.take n) x)]:=by
 have hp:=m_lPush l n x hn hb;have hlen:(l.take n++[x]).length=n+1:=by simp;omega
 have hl:=c_lLenT (l.take n++[x]) (n+1) (by omega);have w1:IntKind.i64.wrap (n:Int)=n:=wrap_in (by omega) (by omega);have hu:=m_up (l.take n++[x]) (n+1) n (n+1) (by omega) (by omega) (by omega) (by omega);have hpu:pushL ltF (l.take n) x=upL ltF (n+1) (l.take n++[x]) n:=by unfold pushL;rw[List.length_take,Nat.min_eq_left hn]
 rw[hpu];generalize l.take n++[x]=l' at hp hl hu hlen ⊢;refine MutCall.of_bodyG [0] Tryz.func46 rfl (by decide) (by simp[Tryz.ntmps46]) rfl rfl ?_;intro J hJ;simp only[Tryz.ntmps46,Tryz.results46];refine gS fun K hK=>?_;simp -dsimp;refine callK_mut [0] [1] [some 0,none,some 1] (hp) (by decide) rfl (by simp) (by simp) rfl (by simp) ?_;simp -dsimp;apply hK;clear hK K;refine gR fun K hK=>?_;simp -dsimp [w1];refine callK_intro _ (hl) (by simp) ?_;simp -dsimp [w1];refine callK_mut [0] [2] [some 0,none,none,some 1] (hu) (by decide) rfl (by simp) (by simp) rfl (by simp) ?_;simp -dsimp [w1];apply hK;clear hK K
 try simp only[zT,reduceIte,Nat.reduceEqDiff]
 exact⟨[some 0,some 3],rfl,by simp,by simp,by simp,by simp[resP,tupOf]⟩
def popE (l:List Fnd) (n:Nat):List Fnd:=downL ltF n (swpG l 0 (n-1)) 0 (n-1)
theorem popE_len (l:List Fnd) (n:Nat):(popE l n).length=l.length:=by unfold popE;rw[downL_len,swpG_len]
theorem m_hPop (l:List Fnd) (n:Nat) (h1:1≤n) (hn:n≤l.length) (hb:l.length≤900000):
  MutCall Tryz.prog 49 [qAV] [hrow 1 n] [frow l] (fAV (gd (popE l n) (n-1))) [hrow 1 (n-1)] [frow (popE l n)]:=by
 have hl:=c_lLenT l n hn;have w1:IntKind.i64.wrap ((n:Int)-1)=((n-1:Nat):Int):=by rw[wrap_in (by omega) (by omega)];omega
 have hs:=m_lSwap' l n 0 (n-1) 0 ((n-1:Nat):Int) rfl rfl (by omega) (by omega) hn;have hsl:=swpG_len l 0 (n-1);obtain⟨b,hd⟩:=m_down (swpG l 0 (n-1)) n (n-1) 0 n (by omega) (by omega) (by omega) (by omega) (by omega);have hp:=m_lPop (popE l n) n (gd (popE l n) (n-1)) h1 (by rw[popE_len];omega) (by rw[popE_len];omega) (getD_at (by rw[popE_len];omega));have he:downL ltF n (swpG l 0 (n-1)) 0 (n-1)=popE l n:=rfl;rw[he]at hd;generalize gd (popE l n) (n-1)=x at hp ⊢;generalize popE l n=l' at hp hd ⊢;generalize swpG l 0 (n-1)=l'' at hs hd ⊢;refine MutCall.of_bodyG [0] Tryz.func49 rfl (by decide) (by simp[Tryz.ntmps49]) rfl rfl ?_;intro J hJ;simp only[Tryz.ntmps49,Tryz.results49];refine gS fun K hK=>?_;simp -dsimp;apply hK;clear hK K;refine gS fun K hK=>?_;simp -dsimp [w1];refine callK_intro _ (hl) (by simp) ?_;simp -dsimp [w1];apply hK;clear hK K;refine gS fun K hK=>?_;simp -dsimp;refine callK_mut [1] [] [none,some 0] (hs) (by decide) rfl (by simp) (by simp) rfl (by simp) ?_;simp -dsimp;apply hK;clear hK K;refine gS fun K hK=>?_;simp -dsimp;refine callK_mut [0] [1] [some 0,none,some 1] (hd) (by decide) rfl (by simp) (by simp) rfl (by simp) ?_;simp -dsimp;apply hK;clear hK K;refine gS fun K hK=>?_;simp -dsimp;refine callK_mut [0] [2] [some 0,none,none,some 1] (hp) (by decide) rfl (by simp) (by simp) rfl (by simp) ?_;simp -dsimp;apply hK;clear hK K;exact gwp_ret ⟨[some 0,some 3],rfl,by simp,by simp,by simp,by simp[resP,tupOf]⟩
theorem m_best (l:List Fnd) (n:Nat) (h1:1≤n) (hn:n≤l.length) (hb:l.length≤900000):
  MutCall Tryz.prog 262 [.ptr 0 0 0] [hrow 1 n] [frow l] (gd (popE l n) (n-1)).av [hrow 1 (n-1)] [frow (popE l n),frow [gd (popE l n) (n-1)]]:=by
 have hp:=m_hPop l n h1 hn hb;generalize gd (popE l n) (n-1)=x at hp ⊢;generalize popE l n=l' at hp ⊢;refine MutCall.of_bodyG [0] Tryz.func262 rfl (by decide) (by simp[Tryz.ntmps262]) rfl rfl ?_;intro J hJ;simp only[Tryz.ntmps262,Tryz.results262];refine gS fun K hK=>?_;simp -dsimp;apply hK;clear hK K;refine gS fun K hK=>?_;simp -dsimp;refine callK_mut [0] [1] [some 0,none,none,some 1] (hp) (by decide) rfl (by simp) (by simp) rfl (by simp) ?_;simp -dsimp;apply hK;clear hK K;exact gwp_ret ⟨[some 0,some 3,some 2],rfl,by simp,by simp,by simp,by simp[resP,tupOf]⟩
end Go.Tram
end
section
namespace Go.Tram
open Go.AM Go.Proofs
theorem flat_cov (l:List Cover):(l.map Cover.cells).all (fun e=>e.all flatC)=true:=by simp[flatC]
@[simp high] theorem flat_cov_ren (l:List Cover) (g:List (Option Nat)) (n:Nat):(l.map Cover.cells).map (fun e=>e.map (renAV g n))=l.map Cover.cells:=map_flatC (fun x h=>flatC_ren h g n) (flat_cov l)
@[simp high] theorem flat_cov_frzP (l:List Cover) (H:Hp) (n:Nat):(l.map Cover.cells).map (fun e=>e.map (frzP H n))=l.map Cover.cells:=map_flatC (fun x h=>flatC_frzP h H n) (flat_cov l)
theorem cov_take (l:List Cover):(l.map Cover.cells).take l.length=l.map Cover.cells:=List.take_of_length_le (by simp)
end Go.Tram
end
section
namespace Go.Tram
open Go.AM Go.Proofs
def nodeAt (p:Plan) (m:Move):Node:=p.node (p.at (arrE m))
def nxK (p:Plan) (m:Move) (k:Nat):List Int:=match (nodeAt p m).Ends[k]? with
 |some e=>if letsB (nodeAt p m) (plc p (arrE m)) k then [numM ⟨e.Rail,e.Last⟩]else []
 |none=>[]
def nxTo (p:Plan) (m:Move) (j:Nat):List Int:=(List.range j).flatMap (nxK p m)
def nextL (p:Plan) (m:Move):List Move:=(srt (nxTo p m (nodeAt p m).Ends.length)).map moveM
theorem nxTo_succ (p:Plan) (m:Move) (j:Nat):nxTo p m (j+1)=nxTo p m j++nxK p m j:=by
 simp only[nxTo,List.range_succ,List.flatMap_append,List.flatMap_cons,List.flatMap_nil,List.append_nil]
theorem nxTo_len (p:Plan) (m:Move) (j:Nat):(nxTo p m j).length≤j:=by
 induction j with
 |zero=>simp[nxTo]
 |succ j ih=>
  rw[nxTo_succ,List.length_append];have:(nxK p m j).length≤1:=by unfold nxK;split<;>(try split)<;>simp
  omega
theorem ends_rail {p:Plan} (hv:validB p=true) {i:Nat} (hi:i<p.Nodes.length) {j:Nat} {e:REnd} (he:(p.node i).Ends[j]?=some e):(0≤e.Rail∧e.Rail<p.Rails.length)∧p.at e=i:=by
 obtain⟨r,hr⟩:=E_prefix hi he;have hE:=(valid_parts hv).2.2.2.2;simp only[validE,Bool.and_eq_true,List.all_eq_true]at hE;have:=hE.1 (i,e) (by rw[hr];simp);simp only[endB,Bool.and_eq_true,decide_eq_true_eq,inr_iff]at this;exact⟨by omega,this.2⟩
theorem at_in {p:Plan} (hv:validB p=true) {e:REnd} (h0:0≤e.Rail) (h1:e.Rail<p.Rails.length):0≤p.at e∧p.at e<p.Nodes.length:=by
 have ro:=rail_ok hv h0 h1;unfold Plan.at
 split
 ·exact ro.t
 ·exact ro.f
theorem movB_iff {p:Plan} {m:Move}:movB p m=true↔0≤m.Rail∧m.Rail<p.Rails.length:=by
 unfold movB;rw[inr_iff];omega
theorem nx_bound {p:Plan} (hv:validB p=true) {m:Move} (hm:movB p m=true):∀j,∀k∈nxTo p m j,0≤k∧k≤100000∧movB p (moveM k)=true:=by
 have hm':=movB_iff.1 hm;have ha:=at_in hv (e:=arrE m) hm'.1 hm'.2;have hR:=(valid_parts hv).2.1;intro j k hk;simp only[nxTo,List.mem_flatMap,List.mem_range]at hk;obtain⟨i,hi,hk⟩:=hk;unfold nxK at hk
 split at hk
 ·rename_i e he
  split at hk
  ·obtain rfl:k=numM ⟨e.Rail,e.Last⟩:=by simpa using hk
   have hn:nodeAt p m=p.node ((p.at (arrE m)).toNat:Nat):=by unfold nodeAt;rw[show(((p.at (arrE m)).toNat:Nat):Int)=p.at (arrE m)by omega]
   rw[hn]at he;have:=ends_rail hv (i:=(p.at (arrE m)).toNat) (by omega) he;rw[movB_iff];simp only[numM,moveM]
   split<;>omega
  ·simp at hk
 ·simp at hk
theorem ins_mem' {l:List Int}:∀{z:Int},z∈srt l↔z∈l:=by
 have gen:∀(l s:List Int) (z:Int),z∈l.foldl (fun s x=>ins x s) s↔z∈s∨z∈l:=by
  intro l
  induction l with
  |nil=>simp
  |cons x l ih=>
   intro s z;rw[List.foldl_cons,ih,ins_mem];simp only[List.mem_cons];constructor
   ·rintro((h|h)|h)<;>simp[h]
   ·rintro(h|h|h)<;>simp[h]
 intro z;have:=gen l [] z;simpa [srt]using this
theorem c_next1 (p:Plan) (m:Move) (hv:validB p=true) (hm:movB p m=true):IterCall Tryz.prog 86 [.iptr [.iptr (net p)], .iptr m.cells] ((nextL p m).map fun k=>[k.av]):=by
 have hm':=movB_iff.1 hm;have ha:=at_in hv (e:=arrE m) hm'.1 hm'.2;have hnode:=p.node_get ha.1 ha.2;have hnf:=node_kind (node_fine hv ha.1 ha.2);have hb:=nx_bound hv hm;have hplc:=plc_val hv (arrE m);have hcar:=c_arrives m;have hce:=c_ending p (arrE m) hm'.1 hm'.2;have hna:p.node (p.at (arrE m))=nodeAt p m:=rfl;have hno:∀(j:Nat) (e:REnd),(nodeAt p m).Ends[j]?=some e→(0≤e.Rail∧e.Rail<p.Rails.length):=by
  intro j e he;have hn:nodeAt p m=p.node ((p.at (arrE m)).toNat:Nat):=by unfold nodeAt;rw[show(((p.at (arrE m)).toNat:Nat):Int)=p.at (arrE m)by omega]
  rw[hn]at he;exact(ends_rail hv (i:=(p.at (arrE m)).toNat) (by omega) he).1
 have hR:=(valid_parts hv).2.1;have hxk:∀(j:Nat) (e:REnd),(nodeAt p m).Ends[j]?=some e→nxK p m j=if letsB (nodeAt p m) (plc p (arrE m)) j then [numM ⟨e.Rail,e.Last⟩]else []:=by intro j e he;unfold nxK;rw[he]
 have hnl:nextL p m=(srt (nxTo p m (nodeAt p m).Ends.length)).map moveM:=rfl;rw[hna]at hnode hnf;generalize nodeAt p m=n at hnode hnf hno hxk hnl;unfold net;refine IterCallW.of_body Tryz.func86 rfl (by decide) (by simp[Tryz.ntmps86]) (by simp[Tryz.ntmps86]) (by simp[Tryz.results86]) ?_;intro J l hmk hY;simp only[Tryz.ntmps86,Tryz.results86];refine gwp_sd mixed rfl (by decide) rfl rfl fun K hK=>?_;simp -dsimp [hnode,ha.1];refine callK_intro _ (hcar) (by simp) ?_;simp -dsimp [hnode,ha.1];refine callK_intro _ (hce) (by simp) ?_;simp -dsimp [hnode,ha.1];refine hK _ _ _ (by decide+kernel) ?_;clear hK K;refine gS fun K hK=>?_;simp -dsimp;apply hK;clear hK K;refine gwp_seq_k fun K1 hK1=>?_;refine gS fun K hK=>?_;simp -dsimp;apply hK;clear hK K;refine gwp_block ?_;refine gwp_prune [0,1,2,4,5,25,26,27,999999] (Or.inl (by decide)) ?_;simp only[zP,Nat.reduceEqDiff,reduceIte];refine gwp_loop_l [0,1,2,4,25,26] (α:=Nat) (fun j=>[(27,I j),(5, .row 1 0 (nxTo p m j).length),(999999,cntV 0)]) (fun j=>[some (.els 5 [n.cells]),some (.els 1 ((nxTo p m j).map nCell))]) (fun j=>j≤n.Ends.length) (fun j=>n.Ends.length-j) 0 ?_ ?_ ?_
 ·simp
 ·exact gsub ((sub_nil 5 1 (by simp)).trans (sub_rb [some 0,some 1] rfl (by simp[nxTo]) (by simp[nxTo]))) (by simp)
 rintro j j1;have hsu:=nxTo_succ p m j;have hlj:=nxTo_len p m j;have hbj:=hb j;simp only[zP,Nat.reduceEqDiff,reduceIte];refine gS fun K hK=>?_;simp -dsimp;apply hK;clear hK K;refine gwp_seq_k fun K2 hK2=>?_;refine gwp_cond rfl (fun hc0=>?_) (fun hc0=>?_)
 ·skip
  try simp at hc0
  obtain⟨e,he⟩:∃e,n.Ends[j]?=some e:=⟨_,List.getElem?_eq_getElem hc0⟩;have wj:=zW j (by omega);have her:=hno j e he;rw[hxk j e he]at hsu;generalize hA:nxTo p m j=A at hsu hlj hbj ⊢;have f1:Fits (A.length+1) 9:=fits_of (by omega) (by omega);have hot:(A.map nCell).take A.length=A.map nCell:=List.take_of_length_le (by simp);refine gwp_skip ?_;simp only[zT,reduceIte,Nat.reduceEqDiff];refine hK2 _ _ ?_;refine gwp_prune [0,1,2,4,5,25,26,27,999999] (Or.inl (by decide)) ?_;simp only[zP,Nat.reduceEqDiff,reduceIte];refine gwp_seq_k fun K3 hK3=>?_;refine gwp_block ?_;refine gS fun K hK=>?_;simp -dsimp [he];apply hK;clear hK K;refine gwp_sd mixed rfl (by decide) rfl rfl fun K hK=>?_;simp -dsimp;refine callK_intro _ (hcar) (by simp) ?_;simp -dsimp;refine valK_intro (I (plc p (arrE m))) (fun hm=>congrArg AV.v hplc.1) ?_;simp -dsimp;refine callK_intro _ (c_lets n (plc p (arrE m)) j ⟨hplc.2.1,hplc.2.2⟩ ⟨by omega,by omega⟩ hnf.1) (by simp) ?_;simp -dsimp;refine hK _ _ _ (by decide+kernel) ?_;clear hK K;refine gwp_cond rfl (fun hc1=>?_) (fun hc1=>?_)
  ·rw[hc1,if_pos rfl]at hsu;refine gR fun K hK=>?_;simp -dsimp [f1];refine callK_intro _ (c_number ⟨e.Rail,e.Last⟩ her.1 (by have:=her.2;show e.Rail≤100000;omega)) (by simp) ?_;simp -dsimp [f1];apply hK;clear hK K;simp only[zT,reduceIte,Nat.reduceEqDiff];refine hK3 _ _ ?_;refine gwp_prune [0,1,2,4,5,25,26,27,999999] (Or.inl (by decide)) ?_;simp only[zP,Nat.reduceEqDiff,reduceIte];refine gR fun K hK=>?_;simp -dsimp [wj];apply hK;clear hK K;simp only[zT,reduceIte,Nat.reduceEqDiff];exact⟨j+1,by omega,by omega,gsub (sub_rb [some 0,some 3] rfl (by simp[hsu]) (by simp[hsu,hot])) (by simp)⟩
  ·rw[hc1,if_neg (by simp)]at hsu;refine gwp_skip ?_;simp only[zT,reduceIte,Nat.reduceEqDiff];refine hK3 _ _ ?_;refine gwp_prune [0,1,2,4,5,25,26,27,999999] (Or.inl (by decide)) ?_;simp only[zP,Nat.reduceEqDiff,reduceIte];refine gR fun K hK=>?_;simp -dsimp [wj];apply hK;clear hK K;simp only[zT,reduceIte,Nat.reduceEqDiff];exact⟨j+1,by omega,by omega,gsub (sub_rb [some 0,some 1] rfl (by simp[hsu]) (by simp[hsu])) (by simp)⟩
 ·skip
  try simp at hc0
  have hje:j=n.Ends.length:=by omega
  subst hje;generalize hA:nxTo p m n.Ends.length=A at hlj hbj hnl ⊢;refine gwp_exit ?_;simp only[zT,reduceIte,Nat.reduceEqDiff];refine hK1 _ _ ?_;refine gwp_prune [0,5,999999] (Or.inl (by decide)) ?_;simp only[zP,Nat.reduceEqDiff,reduceIte]
  rcases Decidable.em (A=[])with rfl|hA0
  ·refine gS fun K hK=>?_;simp -dsimp;refine callK_intro _ (c_Sort0) (by simp) ?_;simp -dsimp;apply hK;clear hK K;refine gS fun K hK=>?_;simp -dsimp;apply hK;clear hK K;refine gwp_block ?_;refine gwp_prune [0,55,56,57,999999] (Or.inl (by decide)) ?_;simp only[zP,Nat.reduceEqDiff,reduceIte];refine gwp_loop_l [0,55,56] (α:=Nat) (fun i=>[(57,I i),(999999,cntV i)]) (fun i=>[some (.els 5 [n.cells]),some (.els 1 [])]) (fun i=>i≤0) (fun i=>0) 0 ?_ ?_ ?_
   ·simp
   ·exact gsub (sub_same (by simp)) (by simp)
   rintro i i1;simp only[zP,Nat.reduceEqDiff,reduceIte];refine gS fun K hK=>?_;simp -dsimp;apply hK;clear hK K;refine gwp_seq_k fun K4 hK4=>?_;refine gwp_cond rfl (fun hc2=>?_) (fun hc2=>?_)
   ·simp at hc2;omega
   ·refine gwp_exit ?_
    try simp only[zT,reduceIte,Nat.reduceEqDiff]
    have hi0:i=0:=by omega
    simp[hnl,srt,hi0]
  ·refine gS fun K hK=>?_;simp -dsimp;refine callK_mut [1] [] [none,some 0] (m_Sort A (List.length_pos_iff.2 hA0) (by omega)) (by decide) rfl (by simp) (by simp) rfl (by simp) ?_;simp -dsimp;apply hK;clear hK K;refine gS fun K hK=>?_;simp -dsimp;apply hK;clear hK K;refine gwp_block ?_;refine gwp_prune [0,55,56,57,999999] (Or.inl (by decide)) ?_;simp only[zP,Nat.reduceEqDiff,reduceIte];refine gwp_loop_l [0,55,56] (α:=Nat) (fun i=>[(57,I i),(999999,cntV i)]) (fun i=>[some (.els 5 [n.cells]),some (.els 1 ((srt A).map nCell))]) (fun i=>i≤(srt A).length) (fun i=>(srt A).length-i) 0 ?_ ?_ ?_
   ·simp
   ·exact gsub (sub_same (by simp)) (by simp)
   rintro i i1;simp only[zP,Nat.reduceEqDiff,reduceIte];refine gS fun K hK=>?_;simp -dsimp;apply hK;clear hK K;refine gwp_seq_k fun K5 hK5=>?_;refine gwp_cond rfl (fun hc2=>?_) (fun hc2=>?_)
   ·have hsl:=srt_len A;obtain⟨k,hk⟩:∃k,(srt A)[i]?=some k:=⟨_,List.getElem?_eq_getElem (by simpa [hsl]using hc2)⟩;have hkb:=hbj k (ins_mem'.1 (List.mem_of_getElem? hk));have wi:=zW i (by omega);have hiA:i<A.length:=by simpa using hc2
    refine gwp_skip ?_;simp only[zT,reduceIte,Nat.reduceEqDiff];refine hK5 _ _ ?_;refine gwp_prune [0,55,56,57,999999] (Or.inl (by decide)) ?_;simp only[zP,Nat.reduceEqDiff,reduceIte];refine gwp_seq_k fun K6 hK6=>?_;refine gwp_block ?_;refine gS fun K hK=>?_;simp -dsimp [hk];refine⟨hiA,?_⟩;apply hK;clear hK K;refine gwp_sy hmk hY rfl (by decide) rfl rfl fun K hK=>?_;simp -dsimp;refine callK_intro _ (c_move k hkb.1 (by omega)) (by simp) ?_;simp -dsimp;refine yK_intro (by rw[hnl,List.getElem?_map,List.getElem?_map,hk];rfl) ?_ ?_
    ·apply hK;clear hK K;refine gwp_cond rfl (fun hc3=>?_) (fun hc3=>?_)
     ·simp at hc3
     ·refine gwp_skip ?_;simp only[zT,reduceIte,Nat.reduceEqDiff];refine hK6 _ _ ?_;refine gwp_prune [0,55,56,57,999999] (Or.inl (by decide)) ?_;simp only[zP,Nat.reduceEqDiff,reduceIte];refine gR fun K hK=>?_;simp -dsimp [wi];apply hK;clear hK K;simp only[zT,reduceIte,Nat.reduceEqDiff];exact⟨i+1,by omega,by omega,gsub (sub_rb [some 0,some 1] rfl (by simp) (by simp)) (by simp)⟩
    ·apply hK;clear hK K;refine gwp_cond rfl (fun hc3=>?_) (fun hc3=>?_)
     ·exact gwp_ret (by simp)
     ·simp at hc3
   ·refine gwp_exit ?_
    try simp only[zT,reduceIte,Nat.reduceEqDiff]
    have hie:i=A.length:=by have:=srt_len A;simp at hc2;omega
    simp[hnl,srt_len,hie]
def follB (p:Plan) (m k:Move):Bool:=(nextL p m).any fun x=>decide (x=k)
theorem c_follows (p:Plan) (m k:Move) (hv:validB p=true) (hm:movB p m=true):PureCall Tryz.prog 80 [.iptr (net p),m.av,k.av] (Bo (follB p m k)):=by
 have hit:=c_next1 p m hv hm;have hnx:=c_tnext p m;generalize net p=sh at hit hnx;refine PureCall.of_bodyG Tryz.func80 rfl (by decide) (by simp[Tryz.ntmps80]) ?_;intro J hJ;simp only[Tryz.ntmps80,Tryz.results80];refine gS fun K hK=>?_;simp -dsimp;apply hK;clear hK K;refine gwp_seq_k fun K1 hK1=>?_;refine gS fun K hK=>?_;simp -dsimp;refine callK_intro _ (hnx) (by simp) ?_;simp -dsimp;apply hK;clear hK K;refine gwp_block ?_;refine gwp_prune [5,6,10] (Or.inr (by simp)) ?_;simp only[zP,Nat.reduceEqDiff,reduceIte];refine gwp_range_s hJ [5,6,10] (fun _=>[some (.els 2 [m.cells]),some (.els 2 [k.cells]),some (.els 1 [[Bo false]])]) (fun n=>((nextL p m).take n).any (fun x=>decide (x=k))=false) rfl (hit) rfl (by simp) (by decide) (by decide) (by decide) (by intro z hz;obtain⟨q,_,rfl⟩:=List.mem_map.1 hz;rfl) ?_ ?_ ?_ ?_
 ·trivial
 ·exact sub_same (by simp)
 ·intro n xv hxn hi l1 J1 hJ1;obtain⟨q,hq,rfl⟩:∃q,(nextL p m)[n]?=some q∧[q.av]=xv:=by simpa using hxn
  simp only[List.zip_cons_cons,List.zip_nil_left,List.zip_nil_right,List.cons_append,List.nil_append];refine gR fun K hK=>?_;simp -dsimp;apply hK;clear hK K;simp only[onlyN];intro J2 hJ2;refine gwp_prune [5,6,7,10] (Or.inr (by simp)) ?_;simp only[zP,Nat.reduceEqDiff,reduceIte];refine gwp_block ?_;refine gS fun K hK=>?_;simp -dsimp;apply hK;clear hK K;refine gwp_cond rfl (fun hc0=>?_) (fun hc0=>?_)
  ·have hqe:q=k:=by simp at hc0;cases q;cases k;simp_all
   have hany:(nextL p m).any (fun x=>decide (x=k))=true:=List.any_eq_true.2 ⟨q,List.mem_of_getElem? hq,by simpa using hqe⟩;refine gS fun K hK=>?_;simp -dsimp;apply hK;clear hK K;exact gwp_ret ⟨[some (.els 2 [m.cells]),some (.els 2 [k.cells]),some (.els 1 [[Bo true]])],sub_rb [some 0,some 1,some 2] rfl (by simp) (by simp),by simp[follB,hany]⟩
  ·have hne:decide (q=k)=false:=by rw[decide_eq_false_iff_not];rintro rfl;simp at hc0
   refine gwp_skip ?_;simp only[thenA,inBlockA,roundQ,reduceIte,Nat.reduceEqDiff,eq_self];refine⟨?_,sub_rb [some 0,some 1,some 2] rfl (by simp) (by simp)⟩;rw[List.take_add_one,List.any_append,hi,hq];simp[hne]
 ·intro hdone;simp only[zT,reduceIte,Nat.reduceEqDiff];refine hK1 _ _ ?_;refine gwp_prune [6] (Or.inr (by simp)) ?_;simp only[zP,Nat.reduceEqDiff,reduceIte];refine gS fun K hK=>?_;simp -dsimp;apply hK;clear hK K;refine gwp_ret ?_;rw[List.take_of_length_le (by simp)]at hdone;simp[follB,hdone]
def stepB (p:Plan) (l:List Move) (i:Nat):Bool:=movB p (l[i]?.getD default)&&(decide (i=0)||follB p (l[i-1]?.getD default) (l[i]?.getD default))
def wayB (p:Plan) (l:List Move):Bool:=(List.range l.length).all (stepB p l)&&inr l.length 1 2000
theorem allR_succ (f:Nat→Bool) (n:Nat):(List.range (n+1)).all f=((List.range n).all f&&f n):=by
 rw[List.range_succ,List.all_append];simp
theorem allR_at {f:Nat→Bool} {n k:Nat} (h:(List.range n).all f=true) (hk:k<n):f k=true:=List.all_eq_true.1 h k (List.mem_range.2 hk)
theorem step_neg (a f:Bool) (i:Nat):(!a||(decide (0<i)&& !f))= !(a&&(decide (i=0)||f)):=by cases a<;>cases f<;>by_cases h:i=0<;>simp[h]<;>omega
theorem c_way (p:Plan) (l:List Move) (hv:validB p=true) (hn:l.length≤100000):PureCall Tryz.prog 82 [.iptr (net p), .lst 2 (l.map Move.cells)] (Bo (wayB p l)):=by
 have hhas:=fun r b=>c_nhas p r b hv;have hfol:=fun m k=>c_follows p m k hv;generalize net p=sh at hhas hfol;refine PureCall.of_body Tryz.func82 rfl (by decide) (by simp[Tryz.ntmps82]) ?_;simp only[Tryz.ntmps82,Tryz.results82];refine aS fun K hK=>?_;simp -dsimp;apply hK;clear hK K;refine awp_seq_k fun K1 hK1=>?_;refine aS fun K hK=>?_;simp -dsimp;apply hK;clear hK K;refine awp_block ?_;refine awp_prune [0,1,7,8,9] ?_;simp only[zP,Nat.reduceEqDiff,reduceIte];refine awp_loop_l [0,1,7,8] (α:=Nat) (fun i=>[(9,I i)]) (fun i=>[]) (fun i=>i≤l.length∧(List.range i).all (stepB p l)=true) (fun i=>l.length-i) 0 ?_ ?_ ?_
 ·simp
 ·exact sub_same (by simp)
 rintro i ⟨i1,i2⟩;simp only[zP,Nat.reduceEqDiff,reduceIte];refine aS fun K hK=>?_;simp -dsimp;apply hK;clear hK K;refine awp_seq_k fun K2 hK2=>?_;refine awp_cond rfl (fun hc0=>?_) (fun hc0=>?_)
 ·skip
  try simp at hc0
  obtain⟨m,hgm⟩:∃m,l[i]?=some m:=⟨_,List.getElem?_eq_getElem hc0⟩;have wi:=zW i (by omega);have w1:IntKind.i64.wrap ((i:Int)-1)=(i:Int)-1:=wrap_in (by omega) (by omega);have hprev:0<i→l[i-1]?=some (l[i-1]?.getD default):=fun h=>by rw[List.getElem?_eq_getElem (by omega)];rfl
  have hpm:0<i→movB p (l[i-1]?.getD default)=true:=fun h=>(Bool.and_eq_true_iff.1 (allR_at i2 (show i-1<i by omega))).1;have hst:stepB p l i=(movB p m&&(decide (i=0)||follB p (l[i-1]?.getD default) m)):=by unfold stepB;rw[hgm];rfl
  generalize l[i-1]?.getD default=m' at hprev hpm hst;have hmv:movB p m=inr m.Rail 0 (p.Rails.length-1):=rfl;refine awp_skip ?_;simp only[zT,reduceIte,Nat.reduceEqDiff];refine hK2 _ _ ?_;refine awp_prune [0,1,7,8,9] ?_;simp only[zP,Nat.reduceEqDiff,reduceIte];refine awp_seq_k fun K3 hK3=>?_;refine awp_block ?_;refine aS fun K hK=>?_;simp -dsimp [hgm];apply hK;clear hK K;refine awp_sd mixed rfl fun K hK=>?_;simp -dsimp [w1];refine callK_intro _ (hhas m.Rail m.Back) (by simp) ?_;simp -dsimp [w1];refine⟨fun _ h=>by omega,?_⟩
  try simp -dsimp
  refine idxK_intro m'.cells (fun hq=>by simp at hq;rw[List.getElem?_map,hprev hq.2];rfl) ?_;simp -dsimp [w1];refine callK_may _ (fun hm=>(hfol m' m (hpm (by simp at hm;exact hm.2)))) (by simp) ?_;simp -dsimp [w1];refine hK _ _ _ (by decide+kernel) ?_;clear hK K;refine awp_cond rfl (fun hc1=>?_) (fun hc1=>?_)
  ·rw[step_neg,←hmv,←hst]at hc1;have hsf:stepB p l i=false:=by simpa using hc1
   have hb:wayB p l=false:=by unfold wayB;rw[show(List.range l.length).all (stepB p l)=false from by rw[List.all_eq_false];exact⟨i,List.mem_range.2 hc0,by simp[hsf]⟩];rfl
   refine aS fun K hK=>?_;simp -dsimp;apply hK;clear hK K;exact awp_ret (by simp[hb])
  ·rw[step_neg,←hmv,←hst]at hc1;have hst1:stepB p l i=true:=by simpa using hc1
   refine awp_skip ?_;simp only[zT,reduceIte,Nat.reduceEqDiff];refine hK3 _ _ ?_;refine awp_prune [0,1,7,8,9] ?_;simp only[zP,Nat.reduceEqDiff,reduceIte];refine aR fun K hK=>?_;simp -dsimp [wi];apply hK;clear hK K;simp only[zT,reduceIte,Nat.reduceEqDiff];exact⟨i+1,⟨by omega,by rw[allR_succ,i2,hst1];rfl⟩,by omega,sub_rb [] rfl (by simp) (by simp)⟩
 ·skip
  try simp at hc0
  have hie:i=l.length:=by omega
  subst hie;refine awp_exit ?_;simp only[zT,reduceIte,Nat.reduceEqDiff];refine hK1 _ _ ?_;refine awp_prune [1] ?_;simp only[zP,Nat.reduceEqDiff,reduceIte];refine aS fun K hK=>?_;simp -dsimp;refine callK_intro _ (c_within l.length 1 2000) (by simp) ?_;simp -dsimp;apply hK;clear hK K;exact awp_ret (by simp[wayB,i2])
end Go.Tram
end
section
namespace Go.Tram
open Go.AM Go.Proofs
theorem filter_at (f:Nat→Bool) {n j:Nat} (h:j<n) (hf:f j=true):((List.range n).filter f)[((List.range j).filter f).length]?=some j:=by
 obtain⟨m,rfl⟩:∃m,n=j+(m+1):=⟨n-j-1,by omega⟩;rw[List.range_add,List.filter_append,List.getElem?_append_right (Nat.le_refl _),Nat.sub_self,List.range_succ_eq_map];simp[hf]
def befB (p:Plan) (x:Int) (k:Nat):Bool:=follB p (moveM k) (moveM x)
def befN (p:Plan) (x:Int) (j:Nat):List Nat:=(List.range j).filter (befB p x)
def befL (p:Plan) (x:Int):List Nat:=befN p x (2*p.Rails.length)
@[simp] theorem befN_zero (p:Plan) (x:Int):befN p x 0=[]:=rfl
theorem befN_succ (p:Plan) (x:Int) (j:Nat):befN p x (j+1)=befN p x j++if befB p x j then [j]else []:=by
 unfold befN;rw[List.range_succ,List.filter_append]
 cases h:befB p x j<;>simp[h]
theorem befN_len (p:Plan) (x:Int) (j:Nat):(befN p x j).length≤j:=by
 unfold befN;have:=List.length_filter_le (befB p x) (List.range j);simpa using this
theorem moveM_ok {p:Plan} {j:Nat} (h:j<2*p.Rails.length):movB p (moveM j)=true:=by
 rw[movB_iff];simp only[moveM];omega
theorem c_before1 (p:Plan) (x:Int) (hv:validB p=true) (h0:0≤x) (h1:x≤100000):IterCall Tryz.prog 127 [.iptr [.iptr (net p)], .iptr [I x]] ((befL p x).map fun(k:Nat)=>[I k]):=by
 have hfol:=fun m k=>c_follows p m k hv;have hR:=(valid_parts hv).2.1;have w0:IntKind.i64.wrap (2*(p.Rails.length:Int))=2*(p.Rails.length:Int):=wrap_in (by omega) (by omega);unfold net at hfol ⊢;refine IterCallW.of_body Tryz.func127 rfl (by decide) (by simp[Tryz.ntmps127]) (by simp[Tryz.ntmps127]) (by simp[Tryz.results127]) ?_;intro J l hmk hY;simp only[Tryz.ntmps127,Tryz.results127];refine gS fun K hK=>?_;simp -dsimp [w0];apply hK;clear hK K;refine gwp_block ?_;refine gwp_prune [0,1,2,11,12,999999] (Or.inl (by decide)) ?_;simp only[zP,Nat.reduceEqDiff,reduceIte];refine gwp_loop_l [0,1,2,11] (α:=Nat) (fun j=>[(12,I j),(999999,cntV (befN p x j).length)]) (fun j=>[]) (fun j=>j≤2*p.Rails.length) (fun j=>2*p.Rails.length-j) 0 ?_ ?_ ?_
 ·simp
 ·exact gsub (sub_same (by simp)) (by simp)
 rintro j j1;have hsu:=befN_succ p x j;have hlj:=befN_len p x j;have wj:=zW j (by omega);simp only[zP,Nat.reduceEqDiff,reduceIte];refine gS fun K hK=>?_;simp -dsimp;apply hK;clear hK K;refine gwp_seq_k fun K1 hK1=>?_;refine gwp_cond rfl (fun hc0=>?_) (fun hc0=>?_)
 ·skip
  try simp at hc0
  have hj:j<2*p.Rails.length:=by omega
  refine gwp_skip ?_;simp only[zT,reduceIte,Nat.reduceEqDiff];refine hK1 _ _ ?_;refine gwp_prune [0,1,2,11,12,999999] (Or.inl (by decide)) ?_;simp only[zP,Nat.reduceEqDiff,reduceIte];refine gwp_seq_k fun K2 hK2=>?_;refine gwp_block ?_;refine gS fun K hK=>?_;simp -dsimp;apply hK;clear hK K;have hat:befB p x j=true→(befL p x)[(befN p x j).length]?=some j:=fun h=>filter_at (befB p x) hj h;have hfj:=hfol (moveM j) (moveM x) (moveM_ok hj);have hbj:befB p x j=follB p (moveM j) (moveM x):=rfl
  rcases Bool.eq_false_or_eq_true (follB p (moveM j) (moveM x))with hf|hf<;>rw[hf]at hfj hbj<;>rw[hbj]at hsu
  ·refine gwp_sdy 9 mixed hmk hY rfl (by decide) rfl rfl rfl (by decide+kernel) fun K hK K1 hK1=>?_;simp -dsimp;refine callK_intro _ (c_move j (by omega) (by omega)) (by simp) ?_;simp -dsimp;refine callK_intro _ (c_move x h0 (by omega)) (by simp) ?_;simp -dsimp;refine callK_intro _ (hfj) (by simp) ?_;simp -dsimp;refine hK1 _ _ _ (by decide+kernel) ?_;clear hK1 K1;simp -dsimp;refine yK_intro (by rw[List.getElem?_map,hat hbj];rfl) ?_ ?_
   ·apply hK;clear hK K;refine gwp_cond rfl (fun hc1=>?_) (fun hc1=>?_)
    ·simp at hc1
    ·refine gwp_skip ?_;simp only[zT,reduceIte,Nat.reduceEqDiff];refine hK2 _ _ ?_;refine gwp_prune [0,1,2,11,12,999999] (Or.inl (by decide)) ?_;simp only[zP,Nat.reduceEqDiff,reduceIte];refine gR fun K hK=>?_;simp -dsimp [wj];apply hK;clear hK K;simp only[zT,reduceIte,Nat.reduceEqDiff];exact⟨j+1,by omega,by omega,gsub (sub_rb [] rfl (by simp[hsu]) (by simp[hsu])) (by simp[hsu])⟩
   ·apply hK;clear hK K;refine gwp_cond rfl (fun hc1=>?_) (fun hc1=>?_)
    ·exact gwp_ret (by simp)
    ·simp at hc1
  ·refine gwp_sdy 9 mixed hmk hY rfl (by decide) rfl rfl rfl (by decide+kernel) fun K hK K1 hK1=>?_;simp -dsimp;refine callK_intro _ (c_move j (by omega) (by omega)) (by simp) ?_;simp -dsimp;refine callK_intro _ (c_move x h0 (by omega)) (by simp) ?_;simp -dsimp;refine callK_intro _ (hfj) (by simp) ?_;simp -dsimp;refine hK1 _ _ _ (by decide+kernel) ?_;clear hK1 K1;simp -dsimp;apply hK;clear hK K;refine gwp_cond rfl (fun hc1=>?_) (fun hc1=>?_)
   ·simp at hc1
   ·refine gwp_skip ?_;simp only[zT,reduceIte,Nat.reduceEqDiff];refine hK2 _ _ ?_;refine gwp_prune [0,1,2,11,12,999999] (Or.inl (by decide)) ?_;simp only[zP,Nat.reduceEqDiff,reduceIte];refine gR fun K hK=>?_;simp -dsimp [wj];apply hK;clear hK K;simp only[zT,reduceIte,Nat.reduceEqDiff];exact⟨j+1,by omega,by omega,gsub (sub_rb [] rfl (by simp[hsu]) (by simp[hsu])) (by simp[hsu])⟩
 ·skip
  try simp at hc0
  have hje:j=2*p.Rails.length:=by omega
  subst hje;refine gwp_exit ?_
  try simp only[zT,reduceIte,Nat.reduceEqDiff]
  simp[befL]
end Go.Tram
end
section
namespace Go.Tram
open Go.AM Go.Proofs
def mvAt (l:List Move) (i:Nat):Move:=l[i]?.getD default
def begTo (p:Plan) (l:List Move):Nat→Int
 |0=>0
 |i+1=>begTo p l i+p.len (mvAt l i).Rail
def cvF (front long beg:Int):Int:=if front-long-beg<0 then 0 else front-long-beg
def cvT (front beg L:Int):Int:=if L<front-beg then L else front-beg
def cvStep (p:Plan) (front long beg:Int) (m:Move):List Cover:=
 if cvT front beg (p.len m.Rail)≤cvF front long beg then []
 else if m.Back then [⟨m.Rail,p.len m.Rail-cvT front beg (p.len m.Rail),p.len m.Rail-cvF front long beg⟩]else [⟨m.Rail,cvF front long beg,cvT front beg (p.len m.Rail)⟩]
def cvTo (p:Plan) (l:List Move) (front long:Int) (n:Nat):List Cover:=(List.range n).flatMap fun i=>cvStep p front long (begTo p l i) (mvAt l i)
theorem cvTo_succ (p:Plan) (l:List Move) (front long:Int) (n:Nat):cvTo p l front long (n+1)=cvTo p l front long n++cvStep p front long (begTo p l n) (mvAt l n):=by
 simp only[cvTo,List.range_succ,List.flatMap_append,List.flatMap_cons,List.flatMap_nil,List.append_nil]
theorem cvTo_len (p:Plan) (l:List Move) (front long:Int) (n:Nat):(cvTo p l front long n).length≤n:=by
 induction n with
 |zero=>simp[cvTo]
 |succ n ih=>
  rw[cvTo_succ,List.length_append];have:(cvStep p front long (begTo p l n) (mvAt l n)).length≤1:=by unfold cvStep;split<;>(try split)<;>simp
  omega
theorem len_bd {p:Plan} (hv:validB p=true) {r:Int} (h0:0≤r) (h1:r<p.Rails.length):1≤p.len r∧p.len r≤31000000:=by
 have ro:=rail_ok hv h0 h1;have hl:=ro.len;have hs:=ro.s;have h:=sumTo_bd ro ((p.rail r).Shape.length+1) (by omega);unfold Plan.len;omega
theorem way_mov {p:Plan} {l:List Move} (h:wayB p l=true):∀i,i<l.length→movB p (mvAt l i)=true:=by
 intro i hi;have:=(Bool.and_eq_true_iff.1 h).1;exact(Bool.and_eq_true_iff.1 (allR_at this hi)).1
theorem way_len {p:Plan} {l:List Move} (h:wayB p l=true):1≤l.length∧l.length≤2000:=by
 have:=inr_iff.1 (Bool.and_eq_true_iff.1 h).2;omega
theorem begTo_bd {p:Plan} {l:List Move} (hv:validB p=true) (h:wayB p l=true):∀i,i≤l.length→0≤begTo p l i∧begTo p l i≤31000000*i
 |0,_=>by simp[begTo]
 |i+1,hi=>by
  have h1:=begTo_bd hv h i (by omega);have h2:=movB_iff.1 (way_mov h i (by omega));have h3:=len_bd hv h2.1 h2.2;simp only[begTo];omega
theorem c_wayLength (p:Plan) (l:List Move) (hv:validB p=true) (hw:wayB p l=true):PureCall Tryz.prog 47 [.iptr (net p), .lst 2 (l.map Move.cells)] (I (begTo p l l.length)):=by
 have hl:=way_len hw;unfold net;refine PureCall.of_body Tryz.func47 rfl (by decide) (by simp[Tryz.ntmps47]) ?_;simp only[Tryz.ntmps47,Tryz.results47];refine aS fun K hK=>?_;simp -dsimp;apply hK;clear hK K;refine aS fun K hK=>?_;simp -dsimp;apply hK;clear hK K;refine awp_seq_k fun K1 hK1=>?_;refine aS fun K hK=>?_;simp -dsimp;apply hK;clear hK K;refine awp_block ?_;refine awp_prune [0,5,8,9,10] ?_;simp only[zP,Nat.reduceEqDiff,reduceIte];refine awp_loop_l [0,8,9] (α:=Nat) (fun i=>[(10,I i),(5,I (begTo p l i))]) (fun i=>[]) (fun i=>i≤l.length) (fun i=>l.length-i) 0 ?_ ?_ ?_
 ·simp
 ·exact sub_same (by simp[begTo])
 rintro i i1;simp only[zP,Nat.reduceEqDiff,reduceIte];refine aS fun K hK=>?_;simp -dsimp;apply hK;clear hK K;refine awp_seq_k fun K2 hK2=>?_;refine awp_cond rfl (fun hc0=>?_) (fun hc0=>?_)
 ·skip
  try simp at hc0
  obtain⟨m,hgm⟩:∃m,l[i]?=some m:=⟨_,List.getElem?_eq_getElem hc0⟩;have wi:=zW i (by omega);have hma:mvAt l i=m:=by simp[mvAt,hgm]
  have hmv:=way_mov hw i hc0;have hb1:=begTo_bd hv hw (i+1) (by omega);have hbs:begTo p l (i+1)=begTo p l i+p.len m.Rail:=by simp only[begTo];rw[hma]
  rw[hma]at hmv;have hmr:=movB_iff.1 hmv;have hlg:(lensA p p.Rails.length)[m.Rail.toNat]?=some [I (p.len m.Rail)]:=by rw[lensA_get (by omega),show((m.Rail.toNat:Nat):Int)=m.Rail by omega]
  have ws:IntKind.i64.wrap (begTo p l i+p.len m.Rail)=begTo p l (i+1):=by rw[←hbs];exact wrap_in (by omega) (by omega)
  refine awp_skip ?_;simp only[zT,reduceIte,Nat.reduceEqDiff];refine hK2 _ _ ?_;refine awp_prune [0,5,8,9,10] ?_;simp only[zP,Nat.reduceEqDiff,reduceIte];refine awp_seq_k fun K3 hK3=>?_;refine awp_block ?_;refine aS fun K hK=>?_;simp -dsimp [hgm];apply hK;clear hK K;refine awp_draw mixed rfl fun K hK=>?_;simp -dsimp [hlg,ws,hmr.1];refine hK _ _ _ (by decide+kernel) ?_;clear hK K;simp only[zT,reduceIte,Nat.reduceEqDiff];refine hK3 _ _ ?_;refine awp_prune [0,5,8,9,10] ?_;simp only[zP,Nat.reduceEqDiff,reduceIte];refine aR fun K hK=>?_;simp -dsimp [wi];apply hK;clear hK K;simp only[zT,reduceIte,Nat.reduceEqDiff];exact⟨i+1,by omega,by omega,sub_rb [] rfl (by simp) (by simp)⟩
 ·skip
  try simp at hc0
  have hie:i=l.length:=by omega
  subst hie;refine awp_exit ?_;simp only[zT,reduceIte,Nat.reduceEqDiff];refine hK1 _ _ ?_;refine awp_prune [5] ?_;simp only[zP,Nat.reduceEqDiff,reduceIte];refine aS fun K hK=>?_;simp -dsimp;apply hK;clear hK K;exact awp_ret (by simp)
theorem c_tCovers_t (p:Plan) (l:List Move) (front long:Int) (hv:validB p=true) (hw:wayB p l=true) (h1:1≤long) (h2:long≤front) (h3:front≤begTo p l l.length):
  PureCall Tryz.prog 35 [p.av, .lst 2 (l.map Move.cells),I front,I long] (.tup [.lst 3 ((cvTo p l front long l.length).map Cover.cells),I 0]):=by
 have hl:=way_len hw;have hop:=c_open_t p hv;have hwy:=c_way p l hv (by omega);have hwl:=c_wayLength p l hv hw;rw[hw]at hwy;have hbl:=begTo_bd hv hw l.length (Nat.le_refl _);unfold net at hop hwy hwl;refine PureCall.of_body Tryz.func35 rfl (by decide) (by simp[Tryz.ntmps35]) ?_;simp only[Tryz.ntmps35,Tryz.results35];refine aS fun K hK=>?_;simp -dsimp;apply hK;clear hK K;refine aS fun K hK=>?_;simp -dsimp;refine callK_intro _ (hop) (by simp) ?_;simp -dsimp;apply hK;clear hK K;refine awp_seq_k fun K1 hK1=>?_;refine aS fun K hK=>?_;simp -dsimp;refine callK_may _ (fun hm=>hwy) (by simp) ?_;simp -dsimp;refine callK_may _ (fun hm=>hwl) (by simp) ?_;simp -dsimp;apply hK;clear hK K;refine awp_cond rfl (fun hc0=>?_) (fun hc0=>?_)
 ·simp at hc0;omega
 ·refine awp_skip ?_;simp only[zT,reduceIte,Nat.reduceEqDiff];refine hK1 _ _ ?_;refine awp_prune [1,2,3,10] ?_;simp only[zP,Nat.reduceEqDiff,reduceIte];refine aS fun K hK=>?_;simp -dsimp;apply hK;clear hK K;refine aS fun K hK=>?_;simp -dsimp;apply hK;clear hK K;refine awp_seq_k fun K2 hK2=>?_;refine aS fun K hK=>?_;simp -dsimp;apply hK;clear hK K;refine awp_block ?_;refine awp_prune [2,3,10,12,13,48,49,50] ?_;simp only[zP,Nat.reduceEqDiff,reduceIte];refine awp_loop_l [2,3,10,48,49] (α:=Nat) (fun i=>[(50,I i),(13,I (begTo p l i)),(12, .row 1 0 (cvTo p l front long i).length)]) (fun i=>[some (.els 2 [p.cells]),some (.els 3 ((cvTo p l front long i).map Cover.cells))]) (fun i=>i≤l.length) (fun i=>l.length-i) 0 ?_ ?_ ?_
  ·simp
  ·exact(sub_nil 12 3 (by simp)).trans (sub_rb [some 0,some 1] rfl (by simp[cvTo,begTo]) (by simp[cvTo]))
  rintro i i1;have hcl:=cvTo_len p l front long i;have hcs:=cvTo_succ p l front long i;simp only[zP,Nat.reduceEqDiff,reduceIte];refine aS fun K hK=>?_;simp -dsimp;apply hK;clear hK K;refine awp_seq_k fun K3 hK3=>?_;refine awp_cond rfl (fun hc1=>?_) (fun hc1=>?_)
  ·skip
   try simp at hc1
   obtain⟨m,hgm⟩:∃m,l[i]?=some m:=⟨_,List.getElem?_eq_getElem hc1⟩;have wi:=zW i (by omega);have hma:mvAt l i=m:=by simp[mvAt,hgm]
   have hmv:=way_mov hw i hc1;have hb0:=begTo_bd hv hw i (by omega);have hb1:=begTo_bd hv hw (i+1) (by omega);have hbs:begTo p l (i+1)=begTo p l i+p.len m.Rail:=by simp only[begTo];rw[hma]
   rw[hma]at hmv hcs;have hmr:=movB_iff.1 hmv;have hlb:=len_bd hv hmr.1 hmr.2;have hlg:(lensA p p.Rails.length)[m.Rail.toNat]?=some [I (p.len m.Rail)]:=by rw[lensA_get (by omega),show((m.Rail.toNat:Nat):Int)=m.Rail by omega]
   generalize hB:begTo p l i=B at hb0 hbs hcs ⊢;have ws:IntKind.i64.wrap (B+p.len m.Rail)=begTo p l (i+1):=by rw[←hbs];exact wrap_in (by omega) (by omega)
   have wa:IntKind.i64.wrap (front-long)=front-long:=wrap_in (by omega) (by omega);have wb:IntKind.i64.wrap (front-long-B)=front-long-B:=wrap_in (by omega) (by omega);have wc:IntKind.i64.wrap (front-B)=front-B:=wrap_in (by omega) (by omega);have hF:(if front-long-B<0 then 0 else front-long-B)=cvF front long B:=rfl;have hT:(if p.len m.Rail<front-B then p.len m.Rail else front-B)=cvT front B (p.len m.Rail):=rfl;have hFb:0≤cvF front long B∧cvF front long B≤100000000000:=by unfold cvF;split<;>omega
   have hTb:-100000000000≤cvT front B (p.len m.Rail)∧cvT front B (p.len m.Rail)≤100000000000:=by unfold cvT;split<;>omega
   generalize hO:cvTo p l front long i=O at hcl hcs ⊢;have f1:Fits (O.length+1) 25:=fits_of (by omega) (by omega);have hot:=cov_take O;unfold cvStep at hcs;generalize cvF front long B=F at hF hFb hcs;generalize cvT front B (p.len m.Rail)=TT at hT hTb hcs;have wd:IntKind.i64.wrap (p.len m.Rail-TT)=p.len m.Rail-TT:=wrap_in (by omega) (by omega);have we:IntKind.i64.wrap (p.len m.Rail-F)=p.len m.Rail-F:=wrap_in (by omega) (by omega);refine awp_skip ?_;simp only[zT,reduceIte,Nat.reduceEqDiff];refine hK3 _ _ ?_;refine awp_prune [2,3,10,12,13,48,49,50] ?_;simp only[zP,Nat.reduceEqDiff,reduceIte];refine awp_seq_k fun K4 hK4=>?_;refine awp_block ?_;refine aS fun K hK=>?_;simp -dsimp [hgm];apply hK;clear hK K;refine awp_sd mixed rfl fun K hK=>?_;simp -dsimp [hlg,hmr.1];refine hK _ _ _ (by decide+kernel) ?_;clear hK K;refine aS fun K hK=>?_;simp -dsimp [wa,wb,wc,hF,hT];apply hK;clear hK K;refine aS fun K hK=>?_;simp -dsimp [ws];apply hK;clear hK K;refine awp_seq_k fun K5 hK5=>?_;refine aS fun K hK=>?_;simp -dsimp;apply hK;clear hK K;refine awp_cond rfl (fun hc2=>?_) (fun hc2=>?_)
   ·skip
    try simp at hc2
    rw[if_pos hc2,List.append_nil]at hcs;refine awp_exit ?_;simp only[zT,reduceIte,Nat.reduceEqDiff];refine hK4 _ _ ?_;refine awp_prune [2,3,10,12,13,48,49,50] ?_;simp only[zP,Nat.reduceEqDiff,reduceIte];refine aR fun K hK=>?_;simp -dsimp [wi];apply hK;clear hK K;simp only[zT,reduceIte,Nat.reduceEqDiff];exact⟨i+1,by omega,by omega,sub_rb [some 0,some 1] rfl (by simp[hcs]) (by simp[hcs])⟩
   ·skip
    try simp at hc2
    rw[if_neg (by omega)]at hcs;refine awp_skip ?_;simp only[zT,reduceIte,Nat.reduceEqDiff];refine hK5 _ _ ?_;refine awp_prune [2,3,10,12,13,15,16,17,18,48,49,50] ?_;simp only[zP,Nat.reduceEqDiff,reduceIte];refine awp_seq_k fun K6 hK6=>?_;refine aS fun K hK=>?_;simp -dsimp;apply hK;clear hK K;refine awp_cond rfl (fun hc3=>?_) (fun hc3=>?_)
    ·skip
     try simp at hc3
     rw[hc3,if_pos rfl]at hcs;refine aR fun K hK=>?_;simp -dsimp [wd,we];apply hK;clear hK K;simp only[zT,reduceIte,Nat.reduceEqDiff];refine hK6 _ _ ?_;refine awp_prune [2,3,10,12,13,15,17,18,48,49,50] ?_;simp only[zP,Nat.reduceEqDiff,reduceIte];refine aR fun K hK=>?_;simp -dsimp [f1];apply hK;clear hK K;simp only[zT,reduceIte,Nat.reduceEqDiff];refine hK4 _ _ ?_;refine awp_prune [2,3,10,12,13,48,49,50] ?_;simp only[zP,Nat.reduceEqDiff,reduceIte];refine aR fun K hK=>?_;simp -dsimp [wi];apply hK;clear hK K;simp only[zT,reduceIte,Nat.reduceEqDiff];exact⟨i+1,by omega,by omega,sub_rb [some 0,some 3] rfl (by simp[hcs]) (by simp[hcs,hot])⟩
    ·skip
     try simp at hc3
     rw[hc3,if_neg (by simp)]at hcs;refine awp_skip ?_;simp only[zT,reduceIte,Nat.reduceEqDiff];refine hK6 _ _ ?_;refine awp_prune [2,3,10,12,13,15,17,18,48,49,50] ?_;simp only[zP,Nat.reduceEqDiff,reduceIte];refine aR fun K hK=>?_;simp -dsimp [f1];apply hK;clear hK K;simp only[zT,reduceIte,Nat.reduceEqDiff];refine hK4 _ _ ?_;refine awp_prune [2,3,10,12,13,48,49,50] ?_;simp only[zP,Nat.reduceEqDiff,reduceIte];refine aR fun K hK=>?_;simp -dsimp [wi];apply hK;clear hK K;simp only[zT,reduceIte,Nat.reduceEqDiff];exact⟨i+1,by omega,by omega,sub_rb [some 0,some 3] rfl (by simp[hcs]) (by simp[hcs,hot])⟩
  ·skip
   try simp at hc1
   have hie:i=l.length:=by omega
   subst hie;refine awp_exit ?_;simp only[zT,reduceIte,Nat.reduceEqDiff];refine hK2 _ _ ?_;refine awp_prune [12] ?_;simp only[zP,Nat.reduceEqDiff,reduceIte];refine aS fun K hK=>?_;simp -dsimp;apply hK;clear hK K;exact awp_ret (by simp[cov_take])
end Go.Tram
end
section
namespace Go.Tram
open Go.AM Go.Proofs
section
variable {α:Type} [Inhabited α] (lt:α→α→Bool)
theorem kidL_lt {l:List α} {i n:Nat} (h:2*i+1<n):kidL lt l i n<n∧i<kidL lt l i n:=by
 unfold kidL
 split<;>omega
theorem pushL_len (l:List α) (x:α):(pushL lt l x).length=l.length+1:=by unfold pushL;rw[upL_len];simp
end
section
variable {α:Type} [Inhabited α] [DecidableEq α] (lt:α→α→Bool)
theorem swpG_perm {l:List α} {i j:Nat} (hi:i<l.length) (hj:j<l.length):(swpG l i j).Perm l:=by
 rw[List.perm_iff_count];intro b;have ei:gd l i=l[i]:=by unfold gd;rw[List.getD_eq_getElem?_getD,List.getElem?_eq_getElem hi];rfl
 have ej:gd l j=l[j]:=by unfold gd;rw[List.getD_eq_getElem?_getD,List.getElem?_eq_getElem hj];rfl
 have ci:l[i]=b→1≤l.count b:=fun h=>List.count_pos_iff.2 (h▸List.getElem_mem hi);have cj:l[j]=b→1≤l.count b:=fun h=>List.count_pos_iff.2 (h▸List.getElem_mem hj);unfold swpG;rw[List.count_set (by simpa using hj),List.count_set hi,ei,ej,List.getElem_set];simp only[beq_iff_eq]
 by_cases e:i=j
 ·subst e;simp only[if_true]
  split<;>rename_i h
  ·have:=ci h;omega
  ·omega
 ·simp only[if_neg e]
  split<;>rename_i h1<;>split<;>rename_i h2<;>(try have:=ci h1)<;>(try have:=cj h2)<;>(try have:=cj h1)<;>(try have:=ci h2)<;>omega
theorem upL_perm:∀(k:Nat) (l:List α) (j:Nat),j<l.length→(upL lt k l j).Perm l
 |0,l,j,_=>List.Perm.refl _
 |k+1,l,j,h=>by
  simp only[upL]
  split
  ·exact List.Perm.refl _
  ·exact(upL_perm k _ _ (by rw[swpG_len];omega)).trans (swpG_perm (by omega) h)
theorem downL_perm:∀(k:Nat) (l:List α) (i n:Nat),n≤l.length→i<l.length→(downL lt k l i n).Perm l
 |0,l,i,n,_,_=>List.Perm.refl _
 |k+1,l,i,n,hn,hi=>by
  simp only[downL]
  split
  ·exact List.Perm.refl _
  ·rename_i h;have hk:=kidL_lt lt (l:=l) (i:=i) (n:=n) (by omega);exact(downL_perm k _ _ n (by rw[swpG_len];omega) (by rw[swpG_len];omega)).trans (swpG_perm hi (by omega))
theorem pushL_perm (l:List α) (x:α):(pushL lt l x).Perm (l++[x]):=upL_perm lt _ _ _ (by simp)
end
theorem popE_perm {l:List Fnd} {n:Nat} (h1:1≤n) (hn:n≤l.length):(popE l n).Perm l:=by
 unfold popE;exact(downL_perm ltF _ _ _ _ (by rw[swpG_len];omega) (by rw[swpG_len];omega)).trans (swpG_perm (by omega) (by omega))
def popX (q:List Fnd):Fnd:=gd (popE q q.length) (q.length-1)
def popQ (q:List Fnd):List Fnd:=(popE q q.length).take (q.length-1)
theorem popQ_len {q:List Fnd}:(popQ q).length=q.length-1:=by unfold popQ;rw[List.length_take,popE_len];omega
theorem pop_perm {q:List Fnd} (h:q≠[]):(popQ q++[popX q]).Perm q:=by
 have h1:1≤q.length:=List.length_pos_iff.2 h;have hp:=popE_perm h1 (Nat.le_refl q.length);have hl:=popE_len q q.length;have e:popQ q++[popX q]=popE q q.length:=by
  unfold popQ popX;have hg:=getD_at (l:=popE q q.length) (i:=q.length-1) (by omega);have:=List.take_add_one (i:=q.length-1) (l:=popE q q.length);rw[hg,show q.length-1+1=q.length by omega,List.take_of_length_le (by omega)]at this;exact this.symm
 rw[e];exact hp
theorem popX_mem {q:List Fnd} (h:q≠[]):popX q∈q:=(pop_perm h).subset (by simp)
theorem popQ_mem {q:List Fnd} (h:q≠[]) {f:Fnd} (hf:f∈popQ q):f∈q:=(pop_perm h).subset (by simp[hf])
structure DSt where
 ln:List Int
 mv:List Int
 q:List Fnd
def nxF (p:Plan) (x:Fnd) (k:Nat):Fnd:=⟨k,x.Len+p.len (x.Move/2),x.Mv+1⟩
def pushTo (p:Plan) (x:Fnd) (q:List Fnd) (l:List Nat):List Fnd:=l.foldl (fun q k=>pushL ltF q (nxF p x k)) q
def dStep (p:Plan) (s:DSt):DSt:=
 if 0≤gd s.ln (popX s.q).Move.toNat then⟨s.ln,s.mv,popQ s.q⟩
 else⟨s.ln.set (popX s.q).Move.toNat (popX s.q).Len,s.mv.set (popX s.q).Move.toNat (popX s.q).Mv,pushTo p (popX s.q) (popQ s.q) (befL p (popX s.q).Move)⟩
def dRun (p:Plan):Nat→DSt→DSt
 |0,s=>s
 |k+1,s=>if s.q=[]then s else dRun p k (dStep p s)
def negs (l:List Int):Nat:=l.countP fun x=>decide (x<0)
def dMu (p:Plan) (s:DSt):Nat:=negs s.ln*(2*p.Rails.length+1)+s.q.length
structure DOk (p:Plan) (s:DSt):Prop where
 ln:s.ln.length=2*p.Rails.length
 mv:s.mv.length=2*p.Rails.length
 ng:negs s.ln≤2*p.Rails.length
 q:∀f∈s.q,(0≤f.Move∧f.Move<2*p.Rails.length)∧(0≤f.Len∧f.Len≤(2*p.Rails.length-negs s.ln:Nat)*31000000)∧0≤f.Mv∧f.Mv≤(2*p.Rails.length-negs s.ln:Nat)
 size:s.q.length+negs s.ln*(2*p.Rails.length)≤2*p.Rails.length*(2*p.Rails.length)+1
theorem pushTo_len (p:Plan) (x:Fnd):∀(l:List Nat) (q:List Fnd),(pushTo p x q l).length=q.length+l.length
 |[],q=>rfl
 |k::l,q=>by
  have:=pushTo_len p x l (pushL ltF q (nxF p x k));unfold pushTo at this ⊢;rw[List.foldl_cons,this,pushL_len,List.length_cons];omega
theorem pushTo_mem (p:Plan) (x:Fnd):∀(l:List Nat) (q:List Fnd) (f:Fnd),f∈pushTo p x q l↔f∈q∨∃k∈l,f=nxF p x k
 |[],q,f=>by simp[pushTo]
 | k::l,q,f=>by
  have:=pushTo_mem p x l (pushL ltF q (nxF p x k)) f;unfold pushTo at this ⊢;rw[List.foldl_cons,this,(pushL_perm ltF q (nxF p x k)).mem_iff];simp only[List.mem_append,List.mem_cons,List.not_mem_nil,or_false];constructor
  ·rintro((h|h)|⟨k',h1,h2⟩)
   ·exact Or.inl h
   ·exact Or.inr ⟨k,Or.inl rfl,h⟩
   ·exact Or.inr ⟨k',Or.inr h1,h2⟩
  ·rintro(h|⟨k',rfl|h1,h2⟩)
   ·exact Or.inl (Or.inl h)
   ·exact Or.inl (Or.inr h2)
   ·exact Or.inr ⟨k',h1,h2⟩
theorem negs_set {l:List Int} {i:Nat} {x:Int} (hi:i<l.length) (h:gd l i<0) (hx:0≤x):negs (l.set i x)+1=negs l:=by
 have ei:gd l i=l[i]:=by unfold gd;rw[List.getD_eq_getElem?_getD,List.getElem?_eq_getElem hi];rfl
 rw[ei]at h;have h1:1≤negs l:=List.countP_pos_iff.2 ⟨_,List.getElem_mem hi,by simpa using h⟩;have h3:¬x<0:=by omega
 have h2:negs (l.set i x)=negs l-1:=by
  unfold negs;rw[List.countP_set hi];simp[h,h3]
 omega
theorem bef_mem {p:Plan} {x:Int} {k:Nat} (h:k∈befL p x):k<2*p.Rails.length∧befB p x k=true:=by
 unfold befL befN at h;rw[List.mem_filter,List.mem_range]at h;exact h
theorem dStep_ok {p:Plan} (hv:validB p=true) {s:DSt} (h:DOk p s) (hq:s.q≠[]):DOk p (dStep p s)∧dMu p (dStep p s)<dMu p s:=by
 have h1:1≤s.q.length:=List.length_pos_iff.2 hq;have hx:=h.q _ (popX_mem hq);obtain⟨hx1,hx2,hx3⟩:=hx;have hmem:=fun f=>popQ_mem hq (f:=f);have hlen:=popQ_len (q:=s.q);have hng:=h.ng;have hsz:=h.size;unfold dStep;generalize popX s.q=x at hx1 hx2 hx3 ⊢;generalize popQ s.q=q' at hmem hlen ⊢
 split
 ·refine⟨⟨h.ln,h.mv,h.ng,fun f hf=>h.q f (hmem f hf),by show q'.length+negs s.ln*(2*p.Rails.length)≤2*p.Rails.length*(2*p.Rails.length)+1;omega⟩,by show negs s.ln*(2*p.Rails.length+1)+q'.length<negs s.ln*(2*p.Rails.length+1)+s.q.length;omega⟩
 ·rename_i hneg;have hm:x.Move.toNat<s.ln.length:=by rw[h.ln];omega
  have hn:=negs_set hm (x:=x.Len) (by omega) hx2.1;have hl:=len_bd hv (r:=x.Move/2) (by omega) (by omega);have hpl:=pushTo_len p x (befL p x.Move) q';have hbl:=befN_len p x.Move (2*p.Rails.length);have hbl':(befL p x.Move).length≤2*p.Rails.length:=hbl;have hnm:(negs (s.ln.set x.Move.toNat x.Len))*(2*p.Rails.length)+2*p.Rails.length=negs s.ln*(2*p.Rails.length):=by rw[←hn,Nat.add_mul,Nat.one_mul]
  have hnm1:(negs (s.ln.set x.Move.toNat x.Len))*(2*p.Rails.length+1)+(2*p.Rails.length+1)=negs s.ln*(2*p.Rails.length+1):=by rw[←hn,Nat.add_mul,Nat.one_mul]
  refine⟨⟨by simpa using h.ln,by simpa using h.mv,by show negs (s.ln.set x.Move.toNat x.Len)≤2*p.Rails.length;omega,fun f hf=>?_,by show(pushTo p x q' (befL p x.Move)).length+negs (s.ln.set x.Move.toNat x.Len)*(2*p.Rails.length)≤2*p.Rails.length*(2*p.Rails.length)+1;rw[hpl];omega⟩,?_⟩
  ·rcases(pushTo_mem p x _ _ f).1 hf with hf|⟨k,hk,rfl⟩
   ·have:=h.q f (hmem f hf);show _∧(_∧f.Len≤(2*p.Rails.length-negs (s.ln.set x.Move.toNat x.Len):Nat)*31000000)∧_∧f.Mv≤(2*p.Rails.length-negs (s.ln.set x.Move.toNat x.Len):Nat);omega
   ·have hkb:=bef_mem hk;show((0:Int)≤k∧(k:Int)<2*p.Rails.length)∧(0≤x.Len+p.len (x.Move/2)∧x.Len+p.len (x.Move/2)≤(2*p.Rails.length-negs (s.ln.set x.Move.toNat x.Len):Nat)*31000000)∧0≤x.Mv+1∧x.Mv+1≤(2*p.Rails.length-negs (s.ln.set x.Move.toNat x.Len):Nat);omega
  ·show negs (s.ln.set x.Move.toNat x.Len)*(2*p.Rails.length+1)+(pushTo p x q' (befL p x.Move)).length<negs s.ln*(2*p.Rails.length+1)+s.q.length;rw[hpl];omega
def dInit (p:Plan) (to:Int):DSt:=⟨List.replicate (2*p.Rails.length) (-1),List.replicate (2*p.Rails.length) 0,[⟨to,0,0⟩]⟩
theorem negs_init (n:Nat):negs (List.replicate n (-1))=n:=by unfold negs;rw[List.countP_replicate];simp
theorem dInit_ok {p:Plan} {to:Int} (h0:0≤to) (h1:to<2*p.Rails.length):DOk p (dInit p to):=by
 have hn:=negs_init (2*p.Rails.length);refine⟨by simp[dInit],by simp[dInit],by show negs (List.replicate (2*p.Rails.length) (-1))≤2*p.Rails.length;omega,fun f hf=>?_,by show 1+negs (List.replicate (2*p.Rails.length) (-1))*(2*p.Rails.length)≤2*p.Rails.length*(2*p.Rails.length)+1;rw[hn];omega⟩;simp only[dInit,List.mem_singleton]at hf;subst hf;simp only[dInit,hn];omega
def dEnd (p:Plan) (to:Int):DSt:=dRun p (dMu p (dInit p to)) (dInit p to)
theorem dRun_nil {p:Plan} {k:Nat} {s:DSt} (h:s.q=[]):dRun p k s=s:=by cases k<;>simp[dRun,h]
end Go.Tram
end
section
namespace Go.Tram
open Go.AM Go.Proofs
theorem c_before (p:Plan) (x:Int):PureCall Tryz.prog 85 [.iptr (net p),I x] (.clo 127 [.iptr [.iptr (net p)], .iptr [I x]]):=by
 generalize net p=sh;refine PureCall.of_body Tryz.func85 rfl (by decide) (by simp[Tryz.ntmps85]) ?_;simp only[Tryz.ntmps85,Tryz.results85];refine aS fun K hK=>?_;simp -dsimp;apply hK;clear hK K;refine aS fun K hK=>?_;simp -dsimp;apply hK;clear hK K;exact awp_ret (by simp)
theorem m_best1 (q:List Fnd) (h:q≠[]) (hb:q.length≤900000):
  MutCall Tryz.prog 262 [.ptr 0 0 0] [hrow 1 q.length] [frow q] (popX q).av [hrow 1 (q.length-1)] [frow (popE q q.length),frow [popX q]]:=
 m_best q q.length (List.length_pos_iff.2 h) (Nat.le_refl _) hb
theorem m_hPush1 (q:List Fnd) (x:Fnd) (hb:q.length≤900000):
  MutCall Tryz.prog 46 [qAV,fAV x] [hrow 1 q.length] [frow q] (.tup []) [hrow 1 (q.length+1)] [frow (pushL ltF q x)]:=by
 have h:=m_hPush q q.length x (Nat.le_refl _) hb
 rwa [List.take_length]at h
theorem c_lLenQ (q:List Fnd):PureCall Tryz.prog 257 [.lst 3 (List.take q.length (q.map Fnd.cells))] (I q.length):=by
 rw[List.take_of_length_le (by simp)];exact c_lLen q
abbrev irow (l:List Int):Option ARow:=some (.els 1 (l.map nCell))
abbrev dRows (p:Plan) (s:DSt):Hp:=[some (.els 1 [[.iptr (net p)]]),irow s.ln,irow s.mv,frow s.q,hrow 3 s.q.length,some (.els 1 [[.ifc 194 (.ptr 4 0 0)]])]
theorem c_distances (p:Plan) (to:Int) (hv:validB p=true) (h0:0≤to) (h1:to<2*p.Rails.length):
  PureCall Tryz.prog 41 [.iptr (net p),I to] (.tup [.lst 1 ((dEnd p to).ln.map nCell), .lst 1 ((dEnd p to).mv.map nCell)]):=by
 have hR:=(valid_parts hv).2.1;have w2:IntKind.i64.wrap (2*(p.Rails.length:Int))=2*(p.Rails.length:Int):=wrap_in (by omega) (by omega);have wt:(2*(p.Rails.length:Int)).toNat=2*p.Rails.length:=by omega
 have f1:Fits (2*p.Rails.length) 9:=fits_of (by omega) (by omega);have w0:0≤2*(p.Rails.length:Int):=by omega
 refine PureCall.of_bodyG Tryz.func41 rfl (by decide) (by simp[Tryz.ntmps41]) ?_;intro J hJ;simp only[Tryz.ntmps41,Tryz.results41];refine gS fun K hK=>?_;simp -dsimp;apply hK;clear hK K;refine gwp_sd mixed rfl (by decide) rfl rfl fun K hK=>?_;simp -dsimp [w2,wt,f1,w0,net];refine hK _ _ _ (by decide+kernel) ?_;clear hK K;refine gwp_seq_k fun K1 hK1=>?_;refine gS fun K hK=>?_;simp -dsimp;apply hK;clear hK K;refine gwp_block ?_;refine gwp_prune [1,2,6,7,29,30] (Or.inr (by simp)) ?_;simp only[zP,Nat.reduceEqDiff,reduceIte];refine gwp_loop_l [1,2,6,7,29] (α:=Nat) (fun k=>[(30,I k)]) (fun k=>[some (.els 1 [[.iptr (net p)]]),irow (List.replicate k (-1)++List.replicate (2*p.Rails.length-k) 0),irow (List.replicate (2*p.Rails.length) 0)]) (fun k=>k≤2*p.Rails.length) (fun k=>2*p.Rails.length-k) 0 ?_ ?_ ?_
 ·simp
 ·exact gsub (sub_rb [some 0,some 1,some 2] rfl (by simp) (by simp[net])) (by simp)
 rintro k k1;simp only[zP,Nat.reduceEqDiff,reduceIte];refine gS fun K hK=>?_;simp -dsimp;apply hK;clear hK K;refine gwp_seq_k fun K2 hK2=>?_;refine gwp_cond rfl (fun hc0=>?_) (fun hc0=>?_)
 ·skip
  try simp at hc0
  have hk:k<2*p.Rails.length:=by omega
  have wk:=zW k (by omega);have hg0:(List.replicate k [I (-1)]++List.replicate (2*p.Rails.length-k) [I 0])[k]?=some [I 0]:=by rw[List.getElem?_append_right (by simp),List.length_replicate,Nat.sub_self,List.getElem?_replicate,if_pos (by omega)]
  have hs0:List.replicate k [I (-1)]++(List.replicate (2*p.Rails.length-k) [I 0]).set 0 [I (-1)]=List.replicate (k+1) [I (-1)]++List.replicate (2*p.Rails.length-(k+1)) [I 0]:=by
   obtain⟨m,hm⟩:∃m,2*p.Rails.length-k=m+1:=⟨2*p.Rails.length-k-1,by omega⟩;rw[hm,show 2*p.Rails.length-(k+1)=m by omega,List.replicate_succ' (n:=k),List.append_assoc];simp[List.replicate_succ]
  refine gwp_skip ?_;simp only[zT,reduceIte,Nat.reduceEqDiff];refine hK2 _ _ ?_;refine gwp_prune [1,2,6,7,29,30] (Or.inr (by simp)) ?_;simp only[zP,Nat.reduceEqDiff,reduceIte];refine gwp_seq_k fun K3 hK3=>?_;refine gwp_block ?_;refine gS fun K hK=>?_;simp -dsimp;apply hK;clear hK K;refine gR fun K hK=>?_;simp -dsimp [hk,hg0];apply hK;clear hK K;simp only[zT,reduceIte,Nat.reduceEqDiff];refine hK3 _ _ ?_;refine gwp_prune [1,2,6,7,29,30] (Or.inr (by simp)) ?_;simp only[zP,Nat.reduceEqDiff,reduceIte];refine gR fun K hK=>?_;simp -dsimp [wk];apply hK;clear hK K;simp only[zT,reduceIte,Nat.reduceEqDiff];exact⟨k+1,by omega,by omega,gsub (sub_rb [some 0,some 1,some 2] rfl (by simp) (by simp[hs0])) (by simp)⟩
 ·skip
  try simp at hc0
  have hke:k=2*p.Rails.length:=by omega
  subst hke;refine gwp_exit ?_;simp only[zT,reduceIte,Nat.reduceEqDiff];refine hK1 _ _ ?_;refine gwp_prune [1,2,6,7] (Or.inr (by simp)) ?_;simp only[zP,Nat.reduceEqDiff,reduceIte];refine gS fun K hK=>?_;simp -dsimp;apply hK;clear hK K;refine gwp_seq_k fun K4 hK4=>?_;refine gwp_block ?_;refine gwp_prune [2,6,7,9] (Or.inr (by simp)) ?_;simp only[zP,Nat.reduceEqDiff,reduceIte];refine gwp_loop_l [2,6,7,9] (α:=DSt×Nat) (fun _=>[]) (fun s=>dRows p s.1) (fun s=>DOk p s.1∧dMu p s.1≤s.2∧dRun p s.2 s.1=dEnd p to) (fun s=>s.2) (dInit p to,dMu p (dInit p to)) ?_ ?_ ?_
  ·exact⟨dInit_ok h0 h1,Nat.le_refl _,rfl⟩
  ·exact gsub (sub_rb [some 0,some 1,some 2,some 3,some 4,some 5] rfl (by simp) (by simp[dInit])) (by simp)
  rintro⟨s,k⟩ ⟨i1,i2,i3⟩;simp only at i1 i2 i3 ⊢;have hsq:2*p.Rails.length*(2*p.Rails.length)≤800*800:=Nat.mul_le_mul (by omega) (by omega);have hql:s.q.length≤900000:=by have:=i1.size;omega
  simp only[zP,Nat.reduceEqDiff,reduceIte];refine gwp_seq_k fun K5 hK5=>?_;refine gS fun K hK=>?_;simp -dsimp;refine callK_intro _ (c_lLenQ s.q) (by simp) ?_;simp -dsimp;apply hK;clear hK K;refine gwp_cond rfl (fun hc1=>?_) (fun hc1=>?_)
  ·skip
   try simp at hc1
   have hq:s.q≠[]:=by rintro h;simp[h]at hc1
   have hq1:1≤s.q.length:=List.length_pos_iff.2 hq;obtain⟨k',rfl⟩:∃k',k=k'+1:=⟨k-1,by simp only[dMu]at i2;omega⟩;have hx:=i1.q _ (popX_mem hq);have hst:=dStep_ok hv i1 hq;have hrun:dRun p k' (dStep p s)=dEnd p to:=by rw[←i3];simp only[dRun,if_neg hq]
   have hb:=m_best1 s.q hq hql;have hds:dStep p s=if 0≤gd s.ln (popX s.q).Move.toNat then⟨s.ln,s.mv,popQ s.q⟩else⟨s.ln.set (popX s.q).Move.toNat (popX s.q).Len,s.mv.set (popX s.q).Move.toNat (popX s.q).Mv,pushTo p (popX s.q) (popQ s.q) (befL p (popX s.q).Move)⟩:=rfl;generalize popX s.q=x at hx hb hds;obtain⟨⟨hx0,hx1⟩,hx2,hx3⟩:=hx;have hxt:x.Move.toNat<2*p.Rails.length:=by omega
   have hgl:s.ln[x.Move.toNat]?=some (gd s.ln x.Move.toNat):=getD_at (by rw[i1.ln];exact hxt);have hmin:min (s.q.length-1) (popE s.q s.q.length).length=s.q.length-1:=by rw[popE_len];omega
   refine gwp_skip ?_;simp only[zT,reduceIte,Nat.reduceEqDiff];refine hK5 _ _ ?_;refine gwp_prune [2,6,7,9] (Or.inr (by simp)) ?_;simp only[zP,Nat.reduceEqDiff,reduceIte];refine gwp_block ?_;refine gS fun K hK=>?_;simp -dsimp;refine callK_mut [4] [3] [none,none,none,none,some 0,none,some 1,some 2] (hb) (by decide) rfl (by simp) (by simp) rfl (by simp) ?_;simp -dsimp;apply hK;clear hK K;refine gwp_seq_k fun K6 hK6=>?_;refine gS fun K hK=>?_;simp -dsimp [hgl,hx0,hxt];apply hK;clear hK K;refine gwp_cond rfl (fun hc2=>?_) (fun hc2=>?_)
   ·skip
    try simp at hc2
    rw[if_pos hc2]at hds;refine gwp_exit ?_;simp only[zT,reduceIte,Nat.reduceEqDiff];exact⟨(dStep p s,k'),⟨hst.1,by show dMu p (dStep p s)≤k';omega,hrun⟩,by simp,by rw[hds];exact gsub ((sub_cut 6 (s.q.length-1) rfl).trans (sub_rb [some 0,some 1,some 2,some 6,some 4,some 5] rfl (by simp) (by simp[popQ,hmin]))) (by simp)⟩
   ·skip
    try simp at hc2
    rw[if_neg (by omega)]at hds;have hmt:s.mv[x.Move.toNat]?=some (gd s.mv x.Move.toNat):=getD_at (by rw[i1.mv];exact hxt);refine gwp_skip ?_;simp only[zT,reduceIte,Nat.reduceEqDiff];refine hK6 _ _ ?_;refine gwp_prune [2,6,7,9,10] (Or.inr (by simp)) ?_;simp only[zP,Nat.reduceEqDiff,reduceIte];refine gwp_sd mixed rfl (by decide) rfl rfl fun K hK=>?_;simp -dsimp [hgl,hmt,hx0,hxt];refine hK _ _ _ (by decide+kernel) ?_;clear hK K;refine gS fun K hK=>?_;simp -dsimp;refine callK_intro _ (c_before p x.Move) (by simp) ?_;simp -dsimp;apply hK;clear hK K;refine gwp_block ?_;refine gwp_prune [2,6,7,9,10,68] (Or.inr (by simp)) ?_;simp only[zP,Nat.reduceEqDiff,reduceIte];refine gwp_range_s hJ [2,6,7,9,10,68] (fun n=>[some (.els 1 [[.iptr (net p)]]),irow (s.ln.set x.Move.toNat x.Len),irow (s.mv.set x.Move.toNat x.Mv),none,hrow 6 (pushTo p x (popQ s.q) ((befL p x.Move).take n)).length,some (.els 1 [[.ifc 194 (.ptr 4 0 0)]]),frow (pushTo p x (popQ s.q) ((befL p x.Move).take n)),none,some (.els 3 [x.cells])]) (fun n=>True) rfl (c_before1 p x.Move hv hx0 (by omega)) rfl (by simp) (by decide) (by decide) (by decide) (by intro z hz;obtain⟨q,_,rfl⟩:=List.mem_map.1 hz;rfl) ?_ ?_ ?_ ?_
    ·trivial
    ·exact(sub_cut 6 (s.q.length-1) rfl).trans (sub_rb [some 0,some 1,some 2,none,some 4,some 5,some 6,none,some 8] rfl (by simp) (by simp[popQ,pushTo,hmin]))
    ·intro n xv hxn hi l1 J1 hJ1;obtain⟨k1,hk1,rfl⟩:∃k1,(befL p x.Move)[n]?=some k1∧[I k1]=xv:=by simpa using hxn
     have hlen:(pushTo p x (popQ s.q) ((befL p x.Move).take n)).length≤900000:=by have:=befN_len p x.Move (2*p.Rails.length);have h2:(befL p x.Move).length≤2*p.Rails.length:=this;have:=i1.size;rw[pushTo_len,popQ_len,List.length_take];omega
     have hp:=m_hPush1 (pushTo p x (popQ s.q) ((befL p x.Move).take n)) (nxF p x k1) hlen;have hps:pushTo p x (popQ s.q) ((befL p x.Move).take (n+1))=pushL ltF (pushTo p x (popQ s.q) ((befL p x.Move).take n)) (nxF p x k1):=by rw[List.take_add_one,hk1];simp[pushTo]
     have hpl:=pushL_len ltF (pushTo p x (popQ s.q) ((befL p x.Move).take n)) (nxF p x k1);have hxt2:x.Move.tdiv 2=x.Move/2:=Int.tdiv_eq_ediv_of_nonneg hx0;have hlb:=len_bd hv (r:=x.Move/2) (by omega) (by omega);have hlg:(lensA p p.Rails.length)[(x.Move/2).toNat]?=some [I (p.len (x.Move/2))]:=by rw[lensA_get (by omega),show(((x.Move/2).toNat:Nat):Int)=x.Move/2 by omega]
     have wd:IntKind.i64.wrap (x.Move/2)=x.Move/2:=wrap_in (by omega) (by omega);have wl:IntKind.i64.wrap (x.Len+p.len (x.Move/2))=x.Len+p.len (x.Move/2):=wrap_in (by omega) (by omega);have wm:IntKind.i64.wrap (x.Mv+1)=x.Mv+1:=wrap_in (by omega) (by omega);have hd0:0≤x.Move/2:=by omega
     simp only[nxF]at hp hps hpl;simp only[List.zip_cons_cons,List.zip_nil_left,List.zip_nil_right,List.cons_append,List.nil_append];refine gR fun K hK=>?_;simp -dsimp;apply hK;clear hK K;simp only[onlyN];intro J2 hJ2;refine gwp_prune [2,6,7,9,10,11,68] (Or.inr (by simp)) ?_;simp only[zP,Nat.reduceEqDiff,reduceIte];refine gwp_block ?_;refine gwp_draw mixed rfl (by decide) rfl rfl fun K hK=>?_;simp -dsimp [net,hxt2,wd,wl,wm,hlg,hd0];refine callK_mut [4] [6] [none,none,none,none,some 0,none,none,none,none,some 1] (hp) (by decide) rfl (by simp) (by simp) rfl (by simp) ?_;simp -dsimp [net,hxt2,wd,wl,wm,hlg,hd0];refine hK _ _ _ (by decide+kernel) ?_;clear hK K;simp only[thenA,inBlockA,roundQ,reduceIte,Nat.reduceEqDiff,eq_self];refine⟨trivial,sub_rb [some 0,some 1,some 2,none,some 4,some 5,some 9,none,some 8] rfl (by simp[net]) (by simp[net,hps,hpl])⟩
    ·intro hdone;simp only[zT,reduceIte,Nat.reduceEqDiff];exact⟨(dStep p s,k'),⟨hst.1,by show dMu p (dStep p s)≤k';omega,hrun⟩,by simp,by rw[hds];exact gsub (sub_rb [some 0,some 1,some 2,some 6,some 4,some 5] rfl (by simp) (by simp)) (by simp)⟩
  ·skip
   try simp at hc1
   have hq:s.q=[]:=by simpa using hc1
   rw[dRun_nil hq]at i3;refine gwp_exit ?_;simp only[zT,reduceIte,Nat.reduceEqDiff];refine hK4 _ _ ?_;refine gwp_prune [6,7] (Or.inr (by simp)) ?_;simp only[zP,Nat.reduceEqDiff,reduceIte];refine gS fun K hK=>?_;simp -dsimp;apply hK;clear hK K;have g1:List.take (2*p.Rails.length) (s.ln.map nCell)=s.ln.map nCell:=List.take_of_length_le (by simp[i1.ln]);have g2:List.take (2*p.Rails.length) (s.mv.map nCell)=s.mv.map nCell:=List.take_of_length_le (by simp[i1.mv]);exact gwp_ret (by simp[←i3,i1.ln,i1.mv,g1,g2])
end Go.Tram
end
section
namespace Go.Tram
open Go.AM Go.Proofs
theorem sub_full {α:Type} [DecidableEq α]:∀(l u:List α),l.Nodup→(∀x∈l,x∈u)→u.length≤l.length→∀x∈u,x∈l
 |[],u,_,_,h,x,hx=>by
  have:u=[]:=List.length_eq_zero_iff.1 (by simpa using h);rw[this]at hx;cases hx
 | a::l,u,hn,hs,h,x,hx=>by
  rw[List.nodup_cons]at hn
  by_cases e:x=a
  ·simp[e]
  ·have ha:a∈u:=hs a (by simp);have hlen:=List.length_erase_of_mem ha;have hup:0<u.length:=List.length_pos_of_mem ha;refine List.mem_cons_of_mem _ (sub_full l (u.erase a) hn.2 (fun y hy=>?_) (by simp at h;omega) x ((List.mem_erase_of_ne e).2 hx));have hya:y≠a:=by rintro rfl;exact hn.1 hy
   exact(List.mem_erase_of_ne hya).2 (hs y (by simp[hy]))
theorem endsOf_mem {p:Plan}:∀{n:Nat} {x:Nat×REnd},x∈endsOf p n→x.1<n∧∃j:Nat,(p.node x.1).Ends[j]?=some x.2
 |0,x,h=>by simp[endsOf]at h
 |n+1,x,h=>by
  simp only[endsOf,List.mem_append,List.mem_map]at h
  rcases h with h|⟨e,he,rfl⟩
  ·obtain⟨h1,h2⟩:=endsOf_mem h;exact⟨by omega,h2⟩
  ·obtain⟨j,hj⟩:=List.getElem?_of_mem he;exact⟨by simp,j,hj⟩
theorem validE_of {p:Plan} (hv:validB p=true):(∀x∈endsOf p p.Nodes.length,endB p x=true)∧((endsOf p p.Nodes.length).map (·.2)).Nodup∧(endsOf p p.Nodes.length).length=2*p.Rails.length:=by
 have h:=(valid_parts hv).2.2.2.2;simp only[validE,Bool.and_eq_true,List.all_eq_true,decide_eq_true_eq]at h;exact⟨h.1,h.2.1,h.2.2⟩
theorem end_there {p:Plan} (hv:validB p=true) {e:REnd} (h0:0≤e.Rail) (h1:e.Rail<p.Rails.length):∃i:Nat,i<p.Nodes.length∧p.at e=i∧∃j:Nat,(p.node i).Ends[j]?=some e:=by
 obtain⟨hall,hnd,hlen⟩:=validE_of hv;have hfull:=sub_full ((endsOf p p.Nodes.length).map (·.2)) ((List.range p.Rails.length).flatMap fun(r:Nat)=>[(⟨r,false⟩:REnd),⟨r,true⟩]) hnd (fun x hx=>by
  obtain⟨y,hy,rfl⟩:=List.mem_map.1 hx;have:=hall y hy;simp only[endB,Bool.and_eq_true,decide_eq_true_eq,inr_iff]at this;rw[List.mem_flatMap];refine⟨y.2.Rail.toNat,List.mem_range.2 (by omega),?_⟩;obtain⟨y1,⟨r,b⟩⟩:=y;simp only at this ⊢;rw[show((r.toNat:Nat):Int)=r by omega]
  cases b<;>simp) (by
   have gen:∀n:Nat,((List.range n).flatMap fun(r:Nat)=>[(⟨r,false⟩:REnd),⟨r,true⟩]).length=2*n:=by
    intro n
    induction n with
    |zero=>rfl
    |succ n ih=>rw[List.range_succ,List.flatMap_append,List.length_append,ih];simp;omega
   rw[gen,List.length_map,hlen];exact Nat.le_refl _) e (by
  rw[List.mem_flatMap];refine⟨e.Rail.toNat,List.mem_range.2 (by omega),?_⟩;obtain⟨r,b⟩:=e;simp only at h0 h1 ⊢;rw[show((r.toNat:Nat):Int)=r by omega]
  cases b<;>simp)
 obtain⟨x,hx,rfl⟩:=List.mem_map.1 hfull;obtain⟨h2,j,hj⟩:=endsOf_mem hx;exact⟨x.1,h2,(ends_rail hv h2 hj).2,j,hj⟩
theorem end_uniq {p:Plan} (hv:validB p=true) {i:Nat} (hi:i<p.Nodes.length) {j j':Nat} {e:REnd} (h:(p.node i).Ends[j]?=some e) (h':(p.node i).Ends[j']?=some e):j=j':=by
 have key:∀{j j':Nat},(p.node i).Ends[j]?=some e→(p.node i).Ends[j']?=some e→¬j'<j:=by
  intro j j' h h' hlt;have hm:(i,e)∈curE p i j:=by
   unfold curE;rw[List.mem_append,List.mem_map];refine Or.inr ⟨e,?_,rfl⟩;have:((p.node i).Ends.take j)[j']?=some e:=by rw[List.getElem?_take,if_pos hlt];exact h'
   exact List.mem_of_getElem? this
  obtain⟨m,hmm⟩:=List.getElem?_of_mem hm;have:=valid_ff_dup hi h hmm rfl;rw[hv]at this;cases this
 have h1:=key h h';have h2:=key h' h;omega
theorem putE_none {kvs:List (List KC×Value)} {es:List REnd} {e:REnd}:∀n,n≤es.length→(∀j:Nat,j<n→es[j]?≠some e)→kvGet (putE kvs es n) (keyOf e)=kvGet kvs (keyOf e)
 |0,_,_=>rfl
 |n+1,hn,h=>by
  simp only[putE];rw[kvGet_set,if_neg,putE_none n (by omega) fun j hj=>h j (by omega)];intro hk;have:=keyOf_inj.1 hk;have h2:=h n (by omega);rw[List.getElem?_eq_getElem (by omega)]at this h2;simp only[Option.getD_some]at this;exact h2 (by rw[this])
theorem putE_some {kvs:List (List KC×Value)} {es:List REnd} {e:REnd} {j:Nat} (hj:es[j]?=some e):∀n,n≤es.length→j<n→(∀j':Nat,es[j']?=some e→j'=j)→kvGet (putE kvs es n) (keyOf e)=some (.int .i64 j)
 |0,_,h,_=>by omega
 |n+1,hn,h,hu=>by
  simp only[putE];rw[kvGet_set]
  by_cases e1:n=j
  ·subst e1;rw[hj];exact if_pos rfl
  ·rw[if_neg,putE_some hj n (by omega) (by omega) hu];intro hk;have:=keyOf_inj.1 hk;rw[List.getElem?_eq_getElem (by omega)]at this;simp only[Option.getD_some]at this;exact e1 (hu n (by rw[List.getElem?_eq_getElem (by omega),this]))
theorem place_at {p:Plan} (hv:validB p=true) {i:Nat} (hi:i<p.Nodes.length) {j:Nat} {e:REnd} (h:(p.node i).Ends[j]?=some e):plc p e=j:=by
 have hat:=(ends_rail hv hi h).2;have gen:∀k,k≤p.Nodes.length→i<k→kvGet (placesK p k) (keyOf e)=some (.int .i64 j):=by
  intro k
  induction k with
  |zero=>intro _ h;omega
  |succ k ih=>
   intro hk hik;simp only[placesK]
   by_cases e1:k=i
   ·subst e1;exact putE_some h _ (Nat.le_refl _) (List.getElem?_eq_some_iff.1 h).1 fun j' hj'=>end_uniq hv hi hj' h
   ·rw[putE_none _ (Nat.le_refl _),ih (by omega) (by omega)];intro j' _ hj';have:=(ends_rail hv (i:=k) (by omega) hj').2;omega
 have hg:=gen p.Nodes.length (Nat.le_refl _) hi;have hp:plcV p e= .int .i64 j:=by
  unfold plcV;have:kvGet (placesK p p.Nodes.length) [.i .i64 e.Rail, .b e.Last]=some (.int .i64 j):=hg;rw[this];rfl
 unfold plc;rw[hp]
def idxTo (e:REnd):List REnd→Int→Int
 |[],_=>-1
 |x::l,i=>if x=e then i else idxTo e l (i+1)
def idxE (n:Node) (e:REnd):Int:=idxTo e n.Ends 0
theorem idxTo_some {e:REnd}:∀(l:List REnd) (i:Int) (j:Nat),l[j]?=some e→(∀j':Nat,l[j']?=some e→j'=j)→idxTo e l i=i+j
 |[],i,j,h,_=>by simp at h
 | x::l,i,j,h,hu=>by
  simp only[idxTo]
  split
  ·rename_i hx;have:=hu 0 (by simp[hx]);omega
  ·rename_i hx
   cases j with
   |zero=>simp at h;exact absurd h hx
   |succ j=>
    rw[idxTo_some l (i+1) j (by simpa using h) fun j' hj'=>by have:=hu (j'+1) (by simpa using hj');omega];omega
theorem idxTo_none {e:REnd}:∀(l:List REnd) (i:Int),(∀j:Nat,l[j]?≠some e)→idxTo e l i=-1
 |[],i,_=>rfl
 |x::l,i,h=>by
  simp only[idxTo];rw[if_neg (by rintro rfl;exact h 0 (by simp))];exact idxTo_none l _ fun j=>by have:=h (j+1);simpa using this
theorem idxE_some {p:Plan} (hv:validB p=true) {i:Nat} (hi:i<p.Nodes.length) {j:Nat} {e:REnd} (h:(p.node i).Ends[j]?=some e):idxE (p.node i) e=j:=by
 unfold idxE;rw[idxTo_some _ 0 j h fun j' hj'=>end_uniq hv hi hj' h];omega
def rFoll (p:Plan) (m k:Move):Bool:=decide (0≤idxE (nodeAt p m) (arrE m))&&(decide (0≤idxE (nodeAt p m) (leaE k))&&letsB (nodeAt p m) (idxE (nodeAt p m) (arrE m)) (idxE (nodeAt p m) (leaE k)))
theorem node_of {p:Plan} (hv:validB p=true) {m:Move} (hm:movB p m=true):∃i:Nat,i<p.Nodes.length∧p.at (arrE m)=i∧nodeAt p m=p.node i∧∃j:Nat,(p.node i).Ends[j]?=some (arrE m)∧plc p (arrE m)=j∧idxE (p.node i) (arrE m)=j:=by
 have hm':=movB_iff.1 hm;obtain⟨i,hi,ha,j,hj⟩:=end_there hv (e:=arrE m) hm'.1 hm'.2;exact⟨i,hi,ha,by unfold nodeAt;rw[ha],j,hj,place_at hv hi hj,idxE_some hv hi hj⟩
theorem moveM_numM {m:Move} (h:0≤m.Rail):moveM (numM m)=m:=by
 obtain⟨r,b⟩:=m;simp only at h
 cases b
 ·simp only[numM,moveM,Bool.false_eq_true,if_false];rw[show 2*r/2=r by omega,decide_eq_false (by omega)]
 ·simp only[numM,moveM,if_true];rw[show(2*r+1)/2=r by omega,decide_eq_true (by omega)]
theorem numM_moveM {k:Int} (h:0≤k):numM (moveM k)=k:=by
 simp only[numM,moveM,decide_eq_true_eq]
 split<;>omega
theorem nx_mem {p:Plan} (hv:validB p=true) {m:Move} (hm:movB p m=true) {k:Int}:k∈nxTo p m (nodeAt p m).Ends.length↔0≤k∧k<2*p.Rails.length∧rFoll p m (moveM k)=true:=by
 obtain⟨i,hi,ha,hn,j,hj,hp,hx⟩:=node_of hv hm;simp only[nxTo,List.mem_flatMap,List.mem_range];constructor
 ·rintro⟨t,ht,hk⟩;unfold nxK at hk;rw[hn]at hk ht;rw[List.getElem?_eq_getElem ht]at hk;simp only at hk
  split at hk
  ·rename_i hl;simp only[List.mem_singleton]at hk;have hte:=List.getElem?_eq_getElem ht;generalize (p.node i).Ends[t]=e at hk hte;have her:=(ends_rail hv hi hte).1;have hb:0≤numM ⟨e.Rail,e.Last⟩∧numM ⟨e.Rail,e.Last⟩<2*p.Rails.length:=by simp only[numM];split<;>omega
   subst hk;refine⟨hb.1,hb.2,?_⟩;rw[moveM_numM her.1];have hle:leaE ⟨e.Rail,e.Last⟩=e:=rfl;simp only[rFoll,hn,hle,hx,idxE_some hv hi hte,Bool.and_eq_true,decide_eq_true_eq];rw[hp]at hl;exact⟨by omega,by omega,hl⟩
  ·simp at hk
 ·rintro⟨h0,h1,hf⟩;simp only[rFoll,hn,Bool.and_eq_true,decide_eq_true_eq]at hf;obtain⟨_,hb,hl⟩:=hf;have:∃t:Nat,(p.node i).Ends[t]?=some (leaE (moveM k)):=by
   by_cases h:∃t:Nat,(p.node i).Ends[t]?=some (leaE (moveM k))
   ·exact h
   ·have:=idxTo_none (e:=leaE (moveM k)) (p.node i).Ends 0 fun j hj=>h ⟨j,hj⟩;unfold idxE at hb;omega
  obtain⟨t,ht⟩:=this;rw[hx,idxE_some hv hi ht]at hl;refine⟨t,by rw[hn];exact(List.getElem?_eq_some_iff.1 ht).1,?_⟩;unfold nxK;rw[hn,ht,hp];simp only;rw[if_pos hl,List.mem_singleton];show k=numM (moveM k);rw[numM_moveM h0]
theorem sorted_ext:∀(a b:List Int),a.Pairwise (· < ·)→b.Pairwise (· < ·)→(∀x,x∈a↔x∈b)→a=b
 |[],[],_,_,_=>rfl
 |[],y::b,_,_,h=>by have:=(h y).2 (by simp);cases this
 |x::a,[],_,_,h=>by have:=(h x).1 (by simp);cases this
 | x::a,y::b,ha,hb,h=>by
  rw[List.pairwise_cons]at ha hb;have hxy:x=y:=by
   have h1:=(h x).1 (by simp);have h2:=(h y).2 (by simp)
   rcases List.mem_cons.1 h1 with rfl|h1
   ·rfl
   ·rcases List.mem_cons.1 h2 with rfl|h2
    ·rfl
    ·have:=hb.1 x h1;have:=ha.1 y h2;omega
  subst hxy;rw[sorted_ext a b ha.2 hb.2 fun z=>?_];constructor
  ·intro hz
   rcases List.mem_cons.1 ((h z).1 (by simp[hz]))with rfl|h1
   ·have:=ha.1 z hz;omega
   ·exact h1
  ·intro hz
   rcases List.mem_cons.1 ((h z).2 (by simp[hz]))with rfl|h1
   ·have:=hb.1 z hz;omega
   ·exact h1
theorem ins_nodup {x:Int}:∀{l:List Int},l.Nodup→x∉l→(ins x l).Nodup
 |[],_,_=>by simp[ins]
 |y::l,h,hx=>by
  rw[List.nodup_cons]at h;simp only[List.mem_cons,not_or]at hx;simp only[ins]
  split
  ·simp[List.nodup_cons,hx,h]
  ·rw[List.nodup_cons,ins_mem];exact⟨by rintro(rfl|h1);exact hx.1 rfl;exact h.1 h1,ins_nodup h.2 hx.2⟩
theorem srt_nodup {l:List Int} (h:l.Nodup):(srt l).Nodup:=by
 have gen:∀(l s:List Int),s.Nodup→l.Nodup→(∀x∈l,x∉s)→(l.foldl (fun s x=>ins x s) s).Nodup:=by
  intro l
  induction l with
  |nil=>intro s h _ _;exact h
  |cons x l ih=>
   intro s hs hl hd;rw[List.nodup_cons]at hl;refine ih _ (ins_nodup hs (hd x (by simp))) hl.2 fun y hy=>?_;rw[ins_mem];rintro(rfl|h)
   ·exact hl.1 hy
   ·exact hd y (by simp[hy]) h
 exact gen l [] (by simp) h (by simp)
theorem lt_of_le_nodup:∀{l:List Int},l.Pairwise (· ≤ ·)→l.Nodup→l.Pairwise (· < ·)
 |[],_,_=>List.Pairwise.nil
 |x::l,h,hn=>by
  rw[List.pairwise_cons]at h ⊢;rw[List.nodup_cons]at hn;refine⟨fun y hy=>?_,lt_of_le_nodup h.2 hn.2⟩;have h1:=h.1 y hy;have h2:x≠y:=by rintro rfl;exact hn.1 hy
  omega
def rNextN (p:Plan) (m:Move):List Nat:=(List.range (2*p.Rails.length)).filter fun i=>rFoll p m (moveM i)
theorem nx_nodup {p:Plan} (hv:validB p=true) {m:Move} (hm:movB p m=true):∀j,j≤(nodeAt p m).Ends.length→(nxTo p m j).Nodup
 |0,_=>by simp[nxTo]
 | j+1,hj=>by
  rw[nxTo_succ,List.nodup_append];refine⟨nx_nodup hv hm j (by omega),by unfold nxK;split<;>(try split)<;>simp,fun a ha b hb hab=>?_⟩;subst hab;obtain⟨i,hi,_,hn,_⟩:=node_of hv hm;simp only[nxTo,List.mem_flatMap,List.mem_range]at ha;obtain⟨t,ht,ha⟩:=ha;have key:∀{q:Nat},q<(nodeAt p m).Ends.length→a∈nxK p m q→(p.node i).Ends[q]?=some (leaE (moveM a)):=by
   intro q hq h;unfold nxK at h;rw[hn]at h hq;rw[List.getElem?_eq_getElem hq]at h ⊢;have hqe:=List.getElem?_eq_getElem hq;generalize (p.node i).Ends[q]=e at h hqe ⊢;have her:=(ends_rail hv hi hqe).1;simp only at h
   split at h
   ·simp only[List.mem_singleton]at h;rw[h,moveM_numM her.1];rfl
   ·simp at h
  have:=end_uniq hv hi (key (by omega) ha) (key (by omega) hb);omega
theorem range_lt (n:Nat):(List.range n).Pairwise (· < ·):=List.pairwise_lt_range
theorem next_eq {p:Plan} (hv:validB p=true) {m:Move} (hm:movB p m=true):nextL p m=(rNextN p m).map fun(i:Nat)=>moveM i:=by
 have h:srt (nxTo p m (nodeAt p m).Ends.length)=(rNextN p m).map fun(i:Nat)=>(i:Int):=by
  refine sorted_ext _ _ (lt_of_le_nodup (srt_sorted _) (srt_nodup (nx_nodup hv hm _ (Nat.le_refl _)))) ?_ fun x=>?_
  ·rw[List.pairwise_map];have:(rNextN p m).Pairwise (· < ·):=(range_lt _).filter _
   exact this.imp fun h=>by omega
  ·rw[ins_mem',nx_mem hv hm];unfold rNextN;simp only[List.mem_map,List.mem_filter,List.mem_range];constructor
   ·rintro⟨h0,h1,h2⟩;exact⟨x.toNat,⟨by omega,by rw[show((x.toNat:Nat):Int)=x by omega];exact h2⟩,by omega⟩
   ·rintro⟨a,⟨h1,h2⟩,rfl⟩;exact⟨by omega,by omega,h2⟩
 unfold nextL;rw[h,List.map_map];rfl
end Go.Tram
end
section
namespace Go.Tram
open Go.AM Go.Proofs
section
variable {α:Type} [Inhabited α] (lt:α→α→Bool)
structure LOrd:Prop where
 tr:∀a b c,lt b a=false→lt c b=false→lt c a=false
 asy:∀a b,lt a b=true→lt b a=false
def HpB (l:List α) (n:Nat):Prop:=∀i,0<i→i<n→lt (gd l i) (gd l ((i-1)/2))=false
variable {lt}
theorem gd_swp {l:List α} {i j k:Nat} (hi:i<l.length) (hj:j<l.length):gd (swpG l i j) k=if k=j then gd l i else if k=i then gd l j else gd l k:=by
 have e1:gd (swpG l i j) k=((swpG l i j)[k]?).getD default:=by unfold gd;rw[List.getD_eq_getElem?_getD]
 have e2:∀k,gd l k=(l[k]?).getD default:=by intro k;unfold gd;rw[List.getD_eq_getElem?_getD]
 rw[e1];unfold swpG;rw[List.getElem?_set,List.getElem?_set]
 by_cases h1:k=j
 ·subst h1;simp[hj]
 ·rw[if_neg (fun h=>h1 h.symm),if_neg h1]
  by_cases h2:k=i
  ·subst h2;simp[hi]
  ·rw[if_neg (fun h=>h2 h.symm),if_neg h2,e2 k]
theorem up_hp (O:LOrd lt):∀(k:Nat) (l:List α) (j n:Nat),j<n→n≤l.length→j<k→
  (∀i,0<i→i<n→i≠j→lt (gd l i) (gd l ((i-1)/2))=false)→
  (∀i,0<i→i<n→(i-1)/2=j→0<j→lt (gd l i) (gd l ((j-1)/2))=false)→HpB lt (upL lt k l j) n
 |0,l,j,n,_,_,h,_,_=>absurd h (by omega)
 | k +1,l,j,n,hj,hn,hk,h1,h2=>by
  simp only[upL]
  split
  ·rename_i hc;intro i hi hin
   by_cases e:i=j
   ·subst e
    rcases hc with hc|hc
    ·omega
    ·exact hc
   ·exact h1 i hi hin e
  ·rename_i hc;have hc1:¬(j-1)/2=j:=fun h=>hc (Or.inl h);have hc2:lt (gd l j) (gd l ((j-1)/2))=true:=by cases h:lt (gd l j) (gd l ((j-1)/2));exact absurd (Or.inr h) hc;rfl
   have hj0:0<j:=by omega
   have hsw:=fun x=>gd_swp (l:=l) (i:=(j-1)/2) (j:=j) (k:=x) (by omega) (by omega);have hlen:=swpG_len l ((j-1)/2) j;generalize swpG l ((j-1)/2) j=l' at hsw hlen ⊢;have has:=O.asy _ _ hc2;refine up_hp O k l' ((j-1)/2) n (by omega) (by omega) (by omega) (fun i hi hin hne=>?_) (fun i hi hin hp h0=>?_)
   ·rw[hsw i,hsw ((i-1)/2)]
    by_cases e:i=j
    ·subst e;rw[if_pos rfl,if_neg (by omega),if_pos rfl];exact has
    ·rw[if_neg e,if_neg hne]
     by_cases e2:(i-1)/2=j
     ·rw[if_pos e2];exact h2 i hi hin e2 hj0
     ·rw[if_neg e2];have:=h1 i hi hin e
      by_cases e3:(i-1)/2=(j-1)/2
      ·rw[if_pos e3];rw[e3]at this;exact O.tr _ _ _ has this
      ·rw[if_neg e3];exact this
   ·rw[hsw i,hsw (((j-1)/2-1)/2),if_neg (show¬((j-1)/2-1)/2=j by omega),if_neg (show¬((j-1)/2-1)/2=(j-1)/2 by omega)];have hpp:=h1 ((j-1)/2) h0 (by omega) (by omega)
    by_cases e:i=j
    ·rw[if_pos e];exact hpp
    ·rw[if_neg e,if_neg (by omega)];have:=h1 i hi hin e;rw[hp]at this;exact O.tr _ _ _ hpp this
theorem down_hp (O:LOrd lt):∀(k:Nat) (l:List α) (i n:Nat),n≤l.length→n<i+k→
  (∀m,0<m→m<n→(m-1)/2≠i→lt (gd l m) (gd l ((m-1)/2))=false)→
  (∀m,0<m→m<n→(m-1)/2=i→0<i→lt (gd l m) (gd l ((i-1)/2))=false)→
  HpB lt (downL lt k l i n) n∧∀m,n≤m→gd (downL lt k l i n) m=gd l m
 |0,l,i,n,hn,hk,h1,h2=>⟨fun m h0 hm=>h1 m h0 hm (by omega),fun m _=>rfl⟩
 | k +1,l,i,n,hn,hk,h1,h2=>by
  simp only[downL];have hkid:∀m,0<m→m<n→(m-1)/2=i→2*i+1<n→lt (gd l m) (gd l (kidL lt l i n))=false:=by
   intro m h0 hm hp hin;have hrefl:∀a,lt a a=false:=fun a=>by cases h:lt a a;rfl;have:=O.asy _ _ h;rw[h]at this;cases this
   unfold kidL
   split
   ·rename_i hc
    by_cases e:m=2*i+2
    ·subst e;exact hrefl _
    ·obtain rfl:m=2*i+1:=by omega
     exact O.asy _ _ hc.2
   ·rename_i hc
    by_cases e:m=2*i+2
    ·subst e
     cases h:lt (gd l (2*i+2)) (gd l (2*i+1))
     ·rfl
     ·exact absurd ⟨hm,h⟩ hc
    ·obtain rfl:m=2*i+1:=by omega
     exact hrefl _
  have hkl:2*i+1<n→kidL lt l i n<n∧i<kidL lt l i n∧(kidL lt l i n-1)/2=i:=by
   intro h;unfold kidL
   split<;>omega
  generalize kidL lt l i n=c at hkid hkl ⊢
  split
  ·rename_i hc;refine⟨fun m h0 hm=>?_,fun m _=>rfl⟩
   by_cases e:(m-1)/2=i
   ·rcases hc with hc|hc
    ·omega
    ·rw[e];exact O.tr _ _ _ hc (hkid m h0 hm e (by omega))
   ·exact h1 m h0 hm e
  ·rename_i hc;have hc1:2*i+1<n:=by by_cases h:n≤2*i+1;exact absurd (Or.inl h) hc;omega
   have hc2:lt (gd l c) (gd l i)=true:=by cases h:lt (gd l c) (gd l i);exact absurd (Or.inr h) hc;rfl
   obtain⟨k1,k2,k3⟩:=hkl hc1;have hsw:=fun x=>gd_swp (l:=l) (i:=i) (j:=c) (k:=x) (by omega) (by omega);have hlen:=swpG_len l i c;generalize swpG l i c=l' at hsw hlen ⊢;have has:=O.asy _ _ hc2;have ih:=down_hp O k l' c n (by omega) (by omega) (fun m h0 hm hne=>?_) (fun m h0 hm hp hc0=>?_)
   ·exact⟨ih.1,fun m hm=>by rw[ih.2 m hm,hsw m,if_neg (by omega),if_neg (by omega)]⟩
   ·rw[hsw m,hsw ((m-1)/2),if_neg hne]
    by_cases e:m=c
    ·subst e;rw[if_pos rfl,k3,if_pos rfl];exact has
    ·rw[if_neg e]
     by_cases e2:m=i
     ·subst e2;rw[if_pos rfl,if_neg (by omega)];exact h2 c (by omega) k1 k3 h0
     ·rw[if_neg e2]
      by_cases e3:(m-1)/2=i
      ·rw[if_pos e3];exact hkid m h0 hm e3 hc1
      ·rw[if_neg e3];exact h1 m h0 hm e3
   ·rw[hsw m,hsw ((c-1)/2),k3,if_neg (by omega),if_neg (by omega),if_neg (by omega),if_pos rfl];have:=h1 m h0 hm (by omega);rw[hp]at this;exact this
theorem hp_min (O:LOrd lt) {l:List α} {n:Nat} (h:HpB lt l n):∀i,i<n→lt (gd l i) (gd l 0)=false:=by
 have hrefl:∀a,lt a a=false:=fun a=>by cases h:lt a a;rfl;have:=O.asy _ _ h;rw[h]at this;cases this
 intro i
 induction i using Nat.strongRecOn with
 |_ i ih=>
  intro hi
  by_cases e:i=0
  ·subst e;exact hrefl _
  ·exact O.tr _ _ _ (ih ((i-1)/2) (by omega) (by omega)) (h i (by omega) hi)
theorem gd_append {l:List α} {x:α} {i:Nat} (h:i<l.length):gd (l++[x]) i=gd l i:=by
 unfold gd;rw[List.getD_eq_getElem?_getD,List.getD_eq_getElem?_getD,List.getElem?_append_left h]
theorem gd_takeL {l:List α} {n i:Nat} (h:i<n):gd (l.take n) i=gd l i:=by
 unfold gd;rw[List.getD_eq_getElem?_getD,List.getD_eq_getElem?_getD,List.getElem?_take,if_pos h]
theorem push_hp (O:LOrd lt) {l:List α} (x:α) (h:HpB lt l l.length):HpB lt (pushL lt l x) (pushL lt l x).length:=by
 rw[pushL_len];unfold pushL;refine up_hp O _ _ _ _ (by omega) (by simp) (by omega) (fun i h0 hi hne=>?_) (fun i h0 hi hp=>?_)
 ·rw[gd_append (by omega),gd_append (by omega)];exact h i h0 (by omega)
 ·omega
end
theorem ordF:LOrd ltF:=by
 refine⟨fun a b c h1 h2=>?_,fun a b h=>?_⟩
 ·simp only[ltF,Bool.or_eq_false_iff,Bool.and_eq_false_iff,decide_eq_false_iff_not]at h1 h2 ⊢;omega
 ·simp only[ltF,Bool.or_eq_false_iff,Bool.or_eq_true,Bool.and_eq_true,Bool.and_eq_false_iff,decide_eq_false_iff_not,decide_eq_true_eq]at h ⊢;omega
theorem ltF_false {a b:Fnd}:ltF a b=false↔b.Len<a.Len∨(b.Len=a.Len∧b.Mv≤a.Mv):=by
 simp only[ltF,Bool.or_eq_false_iff,Bool.and_eq_false_iff,decide_eq_false_iff_not];omega
theorem pop_hp {q:List Fnd} (h:HpB ltF q q.length) (hq:q≠[]):HpB ltF (popQ q) (popQ q).length∧popX q=gd q 0:=by
 have h1:1≤q.length:=List.length_pos_iff.2 hq;have hsw:=fun x=>gd_swp (l:=q) (i:=0) (j:=q.length-1) (k:=x) (by omega) (by omega);have hl:=swpG_len q 0 (q.length-1);have hd:=down_hp ordF q.length (swpG q 0 (q.length-1)) 0 (q.length-1) (by omega) (by omega) (fun m h0 hm hne=>?_) (fun m h0 hm hp h00=>absurd h00 (by omega))
 ·constructor
  ·rw[popQ_len];intro i h0 hi;unfold popQ;rw[gd_takeL hi,gd_takeL (by omega)];exact hd.1 i h0 hi
  ·show gd (downL ltF q.length (swpG q 0 (q.length-1)) 0 (q.length-1)) (q.length-1)=gd q 0;rw[hd.2 _ (Nat.le_refl _),hsw,if_pos rfl]
 ·rw[hsw m,hsw ((m-1)/2),if_neg (by omega),if_neg (by omega),if_neg (by omega),if_neg (by omega)];exact h m h0 (by omega)
theorem popX_min {q:List Fnd} (h:HpB ltF q q.length) (hq:q≠[]) {f:Fnd} (hf:f∈q):ltF f (popX q)=false:=by
 rw[(pop_hp h hq).2];obtain⟨i,hi⟩:=List.getElem?_of_mem hf;have hl:=(List.getElem?_eq_some_iff.1 hi).1;have:f=gd q i:=by have:=getD_at hl;rw[hi]at this;exact Option.some.inj this
 rw[this];exact hp_min ordF h i hl
theorem pop_cases {q:List Fnd} (hq:q≠[]) {f:Fnd} (hf:f∈q):f=popX q∨f∈popQ q:=by
 have:=(pop_perm hq).symm.subset hf;simp only[List.mem_append,List.mem_singleton]at this;exact this.symm
theorem pushTo_hp (p:Plan) (x:Fnd):∀(l:List Nat) (q:List Fnd),HpB ltF q q.length→HpB ltF (pushTo p x q l) (pushTo p x q l).length
 |[],q,h=>h
 |k::l,q,h=>by
  have:=pushTo_hp p x l (pushL ltF q (nxF p x k)) (push_hp ordF _ h);unfold pushTo at this ⊢;rw[List.foldl_cons];exact this
inductive Pth (p:Plan) (to:Int):Int→Int→Int→Prop where
 |nil:Pth p to to 0 0
 |cons {k j L n:Int} (h0:0≤k) (h1:k<2*p.Rails.length) (hf:follB p (moveM k) (moveM j)=true) (h:Pth p to j L n):Pth p to k (L+p.len (j/2)) (n+1)
theorem Pth.bd {p:Plan} {to k L n:Int} (hv:validB p=true) (h0:0≤to) (h1:to<2*p.Rails.length) (h:Pth p to k L n):(0≤k∧k<2*p.Rails.length)∧0≤L∧0≤n:=by
 induction h with
 |nil=>omega
 |cons g0 g1 hf h ih=>
  have:=len_bd hv (r:=_/2) (show 0≤_/2 from Int.ediv_nonneg ih.1.1 (by omega)) (by omega);omega
structure DInv (p:Plan) (to:Int) (s:DSt):Prop where
 hp:HpB ltF s.q s.q.length
 qp:∀f∈s.q,Pth p to f.Move f.Len f.Mv
 neg:∀k:Nat,k<2*p.Rails.length→gd s.ln k=-1∨0≤gd s.ln k
 sp:∀k:Nat,k<2*p.Rails.length→0≤gd s.ln k→Pth p to k (gd s.ln k) (gd s.mv k)
 mn:∀k:Nat,k<2*p.Rails.length→0≤gd s.ln k→∀f∈s.q,gd s.ln k<f.Len∨(gd s.ln k=f.Len∧gd s.mv k≤f.Mv)
 cl:∀k:Nat,k<2*p.Rails.length→0≤gd s.ln k→∀j:Nat,j<2*p.Rails.length→follB p (moveM j) (moveM k)=true→
  (0≤gd s.ln j∧(gd s.ln j<gd s.ln k+p.len (k/2)∨(gd s.ln j=gd s.ln k+p.len (k/2)∧gd s.mv j≤gd s.mv k+1)))∨
  ∃f∈s.q,f.Move=j∧(f.Len<gd s.ln k+p.len (k/2)∨(f.Len=gd s.ln k+p.len (k/2)∧f.Mv≤gd s.mv k+1))
 to:(0≤gd s.ln to.toNat∧gd s.ln to.toNat≤0∧gd s.mv to.toNat≤0)∨(⟨to,0,0⟩:Fnd)∈s.q
theorem gd_setI {l:List Int} {i k:Nat} {x:Int} (hi:i<l.length):gd (l.set i x) k=if k=i then x else gd l k:=by
 unfold gd;rw[List.getD_eq_getElem?_getD,List.getD_eq_getElem?_getD,List.getElem?_set]
 by_cases e:i=k
 ·subst e;simp[hi]
 ·rw[if_neg e,if_neg (fun h=>e h.symm)]
theorem gd_rep {n k:Nat} {x:Int} (h:k<n):gd (List.replicate n x) k=x:=by
 unfold gd;rw[List.getD_eq_getElem?_getD,List.getElem?_replicate,if_pos h];rfl
theorem dinv_init {p:Plan} {to:Int} (h0:0≤to) (h1:to<2*p.Rails.length):DInv p to (dInit p to):=by
 have hg:∀k:Nat,k<2*p.Rails.length→gd (dInit p to).ln k=-1:=fun k hk=>gd_rep hk;refine⟨fun i h0 hi=>?_,fun f hf=>?_,fun k hk=>Or.inl (hg k hk),fun k hk h=>?_,fun k hk h=>?_,fun k hk h=>?_,Or.inr (by simp[dInit])⟩
 ·simp only[dInit,List.length_singleton]at hi;omega
 ·simp only[dInit,List.mem_singleton]at hf;subst hf;exact .nil
 ·rw[hg k hk]at h;omega
 ·rw[hg k hk]at h;omega
 ·rw[hg k hk]at h;omega
theorem dinv_step {p:Plan} {to:Int} (hv:validB p=true) (h0:0≤to) (h1:to<2*p.Rails.length) {s:DSt} (ok:DOk p s) (h:DInv p to s) (hq:s.q≠[]):DInv p to (dStep p s):=by
 have hx:=popX_mem hq;have hxp:=h.qp _ hx;obtain⟨⟨hx0,hx1⟩,hxl,hxm⟩:=hxp.bd hv h0 h1;have hmin:=fun f hf=>ltF_false.1 (popX_min h.hp hq (f:=f) hf);have hcs:=fun f hf=>pop_cases hq (f:=f) hf;have hqm:=fun f hf=>popQ_mem hq (f:=f) hf;have hhp:=(pop_hp h.hp hq).1;have hto:=h.to;unfold dStep;generalize popX s.q=x at*
 generalize popQ s.q=q' at*
 obtain⟨i,hi⟩:∃i:Nat,x.Move=i:=⟨x.Move.toNat,by omega⟩;have hit:x.Move.toNat=i:=by omega
 rw[hit]
 by_cases hs:0≤gd s.ln i
 ·rw [if_pos hs];have hmx:=h.mn i (by omega) hs x hx;refine⟨hhp,fun f hf=>h.qp f (hqm f hf),h.neg,h.sp,fun k hk hk0 f hf=>h.mn k hk hk0 f (hqm f hf),fun k hk hk0 j hj hf=>?_,?_⟩
  ·rcases h.cl k hk hk0 j hj hf with g|⟨f,hf1,hf2,hf3⟩
   ·exact Or.inl g
   ·rcases hcs f hf1 with rfl|hf1
    ·left
     obtain rfl:i=j:=by omega
     exact⟨hs,by dsimp only;omega⟩
    ·exact Or.inr ⟨f,hf1,hf2,hf3⟩
  ·rcases hto with g|g
   ·exact Or.inl g
   ·rcases hcs _ g with e|g
    ·left
     rw[←e]at hi hmx;simp only at hi hmx;rw[show to.toNat=i by omega];dsimp only;omega
    ·exact Or.inr g
 ·rw [if_neg hs];have hil:i<s.ln.length:=by rw[ok.ln];omega
  have him:i<s.mv.length:=by rw[ok.mv];omega
  have hgl:=fun k=>gd_setI (l:=s.ln) (i:=i) (k:=k) (x:=x.Len) hil;have hgm:=fun k=>gd_setI (l:=s.mv) (i:=i) (k:=k) (x:=x.Mv) him;have hnew:∀f,f∈pushTo p x q' (befL p x.Move)↔f∈q'∨∃k∈befL p x.Move,f=nxF p x k:=pushTo_mem p x _ q';have hnhp:=pushTo_hp p x (befL p x.Move) q' hhp;generalize s.ln.set i x.Len=ln at hgl ⊢;generalize s.mv.set i x.Mv=mv at hgm ⊢;have hlx:=len_bd hv (r:=x.Move/2) (by omega) (by omega);have hbef:∀k,k∈befL p x.Move→k<2*p.Rails.length∧follB p (moveM k) (moveM x.Move)=true:=fun k hk=>bef_mem hk;have hbef2:∀j:Nat,j<2*p.Rails.length→follB p (moveM j) (moveM x.Move)=true→j∈befL p x.Move:=by
   intro j hj hf;unfold befL befN;rw[List.mem_filter];exact⟨List.mem_range.2 hj,hf⟩
  refine⟨hnhp,fun f hf=>?_,fun k hk=>?_,fun k hk hk0=>?_,fun k hk hk0 f hf=>?_,fun k hk hk0 j hj hf=>?_,?_⟩
  ·rcases(hnew f).1 hf with hf|⟨k,hk,rfl⟩
   ·exact h.qp f (hqm f hf)
   ·have:=hbef k hk;exact .cons (show(0:Int)≤(k:Nat)by omega) (show((k:Nat):Int)<2*p.Rails.length by omega) this.2 hxp
  ·simp only at hk ⊢;rw[hgl]
   split
   ·right;omega
   ·exact h.neg k hk
  ·simp only at hk0 ⊢;rw[hgl]at hk0;rw[hgl,hgm]
   split
   ·rename_i e;rw[e,←hi];exact hxp
   ·rename_i e;rw[if_neg e]at hk0;exact h.sp k hk hk0
  ·simp only at hk0 hf ⊢;rw[hgl]at hk0;rw[hgl,hgm];have hxf:x.Len<f.Len∨(x.Len=f.Len∧x.Mv≤f.Mv):=by
    rcases(hnew f).1 hf with hf|⟨k,hk,rfl⟩
    ·exact hmin f (hqm f hf)
    ·simp only[nxF];omega
   split
   ·exact hxf
   ·rename_i e;rw[if_neg e]at hk0;have:=h.mn k hk hk0 x hx;omega
  ·simp only at hk0 hf ⊢;rw[hgl]at hk0;rw[hgl k,hgm k,hgl j,hgm j]
   by_cases e:k=i
   ·right
    subst e;rw[if_pos rfl,if_pos rfl];rw[←hi]at hf;refine⟨nxF p x j,(hnew _).2 (Or.inr ⟨j,hbef2 j hj hf,rfl⟩),rfl,?_⟩;simp only[nxF];rw[←hi];omega
   ·rw[if_neg e]at hk0;rw[if_neg e,if_neg e]
    rcases h.cl k hk hk0 j hj hf with g|⟨f,hf1,hf2,hf3⟩
    ·left
     by_cases e2:j=i
     ·subst e2;exact absurd g.1 hs
     ·rw[if_neg e2,if_neg e2];exact g
    ·by_cases e2:j=i
     ·left
      subst e2;rw[if_pos rfl,if_pos rfl];have:=hmin f hf1;omega
     ·right
      rcases hcs f hf1 with rfl|hf1
      ·omega
      ·exact⟨f,(hnew f).2 (Or.inl hf1),hf2,hf3⟩
  ·simp only;rw[hgl,hgm]
   rcases hto with g|g
   ·left
    rw[if_neg (by rintro e;rw[e]at g;exact hs g.1),if_neg (by rintro e;rw[e]at g;exact hs g.1)];exact g
   ·rcases hcs _ g with e|g
    ·left
     rw[←e]at hi ⊢;simp only at hi ⊢;rw[if_pos (by omega),if_pos (by omega)];omega
    ·exact Or.inr ((hnew _).2 (Or.inl g))
theorem dRun_end {p:Plan} {to:Int} (hv:validB p=true) (h0:0≤to) (h1:to<2*p.Rails.length):∀(k:Nat) (s:DSt),DOk p s→DInv p to s→dMu p s≤k→DOk p (dRun p k s)∧DInv p to (dRun p k s)∧(dRun p k s).q=[]
 | 0,s,ok,h,hk=>⟨ok,h,by
   have:s.q.length=0:=by unfold dMu at hk;omega
   exact List.eq_nil_of_length_eq_zero this⟩
 |k+1,s,ok,h,hk=>by
  simp only[dRun]
  by_cases hq:s.q=[]
  ·rw[if_pos hq];exact⟨ok,h,hq⟩
  ·rw[if_neg hq];have hs:=dStep_ok hv ok hq;exact dRun_end hv h0 h1 k _ hs.1 (dinv_step hv h0 h1 ok h hq) (by omega)
structure DEnd (p:Plan) (to:Int) (ln mv:List Int):Prop where
 ll:ln.length=2*p.Rails.length
 lm:mv.length=2*p.Rails.length
 neg:∀k:Nat,k<2*p.Rails.length→gd ln k=-1∨0≤gd ln k
 sp:∀k:Nat,k<2*p.Rails.length→0≤gd ln k→Pth p to k (gd ln k) (gd mv k)
 mn:∀k L n:Int,Pth p to k L n→0≤gd ln k.toNat∧(gd ln k.toNat<L∨(gd ln k.toNat=L∧gd mv k.toNat≤n))
theorem dEnd_ok {p:Plan} {to:Int} (hv:validB p=true) (h0:0≤to) (h1:to<2*p.Rails.length):DEnd p to (dEnd p to).ln (dEnd p to).mv:=by
 obtain⟨ok,h,hq⟩:=dRun_end hv h0 h1 (dMu p (dInit p to)) (dInit p to) (dInit_ok h0 h1) (dinv_init h0 h1) (Nat.le_refl _);refine⟨ok.ln,ok.mv,h.neg,h.sp,fun k L n hp=>?_⟩;show 0≤gd (dRun p (dMu p (dInit p to)) (dInit p to)).ln k.toNat∧(gd (dRun p (dMu p (dInit p to)) (dInit p to)).ln k.toNat<L∨(gd (dRun p (dMu p (dInit p to)) (dInit p to)).ln k.toNat=L∧gd (dRun p (dMu p (dInit p to)) (dInit p to)).mv k.toNat≤n));generalize dRun p (dMu p (dInit p to)) (dInit p to)=s at ok h hq
 induction hp with
 |nil=>
  rcases h.to with g|g
  ·omega
  ·rw[hq]at g;cases g
 | @cons k j L n g0 g1 hf hp ih=>
  have hb:=hp.bd hv h0 h1;have:=h.cl j.toNat (by omega) ih.1 k.toNat (by omega) (by rw[show((k.toNat:Nat):Int)=k by omega,show((j.toNat:Nat):Int)=j by omega];exact hf);rw[show((j.toNat:Nat):Int)=j by omega]at this
  rcases this with g|⟨f,g,_⟩
  ·omega
  ·rw[hq]at g;cases g
end Go.Tram
end
section
namespace Go.Tram
open Go.AM Go.Proofs
def lexB:List Int→List Int→Bool
 |[],[]=>false
 |[],_::_=>true
 |_::_,[]=>false
 |a::x,b::y=>decide (a<b)||(decide (a=b)&&lexB x y)
theorem lexB_asy:∀{a b:List Int},lexB a b=true→lexB b a=false
 |[],[],h=>by cases h
 |[],_::_,_=>rfl
 |_::_,[],h=>by cases h
 |a::x,b::y,h=>by
  simp only[lexB,Bool.or_eq_true,Bool.and_eq_true,decide_eq_true_eq,Bool.or_eq_false_iff,Bool.and_eq_false_iff,decide_eq_false_iff_not]at h ⊢
  rcases h with h|⟨h,h2⟩
  ·exact⟨by omega,Or.inl (by omega)⟩
  ·exact⟨by omega,Or.inr (lexB_asy h2)⟩
theorem lexB_tr:∀{a b c:List Int},lexB b a=false→lexB c b=false→lexB c a=false
 |[],[],[],_,_=>rfl
 |[],[],_::_,_,_=>rfl
 |[],_::_,[],_,h=>by cases h
 |[],_::_,_::_,_,_=>rfl
 |_::_,[],_,h,_=>by cases h
 |_::_,_::_,[],_,h=>by cases h
 | a::x,b::y,c::z,h1,h2=>by
  simp only[lexB,Bool.or_eq_false_iff,Bool.and_eq_false_iff,decide_eq_false_iff_not]at h1 h2 ⊢;refine⟨by omega,?_⟩
  rcases h1.2 with g1|g1
  ·left;omega
  ·rcases h2.2 with g2|g2
   ·left;omega
   ·exact Or.inr (lexB_tr g1 g2)
theorem lexB_tot:∀{a b:List Int},lexB a b=false→lexB b a=false→a=b
 |[],[],_,_=>rfl
 |[],_::_,h,_=>by cases h
 |_::_,[],_,h=>by cases h
 |a::x,b::y,h1,h2=>by
  simp only[lexB,Bool.or_eq_false_iff,Bool.and_eq_false_iff,decide_eq_false_iff_not]at h1 h2;have e:a=b:=by omega
  subst e;rw[lexB_tot (h1.2.resolve_left (by simp)) (h2.2.resolve_left (by simp))]
theorem lexB_pre:∀(a b:List Int),lexB (a++b) a=false
 |[],[]=>rfl
 |[],_::_=>rfl
 |x::a,b=>by simp only[List.cons_append,lexB,lexB_pre a b,Bool.and_false,Bool.or_false,decide_eq_false_iff_not];omega
def nums (w:List Move):List Int:=w.map numM
structure Prt where
 way:List Move
 Len:Int
 Mv:Int
 deriving Inhabited,DecidableEq
def ltP (a b:Prt):Bool:=decide (a.Len<b.Len)||(decide (a.Len=b.Len)&&(decide (a.Mv<b.Mv)||(decide (a.Mv=b.Mv)&&lexB (nums a.way) (nums b.way))))
theorem ltP_false {a b:Prt}:ltP a b=false↔b.Len<a.Len∨(b.Len=a.Len∧(b.Mv<a.Mv∨(b.Mv=a.Mv∧lexB (nums a.way) (nums b.way)=false))):=by
 simp only[ltP,Bool.or_eq_false_iff,Bool.and_eq_false_iff,decide_eq_false_iff_not];constructor
 ·rintro⟨h1,h2⟩
  rcases h2 with h2|⟨h2,h3⟩
  ·left;omega
  ·by_cases e:b.Len<a.Len
   ·exact Or.inl e
   ·right
    refine⟨by omega,?_⟩
    rcases h3 with h3|h3
    ·left;omega
    ·by_cases e2:b.Mv<a.Mv
     ·exact Or.inl e2
     ·exact Or.inr ⟨by omega,h3⟩
 ·rintro(h|⟨h1,h2⟩)
  ·exact⟨by omega,Or.inl (by omega)⟩
  ·refine⟨by omega,Or.inr ?_⟩
   rcases h2 with h2|⟨h2,h3⟩
   ·exact⟨by omega,Or.inl (by omega)⟩
   ·exact⟨by omega,Or.inr h3⟩
theorem ordP:LOrd ltP:=by
 refine⟨fun a b c h1 h2=>?_,fun a b h=>?_⟩
 ·rw[ltP_false]at h1 h2 ⊢
  rcases h1 with h1|⟨h1,h1'⟩<;>rcases h2 with h2|⟨h2,h2'⟩
  ·left;omega
  ·left;omega
  ·left;omega
  ·right
   refine⟨by omega,?_⟩
   rcases h1' with k1|⟨k1,k1'⟩<;>rcases h2' with k2|⟨k2,k2'⟩
   ·left;omega
   ·left;omega
   ·left;omega
   ·exact Or.inr ⟨by omega,lexB_tr k1' k2'⟩
 ·rw[ltP_false];simp only[ltP,Bool.or_eq_true,Bool.and_eq_true,decide_eq_true_eq]at h
  rcases h with h|⟨h,h2|⟨h2,h3⟩⟩
  ·left;omega
  ·right;exact⟨by omega,Or.inl (by omega)⟩
  ·right;exact⟨by omega,Or.inr ⟨by omega,lexB_asy h3⟩⟩
def popPE (l:List Prt) (n:Nat):List Prt:=downL ltP n (swpG l 0 (n-1)) 0 (n-1)
theorem popPE_len (l:List Prt) (n:Nat):(popPE l n).length=l.length:=by unfold popPE;rw[downL_len,swpG_len]
theorem popPE_perm {l:List Prt} {n:Nat} (h1:1≤n) (hn:n≤l.length):(popPE l n).Perm l:=by
 unfold popPE;exact(downL_perm ltP _ _ _ _ (by rw[swpG_len];omega) (by rw[swpG_len];omega)).trans (swpG_perm (by omega) (by omega))
def pX (q:List Prt):Prt:=gd (popPE q q.length) (q.length-1)
def pQ (q:List Prt):List Prt:=(popPE q q.length).take (q.length-1)
theorem pQ_len {q:List Prt}:(pQ q).length=q.length-1:=by unfold pQ;rw[List.length_take,popPE_len];omega
theorem p_perm {q:List Prt} (h:q≠[]):(pQ q++[pX q]).Perm q:=by
 have h1:1≤q.length:=List.length_pos_iff.2 h;have hp:=popPE_perm h1 (Nat.le_refl q.length);have hl:=popPE_len q q.length;have e:pQ q++[pX q]=popPE q q.length:=by
  unfold pQ pX;have hg:=getD_at (l:=popPE q q.length) (i:=q.length-1) (by omega);have:=List.take_add_one (i:=q.length-1) (l:=popPE q q.length);rw[hg,show q.length-1+1=q.length by omega,List.take_of_length_le (by omega)]at this;exact this.symm
 rw[e];exact hp
theorem p_hp {q:List Prt} (h:HpB ltP q q.length) (hq:q≠[]):HpB ltP (pQ q) (pQ q).length∧pX q=gd q 0:=by
 have h1:1≤q.length:=List.length_pos_iff.2 hq;have hsw:=fun x=>gd_swp (l:=q) (i:=0) (j:=q.length-1) (k:=x) (by omega) (by omega);have hl:=swpG_len q 0 (q.length-1);have hd:=down_hp ordP q.length (swpG q 0 (q.length-1)) 0 (q.length-1) (by omega) (by omega) (fun m h0 hm hne=>?_) (fun m h0 hm hp h00=>absurd h00 (by omega))
 ·constructor
  ·rw[pQ_len];intro i h0 hi;unfold pQ;rw[gd_takeL hi,gd_takeL (by omega)];exact hd.1 i h0 hi
  ·show gd (downL ltP q.length (swpG q 0 (q.length-1)) 0 (q.length-1)) (q.length-1)=gd q 0;rw[hd.2 _ (Nat.le_refl _),hsw,if_pos rfl]
 ·rw[hsw m,hsw ((m-1)/2),if_neg (by omega),if_neg (by omega),if_neg (by omega),if_neg (by omega)];exact h m h0 (by omega)
theorem pX_min {q:List Prt} (h:HpB ltP q q.length) (hq:q≠[]) {f:Prt} (hf:f∈q):ltP f (pX q)=false:=by
 rw[(p_hp h hq).2];obtain⟨i,hi⟩:=List.getElem?_of_mem hf;have hl:=(List.getElem?_eq_some_iff.1 hi).1;have:f=gd q i:=by have:=getD_at hl;rw[hi]at this;exact Option.some.inj this
 rw[this];exact hp_min ordP h i hl
def pAll (q l:List Prt):List Prt:=l.foldl (pushL ltP) q
theorem pAll_hp:∀(l q:List Prt),HpB ltP q q.length→HpB ltP (pAll q l) (pAll q l).length
 |[],q,h=>h
 |k::l,q,h=>by
  have:=pAll_hp l (pushL ltP q k) (push_hp ordP _ h);unfold pAll at this ⊢;rw[List.foldl_cons];exact this
theorem pAll_perm:∀(l q:List Prt),(pAll q l).Perm (q++l)
 |[],q=>by unfold pAll;simp
 |k::l,q=>by
  have:=pAll_perm l (pushL ltP q k);unfold pAll at this ⊢;rw[List.foldl_cons];refine this.trans ?_;have h2:=(pushL_perm ltP q k).append_right l;rw[List.append_assoc]at h2;exact h2
structure BFS where
 kids:Prt→List Prt
 goal:Prt→Bool
 C:Prt→List (List Move)
 key:List Move→Prt
 Good:Prt→Prop
 hg:∀x,Good x→goal x=true→C x=[x.way]∧key x.way=x
 hn:∀x,Good x→goal x=false→(C x).Perm ((kids x).flatMap C)
 hk:∀x,Good x→goal x=false→∀y∈kids x,Good y
 hmin:∀x,Good x→∀c∈C x,ltP (key c) x=false
structure BsInv (B:BFS) (q:List Prt) (out all:List (List Move)):Prop where
 hp:HpB ltP q q.length
 good:∀x∈q,B.Good x
 perm:(out++q.flatMap B.C).Perm all
 sort:out.Pairwise fun a b=>ltP (B.key b) (B.key a)=false
 le:∀o∈out,∀c∈q.flatMap B.C,ltP (B.key c) (B.key o)=false
theorem bf_goal {B:BFS} {q:List Prt} {out all:List (List Move)} (h:BsInv B q out all) (hq:q≠[]) (hg:B.goal (pX q)=true):BsInv B (pQ q) (out++[(pX q).way]) all:=by
 have hpm:=p_perm hq;have hxm:pX q∈q:=hpm.subset (by simp);obtain⟨e1,e2⟩:=B.hg _ (h.good _ hxm) hg;have hfp:((pQ q).flatMap B.C++[(pX q).way]).Perm (q.flatMap B.C):=by
  have:=hpm.flatMap_right B.C;rw[List.flatMap_append]at this;simpa [e1]using this
 have hsub:∀c∈(pQ q).flatMap B.C,c∈q.flatMap B.C:=fun c hc=>hfp.subset (by simp only[List.mem_append];exact Or.inl hc);have hway:(pX q).way∈q.flatMap B.C:=hfp.subset (by simp);refine⟨(p_hp h.hp hq).1,fun x hx=>h.good x (hpm.subset (by simp[hx])),?_,?_,?_⟩
 ·rw[List.append_assoc];refine List.Perm.trans ?_ h.perm;refine List.Perm.append_left _ ?_;exact List.Perm.trans List.perm_append_comm hfp
 ·rw[List.pairwise_append];exact⟨h.sort,by simp,fun o ho c hc=>by simp only[List.mem_singleton]at hc;subst hc;exact h.le o ho _ hway⟩
 ·intro o ho c hc;rw[List.mem_append]at ho
  rcases ho with ho|ho
  ·exact h.le o ho c (hsub c hc)
  ·simp only[List.mem_singleton]at ho;subst ho;rw[e2];rw[List.mem_flatMap]at hc;obtain⟨y,hy,hc⟩:=hc;have hyq:y∈q:=hpm.subset (by simp[hy]);exact ordP.tr _ _ _ (pX_min h.hp hq hyq) (B.hmin y (h.good y hyq) c hc)
theorem bf_on {B:BFS} {q:List Prt} {out all:List (List Move)} (h:BsInv B q out all) (hq:q≠[]) (hg:B.goal (pX q)=false):BsInv B (pAll (pQ q) (B.kids (pX q))) out all:=by
 have hpm:=p_perm hq;have hxm:pX q∈q:=hpm.subset (by simp);have hn:=B.hn _ (h.good _ hxm) hg;have ha:=pAll_perm (B.kids (pX q)) (pQ q);have hfp:((pAll (pQ q) (B.kids (pX q))).flatMap B.C).Perm (q.flatMap B.C):=by
  have h1:=ha.flatMap_right B.C;have h2:=hpm.flatMap_right B.C;rw[List.flatMap_append]at h1 h2;refine h1.trans (List.Perm.trans ?_ h2);refine List.Perm.append_left _ ?_;simpa using hn.symm
 refine⟨pAll_hp _ _ (p_hp h.hp hq).1,fun x hx=>?_,?_,h.sort,fun o ho c hc=>h.le o ho c (hfp.subset hc)⟩
 ·have:=ha.subset hx;rw[List.mem_append]at this
  rcases this with h1|h1
  ·exact h.good x (hpm.subset (by simp[h1]))
  ·exact B.hk _ (h.good _ hxm) hg x h1
 ·exact(List.Perm.append_left _ hfp).trans h.perm
end Go.Tram
end
section
namespace Go.Tram
open Go.AM Go.Proofs
theorem nd_len {α:Type} [DecidableEq α]:∀(l u:List α),l.Nodup→(∀x∈l,x∈u)→l.length≤u.length
 |[],u,_,_=>Nat.zero_le _
 | x::l,u,hn,hs=>by
  rw[List.nodup_cons]at hn;have hx:=hs x (by simp);have h1:=nd_len l (u.erase x) hn.2 (fun y hy=>by
   have hne:y≠x:=fun e=>hn.1 (e▸hy);exact(List.mem_erase_of_ne hne).2 (hs y (by simp[hy])))
  rw[List.length_erase_of_mem hx]at h1;have:=List.length_pos_of_mem hx;simp only[List.length_cons];omega
def lastM (w:List Move):Move:=w.getLastD default
def wlen (p:Plan) (w:List Move):Int:=begTo p w w.length
theorem lastM_snoc (w:List Move) (m:Move):lastM (w++[m])=m:=by unfold lastM;rw[List.getLastD_eq_getLast?];simp
theorem begTo_snoc (p:Plan) (w:List Move) (m:Move):∀k,k≤w.length→begTo p (w++[m]) k=begTo p w k
 |0,_=>rfl
 |k+1,h=>by
  have e:∀l:List Move,begTo p l (k+1)=begTo p l k+p.len (mvAt l k).Rail:=fun _=>rfl;rw[e,e,begTo_snoc p w m k (by omega)];unfold mvAt;rw[List.getElem?_append_left (by omega)]
theorem wlen_snoc (p:Plan) (w:List Move) (m:Move):wlen p (w++[m])=wlen p w+p.len m.Rail:=by
 unfold wlen;rw[List.length_append,List.length_singleton];show begTo p (w++[m]) w.length+p.len (mvAt (w++[m]) w.length).Rail=_;rw[begTo_snoc p w m _ (Nat.le_refl _)];unfold mvAt;rw[List.getElem?_append_right (Nat.le_refl _)];simp
def onW (p:Plan) (to:Move):Nat→List Move→List (List Move)
 |0,w=>if lastM w=to then [w]else []
 |f+1,w=>if lastM w=to then [w]else(nextL p (lastM w)).flatMap fun m=>if m∈w then []else onW p to f (w++[m])
structure BegW (p:Plan) (w:List Move):Prop where
 ne:w≠[]
 nd:w.Nodup
 mv:∀m∈w,movB p m=true
 st:∀i,0<i→i<w.length→follB p (mvAt w (i-1)) (mvAt w i)=true
theorem lastM_mem {w:List Move} (h:w≠[]):lastM w∈w:=by
 unfold lastM;rw[List.getLastD_eq_getLast?,List.getLast?_eq_some_getLast h];exact List.getLast_mem h
theorem lastM_at {w:List Move} (h:w≠[]):lastM w=mvAt w (w.length-1):=by
 unfold lastM mvAt;rw[List.getLastD_eq_getLast?,List.getLast?_eq_getElem?]
theorem BegW.snoc {p:Plan} {w:List Move} {m:Move} (h:BegW p w) (hm:movB p m=true) (hf:follB p (lastM w) m=true) (hn:m∉w):BegW p (w++[m]):=by
 have hl:=List.length_pos_iff.2 h.ne;refine⟨by simp,?_,fun x hx=>?_,fun i h0 hi=>?_⟩
 ·rw[List.nodup_append];exact⟨h.nd,by simp,fun a ha b hb e=>by simp only[List.mem_singleton]at hb;subst hb;subst e;exact hn ha⟩
 ·rw[List.mem_append]at hx
  rcases hx with hx|hx
  ·exact h.mv x hx
  ·simp only[List.mem_singleton]at hx;subst hx;exact hm
 ·rw[List.length_append,List.length_singleton]at hi;have e:∀k,k<w.length→mvAt (w++[m]) k=mvAt w k:=fun k hk=>by unfold mvAt;rw[List.getElem?_append_left hk]
  have e2:mvAt (w++[m]) w.length=m:=by unfold mvAt;rw[List.getElem?_append_right (Nat.le_refl _)];simp
  rcases Nat.lt_or_ge i w.length with h1|h1
  ·rw[e i h1,e (i-1) (by omega)];exact h.st i h0 h1
  ·obtain rfl:i=w.length:=by omega
   rw[e2,e _ (by omega),←lastM_at h.ne];exact hf
theorem num_bdU {p:Plan} {m:Move} (h:movB p m=true):0≤numM m∧numM m<2*p.Rails.length:=by
 have:=movB_iff.1 h;unfold numM;split<;>omega
theorem next_ok {p:Plan} (hv:validB p=true) {x m:Move} (hx:movB p x=true) (h:m∈nextL p x):movB p m=true∧follB p x m=true:=by
 refine⟨?_,by unfold follB;rw[List.any_eq_true];exact⟨m,h,by simp⟩⟩;unfold nextL at h;obtain⟨k,hk,rfl⟩:=List.mem_map.1 h;have hk':=(nx_mem hv hx).1 (ins_mem'.1 hk);rw[movB_iff];unfold moveM;simp only;omega
section
variable {p:Plan} {to:Move} (hv:validB p=true) (hto:movB p to=true)
include hv
theorem on_path:∀(f:Nat) (w c:List Move),BegW p w→c∈onW p to f w→∃s L n,c=w++s∧BegW p c∧lastM c=to∧Pth p (numM to) (numM (lastM w)) L n∧wlen p c=wlen p w+L∧(c.length:Int)=w.length+n:=by
 intro f;have base:∀w c:List Move,BegW p w→lastM w=to→c=w→∃s L n,c=w++s∧BegW p c∧lastM c=to∧Pth p (numM to) (numM (lastM w)) L n∧wlen p c=wlen p w+L∧(c.length:Int)=w.length+n:=by
  rintro w c hw hl rfl;exact⟨[],0,0,by simp,hw,hl,by rw[hl];exact .nil,by omega,by omega⟩
 induction f with
 |zero=>
  intro w c hw hc;rw[onW]at hc
  split at hc
  ·rename_i hl;simp only[List.mem_singleton]at hc;exact base w c hw hl hc
  ·cases hc
 | succ f ih=>
  intro w c hw hc;rw[onW]at hc
  split at hc
  ·rename_i hl;simp only[List.mem_singleton]at hc;exact base w c hw hl hc
  ·rw[List.mem_flatMap]at hc;obtain⟨m,hm,hc⟩:=hc
   split at hc
   ·cases hc
   ·rename_i hmw;have hlm:=hw.mv _ (lastM_mem hw.ne);obtain⟨k1,k2⟩:=next_ok hv hlm hm;have hw2:=hw.snoc k1 k2 hmw;obtain⟨s,L,n,e1,e2,e3,e4,e5,e6⟩:=ih _ c hw2 hc;rw[lastM_snoc]at e4;have hb:=num_bdU hlm;have hmr:=movB_iff.1 k1;have hlr:=movB_iff.1 hlm;refine⟨m::s,L+p.len m.Rail,n+1,by rw[e1];simp,e2,e3,?_,by rw[e5,wlen_snoc];omega,by rw[e6,List.length_append,List.length_singleton];omega⟩;have:=Pth.cons (p:=p) (to:=numM to) (k:=numM (lastM w)) (j:=numM m) hb.1 hb.2 (by rw[moveM_numM hlr.1,moveM_numM hmr.1];exact k2) e4;have er:numM m/2=m.Rail:=by unfold numM;split<;>omega
    rwa [er]at this
def mkP (p:Plan) (to:Move) (w:List Move):Prt:=⟨w,wlen p w+gd (dEnd p (numM to)).ln (numM (lastM w)).toNat,w.length+gd (dEnd p (numM to)).mv (numM (lastM w)).toNat⟩
def keyW (p:Plan) (w:List Move):Prt:=⟨w,wlen p w,w.length⟩
def opnB (p:Plan) (to m:Move):Bool:=decide (0≤gd (dEnd p (numM to)).ln (numM m).toNat)
def kidsP (p:Plan) (to:Move) (x:Prt):List Prt:=((nextL p (lastM x.way)).filter fun m=> !decide (m∈x.way)&&opnB p to m).map fun m=>mkP p to (x.way++[m])
def cP (p:Plan) (to:Move) (x:Prt):List (List Move):=onW p to (2*p.Rails.length+1-x.way.length) x.way
theorem beg_len {w:List Move} (h:BegW p w):w.length≤2*p.Rails.length:=by
 have hv0:=hv;have:=nd_len w ((List.range (2*p.Rails.length)).map fun(k:Nat)=>moveM k) h.nd (fun m hm=>by
  have hb:=num_bdU (h.mv m hm);have hr:=(movB_iff.1 (h.mv m hm)).1;rw[List.mem_map];exact⟨(numM m).toNat,List.mem_range.2 (by omega),by rw[Int.toNat_of_nonneg hb.1,moveM_numM hr]⟩)
 simpa using this
include hto
theorem on_open {f:Nat} {w c:List Move} (hw:BegW p w) (hc:c∈onW p to f w):opnB p to (lastM w)=true:=by
 obtain⟨s,L,n,_,_,_,e4,_,_⟩:=on_path hv f w c hw hc;have hb:=num_bdU hto;have hD:=dEnd_ok hv hb.1 hb.2;unfold opnB;exact decide_eq_true (hD.mn _ _ _ e4).1
def bfP:BFS where
 kids:=kidsP p to
 goal x:=decide (lastM x.way=to)
 C:=cP p to
 key:=keyW p
 Good x:=x=mkP p to x.way∧BegW p x.way
 hg x hx h:=by
  have hl:lastM x.way=to:=by simpa using h
  have hb:=num_bdU hto;have hD:=dEnd_ok hv hb.1 hb.2;obtain⟨e1,e2⟩:=hD.mn _ _ _ Pth.nil;have e3:=(hD.sp (numM to).toNat (by omega) e1).bd hv hb.1 hb.2;have hlen:=beg_len hv hx.2;refine⟨?_,?_⟩
  ·unfold cP;obtain⟨f,hf⟩:∃f,2*p.Rails.length+1-x.way.length=f+1:=⟨2*p.Rails.length-x.way.length,by omega⟩;rw[hf,onW,if_pos hl]
  ·rw[hx.1];unfold mkP keyW;simp only[hl,Prt.mk.injEq,true_and];omega
 hn x hx h:=by
  have hl:¬lastM x.way=to:=by simpa using h
  have hlen:=beg_len hv hx.2;have hlm:=hx.2.mv _ (lastM_mem hx.2.ne);unfold cP kidsP;obtain⟨f,hf⟩:∃f,2*p.Rails.length+1-x.way.length=f+1:=⟨2*p.Rails.length-x.way.length,by omega⟩;rw[hf,onW,if_neg hl,List.flatMap_map];have gen:∀N:List Move,(∀m∈N,m∈nextL p (lastM x.way))→(N.flatMap fun m=>if m∈x.way then []else onW p to f (x.way++[m]))=(N.filter fun m=> !decide (m∈x.way)&&opnB p to m).flatMap fun m=>onW p to (2*p.Rails.length+1-(x.way++[m]).length) (x.way++[m]):=by
   intro N
   induction N with
   |nil=>intro _;rfl
   | cons m N ih=>
    intro hN;rw[List.flatMap_cons,ih (fun k hk=>hN k (by simp[hk])),List.filter_cons];have e:2*p.Rails.length+1-(x.way++[m]).length=f:=by rw[List.length_append,List.length_singleton];omega
    by_cases hm:m∈x.way
    ·rw[if_pos hm,if_neg (by simp[hm])];rfl
    ·rw[if_neg hm]
     cases ho:opnB p to m with
     |true=>rw[if_pos (by simp[hm]),List.flatMap_cons,e]
     | false=>
      rw[if_neg (by simp)];have he:onW p to f (x.way++[m])=[]:=by
       rw[List.eq_nil_iff_forall_not_mem];intro c hc;obtain⟨k1,k2⟩:=next_ok hv hlm (hN m (by simp));have:=on_open hv hto (hx.2.snoc k1 k2 hm) hc;rw[lastM_snoc,ho]at this
       cases this
      rw[he];rfl
  rw[gen _ fun _ h=>h];exact List.Perm.refl _
 hk x hx h y hy:=by
  unfold kidsP at hy;obtain⟨m,hm,rfl⟩:=List.mem_map.1 hy;rw[List.mem_filter]at hm;have hlm:=hx.2.mv _ (lastM_mem hx.2.ne);obtain⟨k1,k2⟩:=next_ok hv hlm hm.1;have hmw:m∉x.way:=by have:=hm.2;simp only[Bool.and_eq_true,Bool.not_eq_true',decide_eq_false_iff_not]at this;exact this.1
  exact⟨rfl,hx.2.snoc k1 k2 hmw⟩
 hmin x hx c hc:=by
  obtain⟨s,L,n,e1,e2,e3,e4,e5,e6⟩:=on_path hv _ x.way c hx.2 hc;have hb:=num_bdU hto;have hD:=dEnd_ok hv hb.1 hb.2;obtain⟨m1,m2⟩:=hD.mn _ _ _ e4;rw[hx.1,ltP_false];unfold mkP keyW;simp only
  rcases m2 with m2|⟨m2,m3⟩
  ·left;omega
  ·right
   refine⟨by omega,?_⟩
   rcases Int.lt_or_eq_of_le m3 with m4|m4
   ·left;omega
   ·right
    refine⟨by omega,?_⟩;rw[e1];unfold nums;rw[List.map_append];exact lexB_pre _ _
end
end Go.Tram
end
