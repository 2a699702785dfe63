import Derived.Test.YtonfebmohoopgaaGreatK4
import Derived.Test.YtonfebmohoopgaaGreatProg
set_option maxRecDepth 100000
set_option maxHeartbeats 8000000
set_option linter.unusedVariables false
set_option linter.unusedSimpArgs false
section
namespace Go.AM
section
variable {P:Program} {nt:Nat} {kp:List Nat} {T:Tm} {H:Hp} {Q:Exit→Tm→Hp→Prop}
theorem gwp_range_sW {J:Jt} (hJC:JC true J) (kl:List Nat) (hp:Nat→Hp) (inv:Nat→Prop) {g:Operand} {ps:Array Tmp} {assign body:Code} {f:FuncId} {caps:List AV} {xs:List (List AV)} {H0:Hp} (hT1:T.map (·.1)=kl) (hic:IterCallW P f H0 caps xs) (hH:H=H0++H.drop H0.length) (hr0:H0.all rowOk=true) (hg:evT (look T) g= .clo f caps) (hnr:caps.all (capOk H0.length)=true) (hnt:nt≤999999)
  (hps:ps.toList.Nodup) (hpl:∀p∈ps.toList,p<nt∧p∉kl) (hx:∀x∈xs,x.length=ps.size)
  (h0:inv 0) (hs0:Sub nt T (List.replicate H0.length none++H.drop H0.length) T (hp 0))
  (round:∀n x,xs[n]?=some x→inv n→∀(l:Nat) (J1:Jt),JC false J1→GWp P (some l) J1 nt kl assign (ps.toList.zip x++T) (hp n) (onlyN fun T' H'=>∀J2:Jt,JC false J2→GWp P (some l) J2 nt kl body T' H' (roundQ nt inv hp T Q n)))
  (done:inv xs.length→Q .normal T (hp xs.length)):GWp P none J nt kp (.rangeFunc g ps assign body) T H Q:=
 gwp_rangeW hJC hH hr0 T kl hp inv hg hnr hic hnt hps hpl hx h0 hs0 (keysAny hT1) round done
end
end Go.AM
namespace Go.Mo
open Go.AM Go.Cur Go.Proofs
def afterX (t:Tn) (st:Int) (x:Ms) (d sl:Int):Ms:=⟨nextP t st x d sl,x.W+nextP t st x d sl⟩
def stopN (t:Tn) (st:Int) (sF:Ms→Int):Nat→Ms→List Ms
 |0,_=>[]
 |n+1,x=>if x.P=0 then []else if nextP t st x (-4) (sF x)≤25000*t.Mass then afterX t st x (-4) (sF x)::stopN t st sF n (afterX t st x (-4) (sF x))else []
theorem stopN_len (t:Tn) (st:Int) (sF:Ms→Int):∀(n:Nat) (x:Ms),(stopN t st sF n x).length≤n
 |0,x=>Nat.le_refl _
 | n+1,x=>by
  rw[stopN]
  split
  ·simp
  ·split
   ·have:=stopN_len t st sF n (afterX t st x (-4) (sF x));simp only[List.length_cons];omega
   ·simp
def yAV (y:Ms):List AV:=[y.av]
theorem c_stop1_c (t:Tn) (st:Int) (hb:TnB t st) (f:FuncId) (cl:List (List AV)) (sF:Ms→Int) (hs:∀x,MsB t x→PureCall Tryz.prog f (x.av::ipts cl) (I (sF x))) (hsl:∀x,MsB t x→ -120≤sF x∧sF x≤120) (x0:Ms) (hx:MsB t x0) (hw:x0.W≤100000000000000000):
  IterCallW Tryz.prog 90 [some (.els 2 [x0.cells])] [.ptr 0 0 0, .iptr [t.mp st], .iptr [.clo f (ipts cl)]] ((stopN t st sF 36000 x0).map yAV):=by
 have hln:=stopN_len t st sF 36000 x0;refine IterCallW.of_body Tryz.func90 rfl (by decide) (by simp[Tryz.ntmps90]) (by simp[Tryz.ntmps90]) (by simp[Tryz.results90]) ?_;intro J l hmk hY;simp only[Tryz.ntmps90,Tryz.results90];refine gS fun K hK=>?_;simp -dsimp;apply hK;clear hK K;refine gwp_block ?_;refine gwp_prune [0,1,2,3,7,999999] (Or.inl (by decide)) ?_;simp only[zP,Nat.reduceEqDiff,reduceIte];refine gwp_loop_l [0,1,2,3] (α:=List Ms×Ms) (fun q=>[(7,I q.1.length),(999999,cntV q.1.length)]) (fun q=>[some (.els 2 [q.2.cells])]) (fun q=>q.1.length≤36000∧q.1++stopN t st sF (36000-q.1.length) q.2=stopN t st sF 36000 x0∧MsB t q.2∧q.2.W≤100000000000000000+q.1.length*2100000000) (fun q=>36000-q.1.length) ([],x0) ?_ ?_ ?_
 ·exact⟨by simp,by simp,hx,by simpa using hw⟩
 ·exact gsub (sub_rb [some 0] rfl (by simp) (by simp)) (by simp)
 rintro⟨L,x⟩ ⟨i1,i2,i3,i4⟩;simp only at i1 i2 i3 i4 ⊢;simp only[zP,Nat.reduceEqDiff,reduceIte];refine gS fun K hK=>?_;simp -dsimp;apply hK;clear hK K;refine gwp_seq_k fun K1 hK1=>?_;refine gwp_cond rfl (fun hc0=>?_) (fun hc0=>?_)
 ·have hlt:L.length<36000:=by have h:=(by simpa using hc0:(L.length:Int)<36000);omega
  have wk:IntKind.i64.wrap ((L.length:Int)+1)=(L.length:Int)+1:=wrap_in (by omega) (by omega);obtain⟨m,hm⟩:∃m,36000-L.length=m+1:=⟨36000-L.length-1,by omega⟩;have hm2:36000-(L.length+1)=m:=by omega
  rw[hm,stopN]at i2;refine gwp_skip ?_;simp only[zT,reduceIte,Nat.reduceEqDiff];refine hK1 _ _ ?_;refine gwp_prune [0,1,2,3,7,999999] (Or.inl (by decide)) ?_;simp only[zP,Nat.reduceEqDiff,reduceIte];refine gwp_seq_k fun K2 hK2=>?_;refine gwp_block ?_;refine gwp_seq_k fun K3 hK3=>?_;refine gS fun K hK=>?_;simp -dsimp;apply hK;clear hK K;refine gwp_cond rfl (fun hc1=>?_) (fun hc1=>?_)
  ·have hp0:x.P=0:=by simpa using hc1
   rw[if_pos hp0,List.append_nil]at i2;exact gwp_ret (by simp[←i2])
  ·have hp0:¬x.P=0:=by simpa using hc1
   rw[if_neg hp0]at i2;have hsx:=hs x i3;have hst:=c_step t st x (-4) (sF x) ⟨hb,i3,by omega,hsl x i3⟩;have hnb:=next_bd (t:=t) (st:=st) (x:=x) (d:=-4) (sl:=sF x) ⟨hb,i3,by omega,hsl x i3⟩;unfold stepC at hst;refine gwp_skip ?_;simp only[zT,reduceIte,Nat.reduceEqDiff];refine hK3 _ _ ?_;refine gwp_prune [0,1,2,3,7,999999] (Or.inl (by decide)) ?_;simp only[zP,Nat.reduceEqDiff,reduceIte];refine gwp_sd mixed rfl (by decide) rfl rfl fun K hK=>?_;simp -dsimp;refine callK_intro _ (hsx) (by simp) ?_;simp -dsimp;refine callK_intro _ (hst) (by simp) ?_;simp -dsimp;refine hK _ _ _ (by decide+kernel) ?_;clear hK K;refine gwp_seq_k fun K4 hK4=>?_;refine gS fun K hK=>?_;simp -dsimp;apply hK;clear hK K;refine gwp_cond rfl (fun hc2=>?_) (fun hc2=>?_)
   ·have hno:¬nextP t st x (-4) (sF x)≤25000*t.Mass:=by simpa using hc2
    rw[if_neg hno,List.append_nil]at i2;exact gwp_ret (by simp[←i2])
   ·have hok:nextP t st x (-4) (sF x)≤25000*t.Mass:=by simpa using hc2
    rw[if_pos hok]at i2;have hget:((stopN t st sF 36000 x0).map yAV)[L.length]?=some [(afterX t st x (-4) (sF x)).av]:=by rw[←i2];simp[yAV]
    have haw:(afterX t st x (-4) (sF x)).W=x.W+nextP t st x (-4) (sF x):=rfl;have hap:(afterX t st x (-4) (sF x)).P=nextP t st x (-4) (sF x):=rfl;refine gwp_skip ?_;simp only[zT,reduceIte,Nat.reduceEqDiff];refine hK4 _ _ ?_;refine gwp_prune [0,1,2,3,5,7,999999] (Or.inl (by decide)) ?_;simp only[zP,Nat.reduceEqDiff,reduceIte];refine gS fun K hK=>?_;simp -dsimp;apply hK;clear hK K;refine gwp_sy hmk hY rfl (by decide) rfl rfl fun K hK=>?_;simp -dsimp;refine yK_intro hget ?_ ?_
    ·apply hK;clear hK K;refine gwp_cond rfl (fun hc3=>?_) (fun hc3=>?_)
     ·simp at hc3
     ·refine gwp_skip ?_;simp only[zT,reduceIte,Nat.reduceEqDiff];refine hK2 _ _ ?_;refine gwp_prune [0,1,2,3,7,999999] (Or.inl (by decide)) ?_;simp only[zP,Nat.reduceEqDiff,reduceIte];refine gR fun K hK=>?_;simp -dsimp [wk];apply hK;clear hK K;simp only[zT,reduceIte,Nat.reduceEqDiff];exact⟨(L++[afterX t st x (-4) (sF x)],afterX t st x (-4) (sF x)),⟨by simp;omega,by simp only[List.length_append,List.length_cons,List.length_nil,Nat.zero_add,hm2,List.append_assoc,List.cons_append,List.nil_append];exact i2,⟨by rw[hap];omega,by rw[haw];have:=i3.w;omega⟩,by rw[haw];simp;omega⟩,by simp;omega,gsub (sub_rb [some 0] rfl (by simp[haw,hap]) (by simp[haw,hap])) (by simp)⟩
    ·apply hK;clear hK K;refine gwp_cond rfl (fun hc3=>?_) (fun hc3=>?_)
     ·exact gwp_ret (by simp)
     ·simp at hc3
 ·have hlt:36000-L.length=0:=by have:¬(L.length:Int)<36000:=(by simpa using hc0);omega
  rw[hlt,stopN,List.append_nil]at i2;refine gwp_exit ?_
  try simp only[zT,reduceIte,Nat.reduceEqDiff]
  simp[←i2]
theorem m_stop_c (t:Tn) (st:Int) (f:FuncId) (cl:List (List AV)) (x:Ms):MutCall Tryz.prog 61 [t.mp st,x.av, .clo f (ipts cl)] [] [] (.clo 90 [.ptr 0 0 0, .iptr [t.mp st], .iptr [.clo f (ipts cl)]]) [] [some (.els 2 [x.cells])]:=by
 refine MutCall.of_bodyG [] Tryz.func61 rfl (by decide) (by simp[Tryz.ntmps61]) rfl rfl ?_;intro J hJ;simp only[Tryz.ntmps61,Tryz.results61];refine gS fun K hK=>?_;simp -dsimp;apply hK;clear hK K;refine gS fun K hK=>?_;simp -dsimp;apply hK;clear hK K;refine gwp_weak (gsub (sub_rfM [some 1] rfl) (by simp)) ?_;simp -dsimp [renF,renHF,renRowF,ipts_frz,newName];exact gwp_ret ⟨[some 0],rfl,by simp,by simp,by simp,by simp[resP,tupOf]⟩
theorem c_stop1_b (t:Tn) (st:Int) (hb:TnB t st) (f:FuncId) (cl:List (List AV)) (sF:Ms→Int) (hs:∀x,MsB t x→PureCall Tryz.prog f (ipts cl++[x.av]) (I (sF x))) (hsl:∀x,MsB t x→ -120≤sF x∧sF x≤120) (x0:Ms) (hx:MsB t x0) (hw:x0.W≤100000000000000000):
  IterCallW Tryz.prog 90 [some (.els 2 [x0.cells])] [.ptr 0 0 0, .iptr [t.mp st], .iptr [.bnd f (ipts cl)]] ((stopN t st sF 36000 x0).map yAV):=by
 have hln:=stopN_len t st sF 36000 x0;refine IterCallW.of_body Tryz.func90 rfl (by decide) (by simp[Tryz.ntmps90]) (by simp[Tryz.ntmps90]) (by simp[Tryz.results90]) ?_;intro J l hmk hY;simp only[Tryz.ntmps90,Tryz.results90];refine gS fun K hK=>?_;simp -dsimp;apply hK;clear hK K;refine gwp_block ?_;refine gwp_prune [0,1,2,3,7,999999] (Or.inl (by decide)) ?_;simp only[zP,Nat.reduceEqDiff,reduceIte];refine gwp_loop_l [0,1,2,3] (α:=List Ms×Ms) (fun q=>[(7,I q.1.length),(999999,cntV q.1.length)]) (fun q=>[some (.els 2 [q.2.cells])]) (fun q=>q.1.length≤36000∧q.1++stopN t st sF (36000-q.1.length) q.2=stopN t st sF 36000 x0∧MsB t q.2∧q.2.W≤100000000000000000+q.1.length*2100000000) (fun q=>36000-q.1.length) ([],x0) ?_ ?_ ?_
 ·exact⟨by simp,by simp,hx,by simpa using hw⟩
 ·exact gsub (sub_rb [some 0] rfl (by simp) (by simp)) (by simp)
 rintro⟨L,x⟩ ⟨i1,i2,i3,i4⟩;simp only at i1 i2 i3 i4 ⊢;simp only[zP,Nat.reduceEqDiff,reduceIte];refine gS fun K hK=>?_;simp -dsimp;apply hK;clear hK K;refine gwp_seq_k fun K1 hK1=>?_;refine gwp_cond rfl (fun hc0=>?_) (fun hc0=>?_)
 ·have hlt:L.length<36000:=by have h:=(by simpa using hc0:(L.length:Int)<36000);omega
  have wk:IntKind.i64.wrap ((L.length:Int)+1)=(L.length:Int)+1:=wrap_in (by omega) (by omega);obtain⟨m,hm⟩:∃m,36000-L.length=m+1:=⟨36000-L.length-1,by omega⟩;have hm2:36000-(L.length+1)=m:=by omega
  rw[hm,stopN]at i2;refine gwp_skip ?_;simp only[zT,reduceIte,Nat.reduceEqDiff];refine hK1 _ _ ?_;refine gwp_prune [0,1,2,3,7,999999] (Or.inl (by decide)) ?_;simp only[zP,Nat.reduceEqDiff,reduceIte];refine gwp_seq_k fun K2 hK2=>?_;refine gwp_block ?_;refine gwp_seq_k fun K3 hK3=>?_;refine gS fun K hK=>?_;simp -dsimp;apply hK;clear hK K;refine gwp_cond rfl (fun hc1=>?_) (fun hc1=>?_)
  ·have hp0:x.P=0:=by simpa using hc1
   rw[if_pos hp0,List.append_nil]at i2;exact gwp_ret (by simp[←i2])
  ·have hp0:¬x.P=0:=by simpa using hc1
   rw[if_neg hp0]at i2;have hsx:=hs x i3;have hst:=c_step t st x (-4) (sF x) ⟨hb,i3,by omega,hsl x i3⟩;have hnb:=next_bd (t:=t) (st:=st) (x:=x) (d:=-4) (sl:=sF x) ⟨hb,i3,by omega,hsl x i3⟩;unfold stepC at hst;refine gwp_skip ?_;simp only[zT,reduceIte,Nat.reduceEqDiff];refine hK3 _ _ ?_;refine gwp_prune [0,1,2,3,7,999999] (Or.inl (by decide)) ?_;simp only[zP,Nat.reduceEqDiff,reduceIte];refine gwp_sd mixed rfl (by decide) rfl rfl fun K hK=>?_;simp -dsimp;refine callK_intro _ (hsx) (by simp) ?_;simp -dsimp;refine callK_intro _ (hst) (by simp) ?_;simp -dsimp;refine hK _ _ _ (by decide+kernel) ?_;clear hK K;refine gwp_seq_k fun K4 hK4=>?_;refine gS fun K hK=>?_;simp -dsimp;apply hK;clear hK K;refine gwp_cond rfl (fun hc2=>?_) (fun hc2=>?_)
   ·have hno:¬nextP t st x (-4) (sF x)≤25000*t.Mass:=by simpa using hc2
    rw[if_neg hno,List.append_nil]at i2;exact gwp_ret (by simp[←i2])
   ·have hok:nextP t st x (-4) (sF x)≤25000*t.Mass:=by simpa using hc2
    rw[if_pos hok]at i2;have hget:((stopN t st sF 36000 x0).map yAV)[L.length]?=some [(afterX t st x (-4) (sF x)).av]:=by rw[←i2];simp[yAV]
    have haw:(afterX t st x (-4) (sF x)).W=x.W+nextP t st x (-4) (sF x):=rfl;have hap:(afterX t st x (-4) (sF x)).P=nextP t st x (-4) (sF x):=rfl;refine gwp_skip ?_;simp only[zT,reduceIte,Nat.reduceEqDiff];refine hK4 _ _ ?_;refine gwp_prune [0,1,2,3,5,7,999999] (Or.inl (by decide)) ?_;simp only[zP,Nat.reduceEqDiff,reduceIte];refine gS fun K hK=>?_;simp -dsimp;apply hK;clear hK K;refine gwp_sy hmk hY rfl (by decide) rfl rfl fun K hK=>?_;simp -dsimp;refine yK_intro hget ?_ ?_
    ·apply hK;clear hK K;refine gwp_cond rfl (fun hc3=>?_) (fun hc3=>?_)
     ·simp at hc3
     ·refine gwp_skip ?_;simp only[zT,reduceIte,Nat.reduceEqDiff];refine hK2 _ _ ?_;refine gwp_prune [0,1,2,3,7,999999] (Or.inl (by decide)) ?_;simp only[zP,Nat.reduceEqDiff,reduceIte];refine gR fun K hK=>?_;simp -dsimp [wk];apply hK;clear hK K;simp only[zT,reduceIte,Nat.reduceEqDiff];exact⟨(L++[afterX t st x (-4) (sF x)],afterX t st x (-4) (sF x)),⟨by simp;omega,by simp only[List.length_append,List.length_cons,List.length_nil,Nat.zero_add,hm2,List.append_assoc,List.cons_append,List.nil_append];exact i2,⟨by rw[hap];omega,by rw[haw];have:=i3.w;omega⟩,by rw[haw];simp;omega⟩,by simp;omega,gsub (sub_rb [some 0] rfl (by simp[haw,hap]) (by simp[haw,hap])) (by simp)⟩
    ·apply hK;clear hK K;refine gwp_cond rfl (fun hc3=>?_) (fun hc3=>?_)
     ·exact gwp_ret (by simp)
     ·simp at hc3
 ·have hlt:36000-L.length=0:=by have:¬(L.length:Int)<36000:=(by simpa using hc0);omega
  rw[hlt,stopN,List.append_nil]at i2;refine gwp_exit ?_
  try simp only[zT,reduceIte,Nat.reduceEqDiff]
  simp[←i2]
theorem m_stop_b (t:Tn) (st:Int) (f:FuncId) (cl:List (List AV)) (x:Ms):MutCall Tryz.prog 61 [t.mp st,x.av, .bnd f (ipts cl)] [] [] (.clo 90 [.ptr 0 0 0, .iptr [t.mp st], .iptr [.bnd f (ipts cl)]]) [] [some (.els 2 [x.cells])]:=by
 refine MutCall.of_bodyG [] Tryz.func61 rfl (by decide) (by simp[Tryz.ntmps61]) rfl rfl ?_;intro J hJ;simp only[Tryz.ntmps61,Tryz.results61];refine gS fun K hK=>?_;simp -dsimp;apply hK;clear hK K;refine gS fun K hK=>?_;simp -dsimp;apply hK;clear hK K;refine gwp_weak (gsub (sub_rfM [some 1] rfl) (by simp)) ?_;simp -dsimp [renF,renHF,renRowF,ipts_frz,newName];exact gwp_ret ⟨[some 0],rfl,by simp,by simp,by simp,by simp[resP,tupOf]⟩
def lastX (t:Tn) (st:Int) (sF:Ms→Int) (x:Ms):Ms:=(stopN t st sF 36000 x).getLastD x
theorem step_ok {t:Tn} {st:Int} {x:Ms} {d sl:Int} (h:Ask t st x d sl) (hw:x.W≤900000000000000000) (hq:nextP t st x d sl≤25000*t.Mass):MsB t (afterX t st x d sl):=by
 have hn:=next_bd h;have hx:=h.x;exact⟨⟨hn.1,hq⟩,⟨by show 0≤x.W+_;have:=hx.w;omega,by show x.W+_≤_;omega⟩⟩
theorem stopN_ok {t:Tn} {st:Int} (hb:TnB t st) {sF:Ms→Int} (hsl:∀x,MsB t x→ -120≤sF x∧sF x≤120):∀(n:Nat) (x:Ms) (B:Int),MsB t x→x.W≤B→B+n*2100000000≤900000000000000000→∀y∈stopN t st sF n x,MsB t y∧y.W≤B+n*2100000000
 |0,x,B,_,_,_,y,h=>by simp[stopN]at h
 | n+1,x,B,hx,hB,hn,y,h=>by
  rw[stopN]at h
  split at h
  ·simp at h
  ·split at h
   ·rename_i hq;have ha:Ask t st x (-4) (sF x):=⟨hb,hx,by omega,hsl x hx⟩;have hx2:=step_ok ha (by omega) hq;have hnb:=next_bd ha;have haw:(afterX t st x (-4) (sF x)).W=x.W+nextP t st x (-4) (sF x):=rfl
    rcases List.mem_cons.1 h with rfl|h
    ·exact⟨hx2,by rw[haw];omega⟩
    ·have:=stopN_ok hb hsl n _ (B+2100000000) hx2 (by rw[haw];omega) (by omega) y h;exact⟨this.1,by have:=this.2;omega⟩
   ·simp at h
theorem lastX_ok {t:Tn} {st:Int} (hb:TnB t st) {sF:Ms→Int} (hsl:∀x,MsB t x→ -120≤sF x∧sF x≤120) {x:Ms} (hx:MsB t x) (hw:x.W≤100000000000000000):MsB t (lastX t st sF x)∧(lastX t st sF x).W≤200000000000000000:=by
 unfold lastX;rw[List.getLastD_eq_getLast?]
 cases h:(stopN t st sF 36000 x).getLast? with
 |none=>exact⟨hx,by simp;omega⟩
 |some y=>
  have:=stopN_ok hb hsl 36000 x 100000000000000000 hx hw (by omega) y (List.mem_of_getLast? h);exact⟨this.1,by have:=this.2;simp;omega⟩
def plF (t:Tn) (x:Ms):Int:=x.W.tdiv (10*t.Mass)
theorem plF_bd {t:Tn} {st:Int} (hb:TnB t st) {x:Ms} (hx:MsB t x):0≤plF t x∧plF t x≤100000000000000:=by
 have hm:=hb.ma;have hw:=hx.w;unfold plF;rw[Int.tdiv_eq_ediv_of_nonneg hw.1];refine⟨Int.ediv_nonneg hw.1 (by omega),Int.ediv_le_of_le_mul (by omega) (by omega)⟩
def brkF (t:Tn) (st:Int) (x:Ms) (sl:Int):Int:=plF t (lastX t st (fun _=>sl) x)-plF t x
theorem c_braking (t:Tn) (st:Int) (x:Ms) (sl:Int) (hb:TnB t st) (hx:MsB t x) (hw:x.W≤100000000000000000) (h0:-120≤sl∧sl≤120):
  PureCall Tryz.prog 33 [t.mp st,x.av,I sl] (.tup [I (brkF t st x sl),Bo (decide ((lastX t st (fun _=>sl) x).P=0))]):=by
 have hms:=m_stop_c t st 62 [[I sl]] x;have hit:=c_stop1_c t st hb 62 [[I sl]] (fun _=>sl) (fun x _=>c_braking1 x sl) (fun _ _=>h0) x hx hw;obtain⟨hl,hlw⟩:=lastX_ok hb (sF:=fun _=>sl) (fun _ _=>h0) hx hw;have hp1:=c_place t st (lastX t st (fun _=>sl) x) hb hl.w.1 hl.w.2;have hp2:=c_place t st x hb hx.w.1 hx.w.2;have b1:=plF_bd hb hl;have b2:=plF_bd hb hx;have hlx:lastX t st (fun _=>sl) x=(stopN t st (fun _=>sl) 36000 x).getLastD x:=rfl;unfold brkF;have wp:IntKind.i64.wrap (plF t (lastX t st (fun _=>sl) x)-plF t x)=plF t (lastX t st (fun _=>sl) x)-plF t x:=wrap_in (by omega) (by omega);unfold plF at*
 rw[List.getLastD_eq_getLast?]at hlx;generalize lastX t st (fun _=>sl) x=y at*
 generalize stopN t st (fun _=>sl) 36000 x=L at*
 simp only[ipts]at hms hit;refine PureCall.of_bodyG Tryz.func33 rfl (by decide) (by simp[Tryz.ntmps33]) ?_;intro J hJ;simp only[Tryz.ntmps33,Tryz.results33];refine gS fun K hK=>?_;simp -dsimp;apply hK;clear hK K;refine gS fun K hK=>?_;simp -dsimp;apply hK;clear hK K;refine gwp_seq_k fun K1 hK1=>?_;refine gwp_weak (gsub (sub_rfM [some 0,some 2] rfl) (by simp)) ?_;simp -dsimp [renF,renHF,renRowF,newName]
 ·refine gS fun K hK=>?_;simp -dsimp;refine callK_mut [] [] [none,none,some 0] (hms) (by decide) rfl (by simp) (by simp) rfl (by simp) ?_;simp -dsimp;apply hK;clear hK K;refine gwp_block ?_;refine gwp_prune [0,4,8,14] (Or.inr (by simp)) ?_;simp only[zP,Nat.reduceEqDiff,reduceIte];refine gwp_weak (gsub (sub_rfM [some 2,some 0,some 1] rfl) (by simp)) ?_;simp -dsimp [renF,renHF,renRowF,newName];refine gwp_range_sW hJ [0,4,8,14] (fun n=>[none,some (.els 2 [x.cells]),some (.els 2 [((L.take n).getLastD x).cells])]) (fun n=>True) rfl (hit) rfl (by simp[rowOk]) rfl (by simp[capOk]) (by decide) (by decide) (by decide) (by simp[yAV]) ?_ ?_ ?_ ?_
  ·trivial
  ·exact sub_same (by simp)
  ·intro n xv hxn hi l1 J1 hJ1;obtain⟨q,hq,rfl⟩:∃q,L[n]?=some q∧yAV q=xv:=by simpa using hxn
   simp only[yAV];simp only[List.zip_cons_cons,List.zip_nil_left,List.zip_nil_right,List.cons_append,List.nil_append];refine gR fun K hK=>?_;simp -dsimp;apply hK;clear hK K;simp only[onlyN];intro J2 hJ2;refine gwp_prune [0,4,8,9,14] (Or.inr (by simp)) ?_;simp only[zP,Nat.reduceEqDiff,reduceIte];refine gwp_block ?_;refine gR fun K hK=>?_;simp -dsimp;apply hK;clear hK K;simp only[thenA,inBlockA,roundQ,reduceIte,Nat.reduceEqDiff,eq_self];have htk:(L.take (n+1)).getLast?.getD x=q:=by rw[List.take_add_one,hq];simp
   exact⟨trivial,sub_rb [some 0,some 1,some 2] rfl (by simp) (by simp[htk])⟩
  ·intro hdone;simp only[zT,reduceIte,Nat.reduceEqDiff];refine hK1 _ _ ?_;refine gwp_prune [0,4,8] (Or.inr (by simp)) ?_;simp only[zP,Nat.reduceEqDiff,reduceIte];refine gwp_sd mixed rfl (by decide) rfl rfl fun K hK=>?_;simp -dsimp [←hlx,wp];refine callK_intro _ (hp1) (by simp) ?_;simp -dsimp [←hlx,wp];refine callK_intro _ (hp2) (by simp) ?_;simp -dsimp [←hlx,wp];refine hK _ _ _ (by decide+kernel) ?_;clear hK K;exact gwp_ret (by simp[wp]<;>rfl)
end Go.Mo
end
section
namespace Go.Mo
open Go.AM Go.Cur Go.Proofs
theorem c_sNaN (a:Int):PureCall Tryz.prog 136 [I a] (Bo false):=by
 refine PureCall.of_body Tryz.func136 rfl (by decide) (by simp[Tryz.ntmps136]) ?_;simp only[Tryz.ntmps136,Tryz.results136];refine aS fun K hK=>?_;simp -dsimp;apply hK;clear hK K;refine aS fun K hK=>?_;simp -dsimp;apply hK;clear hK K;exact awp_ret (by simp)
def lbI (l:List Int) (x:Int):Nat:=l.countP fun y=>decide (y<x)
theorem lbI_of {l:List Int} {x:Int} {k:Nat} (hk:k≤l.length) (h1:∀y∈l.take k,y<x) (h2:∀y∈l.drop k,x≤y):lbI l x=k:=by
 unfold lbI;rw[←List.take_append_drop k l,List.countP_append];have e1:List.countP (fun y=>decide (y<x)) (l.take k)=(l.take k).length:=List.countP_eq_length.2 (fun y hy=>decide_eq_true (h1 y hy));have e2:List.countP (fun y=>decide (y<x)) (l.drop k)=0:=List.countP_eq_zero.2 (fun y hy=>by have:=h2 y hy;simp;omega);rw[e1,e2,List.length_take];omega
theorem conv_ui (n:Int) (w:World):(convert 214 3 (.int .u64 n)).run Tryz.prog w= .ok (.int .i64 (IntKind.i64.wrap n)) w:=by
 simp[convert,run_underlying und_int,run_underlying und_uint,Conv.intToInt]
theorem c_Search (l:List Int) (x:Int) (hs:l.Pairwise (· ≤ ·)) (hn:l.length≤100000):∃b,PureCall Tryz.prog 115 [iL l,I x] (.tup [I (lbI l x),Bo b]):=by
 refine⟨decide (lbI l x<l.length)&&decide (at0 l (lbI l x)=x),?_⟩;refine PureCall.of_body Tryz.func115 rfl (by decide) (by simp[Tryz.ntmps115]) ?_;simp only[Tryz.ntmps115,Tryz.results115];refine aS fun K hK=>?_;simp -dsimp;apply hK;clear hK K;refine aS fun K hK=>?_;simp -dsimp;apply hK;clear hK K;refine aS fun K hK=>?_;simp -dsimp;apply hK;clear hK K;refine awp_seq_k fun K1 hK1=>?_;refine awp_block ?_;refine awp_prune [0,1,6,7,8] ?_;simp only[zP,Nat.reduceEqDiff,reduceIte];refine awp_loop_l [0,1,6] (α:=Nat×Nat) (fun y=>[(7,I y.1),(8,I y.2)]) (fun _=>[]) (fun y=>y.1≤y.2∧y.2≤l.length∧(∀z∈l.take y.1,z<x)∧∀z∈l.drop y.2,x≤z) (fun y=>y.2-y.1) (0,l.length) ?_ ?_ ?_
 ·exact⟨Nat.zero_le _,Nat.le_refl _,by simp,by simp⟩
 ·exact sub_same (by simp)
 rintro⟨lo,hi⟩ ⟨i1,i2,i3,i4⟩;simp only at i1 i2 i3 i4 ⊢;simp only[zP,Nat.reduceEqDiff,reduceIte];refine awp_seq_k fun K2 hK2=>?_;refine aS fun K hK=>?_;simp -dsimp;apply hK;clear hK K;refine awp_cond rfl (fun hc0=>?_) (fun hc0=>?_)
 ·skip
  try simp at hc0
  have w1:IntKind.i64.wrap ((lo:Int)+hi)=(lo:Int)+hi:=wrap_in (by omega) (by omega);have w2:IntKind.u64.wrap ((lo:Int)+hi)=(lo:Int)+hi:=u64_in (by omega) (by omega);obtain⟨m,hm⟩:∃m:Nat,m=(lo+hi)/2:=⟨_,rfl⟩;have w3:IntKind.i64.wrap (((lo:Int)+hi)/2)=m:=by rw[wrap_in (by omega) (by omega)];omega
  have hml:m<l.length:=by omega
  have gm:=at0_nat hml;have hle:∀p q:Nat,p≤q→q<l.length→at0 l p≤at0 l q:=by
   intro p q hpq hq
   rcases Nat.lt_or_ge p q with h|h
   ·have:=List.pairwise_iff_getElem.1 hs p q (by omega) hq h
    rwa [←at0_of (List.getElem?_eq_getElem (show p<l.length by omega)),←at0_of (List.getElem?_eq_getElem hq)]at this
   ·obtain rfl:p=q:=by omega
    exact Int.le_refl _
  refine awp_skip ?_;simp only[zT,reduceIte,Nat.reduceEqDiff];refine hK2 _ _ ?_;refine awp_prune [0,1,6,7,8] ?_;simp only[zP,Nat.reduceEqDiff,reduceIte];refine awp_block ?_;refine aS fun K hK=>?_;simp -dsimp [w1];refine⟨_,conv_in _,?_⟩;simp -dsimp [w2];refine⟨by decide,_,conv_ui _,?_⟩;simp -dsimp [w3];apply hK;clear hK K;refine aS fun K hK=>?_;simp -dsimp [gm];refine callK_intro _ (c_Less _ _) (by simp) ?_;simp -dsimp [gm];apply hK;clear hK K;refine awp_cond rfl (fun hc1=>?_) (fun hc1=>?_)
  ·skip
   try simp at hc1
   have wm:=zW m (by omega);refine aR fun K hK=>?_;simp -dsimp [wm];apply hK;clear hK K;simp only[zT,reduceIte,Nat.reduceEqDiff];refine⟨(m+1,hi),⟨by simp only;omega,i2,fun z hz=>?_,i4⟩,by simp only;omega,sub_rb [] rfl (by simp) (by simp)⟩;obtain⟨p,hp⟩:=List.getElem?_of_mem hz;have hpl:=(List.getElem?_eq_some_iff.1 hp).1;rw[List.length_take]at hpl;rw[List.getElem?_take,if_pos (by omega)]at hp;have:=hle p m (by omega) hml;rw[at0_of hp]at this;omega
  ·skip
   try simp at hc1
   refine aR fun K hK=>?_;simp -dsimp;apply hK;clear hK K;simp only[zT,reduceIte,Nat.reduceEqDiff];refine⟨(lo,m),⟨by simp only;omega,by simp only;omega,i3,fun z hz=>?_⟩,by simp only;omega,sub_rb [] rfl (by simp) (by simp)⟩;obtain⟨p,hp⟩:=List.getElem?_of_mem hz;rw[List.getElem?_drop]at hp;have hpl:=(List.getElem?_eq_some_iff.1 hp).1;have:=hle m (m+p) (by omega) hpl;rw[at0_of hp]at this;omega
 ·skip
  try simp at hc0
  have hlh:lo=hi:=by omega
  subst hlh;have hlb:=lbI_of i2 i3 i4;refine awp_exit ?_;simp only[zT,reduceIte,Nat.reduceEqDiff];refine hK1 _ _ ?_;refine awp_prune [0,1,6,7] ?_;simp only[zP,Nat.reduceEqDiff,reduceIte];refine aS fun K hK=>?_;simp -dsimp;refine idxK_intro (nCell (at0 l lo)) (fun hm=>by simp at hm;simp[at0_nat hm]) ?_;simp -dsimp;refine idxK_intro (nCell (at0 l lo)) (fun hm=>by simp at hm;simp[at0_nat hm.1]) ?_;simp -dsimp;refine callK_may _ (fun hm=>c_sNaN _) (by simp) ?_;simp -dsimp;refine callK_may _ (fun hm=>c_sNaN _) (by simp) ?_;simp -dsimp;apply hK;clear hK K;refine awp_ret ?_;rw[hlb]
  by_cases h:lo<l.length
  ·simp[h,beq_d]
  ·simp[h]
structure Rn where
 t:Tn
 st:Int
 W:List (List AV)
 ends:List Int
 lims:List Int
 slps:List Int
 stops:List Int
@[simp] def Rn.cells (r:Rn):List AV:=[r.t.mp r.st, .lst 2 r.W,iL r.ends,iL r.lims,iL r.slps,iL r.stops]
abbrev Rn.ptr (r:Rn):AV:= .iptr r.cells
structure RnOk (r:Rn):Prop where
 b:TnB r.t r.st
 len:1≤r.t.Length∧r.t.Length≤60000
 spd:1≤r.t.Speed∧r.t.Speed≤25000
 n:1≤r.ends.length∧r.ends.length≤2000
 nl:r.lims.length=r.ends.length
 ns:r.slps.length=r.ends.length
 so:r.ends.Pairwise (· ≤ ·)
 sl:∀x∈r.slps,-120≤x∧x≤120
 li:∀x∈r.lims,0≤x∧x≤1000000
def Rn.slF (r:Rn) (x:Ms):Int:=at0 r.slps (min (lbI r.ends (plF r.t x+1)) (r.slps.length-1):Nat)
theorem lbI_le (l:List Int) (x:Int):lbI l x≤l.length:=List.countP_le_length
theorem slF_bd {r:Rn} (h:RnOk r) (x:Ms):-120≤r.slF x∧r.slF x≤120:=by
 have hn:=h.n;have hs:=h.ns;have hk:min (lbI r.ends (plF r.t x+1)) (r.slps.length-1)<r.slps.length:=by omega
 exact h.sl _ (List.mem_of_getElem? (at0_nat hk))
theorem c_slope (r:Rn) (h:RnOk r) (x:Ms) (hx:MsB r.t x):PureCall Tryz.prog 92 [r.ptr,x.av] (I (r.slF x)):=by
 have hp:=c_place r.t r.st x h.b hx.w.1 hx.w.2;have hb:=plF_bd h.b hx;have w1:IntKind.i64.wrap (plF r.t x+1)=plF r.t x+1:=wrap_in (by omega) (by omega);obtain⟨b,hs⟩:=c_Search r.ends (plF r.t x+1) h.so (by have:=h.n;omega);have hle:=lbI_le r.ends (plF r.t x+1);have hn:=h.n;have hns:=h.ns;unfold Rn.slF;have hk:min (lbI r.ends (plF r.t x+1)) (r.slps.length-1)<r.slps.length:=by omega
 have hg:=at0_nat hk;unfold plF at w1 hs hg hle hk ⊢;have w2:IntKind.i64.wrap ((r.slps.length:Int)-1)=(r.slps.length:Int)-1:=wrap_in (by omega) (by omega);have hmin:(if ((r.slps.length:Int)-1)<(lbI r.ends (x.W.tdiv (10*r.t.Mass)+1):Int)then(r.slps.length:Int)-1 else(lbI r.ends (x.W.tdiv (10*r.t.Mass)+1):Int))=((min (lbI r.ends (x.W.tdiv (10*r.t.Mass)+1)) (r.slps.length-1):Nat):Int):=by
  split<;>omega
 generalize lbI r.ends (x.W.tdiv (10*r.t.Mass)+1)=k at*
 refine PureCall.of_body Tryz.func92 rfl (by decide) (by simp[Tryz.ntmps92]) ?_;simp only[Tryz.ntmps92,Tryz.results92];refine aS fun K hK=>?_;simp -dsimp;apply hK;clear hK K;refine awp_sd mixed rfl fun K hK=>?_;simp -dsimp;refine callK_intro _ (hp) (by simp) ?_;simp -dsimp;refine hK _ _ _ (by decide+kernel) ?_;clear hK K;refine aS fun K hK=>?_;simp -dsimp [w1];refine callK_intro _ (hs) (by simp) ?_;simp -dsimp [w1];apply hK;clear hK K;refine awp_sd mixed rfl fun K hK=>?_;simp -dsimp [w2,hmin,hg];refine hK _ _ _ (by decide+kernel) ?_;clear hK K;exact awp_ret (by simp)
def limL (front:Int):Int→List (Int×Int)→Int
 |lim,[]=>lim
 |lim,(e,l)::q=>if front≤e then mnI lim l else limL front (mnI lim l) q
def Rn.rear (r:Rn) (x:Ms):Int:=plF r.t x-r.t.Length
def Rn.liF (r:Rn) (x:Ms):Int:=limL (plF r.t x) r.t.Speed ((r.ends.zip r.lims).drop (lbI r.ends (r.rear x+1)))
theorem c_limit (r:Rn) (h:RnOk r) (x:Ms) (hx:MsB r.t x):PureCall Tryz.prog 137 [r.ptr,x.av] (I (r.liF x)):=by
 have hp:=c_place r.t r.st x h.b hx.w.1 hx.w.2;have hb:=plF_bd h.b hx;have hlen:=h.len;have w0:IntKind.i64.wrap (plF r.t x-r.t.Length)=plF r.t x-r.t.Length:=wrap_in (by omega) (by omega);have w1:IntKind.i64.wrap (plF r.t x-r.t.Length+1)=plF r.t x-r.t.Length+1:=wrap_in (by omega) (by omega);obtain⟨b,hs⟩:=c_Search r.ends (plF r.t x-r.t.Length+1) h.so (by have:=h.n;omega);have hle:=lbI_le r.ends (plF r.t x-r.t.Length+1);have hn:=h.n;have hnl:=h.nl;unfold Rn.liF Rn.rear;unfold plF at w0 w1 hs hle ⊢;generalize lbI r.ends (x.W.tdiv (10*r.t.Mass)-r.t.Length+1)=k0 at*
 obtain⟨pl,hpl⟩:∃pl,pl=x.W.tdiv (10*r.t.Mass):=⟨_,rfl⟩;rw[←hpl]at w0 w1 hs hp ⊢;have hzl:(r.ends.zip r.lims).length=r.ends.length:=by rw[List.length_zip];omega
 refine PureCall.of_body Tryz.func137 rfl (by decide) (by simp[Tryz.ntmps137]) ?_;simp only[Tryz.ntmps137,Tryz.results137];refine aS fun K hK=>?_;simp -dsimp;apply hK;clear hK K;refine awp_sd mixed rfl fun K hK=>?_;simp -dsimp;refine callK_intro _ (hp) (by simp) ?_;simp -dsimp;refine hK _ _ _ (by decide+kernel) ?_;clear hK K;refine aS fun K hK=>?_;simp -dsimp [w0];apply hK;clear hK K;refine aS fun K hK=>?_;simp -dsimp;apply hK;clear hK K;refine aS fun K hK=>?_;simp -dsimp [w1];refine callK_intro _ (hs) (by simp) ?_;simp -dsimp [w1];apply hK;clear hK K;refine awp_seq_k fun K1 hK1=>?_;refine awp_block ?_;refine awp_prune [0,5,7,8] ?_;simp only[zP,Nat.reduceEqDiff,reduceIte];refine awp_loop_l [0,5] (α:=Nat×Int) (fun q=>[(7,I q.2),(8,I q.1)]) (fun _=>[some (.els 2 [x.cells])]) (fun q=>q.1≤r.ends.length∧limL pl q.2 ((r.ends.zip r.lims).drop q.1)=limL pl r.t.Speed ((r.ends.zip r.lims).drop k0)) (fun q=>r.ends.length-q.1) (k0,r.t.Speed) ?_ ?_ ?_
 ·exact⟨hle,rfl⟩
 ·exact sub_rb [some 0] rfl (by simp) (by simp)
 rintro⟨k,lim⟩ ⟨i1,i2⟩;simp only at i1 i2 ⊢;simp only[zP,Nat.reduceEqDiff,reduceIte];refine awp_seq_k fun K2 hK2=>?_;refine aS fun K hK=>?_;simp -dsimp;apply hK;clear hK K;refine awp_cond rfl (fun hc0=>?_) (fun hc0=>?_)
 ·have hkl:k<r.ends.length:=by simpa using hc0
  have wk:=zW k (by omega);have ge:=at0_nat hkl;have gl:=at0_nat (l:=r.lims) (k:=k) (by omega);have hz:(r.ends.zip r.lims).drop k=(at0 r.ends k,at0 r.lims k)::(r.ends.zip r.lims).drop (k+1):=by
   rw[List.drop_eq_getElem_cons (by omega)]
   congr 1
   rw[List.getElem_zip];rw[List.getElem?_eq_getElem (by omega)]at ge gl;simp only[Option.some.injEq]at ge gl;rw[ge,gl]
  rw[hz,limL]at i2;have hmn:(if at0 r.lims k<lim then at0 r.lims k else lim)=mnI lim (at0 r.lims k):=rfl;refine awp_skip ?_;simp only[zT,reduceIte,Nat.reduceEqDiff];refine hK2 _ _ ?_;refine awp_prune [0,5,7,8] ?_;simp only[zP,Nat.reduceEqDiff,reduceIte];refine awp_seq_k fun K3 hK3=>?_;refine awp_block ?_;refine aS fun K hK=>?_;simp -dsimp [gl,hmn];apply hK;clear hK K;refine aS fun K hK=>?_;simp -dsimp [ge];apply hK;clear hK K;refine awp_cond rfl (fun hc1=>?_) (fun hc1=>?_)
  ·have hpe:pl≤at0 r.ends k:=by simpa using hc1
   rw[if_pos hpe]at i2;refine awp_exit ?_;simp only[zT,reduceIte,Nat.reduceEqDiff];refine hK1 _ _ ?_;refine awp_prune [7] ?_;simp only[zP,Nat.reduceEqDiff,reduceIte];refine aS fun K hK=>?_;simp -dsimp;apply hK;clear hK K;exact awp_ret (by simp;exact i2)
  ·have hpe:¬pl≤at0 r.ends k:=by simpa using hc1
   rw[if_neg hpe]at i2;refine awp_skip ?_;simp only[zT,reduceIte,Nat.reduceEqDiff];refine hK3 _ _ ?_;refine awp_prune [0,5,7,8] ?_;simp only[zP,Nat.reduceEqDiff,reduceIte];refine aR fun K hK=>?_;simp -dsimp [wk];apply hK;clear hK K;simp only[zT,reduceIte,Nat.reduceEqDiff];exact⟨(k+1,mnI lim (at0 r.lims k)),⟨by simp only;omega,i2⟩,by simp only;omega,sub_rb [some 0] rfl (by simp) (by simp)⟩
 ·have hkl:k=r.ends.length:=by have:¬k<r.ends.length:=(by simpa using hc0);omega
  rw[List.drop_of_length_le (by omega),limL]at i2;refine awp_exit ?_;simp only[zT,reduceIte,Nat.reduceEqDiff];refine hK1 _ _ ?_;refine awp_prune [7] ?_;simp only[zP,Nat.reduceEqDiff,reduceIte];refine aS fun K hK=>?_;simp -dsimp;apply hK;clear hK K;exact awp_ret (by simp;exact i2)
end Go.Mo
end
section
namespace Go.Mo
open Go.AM Go.Cur Go.Proofs
def Rn.fitB (r:Rn) (stop:Int) (x:Ms):Bool:=decide (plF r.t x≤stop)&&decide (spd r.t x≤r.liF x)
theorem c_fits (r:Rn) (h:RnOk r) (x:Ms) (hx:MsB r.t x) (stop:Int):PureCall Tryz.prog 116 [r.ptr,x.av,I stop] (Bo (r.fitB stop x)):=by
 have hp:=c_place r.t r.st x h.b hx.w.1 hx.w.2;have hs:=c_speed r.t r.st x h.b hx;have hl:=c_limit r h x hx;unfold Rn.fitB plF;refine PureCall.of_body Tryz.func116 rfl (by decide) (by simp[Tryz.ntmps116]) ?_;simp only[Tryz.ntmps116,Tryz.results116];refine aS fun K hK=>?_;simp -dsimp;apply hK;clear hK K;refine awp_sd mixed rfl fun K hK=>?_;simp -dsimp;refine callK_intro _ (hp) (by simp) ?_;simp -dsimp;refine callK_may _ (fun hm=>hs) (by simp) ?_;simp -dsimp;refine callK_may _ (fun hm=>hl) (by simp) ?_;simp -dsimp;refine hK _ _ _ (by decide+kernel) ?_;clear hK K;exact awp_ret (by simp)
def Rn.stpL (r:Rn) (x:Ms):List Ms:=stopN r.t r.st r.slF 36000 x
def Rn.safeB (r:Rn) (stop:Int) (x:Ms):Bool:=r.fitB stop x&&((r.stpL x).all (r.fitB stop)&&decide (((r.stpL x).getLastD x).P=0))
theorem c_safe (r:Rn) (h:RnOk r) (x:Ms) (hx:MsB r.t x) (hw:x.W≤100000000000000000) (stop:Int):PureCall Tryz.prog 93 [r.ptr,x.av,I stop] (Bo (r.safeB stop x)):=by
 have hf:=c_fits r h x hx stop;have hms:=m_stop_b r.t r.st 92 [r.cells] x;have hit:=c_stop1_b r.t r.st h.b 92 [r.cells] r.slF (fun y hy=>c_slope r h y hy) (fun y _=>slF_bd h y) x hx hw;have hok:=stopN_ok h.b (sF:=r.slF) (fun y _=>slF_bd h y) 36000 x 100000000000000000 hx hw (by omega);unfold Rn.safeB Rn.stpL;generalize stopN r.t r.st r.slF 36000 x=L at hit hok ⊢;simp only[ipts]at hms hit
 cases hfx:r.fitB stop x with
 |false=>
  rw[hfx]at hf;refine PureCall.of_bodyG Tryz.func93 rfl (by decide) (by simp[Tryz.ntmps93]) ?_;intro J hJ;simp only[Tryz.ntmps93,Tryz.results93];refine gS fun K hK=>?_;simp -dsimp;apply hK;clear hK K;refine gwp_seq_k fun K1 hK1=>?_;refine gS fun K hK=>?_;simp -dsimp;refine callK_intro _ (hf) (by simp) ?_;simp -dsimp;apply hK;clear hK K;refine gwp_cond rfl (fun hc0=>?_) (fun hc0=>?_)
  ·refine gS fun K hK=>?_;simp -dsimp;apply hK;clear hK K;exact gwp_ret (by simp)
  ·simp at hc0
 | true=>
  rw[hfx]at hf;rw[Bool.true_and];refine PureCall.of_bodyG Tryz.func93 rfl (by decide) (by simp[Tryz.ntmps93]) ?_;intro J hJ;simp only[Tryz.ntmps93,Tryz.results93];refine gS fun K hK=>?_;simp -dsimp;apply hK;clear hK K;refine gwp_seq_k fun K1 hK1=>?_;refine gS fun K hK=>?_;simp -dsimp;refine callK_intro _ (hf) (by simp) ?_;simp -dsimp;apply hK;clear hK K;refine gwp_cond rfl (fun hc0=>?_) (fun hc0=>?_)
  ·simp at hc0
  ·refine gwp_skip ?_;simp only[zT,reduceIte,Nat.reduceEqDiff];refine hK1 _ _ ?_;refine gwp_prune [3,4,5,6] (Or.inr (by simp)) ?_;simp only[zP,Nat.reduceEqDiff,reduceIte];refine gS fun K hK=>?_;simp -dsimp;apply hK;clear hK K;refine gwp_seq_k fun K2 hK2=>?_;refine gwp_weak (gsub (sub_rfM [some 3,some 4] rfl) (by simp)) ?_;simp -dsimp [renF,renHF,renRowF,newName]
   ·refine gwp_sd mixed rfl (by decide) rfl rfl fun K hK=>?_;simp -dsimp;refine callK_mut [] [] [none,none,some 0] (hms) (by decide) rfl (by simp) (by simp) rfl (by simp) ?_;simp -dsimp;refine hK _ _ _ (by decide+kernel) ?_;clear hK K;refine gwp_block ?_;refine gwp_prune [3,5,6,7,22] (Or.inr (by simp)) ?_;simp only[zP,Nat.reduceEqDiff,reduceIte];refine gwp_weak (gsub (sub_rfM [some 2,some 0,some 1] rfl) (by simp)) ?_;simp -dsimp [renF,renHF,renRowF,newName];refine gwp_range_sW hJ [3,5,6,7,22] (fun n=>[none,some (.els 1 [[Bo false]]),some (.els 2 [((L.take n).getLastD x).cells])]) (fun n=>(L.take n).all (r.fitB stop)=true) rfl (hit) rfl (by simp[rowOk]) rfl (by simp[capOk]) (by decide) (by decide) (by decide) (by simp[yAV]) ?_ ?_ ?_ ?_
    ·trivial
    ·exact sub_same (by simp)
    ·intro n xv hxn hi l1 J1 hJ1;obtain⟨q,hq,rfl⟩:∃q,L[n]?=some q∧yAV q=xv:=by simpa using hxn
     have hqm:=hok q (List.mem_of_getElem? hq);have hfq:=c_fits r h q hqm.1 stop;simp only[yAV];simp only[List.zip_cons_cons,List.zip_nil_left,List.zip_nil_right,List.cons_append,List.nil_append];refine gR fun K hK=>?_;simp -dsimp;apply hK;clear hK K;simp only[onlyN];intro J2 hJ2;refine gwp_prune [3,5,6,7,8,22] (Or.inr (by simp)) ?_;simp only[zP,Nat.reduceEqDiff,reduceIte];refine gwp_block ?_;refine gwp_seq_k fun K3 hK3=>?_;refine gS fun K hK=>?_;simp -dsimp;refine callK_intro _ (hfq) (by simp) ?_;simp -dsimp;apply hK;clear hK K;refine gwp_cond rfl (fun hc1=>?_) (fun hc1=>?_)
     ·have hall:L.all (r.fitB stop)=false:=by
       rw[List.all_eq_false];exact⟨q,List.mem_of_getElem? hq,by simpa using hc1⟩
      refine gS fun K hK=>?_;simp -dsimp;apply hK;clear hK K;exact gwp_ret ⟨[none,some (.els 1 [[Bo false]]),some (.els 2 [((L.take n).getLastD x).cells])],sub_rb [some 0,some 1,some 2] rfl (by simp) (by simp),by simp[resP,tupOf,hall]⟩
     ·have hfq1:r.fitB stop q=true:=by simpa using hc1
      refine gwp_skip ?_;simp only[zT,reduceIte,Nat.reduceEqDiff];refine hK3 _ _ ?_;refine gwp_prune [3,5,6,7,8,22] (Or.inr (by simp)) ?_;simp only[zP,Nat.reduceEqDiff,reduceIte];refine gR fun K hK=>?_;simp -dsimp;apply hK;clear hK K;simp only[thenA,inBlockA,roundQ,reduceIte,Nat.reduceEqDiff,eq_self];have htk:(L.take (n+1)).getLast?.getD x=q:=by rw[List.take_add_one,hq];simp
      refine⟨?_,sub_rb [some 0,some 1,some 2] rfl (by simp) (by simp[htk])⟩;rw[List.take_add_one,hq,List.all_append,hi];simp[hfq1]
    ·intro hdone;simp only[zT,reduceIte,Nat.reduceEqDiff];refine hK2 _ _ ?_;refine gwp_prune [6,7] (Or.inr (by simp)) ?_;simp only[zP,Nat.reduceEqDiff,reduceIte];refine gS fun K hK=>?_;simp -dsimp;apply hK;clear hK K;rw[List.take_of_length_le (by simp)]at hdone;exact gwp_ret (by simp[resP,tupOf,hdone]<;>rfl)
def Rn.okI (r:Rn) (stop:Int) (x:Ms) (i:Nat):Bool:=decide (nextP r.t r.st x (4-i) (r.slF x)≤25000*r.t.Mass)&&r.safeB stop (afterX r.t r.st x (4-i) (r.slF x))
def Rn.chF (r:Rn) (stop:Int) (x:Ms):Option Nat:=(List.range 9).find? (r.okI stop x)
def Rn.chAV (r:Rn) (stop:Int) (x:Ms):AV:=match r.chF stop x with
 |some i=> .tup [.agg (stepC r.t r.st x (4-i) (r.slF x)),Bo true]
 |none=> .tup [.agg [I 0,I 0,I 0,I 0,I 0,I 0,I 0,I 0,I 0,I 0],Bo false]
theorem range_find_none {q:Nat→Bool} {n:Nat} (h:∀j,j<n→q j=false):(List.range n).find? q=none:=by
 rw[List.find?_eq_none];intro x hx;simp[h x (List.mem_range.1 hx)]
theorem range_find_some {q:Nat→Bool} {n i:Nat} (hi:i<n) (h:∀j,j<i→q j=false) (hq:q i=true):(List.range n).find? q=some i:=by
 rw[List.find?_range_eq_some];exact⟨hq,by simpa using hi,fun j hj=>by simp[h j hj]⟩
theorem c_choose (r:Rn) (h:RnOk r) (x:Ms) (hx:MsB r.t x) (hw:x.W≤90000000000000000) (stop:Int):PureCall Tryz.prog 66 [r.ptr,x.av,I stop] (r.chAV stop x):=by
 have hs:=c_slope r h x hx;unfold Rn.chAV;refine PureCall.of_body Tryz.func66 rfl (by decide) (by simp[Tryz.ntmps66]) ?_;simp only[Tryz.ntmps66,Tryz.results66];refine aS fun K hK=>?_;simp -dsimp;apply hK;clear hK K;refine awp_scope ?_;refine aS fun K hK=>?_;simp -dsimp;refine callK_intro _ (hs) (by simp) ?_;simp -dsimp;apply hK;clear hK K;refine aS fun K hK=>?_;simp -dsimp;apply hK;clear hK K;refine aS fun K hK=>?_;simp -dsimp;apply hK;clear hK K;refine awp_sl ?_;refine awp_seq_k fun K1 hK1=>?_;refine aS fun K hK=>?_;simp -dsimp;apply hK;clear hK K;refine awp_block ?_;refine awp_prune [0,2,4,6,8,9,10,17] ?_;simp only[zP,Nat.reduceEqDiff,reduceIte];refine awp_loop_l [0,2,4,6,8,9] (α:=Nat) (fun i=>[(10,Bo false),(17,I i)]) (fun _=>[some (.els 2 [x.cells]),some (.els 10 [[I 0,I 0,I 0,I 0,I 0,I 0,I 0,I 0,I 0,I 0]]),some (.els 10 [[I 0,I 0,I 0,I 0,I 0,I 0,I 0,I 0,I 0,I 0]])]) (fun i=>i≤9∧∀j,j<i→r.okI stop x j=false) (fun i=>9-i) 0 ?_ ?_ ?_
 ·exact⟨Nat.zero_le _,fun j hj=>absurd hj (by omega)⟩
 ·exact sub_rb [some 0,some 1,some 2] rfl (by simp) (by simp)
 rintro i ⟨i1,i2⟩;simp only[zP,Nat.reduceEqDiff,reduceIte];refine aS fun K hK=>?_;simp -dsimp;apply hK;clear hK K;refine awp_seq_k fun K2 hK2=>?_;refine awp_cond rfl (fun hc0=>?_) (fun hc0=>?_)
 ·have hi9:i<9:=by have h:=(by simpa using hc0:(i:Int)<9);omega
  have wi:=zW i (by omega);have wd:IntKind.i64.wrap (4-(i:Int))=4-(i:Int):=wrap_in (by omega) (by omega);have ha:Ask r.t r.st x (4-i) (r.slF x):=⟨h.b,hx,by omega,slF_bd h x⟩;have hst:=c_step r.t r.st x (4-i) (r.slF x) ha;have hnb:=next_bd ha;unfold stepC at hst;have hsf:nextP r.t r.st x (4-i) (r.slF x)≤25000*r.t.Mass→PureCall Tryz.prog 93 [r.ptr,(afterX r.t r.st x (4-i) (r.slF x)).av,I stop] (Bo (r.safeB stop (afterX r.t r.st x (4-i) (r.slF x)))):=fun hq=>c_safe r h _ (step_ok ha (by omega) hq) (by show x.W+_≤_;omega) stop;have hoi:r.okI stop x i=(decide (nextP r.t r.st x (4-i) (r.slF x)≤25000*r.t.Mass)&&r.safeB stop (afterX r.t r.st x (4-i) (r.slF x))):=rfl;refine awp_skip ?_;simp only[zT,reduceIte,Nat.reduceEqDiff];refine hK2 _ _ ?_;refine awp_prune [0,2,4,6,8,9,10,17] ?_;simp only[zP,Nat.reduceEqDiff,reduceIte];refine awp_seq_k fun K3 hK3=>?_;refine awp_block ?_;refine aS fun K hK=>?_;simp -dsimp;apply hK;clear hK K;refine awp_sd mixed rfl fun K hK=>?_;simp -dsimp [wd];refine callK_intro _ (hst) (by simp) ?_;simp -dsimp [wd];refine hK _ _ _ (by decide+kernel) ?_;clear hK K;refine aS fun K hK=>?_;simp -dsimp;refine callK_may _ (fun hm=>hsf (by simpa using hm)) (by simp) ?_;simp -dsimp;apply hK;clear hK K;refine awp_cond rfl (fun hc1=>?_) (fun hc1=>?_)
  ·have hok:r.okI stop x i=true:=by rw[hoi];simpa using hc1
   have hfd:r.chF stop x=some i:=range_find_some hi9 i2 hok;refine aS fun K hK=>?_;simp -dsimp;apply hK;clear hK K;refine awp_exit ?_;simp only[zT,reduceIte,Nat.reduceEqDiff];refine hK1 _ _ ?_;refine awp_prune [6,9,10] ?_;simp only[zP,Nat.reduceEqDiff,reduceIte];refine aS fun K hK=>?_;simp -dsimp;apply hK;clear hK K;exact awp_ret (by simp[resP,tupOf,hfd,stepC])
  ·have hno:r.okI stop x i=false:=by rw[hoi];simpa using hc1
   refine awp_skip ?_;simp only[zT,reduceIte,Nat.reduceEqDiff];refine hK3 _ _ ?_;refine awp_prune [0,2,4,6,8,9,10,17] ?_;simp only[zP,Nat.reduceEqDiff,reduceIte];refine aR fun K hK=>?_;simp -dsimp [wi];apply hK;clear hK K;simp only[zT,reduceIte,Nat.reduceEqDiff];exact⟨i+1,⟨by omega,fun j hj=>by
    rcases Nat.lt_or_ge j i with h1|h1
    ·exact i2 j h1
    ·obtain rfl:j=i:=by omega
     exact hno⟩,by omega,sub_rb [some 0,some 1,some 2] rfl (by simp) (by simp)⟩
 ·have hi9:i=9:=by have h:¬(i:Int)<9:=(by simpa using hc0);omega
  subst hi9;have hfd:r.chF stop x=none:=range_find_none i2;refine awp_exit ?_;simp only[zT,reduceIte,Nat.reduceEqDiff];refine hK1 _ _ ?_;refine awp_prune [6,9,10] ?_;simp only[zP,Nat.reduceEqDiff,reduceIte];refine aS fun K hK=>?_;simp -dsimp;apply hK;clear hK K;exact awp_ret (by simp[resP,tupOf,hfd])
end Go.Mo
end
section
namespace Go.Mo
open Go.AM Go.Cur Go.Proofs
structure Lg where
 Mi:Int
 At:Int
 Pu:Int
 Br:Int
 Dr:Int
 Hi:Int
 Ro:Int
 Ho:Int
 Tk:Int
 Gv:Int
 deriving DecidableEq,Inhabited
@[simp] def Lg.cells (o:Lg):List AV:=[I o.Mi,I o.At,I o.Pu,I o.Br,I o.Dr,I o.Hi,I o.Ro,I o.Ho,I o.Tk,I o.Gv]
abbrev Lg.av (o:Lg):AV:= .agg o.cells
def wp2 (a b:Int):Int:=IntKind.i64.wrap (IntKind.i64.wrap a+b)
theorem c_sum (a1 a2 a3 a4 a5 a6 b1 b2 b3 b4 b5 b6:Int):PureCall Tryz.prog 67 [.full 6 [[I a1,I a2,I a3,I a4,I a5,I a6],[I b1,I b2,I b3,I b4,I b5,I b6]]] (.agg [I (wp2 a1 b1),I (wp2 a2 b2),I (wp2 a3 b3),I (wp2 a4 b4),I (wp2 a5 b5),I (wp2 a6 b6)]):=by
 have w1:IntKind.i64.wrap 1=1:=rfl;have w2:IntKind.i64.wrap 2=2:=rfl;refine PureCall.of_body Tryz.func67 rfl (by decide) (by simp[Tryz.ntmps67]) ?_;simp only[Tryz.ntmps67,Tryz.results67];refine aS fun K hK=>?_;simp -dsimp;apply hK;clear hK K;refine aS fun K hK=>?_;simp -dsimp;apply hK;clear hK K;refine awp_seq_k fun K1 hK1=>?_;refine aS fun K hK=>?_;simp -dsimp;apply hK;clear hK K;refine awp_block ?_;refine awp_prune [2,3,6,7,8] ?_;simp only[zP,Nat.reduceEqDiff,reduceIte];refine awp_loop_l [2,3,6,7] (α:=Nat) (fun k=>[(8,I k)]) (fun k=>[some (.els 6 [[I 0,I 0,I 0,I 0,I 0,I 0]]),some (.els 6 [if k=0 then [I 0,I 0,I 0,I 0,I 0,I 0]else if k=1 then [I (IntKind.i64.wrap a1),I (IntKind.i64.wrap a2),I (IntKind.i64.wrap a3),I (IntKind.i64.wrap a4),I (IntKind.i64.wrap a5),I (IntKind.i64.wrap a6)]else [I (wp2 a1 b1),I (wp2 a2 b2),I (wp2 a3 b3),I (wp2 a4 b4),I (wp2 a5 b5),I (wp2 a6 b6)]])]) (fun k=>k≤2) (fun k=>2-k) 0 ?_ ?_ ?_
 ·exact Nat.zero_le _
 ·exact sub_rb [some 0,some 1] rfl (by simp) (by simp)
 rintro k k1
 rcases(by omega:k=0∨k=1∨k=2)with rfl|rfl|rfl
 ·simp only[zP,Nat.reduceEqDiff,reduceIte];refine aS fun K hK=>?_;simp -dsimp;apply hK;clear hK K;refine awp_seq_k fun K2 hK2=>?_;refine awp_cond rfl (fun hc0=>?_) (fun hc0=>?_)
  ·refine awp_skip ?_;simp only[zT,reduceIte,Nat.reduceEqDiff];refine hK2 _ _ ?_;refine awp_prune [2,3,6,7,8] ?_;simp only[zP,Nat.reduceEqDiff,reduceIte];refine awp_seq_k fun K3 hK3=>?_;refine awp_block ?_;refine aS fun K hK=>?_;simp -dsimp;apply hK;clear hK K;refine aS fun K hK=>?_;simp -dsimp;apply hK;clear hK K;refine aS fun K hK=>?_;simp -dsimp;apply hK;clear hK K;refine aS fun K hK=>?_;simp -dsimp;apply hK;clear hK K;refine aS fun K hK=>?_;simp -dsimp;apply hK;clear hK K;refine aS fun K hK=>?_;simp -dsimp;apply hK;clear hK K;refine aR fun K hK=>?_;simp -dsimp;apply hK;clear hK K;simp only[zT,reduceIte,Nat.reduceEqDiff];refine hK3 _ _ ?_;refine awp_prune [2,3,6,7,8] ?_;simp only[zP,Nat.reduceEqDiff,reduceIte];refine aR fun K hK=>?_;simp -dsimp;apply hK;clear hK K;simp only[zT,reduceIte,Nat.reduceEqDiff];exact⟨1,by omega,by omega,sub_rb [some 0,some 1] rfl (by simp[w1]) (by simp)⟩
  ·simp at hc0
 ·simp only[zP,Nat.reduceEqDiff,reduceIte];refine aS fun K hK=>?_;simp -dsimp;apply hK;clear hK K;refine awp_seq_k fun K4 hK4=>?_;refine awp_cond rfl (fun hc0=>?_) (fun hc0=>?_)
  ·refine awp_skip ?_;simp only[zT,reduceIte,Nat.reduceEqDiff];refine hK4 _ _ ?_;refine awp_prune [2,3,6,7,8] ?_;simp only[zP,Nat.reduceEqDiff,reduceIte];refine awp_seq_k fun K5 hK5=>?_;refine awp_block ?_;refine aS fun K hK=>?_;simp -dsimp;apply hK;clear hK K;refine aS fun K hK=>?_;simp -dsimp;apply hK;clear hK K;refine aS fun K hK=>?_;simp -dsimp;apply hK;clear hK K;refine aS fun K hK=>?_;simp -dsimp;apply hK;clear hK K;refine aS fun K hK=>?_;simp -dsimp;apply hK;clear hK K;refine aS fun K hK=>?_;simp -dsimp;apply hK;clear hK K;refine aR fun K hK=>?_;simp -dsimp;apply hK;clear hK K;simp only[zT,reduceIte,Nat.reduceEqDiff];refine hK5 _ _ ?_;refine awp_prune [2,3,6,7,8] ?_;simp only[zP,Nat.reduceEqDiff,reduceIte];refine aR fun K hK=>?_;simp -dsimp;apply hK;clear hK K;simp only[zT,reduceIte,Nat.reduceEqDiff];exact⟨2,by omega,by omega,sub_rb [some 0,some 1] rfl (by simp[w1,w2]) (by simp[wp2])⟩
  ·simp at hc0
 ·simp only[zP,Nat.reduceEqDiff,reduceIte];refine aS fun K hK=>?_;simp -dsimp;apply hK;clear hK K;refine awp_seq_k fun K6 hK6=>?_;refine awp_cond rfl (fun hc0=>?_) (fun hc0=>?_)
  ·simp at hc0
  ·refine awp_exit ?_;simp only[zT,reduceIte,Nat.reduceEqDiff];refine hK1 _ _ ?_;refine awp_prune [2,3] ?_;simp only[zP,Nat.reduceEqDiff,reduceIte];refine aS fun K hK=>?_;simp -dsimp;apply hK;clear hK K;exact awp_ret (by simp[resP,tupOf])
def Rn.arrB (r:Rn) (stop:Int) (x:Ms):Bool:=decide (x.P=0)&&inr (stop-plF r.t x) 0 1000
def mxI (a b:Int):Int:=if a<b then b else a
def Lg.add (o:Lg) (r:Rn) (x:Ms) (d:Int):Lg:=
 ⟨IntKind.i64.wrap (o.Mi+100),o.At,wp2 o.Pu (200*pullF r.t r.st (spd r.t x) d*nextP r.t r.st x d (r.slF x)),wp2 o.Br (200*brakeF r.t r.st (spd r.t x) d*nextP r.t r.st x d (r.slF x)),
  wp2 o.Dr (200*dragF r.t (spd r.t x)*nextP r.t r.st x d (r.slF x)),wp2 o.Hi (200*hillF r.t (r.slF x)*nextP r.t r.st x d (r.slF x)),
  wp2 o.Ro (if stops r.t r.st x d (r.slF x)=true then 0 else 10000*sumF r.t r.st x d (r.slF x)*sumF r.t r.st x d (r.slF x)),wp2 o.Ho (if stops r.t r.st x d (r.slF x)=true then x.P*x.P else 0),
  mxI o.Tk (tookF r.t r.st x d (r.slF x)),mxI o.Gv (gaveF r.t r.st x d (r.slF x))⟩
def Rn.legN (r:Rn) (stop:Int):Nat→Ms→Lg→Lg×Ms×Bool
 |0,x,o=>if r.arrB stop x=true then({o with At:=plF r.t x},x,true)else(o,x,false)
 |f+1,x,o=>if r.arrB stop x=true then({o with At:=plF r.t x},x,true)else
  match r.chF stop x with
  |none=>(o,x,false)
  |some i=>if 10000000000000000<(afterX r.t r.st x (4-i) (r.slF x)).W then(o,x,false)else r.legN stop f (afterX r.t r.st x (4-i) (r.slF x)) (o.add r x (4-i))
theorem legN_arr {r:Rn} {stop:Int} {x:Ms} (h:r.arrB stop x=true) (f:Nat) (o:Lg):r.legN stop f x o=({o with At:=plF r.t x},x,true):=by
 cases f<;>rw[Rn.legN,if_pos h]
abbrev lg0:Lg:=⟨0,0,0,0,0,0,0,0,0,0⟩
theorem chF_ok {r:Rn} (h:RnOk r) {x:Ms} (hx:MsB r.t x) (hw:x.W≤90000000000000000) {stop:Int} {i:Nat} (hc:r.chF stop x=some i):i<9∧MsB r.t (afterX r.t r.st x (4-i) (r.slF x))∧r.safeB stop (afterX r.t r.st x (4-i) (r.slF x))=true:=by
 have hi:i<9:=by have:=List.mem_of_find?_eq_some hc;simpa using this
 have h1:=List.find?_some hc;unfold Rn.okI at h1;simp only[Bool.and_eq_true,decide_eq_true_eq]at h1;exact⟨hi,step_ok ⟨h.b,hx,by omega,slF_bd h x⟩ (by omega) h1.1,h1.2⟩
theorem c_leg (r:Rn) (h:RnOk r) (x0:Ms) (hx0:MsB r.t x0) (hw0:x0.W≤90000000000000000) (stop:Int) (hst:-1000000000000000≤stop∧stop≤1000000000000000):
  PureCall Tryz.prog 35 [r.ptr,x0.av,I stop] (.tup [(r.legN stop 36000 x0 lg0).1.av,(r.legN stop 36000 x0 lg0).2.1.av,Bo (r.legN stop 36000 x0 lg0).2.2]):=by
 generalize hR:r.legN stop 36000 x0 lg0=R;refine PureCall.of_body Tryz.func35 rfl (by decide) (by simp[Tryz.ntmps35]) ?_;simp only[Tryz.ntmps35,Tryz.results35];refine aS fun K hK=>?_;simp -dsimp;apply hK;clear hK K;refine aS fun K hK=>?_;simp -dsimp;apply hK;clear hK K;refine aS fun K hK=>?_;simp -dsimp;apply hK;clear hK K;refine awp_block ?_;refine awp_prune [0,2,4,6,7,9,10] ?_;simp only[zP,Nat.reduceEqDiff,reduceIte];refine awp_loop_l [0,2,4,6,7,9] (α:=Nat×Ms×Lg) (fun q=>[(10,I q.1)]) (fun q=>[some (.els 2 [q.2.1.cells]),some (.els 10 [lg0.cells]),some (.els 2 [[I 0,I 0]]),some (.els 10 [q.2.2.cells])]) (fun q=>q.1≤36000∧MsB r.t q.2.1∧q.2.1.W≤90000000000000000∧r.legN stop (36000-q.1) q.2.1 q.2.2=R) (fun q=>36000-q.1) (0,x0,lg0) ?_ ?_ ?_
 ·exact⟨by simp,hx0,hw0,hR⟩
 ·exact sub_rb [some 0,some 1,some 2,some 3] rfl (by simp) (by simp)
 rintro⟨n,x,o⟩ ⟨i1,i2,i3,i4⟩;simp only at i1 i2 i3 i4 ⊢;have hp:=c_place r.t r.st x h.b i2.w.1 i2.w.2;have hb:=plF_bd h.b i2;have hpl:x.W.tdiv (10*r.t.Mass)=plF r.t x:=rfl;rw[hpl]at hp;have wi:=zW n (by omega);have ws:IntKind.i64.wrap (stop-plF r.t x)=stop-plF r.t x:=wrap_in (by omega) (by omega);have har:r.arrB stop x=(decide (x.P=0)&&inr (stop-plF r.t x) 0 1000):=rfl;simp only[zP,Nat.reduceEqDiff,reduceIte];refine awp_seq_k fun K1 hK1=>?_;refine awp_block ?_;refine awp_seq_k fun K2 hK2=>?_;refine awp_sd mixed rfl fun K hK=>?_;simp -dsimp;refine callK_intro _ (hp) (by simp) ?_;simp -dsimp;refine hK _ _ _ (by decide+kernel) ?_;clear hK K;refine aS fun K hK=>?_;simp -dsimp [ws];refine callK_may _ (fun hm=>c_within (stop-plF r.t x) 0 1000) (by simp) ?_;simp -dsimp [ws];apply hK;clear hK K;refine awp_cond rfl (fun hc0=>?_) (fun hc0=>?_)
 ·have hat:r.arrB stop x=true:=by rw[har];simpa using hc0
  rw[legN_arr hat]at i4;refine aS fun K hK=>?_;simp -dsimp;apply hK;clear hK K;refine awp_sd mixed rfl fun K hK=>?_;simp -dsimp;refine hK _ _ _ (by decide+kernel) ?_;clear hK K;exact awp_ret (by simp[resP,tupOf,←i4])
 ·have hat:¬r.arrB stop x=true:=by rw[har];simpa using hc0
  refine awp_skip ?_;simp only[zT,reduceIte,Nat.reduceEqDiff];refine hK2 _ _ ?_;refine awp_prune [0,2,4,6,7,9,10] ?_;simp only[zP,Nat.reduceEqDiff,reduceIte];refine awp_seq_k fun K3 hK3=>?_;refine aS fun K hK=>?_;simp -dsimp;apply hK;clear hK K;refine awp_cond rfl (fun hc1=>?_) (fun hc1=>?_)
  ·have hn0:36000-n=0:=by have h:=(by simpa using hc1:(n:Int)=36000);omega
   rw[hn0,Rn.legN,if_neg hat]at i4;refine awp_sd mixed rfl fun K hK=>?_;simp -dsimp;refine hK _ _ _ (by decide+kernel) ?_;clear hK K;exact awp_ret (by simp[resP,tupOf,←i4])
  ·have hn0:¬(n:Int)=36000:=by simpa using hc1
   obtain⟨m,hm⟩:∃m,36000-n=m+1:=⟨36000-n-1,by omega⟩;rw[hm,Rn.legN,if_neg hat]at i4;have hch:=c_choose r h x i2 i3 stop;unfold Rn.chAV at hch;refine awp_skip ?_;simp only[zT,reduceIte,Nat.reduceEqDiff];refine hK3 _ _ ?_;refine awp_prune [0,2,4,6,7,9,10] ?_;simp only[zP,Nat.reduceEqDiff,reduceIte]
   rcases hcf:r.chF stop x with _|i<;>rw[hcf]at hch i4<;>simp only at hch i4<;>try simp only[stepC]at hch
   ·refine aS fun K hK=>?_;simp -dsimp;refine callK_intro _ (hch) (by simp) ?_;simp -dsimp;apply hK;clear hK K;refine awp_seq_k fun K4 hK4=>?_;refine aS fun K hK=>?_;simp -dsimp;apply hK;clear hK K;refine awp_cond rfl (fun hc2=>?_) (fun hc2=>?_)
    ·refine awp_sd mixed rfl fun K hK=>?_;simp -dsimp;refine hK _ _ _ (by decide+kernel) ?_;clear hK K;exact awp_ret (by simp[resP,tupOf,←i4])
    ·simp at hc2
   ·refine aS fun K hK=>?_;simp -dsimp;refine callK_intro _ (hch) (by simp) ?_;simp -dsimp;apply hK;clear hK K;refine awp_seq_k fun K5 hK5=>?_;refine aS fun K hK=>?_;simp -dsimp;apply hK;clear hK K;refine awp_cond rfl (fun hc2=>?_) (fun hc2=>?_)
    ·have hfw:10000000000000000<(afterX r.t r.st x (4-i) (r.slF x)).W:=by simpa [stepC,afterX]using hc2
     rw[if_pos hfw]at i4;refine awp_sd mixed rfl fun K hK=>?_;simp -dsimp;refine hK _ _ _ (by decide+kernel) ?_;clear hK K;exact awp_ret (by simp[resP,tupOf,←i4])
    ·have hfw:¬10000000000000000<(afterX r.t r.st x (4-i) (r.slF x)).W:=by simpa [stepC,afterX]using hc2
     rw[if_neg hfw]at i4;obtain⟨hi9,hax,hsf⟩:=chF_ok h i2 i3 hcf;refine awp_skip ?_;simp only[zT,reduceIte,Nat.reduceEqDiff];refine hK5 _ _ ?_;refine awp_prune [0,2,4,6,7,9,10,12] ?_;simp only[zP,Nat.reduceEqDiff,reduceIte];refine aS fun K hK=>?_;simp -dsimp;apply hK;clear hK K;refine aS fun K hK=>?_;simp -dsimp;apply hK;clear hK K;refine aS fun K hK=>?_;simp -dsimp;refine callK_intro _ (c_sum _ _ _ _ _ _ _ _ _ _ _ _) (by simp) ?_;simp -dsimp;apply hK;clear hK K;refine awp_draw mixed rfl fun K hK=>?_;simp -dsimp;refine hK _ _ _ (by decide+kernel) ?_;clear hK K;simp only[zT,reduceIte,Nat.reduceEqDiff];refine hK1 _ _ ?_;refine awp_prune [0,2,4,6,7,9,10] ?_;simp only[zP,Nat.reduceEqDiff,reduceIte];refine aR fun K hK=>?_;simp -dsimp [wi];apply hK;clear hK K;simp only[zT,reduceIte,Nat.reduceEqDiff];exact⟨(n+1,afterX r.t r.st x (4-i) (r.slF x),o.add r x (4-i)),⟨by simp only;omega,hax,by simp only;omega,by rw[show 36000-(n+1)=m by omega];exact i4⟩,by simp only;omega,sub_rb [some 0,some 1,some 2,some 3] rfl (by simp[afterX,Lg.add]) (by simp[afterX,Lg.add,mxI])⟩
end Go.Mo
end
section
namespace Go.Tram
open Go.AM Go.Proofs
structure Fnd where
 Move:Int
 Len:Int
 Mv:Int
 deriving DecidableEq,Inhabited
@[simp] def Fnd.cells (x:Fnd):List AV:=[I x.Move,I x.Len,I x.Mv]
abbrev Fnd.av (x:Fnd):AV:= .agg x.cells
section
variable {α:Type} [Inhabited α] (lt:α→α→Bool)
def gd (l:List α) (i:Nat):α:=l.getD i default
end
end Go.Tram
end
section
namespace Go.Tram
open Go.AM Go.Proofs
abbrev hrow (r n:Nat):Option ARow:=some (.els 1 [[.row r 0 n]])
end Go.Tram
end
section
namespace Go.Tram
open Go.AM Go.Proofs
def nodeAt (p:Plan) (m:Move):Node:=p.node (p.at (arrE m))
def nxK (p:Plan) (m:Move) (k:Nat):List Int:=match (nodeAt p m).Ends[k]? with
 |some e=>if letsB (nodeAt p m) (plc p (arrE m)) k then [numM ⟨e.Rail,e.Last⟩]else []
 |none=>[]
def nxTo (p:Plan) (m:Move) (j:Nat):List Int:=(List.range j).flatMap (nxK p m)
def nextL (p:Plan) (m:Move):List Move:=(srt (nxTo p m (nodeAt p m).Ends.length)).map moveM
theorem nxTo_succ (p:Plan) (m:Move) (j:Nat):nxTo p m (j+1)=nxTo p m j++nxK p m j:=by
 simp only[nxTo,List.range_succ,List.flatMap_append,List.flatMap_cons,List.flatMap_nil,List.append_nil]
theorem nxTo_len (p:Plan) (m:Move) (j:Nat):(nxTo p m j).length≤j:=by
 induction j with
 |zero=>simp[nxTo]
 |succ j ih=>
  rw[nxTo_succ,List.length_append];have:(nxK p m j).length≤1:=by unfold nxK;split<;>(try split)<;>simp
  omega
theorem ends_rail {p:Plan} (hv:validB p=true) {i:Nat} (hi:i<p.Nodes.length) {j:Nat} {e:REnd} (he:(p.node i).Ends[j]?=some e):(0≤e.Rail∧e.Rail<p.Rails.length)∧p.at e=i:=by
 obtain⟨r,hr⟩:=E_prefix hi he;have hE:=(valid_parts hv).2.2.2.2;simp only[validE,Bool.and_eq_true,List.all_eq_true]at hE;have:=hE.1 (i,e) (by rw[hr];simp);simp only[endB,Bool.and_eq_true,decide_eq_true_eq,inr_iff]at this;exact⟨by omega,this.2⟩
theorem at_in {p:Plan} (hv:validB p=true) {e:REnd} (h0:0≤e.Rail) (h1:e.Rail<p.Rails.length):0≤p.at e∧p.at e<p.Nodes.length:=by
 have ro:=rail_ok hv h0 h1;unfold Plan.at
 split
 ·exact ro.t
 ·exact ro.f
theorem movB_iff {p:Plan} {m:Move}:movB p m=true↔0≤m.Rail∧m.Rail<p.Rails.length:=by
 unfold movB;rw[inr_iff];omega
theorem nx_bound {p:Plan} (hv:validB p=true) {m:Move} (hm:movB p m=true):∀j,∀k∈nxTo p m j,0≤k∧k≤100000∧movB p (moveM k)=true:=by
 have hm':=movB_iff.1 hm;have ha:=at_in hv (e:=arrE m) hm'.1 hm'.2;have hR:=(valid_parts hv).2.1;intro j k hk;simp only[nxTo,List.mem_flatMap,List.mem_range]at hk;obtain⟨i,hi,hk⟩:=hk;unfold nxK at hk
 split at hk
 ·rename_i e he
  split at hk
  ·obtain rfl:k=numM ⟨e.Rail,e.Last⟩:=by simpa using hk
   have hn:nodeAt p m=p.node ((p.at (arrE m)).toNat:Nat):=by unfold nodeAt;rw[show(((p.at (arrE m)).toNat:Nat):Int)=p.at (arrE m)by omega]
   rw[hn]at he;have:=ends_rail hv (i:=(p.at (arrE m)).toNat) (by omega) he;rw[movB_iff];simp only[numM,moveM]
   split<;>omega
  ·simp at hk
 ·simp at hk
theorem ins_mem' {l:List Int}:∀{z:Int},z∈srt l↔z∈l:=by
 have gen:∀(l s:List Int) (z:Int),z∈l.foldl (fun s x=>ins x s) s↔z∈s∨z∈l:=by
  intro l
  induction l with
  |nil=>simp
  |cons x l ih=>
   intro s z;rw[List.foldl_cons,ih,ins_mem];simp only[List.mem_cons];constructor
   ·rintro((h|h)|h)<;>simp[h]
   ·rintro(h|h|h)<;>simp[h]
 intro z;have:=gen l [] z;simpa [srt]using this
theorem c_next1 (p:Plan) (m:Move) (hv:validB p=true) (hm:movB p m=true):IterCall Tryz.prog 107 [.iptr [.iptr (net p)], .iptr m.cells] ((nextL p m).map fun k=>[k.av]):=by
 have hm':=movB_iff.1 hm;have ha:=at_in hv (e:=arrE m) hm'.1 hm'.2;have hnode:=p.node_get ha.1 ha.2;have hnf:=node_kind (node_fine hv ha.1 ha.2);have hb:=nx_bound hv hm;have hplc:=plc_val hv (arrE m);have hcar:=c_arrives m;have hce:=c_ending p (arrE m) hm'.1 hm'.2;have hna:p.node (p.at (arrE m))=nodeAt p m:=rfl;have hno:∀(j:Nat) (e:REnd),(nodeAt p m).Ends[j]?=some e→(0≤e.Rail∧e.Rail<p.Rails.length):=by
  intro j e he;have hn:nodeAt p m=p.node ((p.at (arrE m)).toNat:Nat):=by unfold nodeAt;rw[show(((p.at (arrE m)).toNat:Nat):Int)=p.at (arrE m)by omega]
  rw[hn]at he;exact(ends_rail hv (i:=(p.at (arrE m)).toNat) (by omega) he).1
 have hR:=(valid_parts hv).2.1;have hxk:∀(j:Nat) (e:REnd),(nodeAt p m).Ends[j]?=some e→nxK p m j=if letsB (nodeAt p m) (plc p (arrE m)) j then [numM ⟨e.Rail,e.Last⟩]else []:=by intro j e he;unfold nxK;rw[he]
 have hnl:nextL p m=(srt (nxTo p m (nodeAt p m).Ends.length)).map moveM:=rfl;rw[hna]at hnode hnf;generalize nodeAt p m=n at hnode hnf hno hxk hnl;unfold net;refine IterCallW.of_body Tryz.func107 rfl (by decide) (by simp[Tryz.ntmps107]) (by simp[Tryz.ntmps107]) (by simp[Tryz.results107]) ?_;intro J l hmk hY;simp only[Tryz.ntmps107,Tryz.results107];refine gwp_sd mixed rfl (by decide) rfl rfl fun K hK=>?_;simp -dsimp [hnode,ha.1];refine callK_intro _ (hcar) (by simp) ?_;simp -dsimp [hnode,ha.1];refine callK_intro _ (hce) (by simp) ?_;simp -dsimp [hnode,ha.1];refine hK _ _ _ (by decide+kernel) ?_;clear hK K;refine gS fun K hK=>?_;simp -dsimp;apply hK;clear hK K;refine gwp_seq_k fun K1 hK1=>?_;refine gS fun K hK=>?_;simp -dsimp;apply hK;clear hK K;refine gwp_block ?_;refine gwp_prune [0,1,2,4,5,25,26,27,999999] (Or.inl (by decide)) ?_;simp only[zP,Nat.reduceEqDiff,reduceIte];refine gwp_loop_l [0,1,2,4,25,26] (α:=Nat) (fun j=>[(27,I j),(5, .row 1 0 (nxTo p m j).length),(999999,cntV 0)]) (fun j=>[some (.els 5 [n.cells]),some (.els 1 ((nxTo p m j).map nCell))]) (fun j=>j≤n.Ends.length) (fun j=>n.Ends.length-j) 0 ?_ ?_ ?_
 ·simp
 ·exact gsub ((sub_nil 5 1 (by simp)).trans (sub_rb [some 0,some 1] rfl (by simp[nxTo]) (by simp[nxTo]))) (by simp)
 rintro j j1;have hsu:=nxTo_succ p m j;have hlj:=nxTo_len p m j;have hbj:=hb j;simp only[zP,Nat.reduceEqDiff,reduceIte];refine gS fun K hK=>?_;simp -dsimp;apply hK;clear hK K;refine gwp_seq_k fun K2 hK2=>?_;refine gwp_cond rfl (fun hc0=>?_) (fun hc0=>?_)
 ·skip
  try simp at hc0
  obtain⟨e,he⟩:∃e,n.Ends[j]?=some e:=⟨_,List.getElem?_eq_getElem hc0⟩;have wj:=zW j (by omega);have her:=hno j e he;rw[hxk j e he]at hsu;generalize hA:nxTo p m j=A at hsu hlj hbj ⊢;have f1:Fits (A.length+1) 9:=fits_of (by omega) (by omega);have hot:(A.map nCell).take A.length=A.map nCell:=List.take_of_length_le (by simp);refine gwp_skip ?_;simp only[zT,reduceIte,Nat.reduceEqDiff];refine hK2 _ _ ?_;refine gwp_prune [0,1,2,4,5,25,26,27,999999] (Or.inl (by decide)) ?_;simp only[zP,Nat.reduceEqDiff,reduceIte];refine gwp_seq_k fun K3 hK3=>?_;refine gwp_block ?_;refine gS fun K hK=>?_;simp -dsimp [he];apply hK;clear hK K;refine gwp_sd mixed rfl (by decide) rfl rfl fun K hK=>?_;simp -dsimp;refine callK_intro _ (hcar) (by simp) ?_;simp -dsimp;refine valK_intro (I (plc p (arrE m))) (fun hm=>congrArg AV.v hplc.1) ?_;simp -dsimp;refine callK_intro _ (c_lets n (plc p (arrE m)) j ⟨hplc.2.1,hplc.2.2⟩ ⟨by omega,by omega⟩ hnf.1) (by simp) ?_;simp -dsimp;refine hK _ _ _ (by decide+kernel) ?_;clear hK K;refine gwp_cond rfl (fun hc1=>?_) (fun hc1=>?_)
  ·rw[hc1,if_pos rfl]at hsu;refine gR fun K hK=>?_;simp -dsimp [f1];refine callK_intro _ (c_number ⟨e.Rail,e.Last⟩ her.1 (by have:=her.2;show e.Rail≤100000;omega)) (by simp) ?_;simp -dsimp [f1];apply hK;clear hK K;simp only[zT,reduceIte,Nat.reduceEqDiff];refine hK3 _ _ ?_;refine gwp_prune [0,1,2,4,5,25,26,27,999999] (Or.inl (by decide)) ?_;simp only[zP,Nat.reduceEqDiff,reduceIte];refine gR fun K hK=>?_;simp -dsimp [wj];apply hK;clear hK K;simp only[zT,reduceIte,Nat.reduceEqDiff];exact⟨j+1,by omega,by omega,gsub (sub_rb [some 0,some 3] rfl (by simp[hsu]) (by simp[hsu,hot])) (by simp)⟩
  ·rw[hc1,if_neg (by simp)]at hsu;refine gwp_skip ?_;simp only[zT,reduceIte,Nat.reduceEqDiff];refine hK3 _ _ ?_;refine gwp_prune [0,1,2,4,5,25,26,27,999999] (Or.inl (by decide)) ?_;simp only[zP,Nat.reduceEqDiff,reduceIte];refine gR fun K hK=>?_;simp -dsimp [wj];apply hK;clear hK K;simp only[zT,reduceIte,Nat.reduceEqDiff];exact⟨j+1,by omega,by omega,gsub (sub_rb [some 0,some 1] rfl (by simp[hsu]) (by simp[hsu])) (by simp)⟩
 ·skip
  try simp at hc0
  have hje:j=n.Ends.length:=by omega
  subst hje;generalize hA:nxTo p m n.Ends.length=A at hlj hbj hnl ⊢;refine gwp_exit ?_;simp only[zT,reduceIte,Nat.reduceEqDiff];refine hK1 _ _ ?_;refine gwp_prune [0,5,999999] (Or.inl (by decide)) ?_;simp only[zP,Nat.reduceEqDiff,reduceIte]
  rcases Decidable.em (A=[])with rfl|hA0
  ·refine gS fun K hK=>?_;simp -dsimp;refine callK_intro _ (c_Sort0) (by simp) ?_;simp -dsimp;apply hK;clear hK K;refine gS fun K hK=>?_;simp -dsimp;apply hK;clear hK K;refine gwp_block ?_;refine gwp_prune [0,55,56,57,999999] (Or.inl (by decide)) ?_;simp only[zP,Nat.reduceEqDiff,reduceIte];refine gwp_loop_l [0,55,56] (α:=Nat) (fun i=>[(57,I i),(999999,cntV i)]) (fun i=>[some (.els 5 [n.cells]),some (.els 1 [])]) (fun i=>i≤0) (fun i=>0) 0 ?_ ?_ ?_
   ·simp
   ·exact gsub (sub_same (by simp)) (by simp)
   rintro i i1;simp only[zP,Nat.reduceEqDiff,reduceIte];refine gS fun K hK=>?_;simp -dsimp;apply hK;clear hK K;refine gwp_seq_k fun K4 hK4=>?_;refine gwp_cond rfl (fun hc2=>?_) (fun hc2=>?_)
   ·simp at hc2;omega
   ·refine gwp_exit ?_
    try simp only[zT,reduceIte,Nat.reduceEqDiff]
    have hi0:i=0:=by omega
    simp[hnl,srt,hi0]
  ·refine gS fun K hK=>?_;simp -dsimp;refine callK_mut [1] [] [none,some 0] (m_Sort A (List.length_pos_iff.2 hA0) (by omega)) (by decide) rfl (by simp) (by simp) rfl (by simp) ?_;simp -dsimp;apply hK;clear hK K;refine gS fun K hK=>?_;simp -dsimp;apply hK;clear hK K;refine gwp_block ?_;refine gwp_prune [0,55,56,57,999999] (Or.inl (by decide)) ?_;simp only[zP,Nat.reduceEqDiff,reduceIte];refine gwp_loop_l [0,55,56] (α:=Nat) (fun i=>[(57,I i),(999999,cntV i)]) (fun i=>[some (.els 5 [n.cells]),some (.els 1 ((srt A).map nCell))]) (fun i=>i≤(srt A).length) (fun i=>(srt A).length-i) 0 ?_ ?_ ?_
   ·simp
   ·exact gsub (sub_same (by simp)) (by simp)
   rintro i i1;simp only[zP,Nat.reduceEqDiff,reduceIte];refine gS fun K hK=>?_;simp -dsimp;apply hK;clear hK K;refine gwp_seq_k fun K5 hK5=>?_;refine gwp_cond rfl (fun hc2=>?_) (fun hc2=>?_)
   ·have hsl:=srt_len A;obtain⟨k,hk⟩:∃k,(srt A)[i]?=some k:=⟨_,List.getElem?_eq_getElem (by simpa [hsl]using hc2)⟩;have hkb:=hbj k (ins_mem'.1 (List.mem_of_getElem? hk));have wi:=zW i (by omega);have hiA:i<A.length:=by simpa using hc2
    refine gwp_skip ?_;simp only[zT,reduceIte,Nat.reduceEqDiff];refine hK5 _ _ ?_;refine gwp_prune [0,55,56,57,999999] (Or.inl (by decide)) ?_;simp only[zP,Nat.reduceEqDiff,reduceIte];refine gwp_seq_k fun K6 hK6=>?_;refine gwp_block ?_;refine gS fun K hK=>?_;simp -dsimp [hk];refine⟨hiA,?_⟩;apply hK;clear hK K;refine gwp_sy hmk hY rfl (by decide) rfl rfl fun K hK=>?_;simp -dsimp;refine callK_intro _ (c_move k hkb.1 (by omega)) (by simp) ?_;simp -dsimp;refine yK_intro (by rw[hnl,List.getElem?_map,List.getElem?_map,hk];rfl) ?_ ?_
    ·apply hK;clear hK K;refine gwp_cond rfl (fun hc3=>?_) (fun hc3=>?_)
     ·simp at hc3
     ·refine gwp_skip ?_;simp only[zT,reduceIte,Nat.reduceEqDiff];refine hK6 _ _ ?_;refine gwp_prune [0,55,56,57,999999] (Or.inl (by decide)) ?_;simp only[zP,Nat.reduceEqDiff,reduceIte];refine gR fun K hK=>?_;simp -dsimp [wi];apply hK;clear hK K;simp only[zT,reduceIte,Nat.reduceEqDiff];exact⟨i+1,by omega,by omega,gsub (sub_rb [some 0,some 1] rfl (by simp) (by simp)) (by simp)⟩
    ·apply hK;clear hK K;refine gwp_cond rfl (fun hc3=>?_) (fun hc3=>?_)
     ·exact gwp_ret (by simp)
     ·simp at hc3
   ·refine gwp_exit ?_
    try simp only[zT,reduceIte,Nat.reduceEqDiff]
    have hie:i=A.length:=by have:=srt_len A;simp at hc2;omega
    simp[hnl,srt_len,hie]
def follB (p:Plan) (m k:Move):Bool:=(nextL p m).any fun x=>decide (x=k)
theorem c_follows (p:Plan) (m k:Move) (hv:validB p=true) (hm:movB p m=true):PureCall Tryz.prog 57 [.iptr (net p),m.av,k.av] (Bo (follB p m k)):=by
 have hit:=c_next1 p m hv hm;have hnx:=c_tnext p m;generalize net p=sh at hit hnx;refine PureCall.of_bodyG Tryz.func57 rfl (by decide) (by simp[Tryz.ntmps57]) ?_;intro J hJ;simp only[Tryz.ntmps57,Tryz.results57];refine gS fun K hK=>?_;simp -dsimp;apply hK;clear hK K;refine gwp_seq_k fun K1 hK1=>?_;refine gS fun K hK=>?_;simp -dsimp;refine callK_intro _ (hnx) (by simp) ?_;simp -dsimp;apply hK;clear hK K;refine gwp_block ?_;refine gwp_prune [5,6,10] (Or.inr (by simp)) ?_;simp only[zP,Nat.reduceEqDiff,reduceIte];refine gwp_range_s hJ [5,6,10] (fun _=>[some (.els 2 [m.cells]),some (.els 2 [k.cells]),some (.els 1 [[Bo false]])]) (fun n=>((nextL p m).take n).any (fun x=>decide (x=k))=false) rfl (hit) rfl (by simp) (by decide) (by decide) (by decide) (by intro z hz;obtain⟨q,_,rfl⟩:=List.mem_map.1 hz;rfl) ?_ ?_ ?_ ?_
 ·trivial
 ·exact sub_same (by simp)
 ·intro n xv hxn hi l1 J1 hJ1;obtain⟨q,hq,rfl⟩:∃q,(nextL p m)[n]?=some q∧[q.av]=xv:=by simpa using hxn
  simp only[List.zip_cons_cons,List.zip_nil_left,List.zip_nil_right,List.cons_append,List.nil_append];refine gR fun K hK=>?_;simp -dsimp;apply hK;clear hK K;simp only[onlyN];intro J2 hJ2;refine gwp_prune [5,6,7,10] (Or.inr (by simp)) ?_;simp only[zP,Nat.reduceEqDiff,reduceIte];refine gwp_block ?_;refine gS fun K hK=>?_;simp -dsimp;apply hK;clear hK K;refine gwp_cond rfl (fun hc0=>?_) (fun hc0=>?_)
  ·have hqe:q=k:=by simp at hc0;cases q;cases k;simp_all
   have hany:(nextL p m).any (fun x=>decide (x=k))=true:=List.any_eq_true.2 ⟨q,List.mem_of_getElem? hq,by simpa using hqe⟩;refine gS fun K hK=>?_;simp -dsimp;apply hK;clear hK K;exact gwp_ret ⟨[some (.els 2 [m.cells]),some (.els 2 [k.cells]),some (.els 1 [[Bo true]])],sub_rb [some 0,some 1,some 2] rfl (by simp) (by simp),by simp[follB,hany]⟩
  ·have hne:decide (q=k)=false:=by rw[decide_eq_false_iff_not];rintro rfl;simp at hc0
   refine gwp_skip ?_;simp only[thenA,inBlockA,roundQ,reduceIte,Nat.reduceEqDiff,eq_self];refine⟨?_,sub_rb [some 0,some 1,some 2] rfl (by simp) (by simp)⟩;rw[List.take_add_one,List.any_append,hi,hq];simp[hne]
 ·intro hdone;simp only[zT,reduceIte,Nat.reduceEqDiff];refine hK1 _ _ ?_;refine gwp_prune [6] (Or.inr (by simp)) ?_;simp only[zP,Nat.reduceEqDiff,reduceIte];refine gS fun K hK=>?_;simp -dsimp;apply hK;clear hK K;refine gwp_ret ?_;rw[List.take_of_length_le (by simp)]at hdone;simp[follB,hdone]
def stepB (p:Plan) (l:List Move) (i:Nat):Bool:=movB p (l[i]?.getD default)&&(decide (i=0)||follB p (l[i-1]?.getD default) (l[i]?.getD default))
def wayB (p:Plan) (l:List Move):Bool:=(List.range l.length).all (stepB p l)&&inr l.length 1 2000
theorem allR_succ (f:Nat→Bool) (n:Nat):(List.range (n+1)).all f=((List.range n).all f&&f n):=by
 rw[List.range_succ,List.all_append];simp
theorem allR_at {f:Nat→Bool} {n k:Nat} (h:(List.range n).all f=true) (hk:k<n):f k=true:=List.all_eq_true.1 h k (List.mem_range.2 hk)
theorem step_neg (a f:Bool) (i:Nat):(!a||(decide (0<i)&& !f))= !(a&&(decide (i=0)||f)):=by cases a<;>cases f<;>by_cases h:i=0<;>simp[h]<;>omega
theorem c_way (p:Plan) (l:List Move) (hv:validB p=true) (hn:l.length≤100000):PureCall Tryz.prog 29 [.iptr (net p), .lst 2 (l.map Move.cells)] (Bo (wayB p l)):=by
 have hhas:=fun r b=>c_nhas p r b hv;have hfol:=fun m k=>c_follows p m k hv;generalize net p=sh at hhas hfol;refine PureCall.of_body Tryz.func29 rfl (by decide) (by simp[Tryz.ntmps29]) ?_;simp only[Tryz.ntmps29,Tryz.results29];refine aS fun K hK=>?_;simp -dsimp;apply hK;clear hK K;refine awp_seq_k fun K1 hK1=>?_;refine aS fun K hK=>?_;simp -dsimp;apply hK;clear hK K;refine awp_block ?_;refine awp_prune [0,1,7,8,9] ?_;simp only[zP,Nat.reduceEqDiff,reduceIte];refine awp_loop_l [0,1,7,8] (α:=Nat) (fun i=>[(9,I i)]) (fun i=>[]) (fun i=>i≤l.length∧(List.range i).all (stepB p l)=true) (fun i=>l.length-i) 0 ?_ ?_ ?_
 ·simp
 ·exact sub_same (by simp)
 rintro i ⟨i1,i2⟩;simp only[zP,Nat.reduceEqDiff,reduceIte];refine aS fun K hK=>?_;simp -dsimp;apply hK;clear hK K;refine awp_seq_k fun K2 hK2=>?_;refine awp_cond rfl (fun hc0=>?_) (fun hc0=>?_)
 ·skip
  try simp at hc0
  obtain⟨m,hgm⟩:∃m,l[i]?=some m:=⟨_,List.getElem?_eq_getElem hc0⟩;have wi:=zW i (by omega);have w1:IntKind.i64.wrap ((i:Int)-1)=(i:Int)-1:=wrap_in (by omega) (by omega);have hprev:0<i→l[i-1]?=some (l[i-1]?.getD default):=fun h=>by rw[List.getElem?_eq_getElem (by omega)];rfl
  have hpm:0<i→movB p (l[i-1]?.getD default)=true:=fun h=>(Bool.and_eq_true_iff.1 (allR_at i2 (show i-1<i by omega))).1;have hst:stepB p l i=(movB p m&&(decide (i=0)||follB p (l[i-1]?.getD default) m)):=by unfold stepB;rw[hgm];rfl
  generalize l[i-1]?.getD default=m' at hprev hpm hst;have hmv:movB p m=inr m.Rail 0 (p.Rails.length-1):=rfl;refine awp_skip ?_;simp only[zT,reduceIte,Nat.reduceEqDiff];refine hK2 _ _ ?_;refine awp_prune [0,1,7,8,9] ?_;simp only[zP,Nat.reduceEqDiff,reduceIte];refine awp_seq_k fun K3 hK3=>?_;refine awp_block ?_;refine aS fun K hK=>?_;simp -dsimp [hgm];apply hK;clear hK K;refine awp_sd mixed rfl fun K hK=>?_;simp -dsimp [w1];refine callK_intro _ (hhas m.Rail m.Back) (by simp) ?_;simp -dsimp [w1];refine⟨fun _ h=>by omega,?_⟩
  try simp -dsimp
  refine idxK_intro m'.cells (fun hq=>by simp at hq;rw[List.getElem?_map,hprev hq.2];rfl) ?_;simp -dsimp [w1];refine callK_may _ (fun hm=>(hfol m' m (hpm (by simp at hm;exact hm.2)))) (by simp) ?_;simp -dsimp [w1];refine hK _ _ _ (by decide+kernel) ?_;clear hK K;refine awp_cond rfl (fun hc1=>?_) (fun hc1=>?_)
  ·rw[step_neg,←hmv,←hst]at hc1;have hsf:stepB p l i=false:=by simpa using hc1
   have hb:wayB p l=false:=by unfold wayB;rw[show(List.range l.length).all (stepB p l)=false from by rw[List.all_eq_false];exact⟨i,List.mem_range.2 hc0,by simp[hsf]⟩];rfl
   refine aS fun K hK=>?_;simp -dsimp;apply hK;clear hK K;exact awp_ret (by simp[hb])
  ·rw[step_neg,←hmv,←hst]at hc1;have hst1:stepB p l i=true:=by simpa using hc1
   refine awp_skip ?_;simp only[zT,reduceIte,Nat.reduceEqDiff];refine hK3 _ _ ?_;refine awp_prune [0,1,7,8,9] ?_;simp only[zP,Nat.reduceEqDiff,reduceIte];refine aR fun K hK=>?_;simp -dsimp [wi];apply hK;clear hK K;simp only[zT,reduceIte,Nat.reduceEqDiff];exact⟨i+1,⟨by omega,by rw[allR_succ,i2,hst1];rfl⟩,by omega,sub_rb [] rfl (by simp) (by simp)⟩
 ·skip
  try simp at hc0
  have hie:i=l.length:=by omega
  subst hie;refine awp_exit ?_;simp only[zT,reduceIte,Nat.reduceEqDiff];refine hK1 _ _ ?_;refine awp_prune [1] ?_;simp only[zP,Nat.reduceEqDiff,reduceIte];refine aS fun K hK=>?_;simp -dsimp;refine callK_intro _ (c_within l.length 1 2000) (by simp) ?_;simp -dsimp;apply hK;clear hK K;exact awp_ret (by simp[wayB,i2])
end Go.Tram
end
section
namespace Go.Tram
open Go.AM Go.Proofs
def mvAt (l:List Move) (i:Nat):Move:=l[i]?.getD default
def begTo (p:Plan) (l:List Move):Nat→Int
 |0=>0
 |i+1=>begTo p l i+p.len (mvAt l i).Rail
theorem len_bd {p:Plan} (hv:validB p=true) {r:Int} (h0:0≤r) (h1:r<p.Rails.length):1≤p.len r∧p.len r≤31000000:=by
 have ro:=rail_ok hv h0 h1;have hl:=ro.len;have hs:=ro.s;have h:=sumTo_bd ro ((p.rail r).Shape.length+1) (by omega);unfold Plan.len;omega
theorem way_mov {p:Plan} {l:List Move} (h:wayB p l=true):∀i,i<l.length→movB p (mvAt l i)=true:=by
 intro i hi;have:=(Bool.and_eq_true_iff.1 h).1;exact(Bool.and_eq_true_iff.1 (allR_at this hi)).1
theorem way_len {p:Plan} {l:List Move} (h:wayB p l=true):1≤l.length∧l.length≤2000:=by
 have:=inr_iff.1 (Bool.and_eq_true_iff.1 h).2;omega
theorem begTo_bd {p:Plan} {l:List Move} (hv:validB p=true) (h:wayB p l=true):∀i,i≤l.length→0≤begTo p l i∧begTo p l i≤31000000*i
 |0,_=>by simp[begTo]
 |i+1,hi=>by
  have h1:=begTo_bd hv h i (by omega);have h2:=movB_iff.1 (way_mov h i (by omega));have h3:=len_bd hv h2.1 h2.2;simp only[begTo];omega
theorem c_wayLength (p:Plan) (l:List Move) (hv:validB p=true) (hw:wayB p l=true):PureCall Tryz.prog 30 [.iptr (net p), .lst 2 (l.map Move.cells)] (I (begTo p l l.length)):=by
 have hl:=way_len hw;unfold net;refine PureCall.of_body Tryz.func30 rfl (by decide) (by simp[Tryz.ntmps30]) ?_;simp only[Tryz.ntmps30,Tryz.results30];refine aS fun K hK=>?_;simp -dsimp;apply hK;clear hK K;refine aS fun K hK=>?_;simp -dsimp;apply hK;clear hK K;refine awp_seq_k fun K1 hK1=>?_;refine aS fun K hK=>?_;simp -dsimp;apply hK;clear hK K;refine awp_block ?_;refine awp_prune [0,5,8,9,10] ?_;simp only[zP,Nat.reduceEqDiff,reduceIte];refine awp_loop_l [0,8,9] (α:=Nat) (fun i=>[(10,I i),(5,I (begTo p l i))]) (fun i=>[]) (fun i=>i≤l.length) (fun i=>l.length-i) 0 ?_ ?_ ?_
 ·simp
 ·exact sub_same (by simp[begTo])
 rintro i i1;simp only[zP,Nat.reduceEqDiff,reduceIte];refine aS fun K hK=>?_;simp -dsimp;apply hK;clear hK K;refine awp_seq_k fun K2 hK2=>?_;refine awp_cond rfl (fun hc0=>?_) (fun hc0=>?_)
 ·skip
  try simp at hc0
  obtain⟨m,hgm⟩:∃m,l[i]?=some m:=⟨_,List.getElem?_eq_getElem hc0⟩;have wi:=zW i (by omega);have hma:mvAt l i=m:=by simp[mvAt,hgm]
  have hmv:=way_mov hw i hc0;have hb1:=begTo_bd hv hw (i+1) (by omega);have hbs:begTo p l (i+1)=begTo p l i+p.len m.Rail:=by simp only[begTo];rw[hma]
  rw[hma]at hmv;have hmr:=movB_iff.1 hmv;have hlg:(lensA p p.Rails.length)[m.Rail.toNat]?=some [I (p.len m.Rail)]:=by rw[lensA_get (by omega),show((m.Rail.toNat:Nat):Int)=m.Rail by omega]
  have ws:IntKind.i64.wrap (begTo p l i+p.len m.Rail)=begTo p l (i+1):=by rw[←hbs];exact wrap_in (by omega) (by omega)
  refine awp_skip ?_;simp only[zT,reduceIte,Nat.reduceEqDiff];refine hK2 _ _ ?_;refine awp_prune [0,5,8,9,10] ?_;simp only[zP,Nat.reduceEqDiff,reduceIte];refine awp_seq_k fun K3 hK3=>?_;refine awp_block ?_;refine aS fun K hK=>?_;simp -dsimp [hgm];apply hK;clear hK K;refine awp_draw mixed rfl fun K hK=>?_;simp -dsimp [hlg,ws,hmr.1];refine hK _ _ _ (by decide+kernel) ?_;clear hK K;simp only[zT,reduceIte,Nat.reduceEqDiff];refine hK3 _ _ ?_;refine awp_prune [0,5,8,9,10] ?_;simp only[zP,Nat.reduceEqDiff,reduceIte];refine aR fun K hK=>?_;simp -dsimp [wi];apply hK;clear hK K;simp only[zT,reduceIte,Nat.reduceEqDiff];exact⟨i+1,by omega,by omega,sub_rb [] rfl (by simp) (by simp)⟩
 ·skip
  try simp at hc0
  have hie:i=l.length:=by omega
  subst hie;refine awp_exit ?_;simp only[zT,reduceIte,Nat.reduceEqDiff];refine hK1 _ _ ?_;refine awp_prune [5] ?_;simp only[zP,Nat.reduceEqDiff,reduceIte];refine aS fun K hK=>?_;simp -dsimp;apply hK;clear hK K;exact awp_ret (by simp)
end Go.Tram
end
section
namespace Go.Tram
open Go.AM Go.Proofs
abbrev mLst (l:List Move):AV:= .lst 2 (l.map Move.cells)
theorem c_tWayLength_t (p:Plan) (l:List Move) (hv:validB p=true) (h:wayB p l=true):PureCall Tryz.prog 64 [p.av,mLst l] (.tup [I (begTo p l l.length),I 0]):=by
 have hl:=way_len h;have hop:=c_open_t p hv;have hh:=c_way p l hv (by omega);have hw:=c_wayLength p l hv h;rw[h]at hh;generalize net p=sh at hop hh hw;refine PureCall.of_body Tryz.func64 rfl (by decide) (by simp[Tryz.ntmps64]) ?_;simp only[Tryz.ntmps64,Tryz.results64];refine aS fun K hK=>?_;simp -dsimp;apply hK;clear hK K;refine aS fun K hK=>?_;simp -dsimp;refine callK_intro _ (hop) (by simp) ?_;simp -dsimp;apply hK;clear hK K;refine awp_seq_k fun K1 hK1=>?_;refine aS fun K hK=>?_;simp -dsimp;refine callK_may _ (fun hm=>hh) (by simp) ?_;simp -dsimp;apply hK;clear hK K;refine awp_cond rfl (fun hc0=>?_) (fun hc0=>?_)
 ·simp at hc0
 ·refine awp_skip ?_;simp only[zT,reduceIte,Nat.reduceEqDiff];refine hK1 _ _ ?_;refine awp_prune [1,6] ?_;simp only[zP,Nat.reduceEqDiff,reduceIte];refine aS fun K hK=>?_;simp -dsimp;refine callK_intro _ (hw) (by simp) ?_;simp -dsimp;apply hK;clear hK K;exact awp_ret (by simp)
end Go.Tram
end
section
namespace Go.Mo
open Go.AM Go.Cur Go.Proofs
open Go.Tram (Plan validB wayB begTo mvAt movB mLst c_tWayLength_t c_tLength begTo_bd way_mov way_len len_bd movB_iff valid_parts railB railA)
abbrev Mv:=Go.Tram.Move
def slpM (p:Plan) (m:Mv):Int:=if m.Back=true then-(p.rail m.Rail).Slope else(p.rail m.Rail).Slope
def endTo (p:Plan) (l:List Mv) (k:Nat):List Int:=(List.range k).map fun i=>begTo p l (i+1)
def limTo (p:Plan) (l:List Mv) (k:Nat):List Int:=(List.range k).map fun i=>(p.rail (mvAt l i).Rail).Limit
def slpTo (p:Plan) (l:List Mv) (k:Nat):List Int:=(List.range k).map fun i=>slpM p (mvAt l i)
theorem endTo_s (p:Plan) (l:List Mv) (k:Nat):endTo p l (k+1)=endTo p l k++[begTo p l (k+1)]:=by simp[endTo,List.range_succ]
theorem limTo_s (p:Plan) (l:List Mv) (k:Nat):limTo p l (k+1)=limTo p l k++[(p.rail (mvAt l k).Rail).Limit]:=by simp[limTo,List.range_succ]
theorem slpTo_s (p:Plan) (l:List Mv) (k:Nat):slpTo p l (k+1)=slpTo p l k++[slpM p (mvAt l k)]:=by simp[slpTo,List.range_succ]
theorem endTo_len (p:Plan) (l:List Mv) (k:Nat):(endTo p l k).length=k:=by simp[endTo]
theorem limTo_len (p:Plan) (l:List Mv) (k:Nat):(limTo p l k).length=k:=by simp[limTo]
theorem slpTo_len (p:Plan) (l:List Mv) (k:Nat):(slpTo p l k).length=k:=by simp[slpTo]
structure BegOk (p:Plan) (l:List Mv) (t:Tn) (st:Int) (sp:List Int):Prop where
 ok:okT t=true
 s0:0≤st
 s1:st<t.Grip.length
 v:validB p=true
 w:wayB p l=true
 n:2≤sp.length∧sp.length≤100
 a:t.Length≤at0 sp 0
 z:at0 sp (sp.length-1)≤begTo p l l.length
 up:∀i:Nat,i+1<sp.length→at0 sp i<at0 sp (i+1:Nat)
def runOf (p:Plan) (l:List Mv) (t:Tn) (st:Int) (sp:List Int):Rn:=⟨t,st,l.map Go.Tram.Move.cells,endTo p l l.length,limTo p l l.length,slpTo p l l.length,sp⟩
theorem BegOk.mono {p :Plan} {l:List Mv} {t:Tn} {st:Int} {sp:List Int} (h:BegOk p l t st sp):∀(j i:Nat),i≤j→j<sp.length→at0 sp i≤at0 sp j
  | 0, i, hi, _ => by obtain rfl:i=0:=by omega
                      exact Int.le_refl _
  | j +1,i,hi,hj=>by
    rcases Nat.lt_or_ge i (j+1)with h1|h1
    · have:=h.mono j i (by omega) (by omega)
      have:=h.up j hj;omega
    · obtain rfl:i=j+1:=by omega
      exact Int.le_refl _
theorem BegOk.bd {p:Plan} {l:List Mv} {t:Tn} {st:Int} {sp:List Int} (h:BegOk p l t st sp) {i:Nat} (hi:i<sp.length):t.Length≤at0 sp i∧at0 sp i≤62000000000:=by
 have h1:=h.mono i 0 (by omega) hi;have h2:=h.mono (sp.length-1) i (by omega) (by have:=h.n;omega);have h3:=h.a;have h4:=h.z;have h5:=(begTo_bd h.v h.w l.length (Nat.le_refl _)).2;have h6:=(way_len h.w).2;have e:((sp.length-1:Nat):Int)=(sp.length:Int)-1:=by have:=h.n;omega
 rw[e]at h2;have e0:((0:Nat):Int)=0:=rfl;rw[e0]at h1;exact⟨Int.le_trans h3 h1,by omega⟩
theorem rail_bd {p:Plan} (hv:validB p=true) {r:Int} (h0:0≤r) (h1:r<p.Rails.length):p.Rails[r.toNat]?=some (p.rail r)∧1≤(p.rail r).Limit∧(p.rail r).Limit≤50000∧-120≤(p.rail r).Slope∧(p.rail r).Slope≤120:=by
 obtain⟨_,_,hA,hR,_⟩:=valid_parts hv;have hg:=p.rail_get h0 h1;have hb:railB p (p.rail r)=true:=List.all_eq_true.1 hR _ (List.mem_of_getElem? hg);simp only[railB,railA,Bool.and_eq_true,Go.Tram.inr_iff,decide_eq_true_eq]at hb;obtain⟨⟨b1,b2,b3,b4,b5⟩,b6,b7⟩:=hb;exact⟨hg,b4.1,b4.2,b5.1,b5.2⟩
theorem c_mbegin (p:Plan) (l:List Mv) (t:Tn) (st:Int) (sp:List Int) (h:BegOk p l t st sp):PureCall Tryz.prog 34 [p.av,mLst l,t.av,I st,iL sp] (.tup [(runOf p l t st sp).ptr,Bo true]):=by
 have hmv:=c_moving_t t st h.ok h.s0 h.s1;have hwl:=c_tWayLength_t p l h.v h.w;have hn:=h.n;have g0:sp[0]?=some (at0 sp 0):=at0_nat (l:=sp) (k:=0) (by omega);have gz:=at0_nat (l:=sp) (k:=sp.length-1) (by omega);have ez:((sp.length-1:Nat):Int)=(sp.length:Int)-1:=by omega
 rw[ez]at gz;have l1:(1:Int)≤sp.length:=by omega
 have wz:IntKind.i64.wrap ((sp.length:Int)-1)=(sp.length:Int)-1:=wrap_in (by omega) (by omega);have ha:=h.a;have hz:=h.z;have j1:¬at0 sp 0<t.Length:=by omega
 have j2:¬begTo p l l.length<at0 sp (sp.length-1):=by omega
 have hin:inr (sp.length:Int) 2 100=true:=by rw[inr_iff];omega
 have hcw:=c_within (sp.length:Int) 2 100;rw[hin]at hcw;refine PureCall.of_body Tryz.func34 rfl (by decide) (by simp[Tryz.ntmps34]) ?_;simp only[Tryz.ntmps34,Tryz.results34];refine aS fun K hK=>?_;simp -dsimp;apply hK;clear hK K;refine aS fun K hK=>?_;simp -dsimp;refine callK_intro _ (hmv) (by simp) ?_;simp -dsimp;apply hK;clear hK K;refine aS fun K hK=>?_;simp -dsimp;refine callK_intro _ (hwl) (by simp) ?_;simp -dsimp;apply hK;clear hK K;refine awp_seq_k fun K1 hK1=>?_;refine awp_sd mixed rfl fun K hK=>?_;simp -dsimp [wz,j1,j2,l1];refine callK_may _ (fun hm=>hcw) (by simp) ?_;simp -dsimp [wz,j1,j2,l1];refine idxK_intro (nCell (at0 sp 0)) (fun _=>by simp[g0]) ?_;simp -dsimp [wz,j1,j2,l1];refine idxK_intro (nCell (at0 sp (sp.length-1))) (fun _=>by simp[gz]) ?_;simp -dsimp [wz,j1,j2,l1];refine hK _ _ _ (by decide+kernel) ?_;clear hK K;refine awp_cond rfl (fun hc0=>?_) (fun hc0=>?_)
 ·simp[j1,j2]at hc0
 ·refine awp_skip ?_;simp only[zT,reduceIte,Nat.reduceEqDiff];refine hK1 _ _ ?_;refine awp_prune [1,4,5,12] ?_;simp only[zP,Nat.reduceEqDiff,reduceIte];refine awp_seq_k fun K2 hK2=>?_;refine aS fun K hK=>?_;simp -dsimp;apply hK;clear hK K;refine awp_block ?_;refine awp_prune [1,4,5,12,16] ?_;simp only[zP,Nat.reduceEqDiff,reduceIte];refine awp_loop_l [1,4,5,12] (α:=Nat) (fun k=>[(16,I ((k:Int)+1))]) (fun _=>[some (.els 2 [p.cells]),some (.els 10 [t.cells])]) (fun k=>k+1≤sp.length) (fun k=>sp.length-k) 0 ?_ ?_ ?_
  ·show 0+1≤_;omega
  ·exact sub_rb [some 0,some 1] rfl (by simp) (by simp)
  rintro k k1;simp only[zP,Nat.reduceEqDiff,reduceIte];refine awp_seq_k fun K3 hK3=>?_;refine aS fun K hK=>?_;simp -dsimp;apply hK;clear hK K;refine awp_cond rfl (fun hc1=>?_) (fun hc1=>?_)
  ·have hkl:k+1<sp.length:=by have h:=(by simpa using hc1:(k:Int)+1<sp.length);omega
   have wk:IntKind.i64.wrap (k:Int)=k:=wrap_in (by omega) (by omega);have k0:(0:Int)≤(k:Int)+1:=by omega
   have wk2:IntKind.i64.wrap ((k:Int)+1+1)=(k:Int)+1+1:=wrap_in (by omega) (by omega);have gk:=at0_nat (l:=sp) (k:=k) (by omega);have gk1:=at0_nat (l:=sp) (k:=k+1) hkl;have hup:=h.up k hkl;have hnu:¬at0 sp (k+1:Nat)≤at0 sp k:=by omega
   refine awp_skip ?_;simp only[zT,reduceIte,Nat.reduceEqDiff];refine hK3 _ _ ?_;refine awp_prune [1,4,5,12,16] ?_;simp only[zP,Nat.reduceEqDiff,reduceIte];refine awp_seq_k fun K4 hK4=>?_;refine awp_block ?_;refine awp_sd mixed rfl fun K hK=>?_;simp -dsimp [wk,k0,gk,gk1];refine hK _ _ _ (by decide+kernel) ?_;clear hK K;refine awp_cond rfl (fun hc2=>?_) (fun hc2=>?_)
   ·exact absurd (by simpa using hc2) hnu
   ·refine awp_skip ?_;simp only[zT,reduceIte,Nat.reduceEqDiff];refine hK4 _ _ ?_;refine awp_prune [1,4,5,12,16] ?_;simp only[zP,Nat.reduceEqDiff,reduceIte];refine aR fun K hK=>?_;simp -dsimp [wk2];apply hK;clear hK K;simp only[zT,reduceIte,Nat.reduceEqDiff];exact⟨k+1,by omega,by omega,sub_rb [some 0,some 1] rfl (by simp) (by simp)⟩
  ·refine awp_exit ?_;simp only[zT,reduceIte,Nat.reduceEqDiff];refine hK2 _ _ ?_;refine awp_prune [1,4,5,12] ?_;simp only[zP,Nat.reduceEqDiff,reduceIte];refine aS fun K hK=>?_;simp -dsimp;apply hK;clear hK K;refine aS fun K hK=>?_;simp -dsimp;apply hK;clear hK K;refine awp_seq_k fun K5 hK5=>?_;refine aS fun K hK=>?_;simp -dsimp;apply hK;clear hK K;refine awp_block ?_;refine awp_prune [5,17,18,88,89,90] ?_;simp only[zP,Nat.reduceEqDiff,reduceIte];refine awp_loop_l [5,17,88,89] (α:=Nat) (fun k=>[(18,I (begTo p l k)),(90,I k)]) (fun k=>[some (.els 2 [p.cells]),some (.els 10 [t.cells]),some (.els 6 [[t.mp st,mLst l, .row 3 0 k, .row 4 0 k, .row 5 0 k,iL sp]]),some (.els 1 ((endTo p l k).map nCell)),some (.els 1 ((limTo p l k).map nCell)),some (.els 1 ((slpTo p l k).map nCell))]) (fun k=>k≤l.length) (fun k=>l.length-k) 0 ?_ ?_ ?_
   ·exact Nat.zero_le _
   ·exact(((sub_nilc 2 0 2 1 (sz0:=6) (es:=[[t.mp st,mLst l, .v (.slice none 0 0), .v (.slice none 0 0), .v (.slice none 0 0),iL sp]]) (e:=[t.mp st,mLst l, .v (.slice none 0 0), .v (.slice none 0 0), .v (.slice none 0 0),iL sp]) (by simp) (by simp) (by simp)).trans (sub_nilc 2 0 3 1 (sz0:=6) (es:=[[t.mp st,mLst l, .row 3 0 0, .v (.slice none 0 0), .v (.slice none 0 0),iL sp]]) (e:=[t.mp st,mLst l, .row 3 0 0, .v (.slice none 0 0), .v (.slice none 0 0),iL sp]) (by simp) (by simp) (by simp))).trans (sub_nilc 2 0 4 1 (sz0:=6) (es:=[[t.mp st,mLst l, .row 3 0 0, .row 4 0 0, .v (.slice none 0 0),iL sp]]) (e:=[t.mp st,mLst l, .row 3 0 0, .row 4 0 0, .v (.slice none 0 0),iL sp]) (by simp) (by simp) (by simp))).trans (sub_same (by simp[begTo,endTo,limTo,slpTo]))
   rintro k k1;simp only[zP,Nat.reduceEqDiff,reduceIte];refine aS fun K hK=>?_;simp -dsimp;apply hK;clear hK K;refine awp_seq_k fun K6 hK6=>?_;refine awp_cond rfl (fun hc3=>?_) (fun hc3=>?_)
   ·have hkl:k<l.length:=by simpa using hc3
    have wk:IntKind.i64.wrap ((k:Int)+1)=(k:Int)+1:=wrap_in (by omega) (by have:=(way_len h.w).2;omega);have gm:l[k]?=some (mvAt l k):=by unfold mvAt;rw[List.getElem?_eq_getElem hkl];rfl
    have hmb:=movB_iff.1 (way_mov h.w k hkl);have hln:=c_tLength p (mvAt l k).Rail h.v hmb.1 hmb.2;obtain⟨gr,r1,r2,r3,r4⟩:=rail_bd h.v hmb.1 hmb.2;have hb0:=begTo_bd h.v h.w k (by omega);have hb1:=begTo_bd h.v h.w (k+1) (by omega);have hll:=(way_len h.w).2;have hbs:begTo p l (k+1)=begTo p l k+p.len (mvAt l k).Rail:=rfl;have wb:IntKind.i64.wrap (begTo p l k+p.len (mvAt l k).Rail)=begTo p l k+p.len (mvAt l k).Rail:=wrap_in (by omega) (by omega);have ff:Fits (k+1) 9:=fits_of (by omega) (by omega);have he:=endTo_len p l k;have the:List.take k ((endTo p l k).map nCell)=(endTo p l k).map nCell:=List.take_of_length_le (by rw[List.length_map];omega);have hl':=limTo_len p l k;have thl':List.take k ((limTo p l k).map nCell)=(limTo p l k).map nCell:=List.take_of_length_le (by rw[List.length_map];omega);have hs':=slpTo_len p l k;have ths':List.take k ((slpTo p l k).map nCell)=(slpTo p l k).map nCell:=List.take_of_length_le (by rw[List.length_map];omega);refine awp_skip ?_;simp only[zT,reduceIte,Nat.reduceEqDiff];refine hK6 _ _ ?_;refine awp_prune [5,17,18,88,89,90] ?_;simp only[zP,Nat.reduceEqDiff,reduceIte];refine awp_seq_k fun K7 hK7=>?_;refine awp_block ?_;refine aS fun K hK=>?_;simp -dsimp [gm];apply hK;clear hK K;refine aS fun K hK=>?_;simp -dsimp;refine callK_intro _ (hln) (by simp) ?_;simp -dsimp;apply hK;clear hK K;refine awp_seq_k fun K8 hK8=>?_;refine aS fun K hK=>?_;simp -dsimp;apply hK;clear hK K;refine awp_cond rfl (fun hc4=>?_) (fun hc4=>?_)
    ·simp at hc4
    ·refine awp_skip ?_;simp only[zT,reduceIte,Nat.reduceEqDiff];refine hK8 _ _ ?_;refine awp_prune [5,17,18,20,21,88,89,90] ?_;simp only[zP,Nat.reduceEqDiff,reduceIte];refine aS fun K hK=>?_;simp -dsimp [wb];apply hK;clear hK K;refine aS fun K hK=>?_;simp -dsimp [gr,hmb.1];apply hK;clear hK K;refine aS fun K hK=>?_;simp -dsimp;apply hK;clear hK K;refine awp_seq_k fun K9 hK9=>?_;refine aS fun K hK=>?_;simp -dsimp;apply hK;clear hK K;refine awp_cond rfl (fun hc5=>?_) (fun hc5=>?_)
     ·have hbk:(mvAt l k).Back=true:=by simpa using hc5
      have hsl:slpM p (mvAt l k)=-(p.rail (mvAt l k).Rail).Slope:=by unfold slpM;rw[if_pos hbk]
      have wn:IntKind.i64.wrap (-(p.rail (mvAt l k).Rail).Slope)=-(p.rail (mvAt l k).Rail).Slope:=wrap_in (by omega) (by omega);refine aR fun K hK=>?_;simp -dsimp [wn];apply hK;clear hK K;simp only[zT,reduceIte,Nat.reduceEqDiff];refine hK9 _ _ ?_;refine awp_prune [5,17,18,23,24,88,89,90] ?_;simp only[zP,Nat.reduceEqDiff,reduceIte];refine awp_draw mixed rfl fun K hK=>?_;simp -dsimp [ff,he,hl',hs'];refine hK _ _ _ (by decide+kernel) ?_;clear hK K;simp only[zT,reduceIte,Nat.reduceEqDiff];refine hK7 _ _ ?_;refine awp_prune [5,17,18,88,89,90] ?_;simp only[zP,Nat.reduceEqDiff,reduceIte];refine aR fun K hK=>?_;simp -dsimp [wk];apply hK;clear hK K;simp only[zT,reduceIte,Nat.reduceEqDiff];exact⟨k+1,by omega,by omega,sub_rb [some 0,some 1,some 2,some 8,some 9,some 10] rfl (by simp[hbs]) (by simp[the,thl',ths',endTo_s,limTo_s,slpTo_s,hbs,hsl])⟩
     ·have hbk:¬(mvAt l k).Back=true:=by simpa using hc5
      have hsl:slpM p (mvAt l k)=(p.rail (mvAt l k).Rail).Slope:=by unfold slpM;rw[if_neg hbk]
      refine awp_skip ?_;simp only[zT,reduceIte,Nat.reduceEqDiff];refine hK9 _ _ ?_;refine awp_prune [5,17,18,23,24,88,89,90] ?_;simp only[zP,Nat.reduceEqDiff,reduceIte];refine awp_draw mixed rfl fun K hK=>?_;simp -dsimp [ff,he,hl',hs'];refine hK _ _ _ (by decide+kernel) ?_;clear hK K;simp only[zT,reduceIte,Nat.reduceEqDiff];refine hK7 _ _ ?_;refine awp_prune [5,17,18,88,89,90] ?_;simp only[zP,Nat.reduceEqDiff,reduceIte];refine aR fun K hK=>?_;simp -dsimp [wk];apply hK;clear hK K;simp only[zT,reduceIte,Nat.reduceEqDiff];exact⟨k+1,by omega,by omega,sub_rb [some 0,some 1,some 2,some 8,some 9,some 10] rfl (by simp[hbs]) (by simp[the,thl',ths',endTo_s,limTo_s,slpTo_s,hbs,hsl])⟩
   ·have hkl:k=l.length:=by have:¬k<l.length:=(by simpa using hc3);omega
    subst hkl;have t1:List.take l.length ((endTo p l l.length).map nCell)=(endTo p l l.length).map nCell:=List.take_of_length_le (by rw[List.length_map,endTo_len];exact Nat.le_refl _);have t2:List.take l.length ((limTo p l l.length).map nCell)=(limTo p l l.length).map nCell:=List.take_of_length_le (by rw[List.length_map,limTo_len];exact Nat.le_refl _);have t3:List.take l.length ((slpTo p l l.length).map nCell)=(slpTo p l l.length).map nCell:=List.take_of_length_le (by rw[List.length_map,slpTo_len];exact Nat.le_refl _);refine awp_exit ?_;simp only[zT,reduceIte,Nat.reduceEqDiff];refine hK5 _ _ ?_;refine awp_prune [17] ?_;simp only[zP,Nat.reduceEqDiff,reduceIte];refine aS fun K hK=>?_;simp -dsimp;apply hK;clear hK K;exact awp_ret (by simp[resP,tupOf,runOf,endTo_len,limTo_len,slpTo_len,t1,t2,t3])
end Go.Mo
end
section
namespace Go.Mo
open Go.AM Go.Cur Go.Proofs
open Go.Tram (Plan validB wayB begTo mvAt movB mLst begTo_bd way_mov way_len len_bd movB_iff)
theorem runOf_ok {p:Plan} {l:List Mv} {t:Tn} {st:Int} {sp:List Int} (h:BegOk p l t st sp):RnOk (runOf p l t st sp):=by
 have hl:=way_len h.w;have ho:=h.ok;simp only[okT,Bool.and_eq_true,inr_iff]at ho;have hm:∀i,i<l.length→0≤(mvAt l i).Rail∧(mvAt l i).Rail<p.Rails.length:=fun i hi=>movB_iff.1 (way_mov h.w i hi);refine⟨okT_b h.ok h.s0 h.s1,by show 1≤t.Length∧t.Length≤60000;omega,by show 1≤t.Speed∧t.Speed≤25000;omega,by show 1≤(endTo p l l.length).length∧(endTo p l l.length).length≤2000;rw[endTo_len];omega,?_,?_,?_,?_,?_⟩
 ·show(limTo p l l.length).length=(endTo p l l.length).length;rw[limTo_len,endTo_len]
 ·show(slpTo p l l.length).length=(endTo p l l.length).length;rw[slpTo_len,endTo_len]
 ·show(endTo p l l.length).Pairwise (· ≤ ·)
  rw[List.pairwise_iff_getElem];intro i j hi hj hij;rw[endTo_len]at hi hj;have mono:∀(d i:Nat),i+d≤l.length→begTo p l i≤begTo p l (i+d):=by
   intro d
   induction d with
   |zero=>intro i _;exact Int.le_refl _
   |succ d ih=>
    intro i hi;have h1:=ih i (by omega);have h2:=hm (i+d) (by omega);have h3:=(len_bd h.v h2.1 h2.2).1;have e:begTo p l (i+(d+1))=begTo p l (i+d)+p.len (mvAt l (i+d)).Rail:=rfl;omega
  simp only[endTo,List.getElem_map,List.getElem_range];have:=mono (j-i) (i+1) (by omega)
  rwa [show i+1+(j-i)=j+1 by omega]at this
 ·intro x hx;obtain⟨i,hi,rfl⟩:=List.mem_map.1 hx;have h1:=hm i (List.mem_range.1 hi);obtain⟨_,_,_,h2,h3⟩:=rail_bd h.v h1.1 h1.2;unfold slpM;split<;>omega
 ·intro x hx;obtain⟨i,hi,rfl⟩:=List.mem_map.1 hx;have h1:=hm i (List.mem_range.1 hi);obtain⟨_,h2,h3,_⟩:=rail_bd h.v h1.1 h1.2;omega
theorem legN_ok {r:Rn} (h:RnOk r) (stop:Int):∀(f:Nat) (x:Ms) (o:Lg),MsB r.t x→x.W≤90000000000000000→MsB r.t (r.legN stop f x o).2.1∧(r.legN stop f x o).2.1.W≤90000000000000000
 |0,x,o,hx,hw=>by rw[Rn.legN];split<;>exact⟨hx,hw⟩
 | f+1,x,o,hx,hw=>by
  rw[Rn.legN]
  split
  ·exact⟨hx,hw⟩
  ·split
   ·exact⟨hx,hw⟩
   ·rename_i i hi
    split
    ·exact⟨hx,hw⟩
    ·rename_i hn;exact legN_ok h stop f _ _ (chF_ok h hx hw hi).2.1 (by omega)
def Rn.legsN (r:Rn):List Int→Ms→Option (List Lg)
 |[],_=>some []
 |s::q,x=>if (r.legN s 36000 x lg0).2.2=false∨10000000000000000<x.W then none else(r.legsN q (r.legN s 36000 x lg0).2.1).map ((r.legN s 36000 x lg0).1:: ·)
def Rn.x0 (r:Rn):Ms:=⟨0,10*r.t.Mass*at0 r.stops 0⟩
def drvAV:Option (List Lg)→AV
 |some L=> .tup [.lst 10 (L.map Lg.cells),I 0]
 |none=> .tup [.v (.slice none 0 0),I 4]
theorem c_Drive (p:Plan) (l:List Mv) (t:Tn) (st:Int) (sp:List Int) (h:BegOk p l t st sp):
  PureCall Tryz.prog 16 [p.av,mLst l,t.av,I st,iL sp] (drvAV ((runOf p l t st sp).legsN (sp.drop 1) (runOf p l t st sp).x0)):=by
 have hbg:=c_mbegin p l t st sp h;have hok:=runOf_ok h;have hn:=h.n;have g0:sp[0]?=some (at0 sp 0):=at0_nat (l:=sp) (k:=0) (by omega);have hm:1000≤t.Mass∧t.Mass≤80000:=(okT_b h.ok h.s0 h.s1).ma;have hb0:=h.bd (i:=0) (by omega);have hlen:1≤t.Length:=by have:=h.ok;simp only[okT,Bool.and_eq_true,inr_iff]at this;omega
 have e0:((0:Nat):Int)=0:=rfl;rw[e0]at hb0;have hq1:=Int.mul_le_mul (a:=10*t.Mass) (b:=at0 sp 0) (c:=800000) (d:=62000000000) (by omega) hb0.2 (by omega) (by omega);have hq0:=Int.mul_nonneg (a:=10*t.Mass) (b:=at0 sp 0) (by omega) (by omega);have w1:IntKind.i64.wrap (10*t.Mass)=10*t.Mass:=wrap_in (by omega) (by omega);have w2:IntKind.i64.wrap (10*t.Mass*at0 sp 0)=10*t.Mass*at0 sp 0:=wrap_in (by omega) (by omega);have hx0:(runOf p l t st sp).x0=⟨0,10*t.Mass*at0 sp 0⟩:=rfl;have hbd:∀i,i+1<sp.length→at0 sp (i+1:Nat)≤62000000000∧0≤at0 sp (i+1:Nat):=fun i hi=>by have:=h.bd hi;omega
 have hms:MsB (runOf p l t st sp).t (⟨0,10*t.Mass*at0 sp 0⟩:Ms):=⟨⟨Int.le_refl _,by show 0≤25000*t.Mass;omega⟩,⟨hq0,by show 10*t.Mass*at0 sp 0≤_;omega⟩⟩;rw[hx0];generalize hR:(runOf p l t st sp).legsN (sp.drop 1) ⟨0,10*t.Mass*at0 sp 0⟩=R;obtain⟨r,hr⟩:∃r,r=runOf p l t st sp:=⟨_,rfl⟩;rw[←hr]at hbg hok hR hms;clear hr;have hn1:1≤sp.length:=by omega
 refine PureCall.of_body Tryz.func16 rfl (by decide) (by simp[Tryz.ntmps16]) ?_;simp only[Tryz.ntmps16,Tryz.results16];refine aS fun K hK=>?_;simp -dsimp;apply hK;clear hK K;refine aS fun K hK=>?_;simp -dsimp;refine callK_intro _ (hbg) (by simp) ?_;simp -dsimp;apply hK;clear hK K;refine awp_seq_k fun K1 hK1=>?_;refine aS fun K hK=>?_;simp -dsimp;apply hK;clear hK K;refine awp_cond rfl (fun hc0=>?_) (fun hc0=>?_)
 ·simp at hc0
 ·refine awp_skip ?_;simp only[zT,reduceIte,Nat.reduceEqDiff];refine hK1 _ _ ?_;refine awp_prune [4,7,12] ?_;simp only[zP,Nat.reduceEqDiff,reduceIte];refine awp_sd mixed rfl fun K hK=>?_;simp -dsimp [w1,w2,g0];refine hK _ _ _ (by decide+kernel) ?_;clear hK K;refine aS fun K hK=>?_;simp -dsimp;apply hK;clear hK K;refine awp_seq_k fun K2 hK2=>?_;refine aS fun K hK=>?_;simp -dsimp [hn1];apply hK;clear hK K;refine awp_block ?_;refine awp_prune [12,14,15,41,42,43] ?_;simp only[zP,Nat.reduceEqDiff,reduceIte];refine awp_loop_l [12,14,41,42] (α:=Nat×Ms×List Lg) (fun q=>[(15, .row 3 0 q.2.2.length),(43,I q.1)]) (fun q=>[some (.els 2 [p.cells]),some (.els 10 [t.cells]),some (.els 2 [q.2.1.cells]),some (.els 10 (q.2.2.map Lg.cells))]) (fun q=>q.2.2.length=q.1∧q.1≤sp.length-1∧MsB r.t q.2.1∧q.2.1.W≤90000000000000000∧(r.legsN (sp.drop (q.1+1)) q.2.1).map (q.2.2++ ·)=R) (fun q=>sp.length-q.1) (0,⟨0,10*t.Mass*at0 sp 0⟩,[]) ?_ ?_ ?_
  ·exact⟨rfl,by simp,hms,by simp only;omega,by simp only[List.nil_append,Nat.zero_add];rw[hR];cases R<;>rfl⟩
  ·exact(sub_nil 15 10 (by simp)).trans (sub_same (by simp))
  rintro⟨k,x,L⟩ ⟨i1,i2,i3,i4,i5⟩;simp only at i1 i2 i3 i4 i5 ⊢;subst i1;simp only[zP,Nat.reduceEqDiff,reduceIte];refine aS fun K hK=>?_;simp -dsimp;apply hK;clear hK K;refine awp_seq_k fun K3 hK3=>?_;refine awp_cond rfl (fun hc1=>?_) (fun hc1=>?_)
  ·have hkl:L.length+1<sp.length:=by have h:=(by simpa using hc1:(L.length:Int)<((sp.length-1:Nat):Int));omega
   have wk:IntKind.i64.wrap ((L.length:Int)+1)=(L.length:Int)+1:=wrap_in (by omega) (by omega);have gk:=at0_nat (l:=sp) (k:=L.length+1) hkl;have hbk:=hbd L.length hkl;have hlg:=c_leg r hok x i3 i4 (at0 sp (L.length+1:Nat)) (by omega);have hlo:=legN_ok hok (at0 sp (L.length+1:Nat)) 36000 x lg0 i3 i4;have hdr:sp.drop (L.length+1)=at0 sp (L.length+1:Nat)::sp.drop (L.length+1+1):=by
    rw[List.drop_eq_getElem_cons hkl];rw[List.getElem?_eq_getElem hkl]at gk;simp only[Option.some.injEq]at gk;rw[gk]
   rw[hdr,Rn.legsN]at i5;have ff:Fits (L.length+1) 81:=fits_of (by omega) (by omega);generalize r.legN (at0 sp (L.length+1:Nat)) 36000 x lg0=y at hlg hlo i5;obtain⟨o,z,ok⟩:=y;simp only at hlg hlo i5;refine awp_skip ?_;simp only[zT,reduceIte,Nat.reduceEqDiff];refine hK3 _ _ ?_;refine awp_prune [12,14,15,41,42,43] ?_;simp only[zP,Nat.reduceEqDiff,reduceIte];refine awp_seq_k fun K4 hK4=>?_;refine awp_block ?_;refine aS fun K hK=>?_;simp -dsimp [gk];apply hK;clear hK K;refine aS fun K hK=>?_;simp -dsimp;refine callK_intro _ (hlg) (by simp) ?_;simp -dsimp;apply hK;clear hK K;refine awp_seq_k fun K5 hK5=>?_;refine aS fun K hK=>?_;simp -dsimp;apply hK;clear hK K;refine awp_cond rfl (fun hc2=>?_) (fun hc2=>?_)
   ·have hf:ok=false∨10000000000000000<x.W:=by
     cases ok with
     |false=>exact Or.inl rfl
     |true=>exact Or.inr (by simpa using hc2)
    rw[if_pos hf]at i5;refine aS fun K hK=>?_;simp -dsimp;apply hK;clear hK K;exact awp_ret (by simp[resP,tupOf,←i5,drvAV])
   ·have hf:¬(ok=false∨10000000000000000<x.W):=by
     cases ok with
     |false=>simp at hc2
     |true=>simpa using hc2
    rw[if_neg hf]at i5;refine awp_skip ?_;simp only[zT,reduceIte,Nat.reduceEqDiff];refine hK5 _ _ ?_;refine awp_prune [12,14,15,18,19,41,42,43] ?_;simp only[zP,Nat.reduceEqDiff,reduceIte];refine aS fun K hK=>?_;simp -dsimp [ff];apply hK;clear hK K;refine aR fun K hK=>?_;simp -dsimp;apply hK;clear hK K;simp only[zT,reduceIte,Nat.reduceEqDiff];refine hK4 _ _ ?_;refine awp_prune [12,14,15,41,42,43] ?_;simp only[zP,Nat.reduceEqDiff,reduceIte];refine aR fun K hK=>?_;simp -dsimp [wk];apply hK;clear hK K;simp only[zT,reduceIte,Nat.reduceEqDiff];exact⟨(L.length+1,z,L++[o]),⟨by simp,by simp only;omega,hlo.1,hlo.2,by simp only;rw[←i5,Option.map_map];congr 1;funext q;simp⟩,by simp only;omega,sub_rb [some 0,some 1,some 2,some 6] rfl (by simp) (by simp)⟩
  ·have hkl:L.length+1=sp.length:=by have h:¬(L.length:Int)<((sp.length-1:Nat):Int):=(by simpa using hc1);omega
   rw[hkl,List.drop_length,Rn.legsN]at i5;refine awp_exit ?_;simp only[zT,reduceIte,Nat.reduceEqDiff];refine hK2 _ _ ?_;refine awp_prune [15] ?_;simp only[zP,Nat.reduceEqDiff,reduceIte];refine aS fun K hK=>?_;simp -dsimp;apply hK;clear hK K;exact awp_ret (by simp[resP,tupOf,←i5,drvAV])
end Go.Mo
end
section
namespace Go.Mo
open Go.AM Go.Cur Go.Proofs
open Go.Tram (Plan validB wayB begTo mvAt movB mLst begTo_bd way_mov way_len len_bd movB_iff)
def shX (t:Tn) (n:Int) (x:Ms):Ms:=⟨x.P,x.W+10*t.Mass*n⟩
def Lg.sh (n:Int) (o:Lg):Lg:={o with At:=o.At+n}
theorem plF_sh {t:Tn} {x:Ms} {n:Int} (hm:1000≤t.Mass) (hw:0≤x.W) (hn:0≤n):plF t (shX t n x)=plF t x+n:=by
 unfold plF shX;simp only;have h0:=Int.mul_nonneg (a:=10*t.Mass) (b:=n) (by omega) hn;rw[Int.tdiv_eq_ediv_of_nonneg (by omega),Int.tdiv_eq_ediv_of_nonneg hw,Int.add_mul_ediv_left _ _ (by omega)]
structure Sim (r1 r2:Rn) (n S:Int):Prop where
 ok:RnOk r1
 t:r2.t=r1.t
 st:r2.st=r1.st
 nn:0≤n
 ss:S+n≤400000000
 see:∀x,MsB r1.t x→r1.t.Length≤plF r1.t x→plF r1.t x≤S→r2.slF (shX r1.t n x)=r1.slF x∧r2.liF (shX r1.t n x)=r1.liF x
theorem plF_after {t:Tn} {st:Int} {x:Ms} {d sl:Int} (ha:Ask t st x d sl):plF t x≤plF t (afterX t st x d sl):=by
 have hn:=next_bd ha;have hw:=ha.x.w;have hm:=ha.b.ma;unfold plF afterX;simp only;rw[Int.tdiv_eq_ediv_of_nonneg hw.1,Int.tdiv_eq_ediv_of_nonneg (by omega)];exact Int.ediv_le_ediv (by omega) (by omega)
section
variable {r1 r2:Rn} {n S:Int} (h:Sim r1 r2 n S)
include h
theorem Sim.w {x:Ms} (hx:MsB r1.t x) (hp:plF r1.t x≤S):x.W+10*r1.t.Mass*n≤10000000000000000∧x.W≤10000000000000000∧0≤10*r1.t.Mass*n:=by
 have hm:=h.ok.b.ma;have hw:=hx.w;have hn:=h.nn;have hs:=h.ss;have h0:=Int.mul_nonneg (a:=10*r1.t.Mass) (b:=n) (by omega) hn;unfold plF at hp;rw[Int.tdiv_eq_ediv_of_nonneg hw.1]at hp;have h1:x.W<10*r1.t.Mass*(S+1):=by
  have:=Int.lt_mul_ediv_self_add (x:=x.W) (k:=10*r1.t.Mass) (by omega);have h2:=Int.mul_le_mul_of_nonneg_left hp (show 0≤10*r1.t.Mass by omega);rw[Int.mul_add];omega
 have h3:10*r1.t.Mass*(S+1)+10*r1.t.Mass*n=10*r1.t.Mass*(S+1+n):=by rw[←Int.mul_add]
 have hS:0≤S:=by
  have:=Int.ediv_nonneg hw.1 (show 0≤10*r1.t.Mass by omega);omega
 have h4:=Int.mul_le_mul (a:=10*r1.t.Mass) (b:=S+1+n) (c:=800000) (d:=400000001) (by omega) (by omega) (by omega) (by omega);omega
theorem Sim.next {x:Ms} (hx:MsB r1.t x) (hl:r1.t.Length≤plF r1.t x) (hp:plF r1.t x≤S) (d:Int):nextP r1.t r1.st (shX r1.t n x) d (r2.slF (shX r1.t n x))=nextP r1.t r1.st x d (r1.slF x)∧afterX r1.t r1.st (shX r1.t n x) d (r2.slF (shX r1.t n x))=shX r1.t n (afterX r1.t r1.st x d (r1.slF x)):=by
 have hs:=(h.see x hx hl hp).1;have e1:nextP r1.t r1.st (shX r1.t n x) d (r2.slF (shX r1.t n x))=nextP r1.t r1.st x d (r1.slF x):=by
  rw[hs];rfl
 refine⟨e1,?_⟩;unfold afterX;rw[e1];unfold shX;simp only[Ms.mk.injEq,true_and];omega
theorem Sim.fit {x:Ms} (hx:MsB r1.t x) (hl:r1.t.Length≤plF r1.t x) {stop:Int} (hs:stop≤S):r2.fitB (stop+n) (shX r1.t n x)=r1.fitB stop x:=by
 have hm:=h.ok.b.ma;have hp:=plF_sh (t:=r1.t) (x:=x) hm.1 hx.w.1 h.nn;unfold Rn.fitB;rw[h.t,hp]
 by_cases hc:plF r1.t x≤stop
 ·have h2:=(h.see x hx hl (by omega)).2;rw[h2,decide_eq_true hc,decide_eq_true (show plF r1.t x+n≤stop+n by omega)]
  rfl
 ·rw[decide_eq_false hc,decide_eq_false (show¬plF r1.t x+n≤stop+n by omega)]
  rfl
theorem Sim.stop {stop:Int} (hs:stop≤S):∀(k:Nat) (x:Ms),MsB r1.t x→r1.t.Length≤plF r1.t x→plF r1.t x≤stop→
  ((stopN r1.t r1.st r2.slF k (shX r1.t n x)).all (r2.fitB (stop+n))=(stopN r1.t r1.st r1.slF k x).all (r1.fitB stop))∧
  ((stopN r1.t r1.st r1.slF k x).all (r1.fitB stop)=true→stopN r1.t r1.st r2.slF k (shX r1.t n x)=(stopN r1.t r1.st r1.slF k x).map (shX r1.t n))
 |0,x,_,_,_=>⟨rfl,fun _=>rfl⟩
 | k +1,x,hx,hl,hp=>by
  have hw:=h.w hx (by omega);obtain⟨e1,e2⟩:=h.next hx hl (by omega) (-4);have ha:Ask r1.t r1.st x (-4) (r1.slF x):=⟨h.ok.b,hx,by omega,slF_bd h.ok x⟩;rw[stopN,stopN];have ep:(shX r1.t n x).P=x.P:=rfl;rw[ep]
  split
  ·exact⟨rfl,fun _=>rfl⟩
  ·rw [e1,e2]
   split
   ·rename_i hq;have hy:=step_ok ha (by omega) hq;have hly:=Int.le_trans hl (plF_after ha);have hf:=h.fit hy hly hs;generalize afterX r1.t r1.st x (-4) (r1.slF x)=y at*
    rw[List.all_cons,List.all_cons,hf,List.map_cons]
    cases hfy:r1.fitB stop y with
    |false=>exact⟨rfl,fun e=>by simp at e⟩
    | true=>
     have hpy:plF r1.t y≤stop:=by
      unfold Rn.fitB at hfy;simp only[Bool.and_eq_true,decide_eq_true_eq]at hfy;exact hfy.1
     obtain⟨i1,i2⟩:=Sim.stop hs k y hy hly hpy;exact⟨by rw[i1],fun e=>by rw[i2 (by simpa using e)]⟩
   ·exact⟨rfl,fun _=>rfl⟩
theorem Sim.safe {x:Ms} (hx:MsB r1.t x) (hl:r1.t.Length≤plF r1.t x) {stop:Int} (hs:stop≤S):r2.safeB (stop+n) (shX r1.t n x)=r1.safeB stop x:=by
 have hf:=h.fit hx hl hs;unfold Rn.safeB;rw[hf]
 cases hfx:r1.fitB stop x with
 |false=>rfl
 | true=>
  have hpx:plF r1.t x≤stop:=by
   unfold Rn.fitB at hfx;simp only[Bool.and_eq_true,decide_eq_true_eq]at hfx;exact hfx.1
  obtain⟨i1,i2⟩:=h.stop hs 36000 x hx hl hpx;unfold Rn.stpL;rw[h.t,h.st,i1,Bool.true_and,Bool.true_and]
  cases ha:(stopN r1.t r1.st r1.slF 36000 x).all (r1.fitB stop)with
  |false=>rfl
  | true=>
   rw[i2 ha];have e:((((stopN r1.t r1.st r1.slF 36000 x).map (shX r1.t n)).getLastD (shX r1.t n x)).P)=((stopN r1.t r1.st r1.slF 36000 x).getLastD x).P:=by
    rw[List.getLastD_eq_getLast?,List.getLastD_eq_getLast?,List.getLast?_map]
    cases (stopN r1.t r1.st r1.slF 36000 x).getLast?<;>rfl
   rw[e]
theorem Sim.choose {x:Ms} (hx:MsB r1.t x) (hl:r1.t.Length≤plF r1.t x) {stop:Int} (hs:stop≤S) (hp:plF r1.t x≤stop):r2.chF (stop+n) (shX r1.t n x)=r1.chF stop x:=by
 have hw:=h.w hx (by omega);have e:∀i∈List.range 9,r2.okI (stop+n) (shX r1.t n x) i=r1.okI stop x i:=by
  intro i hi;have hi9:=List.mem_range.1 hi;obtain⟨e1,e2⟩:=h.next hx hl (by omega) (4-i);have ha:Ask r1.t r1.st x (4-i) (r1.slF x):=⟨h.ok.b,hx,by omega,slF_bd h.ok x⟩;unfold Rn.okI;rw[h.t,h.st,e1,e2]
  by_cases hq:nextP r1.t r1.st x (4-i) (r1.slF x)≤25000*r1.t.Mass
  ·rw[h.safe (step_ok ha (by omega) hq) (Int.le_trans hl (plF_after ha)) hs]
  ·rw[decide_eq_false hq];rfl
 unfold Rn.chF;have gen:∀(L:List Nat),(∀i∈L,r2.okI (stop+n) (shX r1.t n x) i=r1.okI stop x i)→L.find? (r2.okI (stop+n) (shX r1.t n x))=L.find? (r1.okI stop x):=by
  intro L
  induction L with
  |nil=>intro _;rfl
  |cons a L ih=>
   intro hL;rw[List.find?_cons,List.find?_cons,hL a (by simp),ih (fun i hi=>hL i (by simp[hi]))]
 exact gen _ e
theorem Sim.arr {x:Ms} (hx:MsB r1.t x) (stop:Int):r2.arrB (stop+n) (shX r1.t n x)=r1.arrB stop x:=by
 have hm:=h.ok.b.ma;unfold Rn.arrB;rw[h.t,plF_sh hm.1 hx.w.1 h.nn];have e:stop+n-(plF r1.t x+n)=stop-plF r1.t x:=by omega
 rw[e]
 rfl
theorem Sim.add {x:Ms} (hx:MsB r1.t x) (hl:r1.t.Length≤plF r1.t x) (hp:plF r1.t x≤S) (o:Lg) (d:Int):o.add r2 (shX r1.t n x) d=o.add r1 x d:=by
 have hs:=(h.see x hx hl hp).1;unfold Lg.add;rw[h.t,h.st,hs]
 rfl
theorem Sim.leg {stop:Int} (hs:stop≤S):∀(f:Nat) (x:Ms) (o:Lg),MsB r1.t x→r1.t.Length≤plF r1.t x→plF r1.t x≤stop→
  (r2.legN (stop+n) f (shX r1.t n x) o).2.2=(r1.legN stop f x o).2.2∧(r2.legN (stop+n) f (shX r1.t n x) o).2.1=shX r1.t n (r1.legN stop f x o).2.1∧
  ((r1.legN stop f x o).2.2=true→(r2.legN (stop+n) f (shX r1.t n x) o).1={(r1.legN stop f x o).1 with At:=(r1.legN stop f x o).1.At+n})∧
  MsB r1.t (r1.legN stop f x o).2.1∧r1.t.Length≤plF r1.t (r1.legN stop f x o).2.1∧plF r1.t (r1.legN stop f x o).2.1≤stop:=by
 intro f
 induction f with
 |zero=>
  intro x o hx hl hp;rw[Rn.legN,Rn.legN,h.arr hx]
  split
  ·exact⟨rfl,rfl,fun _=>by simp only;rw[h.t,plF_sh h.ok.b.ma.1 hx.w.1 h.nn],hx,hl,hp⟩
  ·exact⟨rfl,rfl,fun e=>by simp at e,hx,hl,hp⟩
 | succ f ih=>
  intro x o hx hl hp;have hw:=h.w hx (by omega);rw[Rn.legN,Rn.legN,h.arr hx]
  split
  ·exact⟨rfl,rfl,fun _=>by simp only;rw[h.t,plF_sh h.ok.b.ma.1 hx.w.1 h.nn],hx,hl,hp⟩
  ·rw[h.choose hx hl hs hp]
   cases hc:r1.chF stop x with
   |none=>exact⟨rfl,rfl,fun e=>by simp at e,hx,hl,hp⟩
   | some i=>
    simp only;obtain⟨hi9,hax,hsf⟩:=chF_ok h.ok hx (by omega) hc;have ha:Ask r1.t r1.st x (4-i) (r1.slF x):=⟨h.ok.b,hx,by omega,slF_bd h.ok x⟩;have hly:=Int.le_trans hl (plF_after ha);have hpy:plF r1.t (afterX r1.t r1.st x (4-i) (r1.slF x))≤stop:=by
     unfold Rn.safeB Rn.fitB at hsf;simp only[Bool.and_eq_true,decide_eq_true_eq]at hsf;exact hsf.1.1
    have hwy:=h.w hax (by omega);rw[h.t,h.st,(h.next hx hl (by omega) (4-i)).2,h.add hx hl (by omega)];rw[if_neg (by show¬_<_+_;omega),if_neg (by omega)];exact ih _ _ hax hly hpy
theorem Sim.legs:∀(q:List Int) (x:Ms),MsB r1.t x→r1.t.Length≤plF r1.t x→(∀s∈q,plF r1.t x≤s∧s≤S)→q.Pairwise (· ≤ ·)→r2.legsN (q.map (· +n)) (shX r1.t n x)=(r1.legsN q x).map (List.map fun o=>{o with At:=o.At+n})
 |[],x,_,_,_,_=>rfl
 | s::q,x,hx,hl,hq,ho=>by
  have hs:=hq s (by simp);have hw:=h.w hx (by omega);obtain⟨e1,e2,e3,e4,e5,e6⟩:=h.leg hs.2 36000 x lg0 hx hl hs.1;rw[List.pairwise_cons]at ho;rw[List.map_cons,Rn.legsN,Rn.legsN,e1,e2];have c1:¬10000000000000000<(shX r1.t n x).W:=by show¬_<_+_;omega
  have c2:¬10000000000000000<x.W:=by omega
  cases hb:(r1.legN s 36000 x lg0).2.2 with
  |false=>simp
  |true=>
   rw[if_neg (by simp[c1]),if_neg (by simp[c2]),e3 hb];rw[Sim.legs q _ e4 e5 (fun s' h'=>⟨by have:=ho.1 s' h';omega,(hq s' (by simp[h'])).2⟩) ho.2]
   cases r1.legsN q (r1.legN s 36000 x lg0).2.1<;>rfl
end
end Go.Mo
end
section
namespace Go.Mo
open Go.AM Go.Cur Go.Proofs
open Go.Tram (Plan validB wayB begTo mvAt movB mLst begTo_bd way_mov way_len len_bd movB_iff)
theorem lbI_app (a b:List Int) (x:Int):lbI (a++b) x=lbI a x+lbI b x:=by unfold lbI;rw[List.countP_append]
theorem lbI_map (l:List Int) (n x:Int):lbI (l.map (· +n)) (x+n)=lbI l x:=by
 unfold lbI;rw[List.countP_map]
 congr 1
 funext y
 simp
theorem lbI_ge {l:List Int} {x:Int} (h:∀y∈l,x≤y):lbI l x=0:=by
 unfold lbI;rw[List.countP_eq_zero];intro y hy;have:=h y hy;simp;omega
theorem limL_app (front:Int) (B:List (Int×Int)):∀(A:List (Int×Int)) (lim:Int),(∃q∈A,front≤q.1)→limL front lim (A++B)=limL front lim A
 |[],lim,h=>by obtain⟨q,hq,_⟩:=h;cases hq
 | (e,l)::A,lim,h=>by
  rw[List.cons_append,limL,limL]
  split
  ·rfl
  ·rename_i hn;refine limL_app front B A _ ?_;obtain⟨q,hq,hf⟩:=h
   rcases List.mem_cons.1 hq with rfl|hq
   ·exact absurd hf hn
   ·exact⟨q,hq,hf⟩
theorem limL_sh (front n:Int):∀(A:List (Int×Int)) (lim:Int),limL (front+n) lim (A.map fun q=>(q.1+n,q.2))=limL front lim A
 |[],lim=>rfl
 |(e,l)::A,lim=>by
  rw[List.map_cons,limL,limL,limL_sh front n A];simp only
  by_cases hc:front≤e
  ·rw[if_pos hc,if_pos (by omega)]
  ·rw[if_neg hc,if_neg (by omega)]
theorem mvAt_take {l:List Mv} {c i:Nat} (h:i<c):mvAt (l.take c) i=mvAt l i:=by unfold mvAt;rw[List.getElem?_take,if_pos h]
theorem begTo_take (p:Plan) (l:List Mv) (c:Nat):∀k,k≤c→begTo p (l.take c) k=begTo p l k
 |0,_=>rfl
 |k+1,h=>by
  have e:∀l:List Mv,begTo p l (k+1)=begTo p l k+p.len (mvAt l k).Rail:=fun _=>rfl;rw[e,e,begTo_take p l c k (by omega),mvAt_take (by omega)]
theorem range_split {α:Type} (f:Nat→α) {c n:Nat} (h:c≤n):(List.range n).map f=(List.range c).map f++(List.range (n-c)).map fun i=>f (c+i):=by
 have e:List.range n=List.range c++(List.range (n-c)).map (c+ ·):=by
  rw[←List.range_add];congr 1;omega
 rw[e,List.map_append,List.map_map];rfl
theorem sim_longer {p:Plan} {l:List Mv} {t:Tn} {st:Int} {sp:List Int} {c:Nat} (hc:c<l.length) (hw:wayB p l=true) (h:BegOk p (l.take c) t st sp) (hl:l.length≤10) {S:Int} (hS:S<begTo p (l.take c) c):
  Sim (runOf p (l.take c) t st sp) (runOf p l t st sp) 0 S:=by
 have hlc:(l.take c).length=c:=by rw[List.length_take];omega
 have ho:=runOf_ok h;have hb:=(begTo_bd h.v h.w c (by omega)).2;refine⟨ho,rfl,rfl,Int.le_refl _,by omega,fun x hx hlx hpx=>?_⟩;have e0:shX t 0 x=x:=by unfold shX;simp
 show(runOf p l t st sp).slF (shX t 0 x)=_∧(runOf p l t st sp).liF (shX t 0 x)=_;rw[e0];have hc1:1≤c:=by have:=(way_len h.w).1;omega
 have hmm:∀i,i<l.length→1≤p.len (mvAt l i).Rail:=fun i hi=>by
  have:=movB_iff.1 (way_mov hw i hi);exact(len_bd h.v this.1 this.2).1
 have mono:∀(d i:Nat),i+d≤l.length→begTo p l i≤begTo p l (i+d):=by
  intro d
  induction d with
  |zero=>intro i _;exact Int.le_refl _
  |succ d ih=>
   intro i hi;have h1:=ih i (by omega);have h3:=hmm (i+d) (by omega);have e:begTo p l (i+(d+1))=begTo p l (i+d)+p.len (mvAt l (i+d)).Rail:=rfl;omega
 have eE:endTo p l l.length=endTo p (l.take c) c++(List.range (l.length-c)).map fun i=>begTo p l (c+i+1):=by
  unfold endTo;rw[range_split _ (show c≤l.length by omega)]
  congr 1
  exact List.map_congr_left fun i hi=>(begTo_take p l c (i+1) (by have:=List.mem_range.1 hi;omega)).symm
 have eL:limTo p l l.length=limTo p (l.take c) c++(List.range (l.length-c)).map fun i=>(p.rail (mvAt l (c+i)).Rail).Limit:=by
  unfold limTo;rw[range_split _ (show c≤l.length by omega)]
  congr 1
  exact List.map_congr_left fun i hi=>by rw[mvAt_take (List.mem_range.1 hi)]
 have eS:slpTo p l l.length=slpTo p (l.take c) c++(List.range (l.length-c)).map fun i=>slpM p (mvAt l (c+i)):=by
  unfold slpTo;rw[range_split _ (show c≤l.length by omega)]
  congr 1
  exact List.map_congr_left fun i hi=>by rw[mvAt_take (List.mem_range.1 hi)]
 have hE:begTo p (l.take c) c=begTo p l c:=begTo_take p l c c (Nat.le_refl _);have hrest:∀v,v≤begTo p l c→lbI ((List.range (l.length-c)).map fun i=>begTo p l (c+i+1)) v=0:=by
  intro v hv;refine lbI_ge fun y hy=>?_;obtain⟨i,hi,rfl⟩:=List.mem_map.1 hy;have hi':=List.mem_range.1 hi;have:=mono (i+1) c (by omega);rw[show c+(i+1)=c+i+1 by omega]at this;omega
 have hlast:begTo p l c∈endTo p (l.take c) c:=by
  unfold endTo;rw[List.mem_map];exact⟨c-1,List.mem_range.2 (by omega),by rw[show c-1+1=c by omega];exact hE⟩
 have hlt:∀v,v≤begTo p l c→lbI (endTo p (l.take c) c) v<c:=by
  intro v hv;have h1:lbI (endTo p (l.take c) c) v≤c:=by have:=lbI_le (endTo p (l.take c) c) v;rwa [endTo_len]at this
  rcases Nat.lt_or_ge (lbI (endTo p (l.take c) c) v) c with h2|h2
  ·exact h2
  ·exfalso;have h3:lbI (endTo p (l.take c) c) v=(endTo p (l.take c) c).length:=by rw[endTo_len];omega
   unfold lbI at h3;rw[List.countP_eq_length]at h3;have:=h3 _ hlast;simp at this;omega
 have hpl:plF (runOf p (l.take c) t st sp).t x=plF t x:=rfl;rw[hpl]at hpx hlx;constructor
 ·unfold Rn.slF;show at0 (slpTo p l l.length) _=at0 (slpTo p (l.take c) (l.take c).length) _;show at0 (slpTo p l l.length) ((min (lbI (endTo p l l.length) (plF t x+1)) ((slpTo p l l.length).length-1):Nat):Int)=at0 (slpTo p (l.take c) (l.take c).length) ((min (lbI (endTo p (l.take c) (l.take c).length) (plF t x+1)) ((slpTo p (l.take c) (l.take c).length).length-1):Nat):Int);rw[hlc,slpTo_len,slpTo_len,eE,lbI_app,hrest _ (by omega),Nat.add_zero];have hk:=hlt (plF t x+1) (by omega);generalize lbI (endTo p (l.take c) c) (plF t x+1)=k at hk;rw[Nat.min_eq_left (by omega),Nat.min_eq_left (by omega),eS];unfold at0;rw[Int.toNat_natCast,List.getElem?_append_left (by rw[slpTo_len];exact hk)]
 ·unfold Rn.liF;show limL (plF t x) t.Speed (((endTo p l l.length).zip (limTo p l l.length)).drop (lbI (endTo p l l.length) (plF t x-t.Length+1)))=limL (plF t x) t.Speed (((endTo p (l.take c) (l.take c).length).zip (limTo p (l.take c) (l.take c).length)).drop (lbI (endTo p (l.take c) (l.take c).length) (plF t x-t.Length+1)));have hlen:1≤t.Length:=ho.len.1;rw[hlc,eE,eL,lbI_app,hrest _ (by omega),Nat.add_zero];have hk:=hlt (plF t x-t.Length+1) (by omega);generalize lbI (endTo p (l.take c) c) (plF t x-t.Length+1)=k at hk;rw[List.zip_append (by rw[endTo_len,limTo_len]),List.drop_append_of_le_length (by rw[List.length_zip,endTo_len,limTo_len];omega)];refine limL_app _ _ _ _ ?_;have hzl:((endTo p (l.take c) c).zip (limTo p (l.take c) c)).length=c:=by rw[List.length_zip,endTo_len,limTo_len];omega
  refine⟨((endTo p (l.take c) c).zip (limTo p (l.take c) c))[c-1]'(by omega),?_,?_⟩
  ·rw[List.mem_drop_iff_getElem];exact⟨c-1-k,by omega,by congr 1;omega⟩
  ·rw[List.getElem_zip];simp only[endTo,List.getElem_map,List.getElem_range];rw[show c-1+1=c by omega,hE];omega
theorem begTo_tail (p:Plan) (m:Mv) (l:List Mv):∀i,begTo p (m::l) (i+1)=p.len m.Rail+begTo p l i
 |0=>by simp[begTo,mvAt]
 |i+1=>by
  have e:∀(l:List Mv) i,begTo p l (i+1)=begTo p l i+p.len (mvAt l i).Rail:=fun _ _=>rfl;rw[e,begTo_tail p m l i,e];show _+p.len (mvAt l i).Rail=_;omega
theorem sim_trim {p:Plan} {m:Mv} {l:List Mv} {t:Tn} {st:Int} {sp:List Int} (h:BegOk p l t st (sp.map (· -p.len m.Rail))) (hv:wayB p (m::l)=true) (hl:l.length≤10):
  Sim (runOf p l t st (sp.map (· -p.len m.Rail))) (runOf p (m::l) t st sp) (p.len m.Rail) (begTo p l l.length):=by
 have ho:=runOf_ok h;have hb:=(begTo_bd h.v h.w l.length (Nat.le_refl _)).2;have hm:=movB_iff.1 (way_mov hv 0 (by simp));have hn:=len_bd h.v hm.1 hm.2;have hm0:mvAt (m::l) 0=m:=rfl;rw[hm0]at hn;have hl1:1≤l.length:=(way_len h.w).1;refine⟨ho,rfl,rfl,by omega,by omega,fun x hx hlx hpx=>?_⟩;have hma:=(okT_b h.ok h.s0 h.s1).ma;have hps:plF t (shX t (p.len m.Rail) x)=plF t x+p.len m.Rail:=plF_sh hma.1 hx.w.1 (by omega);have hpl:plF (runOf p l t st (sp.map (· -p.len m.Rail))).t x=plF t x:=rfl
 rw[hpl]at hlx hpx;have hlx:t.Length≤plF t x:=hlx;have hpx:plF t x≤begTo p l l.length:=hpx;have hlen:1≤t.Length:=ho.len.1;generalize hnn:p.len m.Rail=n at*
 have eE:endTo p (m::l) (l.length+1)=n::(endTo p l l.length).map (· +n):=by
  unfold endTo;rw[List.range_succ_eq_map,List.map_cons,List.map_map,List.map_map]
  congr 1
  ·rw[←hnn];simp[begTo,mvAt]
  ·refine List.map_congr_left fun i _=>?_;simp only[Function.comp_def,Nat.succ_eq_add_one];rw[begTo_tail,hnn];omega
 have eL:limTo p (m::l) (l.length+1)=(p.rail m.Rail).Limit::limTo p l l.length:=by
  unfold limTo;rw[List.range_succ_eq_map,List.map_cons,List.map_map]
  rfl
 have eS:slpTo p (m::l) (l.length+1)=slpM p m::slpTo p l l.length:=by
  unfold slpTo;rw[List.range_succ_eq_map,List.map_cons,List.map_map]
  rfl
 have hlb:∀v,1≤v→lbI (n::(endTo p l l.length).map (· +n)) (v+n)=lbI (endTo p l l.length) v+1:=by
  intro v hv1;have e1:lbI (n::(endTo p l l.length).map (· +n)) (v+n)=lbI ((endTo p l l.length).map (· +n)) (v+n)+1:=by
   unfold lbI;rw[List.countP_cons_of_pos (by simp;omega)]
  rw[e1,lbI_map]
 constructor
 ·unfold Rn.slF;show at0 (slpTo p (m::l) (m::l).length) ((min (lbI (endTo p (m::l) (m::l).length) (plF t (shX t n x)+1)) ((slpTo p (m::l) (m::l).length).length-1):Nat):Int)=at0 (slpTo p l l.length) ((min (lbI (endTo p l l.length) (plF t x+1)) ((slpTo p l l.length).length-1):Nat):Int);rw[slpTo_len,slpTo_len,List.length_cons,eE,hps,show plF t x+n+1=plF t x+1+n by omega,hlb _ (by omega),eS];have e:min (lbI (endTo p l l.length) (plF t x+1)+1) (l.length+1-1)=min (lbI (endTo p l l.length) (plF t x+1)) (l.length-1)+1:=by omega
  rw[e];unfold at0;rw[Int.toNat_natCast,Int.toNat_natCast,List.getElem?_cons_succ]
 ·unfold Rn.liF;show limL (plF t (shX t n x)) t.Speed (((endTo p (m::l) (m::l).length).zip (limTo p (m::l) (m::l).length)).drop (lbI (endTo p (m::l) (m::l).length) (plF t (shX t n x)-t.Length+1)))=limL (plF t x) t.Speed (((endTo p l l.length).zip (limTo p l l.length)).drop (lbI (endTo p l l.length) (plF t x-t.Length+1)));rw[List.length_cons,eE,eL,hps,show plF t x+n-t.Length+1=plF t x-t.Length+1+n by omega,hlb _ (by omega),List.zip_cons_cons,List.drop_succ_cons];rw[←limL_sh (plF t x) n,List.map_drop]
  congr 2
  rw[List.zip_map_left]
  rfl
theorem legs_len (r:Rn):∀(q:List Int) (x:Ms) (L:List Lg),r.legsN q x=some L→L.length=q.length
 |[],x,L,h=>by simp[Rn.legsN]at h;subst h;rfl
 | s::q,x,L,h=>by
  rw[Rn.legsN]at h
  split at h
  ·cases h
  ·cases hq:r.legsN q (r.legN s 36000 x lg0).2.1 with
   |none=>rw[hq]at h;cases h
   |some M=>
    rw[hq]at h;simp only[Option.map_some,Option.some.injEq]at h;subst h;simp[legs_len r q _ M hq]
theorem legN_at (r:Rn) (stop:Int):∀(f:Nat) (x:Ms) (o:Lg),(r.legN stop f x o).2.2=true→(r.legN stop f x o).1.At=plF r.t (r.legN stop f x o).2.1
 |0,x,o,h=>by
  rw[Rn.legN]at h ⊢
  split
  ·rfl
  ·rename_i hn;rw[if_neg hn]at h;cases h
 | f+1,x,o,h=>by
  rw[Rn.legN]at h ⊢
  split
  ·rfl
  ·rename_i hn;rw[if_neg hn]at h
   cases hc:r.chF stop x with
   |none=>rw[hc]at h;cases h
   |some i=>
    rw[hc]at h;simp only at h ⊢
    split
    ·rename_i hw;rw[if_pos hw]at h;cases h
    ·rename_i hw;rw[if_neg hw]at h;exact legN_at r stop f _ _ h
theorem legs_at {r:Rn} (hr:RnOk r):∀(q:List Int) (x:Ms) (L:List Lg),MsB r.t x→x.W≤90000000000000000→r.legsN q x=some L→∀o∈L,0≤o.At∧o.At≤100000000000000
 |[],x,L,_,_,h=>by simp[Rn.legsN]at h;subst h;simp
 | s::q,x,L,hx,hw,h=>by
  rw[Rn.legsN]at h
  split at h
  ·cases h
  ·rename_i hn;have hy:=legN_ok hr s 36000 x lg0 hx hw;have hat:=legN_at r s 36000 x lg0 (by
    cases hb:(r.legN s 36000 x lg0).2.2 with
    |true=>rfl
    |false=>exact absurd (Or.inl hb) hn)
   cases hq:r.legsN q (r.legN s 36000 x lg0).2.1 with
   |none=>rw[hq]at h;cases h
   |some M=>
    rw[hq]at h;simp only[Option.map_some,Option.some.injEq]at h;subst h;intro o ho
    rcases List.mem_cons.1 ho with rfl|ho
    ·rw[hat];exact plF_bd hr.b hy.1
    ·exact legs_at hr q _ M hy.1 hy.2 hq o ho
theorem BegOk.x0 {p:Plan} {l:List Mv} {t:Tn} {st:Int} {sp:List Int} (h:BegOk p l t st sp):MsB t (runOf p l t st sp).x0∧(runOf p l t st sp).x0.W≤90000000000000000∧plF t (runOf p l t st sp).x0=at0 sp 0:=by
 have hm:=(okT_b h.ok h.s0 h.s1).ma;have hlen:1≤t.Length:=(runOf_ok h).len.1;have hn:=h.n;have hb0:=h.bd (i:=0) (by omega);have e0:((0:Nat):Int)=0:=rfl;rw[e0]at hb0;have e:(runOf p l t st sp).x0=⟨0,10*t.Mass*at0 sp 0⟩:=rfl;have hq1:=Int.mul_le_mul (a:=10*t.Mass) (b:=at0 sp 0) (c:=800000) (d:=62000000000) (by omega) hb0.2 (by omega) (by omega);have hq0:=Int.mul_nonneg (a:=10*t.Mass) (b:=at0 sp 0) (by omega) (by omega);rw[e];refine⟨⟨⟨Int.le_refl _,by show 0≤25000*t.Mass;omega⟩,⟨hq0,by show 10*t.Mass*at0 sp 0≤_;omega⟩⟩,by show 10*t.Mass*at0 sp 0≤_;omega,?_⟩;unfold plF;simp only;rw[Int.mul_tdiv_cancel_left _ (by omega)]
theorem BegOk.stops {p:Plan} {l:List Mv} {t:Tn} {st:Int} {sp:List Int} (h:BegOk p l t st sp):(∀s∈sp.drop 1,at0 sp 0≤s∧s≤at0 sp (sp.length-1:Nat))∧(sp.drop 1).Pairwise (· ≤ ·):=by
 have hn:=h.n;constructor
 ·intro s hs;obtain⟨i,hi⟩:=List.getElem?_of_mem hs;rw[List.getElem?_drop]at hi;have hil:=(List.getElem?_eq_some_iff.1 hi).1;have:=h.mono (1+i) 0 (by omega) hil;have h2:=h.mono (sp.length-1) (1+i) (by omega) (by omega);rw[at0_of hi]at this h2;exact⟨this,h2⟩
 ·rw[List.pairwise_iff_getElem];intro i j hi hj hij;simp only[List.length_drop]at hi hj;have h1:=h.mono (1+j) (1+i) (by omega) (by omega);have gi:=at0_nat (l:=sp) (k:=1+i) (by omega);have gj:=at0_nat (l:=sp) (k:=1+j) (by omega);rw[List.getElem?_eq_getElem (by omega)]at gi gj;simp only[Option.some.injEq]at gi gj;simp only[List.getElem_drop,gi,gj];exact h1
theorem longer_eq {p:Plan} {l:List Mv} {t:Tn} {st:Int} {sp:List Int} {c:Nat} (hc:c<l.length) (hw:wayB p l=true) (h:BegOk p (l.take c) t st sp) (hl:l.length≤10) (hS:at0 sp (sp.length-1:Nat)<begTo p (l.take c) c):
  (runOf p l t st sp).legsN (sp.drop 1) (runOf p l t st sp).x0=(runOf p (l.take c) t st sp).legsN (sp.drop 1) (runOf p (l.take c) t st sp).x0:=by
 have hs:=sim_longer hc hw h hl hS;obtain⟨x1,x2,x3⟩:=h.x0;obtain⟨s1,s2⟩:=h.stops;have hx3:plF (runOf p (l.take c) t st sp).t (runOf p (l.take c) t st sp).x0=at0 sp 0:=x3;have:=hs.legs (sp.drop 1) (runOf p (l.take c) t st sp).x0 x1 (by rw[hx3];exact h.a) (fun s hm=>by rw[hx3];exact s1 s hm) s2;have e1:shX (runOf p (l.take c) t st sp).t 0 (runOf p (l.take c) t st sp).x0=(runOf p l t st sp).x0:=by unfold shX;simp;rfl
 have e2:(sp.drop 1).map (· +(0:Int))=sp.drop 1:=by simp
 rw[e1,e2]at this;rw[this]
 cases (runOf p (l.take c) t st sp).legsN (sp.drop 1) (runOf p (l.take c) t st sp).x0 with
 |none=>rfl
 |some L=>simp
theorem trim_eq {p:Plan} {m:Mv} {l:List Mv} {t:Tn} {st:Int} {sp:List Int} (h:BegOk p l t st (sp.map (· -p.len m.Rail))) (hv:wayB p (m::l)=true) (hl:l.length≤10):
  (runOf p (m::l) t st sp).legsN (sp.drop 1) (runOf p (m::l) t st sp).x0=((runOf p l t st (sp.map (· -p.len m.Rail))).legsN ((sp.map (· -p.len m.Rail)).drop 1) (runOf p l t st (sp.map (· -p.len m.Rail))).x0).map (List.map fun o=>{o with At:=o.At+p.len m.Rail}):=by
 have hs:=sim_trim h hv hl;obtain⟨x1,x2,x3⟩:=h.x0;obtain⟨s1,s2⟩:=h.stops;have hn:=h.n;rw[List.length_map]at hn;have hz:=h.z;have ez:(((sp.map (· -p.len m.Rail)).length-1:Nat):Int)=(((sp.map (· -p.len m.Rail)).length:Int)-1):=by rw[List.length_map];omega
 rw[←ez]at hz;have hx3:plF (runOf p l t st (sp.map (· -p.len m.Rail))).t (runOf p l t st (sp.map (· -p.len m.Rail))).x0=at0 (sp.map (· -p.len m.Rail)) 0:=x3
 have:=hs.legs ((sp.map (· -p.len m.Rail)).drop 1) (runOf p l t st (sp.map (· -p.len m.Rail))).x0 x1 (by rw[hx3];exact h.a) (fun s hm=>by rw[hx3];exact⟨(s1 s hm).1,Int.le_trans (s1 s hm).2 hz⟩) s2
 have e2:((sp.map (· -p.len m.Rail)).drop 1).map (· +p.len m.Rail)=sp.drop 1:=by
  rw[←List.map_drop,List.map_map];have:((· +p.len m.Rail)∘ (· -p.len m.Rail):Int→Int)=id:=by funext x;simp
  rw[this,List.map_id]
 have e1:shX (runOf p l t st (sp.map (· -p.len m.Rail))).t (p.len m.Rail) (runOf p l t st (sp.map (· -p.len m.Rail))).x0=(runOf p (m::l) t st sp).x0:=by
  show(⟨0,10*t.Mass*at0 (sp.map (· -p.len m.Rail)) 0+10*t.Mass*p.len m.Rail⟩:Ms)=⟨0,10*t.Mass*at0 sp 0⟩
  have e:at0 (sp.map (· -p.len m.Rail)) 0=at0 sp 0-p.len m.Rail:=by
   have g0:sp[0]?=some (at0 sp 0):=at0_nat (l:=sp) (k:=0) (by omega);exact at0_of (k:=0) (by rw[List.getElem?_map,g0];rfl)
  rw[e,←Int.mul_add]
  congr 2
  omega
 rw[e1,e2]at this;exact this
theorem way_tail {p:Plan} {m:Mv} {l:List Mv} (h:wayB p (m::l)=true) (hl:1≤l.length):wayB p l=true:=by
 unfold wayB at h ⊢;simp only[Bool.and_eq_true,List.all_eq_true,List.mem_range,Go.Tram.inr_iff,List.length_cons]at h ⊢;obtain⟨h1,h2⟩:=h;refine⟨fun i hi=>?_,by omega⟩;have hs:=h1 (i+1) (by omega);unfold Go.Tram.stepB at hs ⊢;simp only[Bool.and_eq_true,Bool.or_eq_true,decide_eq_true_eq]at hs ⊢;refine⟨hs.1,?_⟩
 rcases Nat.eq_zero_or_pos i with hi0|hi0
 ·exact Or.inl hi0
 ·right
  have h3:=hs.2.resolve_left (by omega);obtain⟨j,rfl⟩:∃j,i=j+1:=⟨i-1,by omega⟩;exact h3
theorem beg_tail {p:Plan} {m:Mv} {l:List Mv} {t:Tn} {st:Int} {sp:List Int} (h:BegOk p (m::l) t st sp) (hl:1≤l.length) (h0:p.len m.Rail≤at0 sp 0-t.Length):BegOk p l t st (sp.map (· -p.len m.Rail)):=by
 have hn:=h.n;have hg:∀i:Nat,i<sp.length→at0 (sp.map (· -p.len m.Rail)) i=at0 sp i-p.len m.Rail:=fun i hi=>at0_of (by rw[List.getElem?_map,at0_nat hi];rfl)
 have ez:((sp.length-1:Nat):Int)=(sp.length:Int)-1:=by omega
 have hz:=h.z;rw[List.length_cons,begTo_tail,←ez]at hz;have e0:=hg 0 (by omega);have e1:=hg (sp.length-1) (by omega);refine⟨h.ok,h.s0,h.s1,h.v,way_tail h.w hl,by rw[List.length_map];exact hn,?_,?_,fun i hi=>?_⟩
 ·have:at0 (sp.map (· -p.len m.Rail)) 0=at0 sp 0-p.len m.Rail:=e0
  rw[this];omega
 ·rw[List.length_map,←ez,e1];omega
 ·rw[List.length_map]at hi;rw[hg i (by omega),hg (i+1) hi];have:=h.up i hi;omega
end Go.Mo
end
section
namespace Go.Tram
open Go.AM Go.Proofs
theorem sub_full {α:Type} [DecidableEq α]:∀(l u:List α),l.Nodup→(∀x∈l,x∈u)→u.length≤l.length→∀x∈u,x∈l
 |[],u,_,_,h,x,hx=>by
  have:u=[]:=List.length_eq_zero_iff.1 (by simpa using h);rw[this]at hx;cases hx
 | a::l,u,hn,hs,h,x,hx=>by
  rw[List.nodup_cons]at hn
  by_cases e:x=a
  ·simp[e]
  ·have ha:a∈u:=hs a (by simp);have hlen:=List.length_erase_of_mem ha;have hup:0<u.length:=List.length_pos_of_mem ha;refine List.mem_cons_of_mem _ (sub_full l (u.erase a) hn.2 (fun y hy=>?_) (by simp at h;omega) x ((List.mem_erase_of_ne e).2 hx));have hya:y≠a:=by rintro rfl;exact hn.1 hy
   exact(List.mem_erase_of_ne hya).2 (hs y (by simp[hy]))
theorem endsOf_mem {p:Plan}:∀{n:Nat} {x:Nat×REnd},x∈endsOf p n→x.1<n∧∃j:Nat,(p.node x.1).Ends[j]?=some x.2
 |0,x,h=>by simp[endsOf]at h
 |n+1,x,h=>by
  simp only[endsOf,List.mem_append,List.mem_map]at h
  rcases h with h|⟨e,he,rfl⟩
  ·obtain⟨h1,h2⟩:=endsOf_mem h;exact⟨by omega,h2⟩
  ·obtain⟨j,hj⟩:=List.getElem?_of_mem he;exact⟨by simp,j,hj⟩
theorem validE_of {p:Plan} (hv:validB p=true):(∀x∈endsOf p p.Nodes.length,endB p x=true)∧((endsOf p p.Nodes.length).map (·.2)).Nodup∧(endsOf p p.Nodes.length).length=2*p.Rails.length:=by
 have h:=(valid_parts hv).2.2.2.2;simp only[validE,Bool.and_eq_true,List.all_eq_true,decide_eq_true_eq]at h;exact⟨h.1,h.2.1,h.2.2⟩
theorem end_there {p:Plan} (hv:validB p=true) {e:REnd} (h0:0≤e.Rail) (h1:e.Rail<p.Rails.length):∃i:Nat,i<p.Nodes.length∧p.at e=i∧∃j:Nat,(p.node i).Ends[j]?=some e:=by
 obtain⟨hall,hnd,hlen⟩:=validE_of hv;have hfull:=sub_full ((endsOf p p.Nodes.length).map (·.2)) ((List.range p.Rails.length).flatMap fun(r:Nat)=>[(⟨r,false⟩:REnd),⟨r,true⟩]) hnd (fun x hx=>by
  obtain⟨y,hy,rfl⟩:=List.mem_map.1 hx;have:=hall y hy;simp only[endB,Bool.and_eq_true,decide_eq_true_eq,inr_iff]at this;rw[List.mem_flatMap];refine⟨y.2.Rail.toNat,List.mem_range.2 (by omega),?_⟩;obtain⟨y1,⟨r,b⟩⟩:=y;simp only at this ⊢;rw[show((r.toNat:Nat):Int)=r by omega]
  cases b<;>simp) (by
   have gen:∀n:Nat,((List.range n).flatMap fun(r:Nat)=>[(⟨r,false⟩:REnd),⟨r,true⟩]).length=2*n:=by
    intro n
    induction n with
    |zero=>rfl
    |succ n ih=>rw[List.range_succ,List.flatMap_append,List.length_append,ih];simp;omega
   rw[gen,List.length_map,hlen];exact Nat.le_refl _) e (by
  rw[List.mem_flatMap];refine⟨e.Rail.toNat,List.mem_range.2 (by omega),?_⟩;obtain⟨r,b⟩:=e;simp only at h0 h1 ⊢;rw[show((r.toNat:Nat):Int)=r by omega]
  cases b<;>simp)
 obtain⟨x,hx,rfl⟩:=List.mem_map.1 hfull;obtain⟨h2,j,hj⟩:=endsOf_mem hx;exact⟨x.1,h2,(ends_rail hv h2 hj).2,j,hj⟩
theorem end_uniq {p:Plan} (hv:validB p=true) {i:Nat} (hi:i<p.Nodes.length) {j j':Nat} {e:REnd} (h:(p.node i).Ends[j]?=some e) (h':(p.node i).Ends[j']?=some e):j=j':=by
 have key:∀{j j':Nat},(p.node i).Ends[j]?=some e→(p.node i).Ends[j']?=some e→¬j'<j:=by
  intro j j' h h' hlt;have hm:(i,e)∈curE p i j:=by
   unfold curE;rw[List.mem_append,List.mem_map];refine Or.inr ⟨e,?_,rfl⟩;have:((p.node i).Ends.take j)[j']?=some e:=by rw[List.getElem?_take,if_pos hlt];exact h'
   exact List.mem_of_getElem? this
  obtain⟨m,hmm⟩:=List.getElem?_of_mem hm;have:=valid_ff_dup hi h hmm rfl;rw[hv]at this;cases this
 have h1:=key h h';have h2:=key h' h;omega
theorem putE_none {kvs:List (List KC×Value)} {es:List REnd} {e:REnd}:∀n,n≤es.length→(∀j:Nat,j<n→es[j]?≠some e)→kvGet (putE kvs es n) (keyOf e)=kvGet kvs (keyOf e)
 |0,_,_=>rfl
 |n+1,hn,h=>by
  simp only[putE];rw[kvGet_set,if_neg,putE_none n (by omega) fun j hj=>h j (by omega)];intro hk;have:=keyOf_inj.1 hk;have h2:=h n (by omega);rw[List.getElem?_eq_getElem (by omega)]at this h2;simp only[Option.getD_some]at this;exact h2 (by rw[this])
theorem putE_some {kvs:List (List KC×Value)} {es:List REnd} {e:REnd} {j:Nat} (hj:es[j]?=some e):∀n,n≤es.length→j<n→(∀j':Nat,es[j']?=some e→j'=j)→kvGet (putE kvs es n) (keyOf e)=some (.int .i64 j)
 |0,_,h,_=>by omega
 |n+1,hn,h,hu=>by
  simp only[putE];rw[kvGet_set]
  by_cases e1:n=j
  ·subst e1;rw[hj];exact if_pos rfl
  ·rw[if_neg,putE_some hj n (by omega) (by omega) hu];intro hk;have:=keyOf_inj.1 hk;rw[List.getElem?_eq_getElem (by omega)]at this;simp only[Option.getD_some]at this;exact e1 (hu n (by rw[List.getElem?_eq_getElem (by omega),this]))
theorem place_at {p:Plan} (hv:validB p=true) {i:Nat} (hi:i<p.Nodes.length) {j:Nat} {e:REnd} (h:(p.node i).Ends[j]?=some e):plc p e=j:=by
 have hat:=(ends_rail hv hi h).2;have gen:∀k,k≤p.Nodes.length→i<k→kvGet (placesK p k) (keyOf e)=some (.int .i64 j):=by
  intro k
  induction k with
  |zero=>intro _ h;omega
  |succ k ih=>
   intro hk hik;simp only[placesK]
   by_cases e1:k=i
   ·subst e1;exact putE_some h _ (Nat.le_refl _) (List.getElem?_eq_some_iff.1 h).1 fun j' hj'=>end_uniq hv hi hj' h
   ·rw[putE_none _ (Nat.le_refl _),ih (by omega) (by omega)];intro j' _ hj';have:=(ends_rail hv (i:=k) (by omega) hj').2;omega
 have hg:=gen p.Nodes.length (Nat.le_refl _) hi;have hp:plcV p e= .int .i64 j:=by
  unfold plcV;have:kvGet (placesK p p.Nodes.length) [.i .i64 e.Rail, .b e.Last]=some (.int .i64 j):=hg;rw[this];rfl
 unfold plc;rw[hp]
def idxTo (e:REnd):List REnd→Int→Int
 |[],_=>-1
 |x::l,i=>if x=e then i else idxTo e l (i+1)
def idxE (n:Node) (e:REnd):Int:=idxTo e n.Ends 0
theorem idxTo_some {e:REnd}:∀(l:List REnd) (i:Int) (j:Nat),l[j]?=some e→(∀j':Nat,l[j']?=some e→j'=j)→idxTo e l i=i+j
 |[],i,j,h,_=>by simp at h
 | x::l,i,j,h,hu=>by
  simp only[idxTo]
  split
  ·rename_i hx;have:=hu 0 (by simp[hx]);omega
  ·rename_i hx
   cases j with
   |zero=>simp at h;exact absurd h hx
   |succ j=>
    rw[idxTo_some l (i+1) j (by simpa using h) fun j' hj'=>by have:=hu (j'+1) (by simpa using hj');omega];omega
theorem idxTo_none {e:REnd}:∀(l:List REnd) (i:Int),(∀j:Nat,l[j]?≠some e)→idxTo e l i=-1
 |[],i,_=>rfl
 |x::l,i,h=>by
  simp only[idxTo];rw[if_neg (by rintro rfl;exact h 0 (by simp))];exact idxTo_none l _ fun j=>by have:=h (j+1);simpa using this
theorem idxE_some {p:Plan} (hv:validB p=true) {i:Nat} (hi:i<p.Nodes.length) {j:Nat} {e:REnd} (h:(p.node i).Ends[j]?=some e):idxE (p.node i) e=j:=by
 unfold idxE;rw[idxTo_some _ 0 j h fun j' hj'=>end_uniq hv hi hj' h];omega
def rFoll (p:Plan) (m k:Move):Bool:=decide (0≤idxE (nodeAt p m) (arrE m))&&(decide (0≤idxE (nodeAt p m) (leaE k))&&letsB (nodeAt p m) (idxE (nodeAt p m) (arrE m)) (idxE (nodeAt p m) (leaE k)))
theorem node_of {p:Plan} (hv:validB p=true) {m:Move} (hm:movB p m=true):∃i:Nat,i<p.Nodes.length∧p.at (arrE m)=i∧nodeAt p m=p.node i∧∃j:Nat,(p.node i).Ends[j]?=some (arrE m)∧plc p (arrE m)=j∧idxE (p.node i) (arrE m)=j:=by
 have hm':=movB_iff.1 hm;obtain⟨i,hi,ha,j,hj⟩:=end_there hv (e:=arrE m) hm'.1 hm'.2;exact⟨i,hi,ha,by unfold nodeAt;rw[ha],j,hj,place_at hv hi hj,idxE_some hv hi hj⟩
theorem moveM_numM {m:Move} (h:0≤m.Rail):moveM (numM m)=m:=by
 obtain⟨r,b⟩:=m;simp only at h
 cases b
 ·simp only[numM,moveM,Bool.false_eq_true,if_false];rw[show 2*r/2=r by omega,decide_eq_false (by omega)]
 ·simp only[numM,moveM,if_true];rw[show(2*r+1)/2=r by omega,decide_eq_true (by omega)]
theorem numM_moveM {k:Int} (h:0≤k):numM (moveM k)=k:=by
 simp only[numM,moveM,decide_eq_true_eq]
 split<;>omega
theorem nx_mem {p:Plan} (hv:validB p=true) {m:Move} (hm:movB p m=true) {k:Int}:k∈nxTo p m (nodeAt p m).Ends.length↔0≤k∧k<2*p.Rails.length∧rFoll p m (moveM k)=true:=by
 obtain⟨i,hi,ha,hn,j,hj,hp,hx⟩:=node_of hv hm;simp only[nxTo,List.mem_flatMap,List.mem_range];constructor
 ·rintro⟨t,ht,hk⟩;unfold nxK at hk;rw[hn]at hk ht;rw[List.getElem?_eq_getElem ht]at hk;simp only at hk
  split at hk
  ·rename_i hl;simp only[List.mem_singleton]at hk;have hte:=List.getElem?_eq_getElem ht;generalize (p.node i).Ends[t]=e at hk hte;have her:=(ends_rail hv hi hte).1;have hb:0≤numM ⟨e.Rail,e.Last⟩∧numM ⟨e.Rail,e.Last⟩<2*p.Rails.length:=by simp only[numM];split<;>omega
   subst hk;refine⟨hb.1,hb.2,?_⟩;rw[moveM_numM her.1];have hle:leaE ⟨e.Rail,e.Last⟩=e:=rfl;simp only[rFoll,hn,hle,hx,idxE_some hv hi hte,Bool.and_eq_true,decide_eq_true_eq];rw[hp]at hl;exact⟨by omega,by omega,hl⟩
  ·simp at hk
 ·rintro⟨h0,h1,hf⟩;simp only[rFoll,hn,Bool.and_eq_true,decide_eq_true_eq]at hf;obtain⟨_,hb,hl⟩:=hf;have:∃t:Nat,(p.node i).Ends[t]?=some (leaE (moveM k)):=by
   by_cases h:∃t:Nat,(p.node i).Ends[t]?=some (leaE (moveM k))
   ·exact h
   ·have:=idxTo_none (e:=leaE (moveM k)) (p.node i).Ends 0 fun j hj=>h ⟨j,hj⟩;unfold idxE at hb;omega
  obtain⟨t,ht⟩:=this;rw[hx,idxE_some hv hi ht]at hl;refine⟨t,by rw[hn];exact(List.getElem?_eq_some_iff.1 ht).1,?_⟩;unfold nxK;rw[hn,ht,hp];simp only;rw[if_pos hl,List.mem_singleton];show k=numM (moveM k);rw[numM_moveM h0]
theorem foll_eq {p:Plan} (hv:validB p=true) {m k:Move} (hm:movB p m=true) (hk:movB p k=true):follB p m k=rFoll p m k:=by
 have hk':=movB_iff.1 hk;have hnb:0≤numM k∧numM k<2*p.Rails.length:=by unfold numM;split<;>omega
 rw[Bool.eq_iff_iff];unfold follB nextL;rw[List.any_eq_true];constructor
 ·rintro⟨x,hx,hxk⟩;simp only[decide_eq_true_eq]at hxk;subst hxk;obtain⟨q,hq,rfl⟩:=List.mem_map.1 hx;exact((nx_mem hv hm).1 (ins_mem'.1 hq)).2.2
 ·intro h;refine⟨k,List.mem_map.2 ⟨numM k,ins_mem'.2 ((nx_mem hv hm).2 ⟨hnb.1,hnb.2,?_⟩),moveM_numM hk'.1⟩,by simp⟩;rw[moveM_numM hk'.1];exact h
end Go.Tram
end
section
namespace Go.Tram
open Go.AM Go.Proofs
theorem c_Valid (p:Plan):PureCall Tryz.prog 19 [p.av] (Bo (validB p)):=by
 refine PureCall.of_body Tryz.func19 rfl (by decide) (by simp[Tryz.ntmps19]) ?_;simp only[Tryz.ntmps19,Tryz.results19];refine aS fun K hK=>?_;simp -dsimp;apply hK;clear hK K;refine awp_seq_k fun K1 hK1=>?_;refine aS fun K hK=>?_;simp -dsimp;refine callK_intro _ (c_in _ _ _) (by simp) ?_;simp -dsimp;refine callK_may _ (fun hm=>c_in _ _ _) (by simp) ?_;simp -dsimp;apply hK;clear hK K;refine awp_cond rfl (fun hc0=>?_) (fun hc0=>?_)
 ·skip
  try simp at hc0
  refine aS fun K hK=>?_;simp -dsimp;apply hK;clear hK K;refine awp_ret ?_;have:validB p=false:=by simp[validB,validA];intro h1 h2;rcases hc0 with hc0|hc0<;>simp_all
  simp[this]
 ·skip
  try simp at hc0
  have hN:=inr_iff.1 hc0.1;have hR:=inr_iff.1 hc0.2;refine awp_skip ?_;simp only[zT,reduceIte,Nat.reduceEqDiff];refine hK1 _ _ ?_;refine awp_prune [1] ?_;simp only[zP,Nat.reduceEqDiff,reduceIte];refine awp_seq_k fun K2 hK2=>?_;refine aS fun K hK=>?_;simp -dsimp;apply hK;clear hK K;refine awp_block ?_;refine awp_prune [1,3] ?_;simp only[zP,Nat.reduceEqDiff,reduceIte];refine awp_loop_l [1] (α:=Nat) (fun k=>[(3,I k)]) (fun _=>[some (.els 2 [p.cells])]) (fun k=>k≤p.Nodes.length∧(p.Nodes.take k).all nodeB=true) (fun k=>p.Nodes.length-k) 0 ?_ ?_ ?_
  ·simp
  ·exact sub_same (by simp)
  rintro k ⟨k1,k2⟩;simp only[zP,Nat.reduceEqDiff,reduceIte];refine awp_seq_k fun K3 hK3=>?_;refine aS fun K hK=>?_;simp -dsimp;apply hK;clear hK K;refine awp_cond rfl (fun hc1=>?_) (fun hc1=>?_)
  ·skip
   try simp at hc1
   have g0:=p.node_get (i:=(k:Int)) (by omega) (by omega);simp only[Int.toNat_natCast]at g0;have wi:=zW k (by omega);refine awp_skip ?_;simp only[zT,reduceIte,Nat.reduceEqDiff];refine hK3 _ _ ?_;refine awp_prune [1,3] ?_;simp only[zP,Nat.reduceEqDiff,reduceIte];refine awp_seq_k fun K4 hK4=>?_;refine awp_block ?_;refine aS fun K hK=>?_;simp -dsimp [g0];apply hK;clear hK K;refine aS fun K hK=>?_;simp -dsimp;apply hK;clear hK K;refine awp_seq_k fun K5 hK5=>?_;refine aS fun K hK=>?_;simp -dsimp;apply hK;clear hK K;refine awp_cond rfl (fun hc2=>?_) (fun hc2=>?_)
   ·skip
    try simp at hc2
    refine aR fun K hK=>?_;simp -dsimp;refine callK_intro _ (c_in _ _ _) (by simp) ?_;simp -dsimp;apply hK;clear hK K;simp only[zT,reduceIte,Nat.reduceEqDiff];refine hK5 _ _ ?_;refine awp_prune [1,3,4,5] ?_;simp only[zP,Nat.reduceEqDiff,reduceIte];refine awp_sd mixed rfl fun K hK=>?_;simp -dsimp;refine callK_intro _ (c_spot (p.node k).Spot) (by simp) ?_;simp -dsimp;refine callK_may _ (fun hm=>c_ends (p.node k).Kind) (by simp) ?_;simp -dsimp;refine callK_may _ (fun hm=>c_ends (p.node k).Kind) (by simp) ?_;simp -dsimp;refine hK _ _ _ (by decide+kernel) ?_;clear hK K;refine awp_cond rfl (fun hc3=>?_) (fun hc3=>?_)
    ·skip
     try simp at hc3
     refine aS fun K hK=>?_;simp -dsimp;apply hK;clear hK K;refine awp_ret ?_;have:nodeB (p.node k)=false:=by simp[nodeB,hc2];intro h1 h2 h3;simp_all
     simp[valid_ff_node g0 this]
    ·skip
     try simp at hc3
     refine awp_skip ?_;simp only[zT,reduceIte,Nat.reduceEqDiff];refine hK4 _ _ ?_;refine awp_prune [1,3] ?_;simp only[zP,Nat.reduceEqDiff,reduceIte];refine aR fun K hK=>?_;simp -dsimp [wi];apply hK;clear hK K;simp only[zT,reduceIte,Nat.reduceEqDiff];refine⟨k+1,⟨by omega,?_⟩,by omega,sub_rb [some 0] rfl (by simp) (by simp)⟩;rw[take_all' g0,k2];simp[nodeB,hc2,hc3]
   ·skip
    try simp at hc2
    refine awp_skip ?_;simp only[zT,reduceIte,Nat.reduceEqDiff];refine hK5 _ _ ?_;refine awp_prune [1,3,4,5] ?_;simp only[zP,Nat.reduceEqDiff,reduceIte];refine awp_sd mixed rfl fun K hK=>?_;simp -dsimp;refine callK_intro _ (c_spot (p.node k).Spot) (by simp) ?_;simp -dsimp;refine callK_may _ (fun hm=>c_ends (p.node k).Kind) (by simp) ?_;simp -dsimp;refine callK_may _ (fun hm=>c_ends (p.node k).Kind) (by simp) ?_;simp -dsimp;refine hK _ _ _ (by decide+kernel) ?_;clear hK K;refine awp_cond rfl (fun hc3=>?_) (fun hc3=>?_)
    ·skip
     try simp at hc3
     refine aS fun K hK=>?_;simp -dsimp;apply hK;clear hK K;refine awp_ret ?_;have:nodeB (p.node k)=false:=by simp[nodeB,hc2];intro h1 h2 h3;simp_all
     simp[valid_ff_node g0 this]
    ·skip
     try simp at hc3
     refine awp_skip ?_;simp only[zT,reduceIte,Nat.reduceEqDiff];refine hK4 _ _ ?_;refine awp_prune [1,3] ?_;simp only[zP,Nat.reduceEqDiff,reduceIte];refine aR fun K hK=>?_;simp -dsimp [wi];apply hK;clear hK K;simp only[zT,reduceIte,Nat.reduceEqDiff];refine⟨k+1,⟨by omega,?_⟩,by omega,sub_rb [some 0] rfl (by simp) (by simp)⟩;rw[take_all' g0,k2];simp[nodeB,hc2,hc3]
  ·skip
   try simp at hc1
   have hA:=all_of_take (by omega) k2;refine awp_exit ?_;simp only[zT,reduceIte,Nat.reduceEqDiff];refine hK2 _ _ ?_;refine awp_prune [1] ?_;simp only[zP,Nat.reduceEqDiff,reduceIte];refine awp_seq_k fun K6 hK6=>?_;refine aS fun K hK=>?_;simp -dsimp;apply hK;clear hK K;refine awp_block ?_;refine awp_prune [1,6] ?_;simp only[zP,Nat.reduceEqDiff,reduceIte];refine awp_loop_l [1] (α:=Nat) (fun k=>[(6,I k)]) (fun _=>[some (.els 2 [p.cells])]) (fun k=>k≤p.Rails.length∧(p.Rails.take k).all (railB p)=true) (fun k=>p.Rails.length-k) 0 ?_ ?_ ?_
   ·simp
   ·exact sub_same (by simp)
   rintro u ⟨u1,u2⟩;simp only[zP,Nat.reduceEqDiff,reduceIte];refine awp_seq_k fun K7 hK7=>?_;refine aS fun K hK=>?_;simp -dsimp;apply hK;clear hK K;refine awp_cond rfl (fun hc4=>?_) (fun hc4=>?_)
   ·skip
    try simp at hc4
    have r0:=p.rail_get (i:=(u:Int)) (by omega) (by omega);simp only[Int.toNat_natCast]at r0;have wu:=zW u (by omega);have wn:IntKind.i64.wrap ((p.Nodes.length:Int)-1)=(p.Nodes.length:Int)-1:=wrap_in (by omega) (by omega);refine awp_skip ?_;simp only[zT,reduceIte,Nat.reduceEqDiff];refine hK7 _ _ ?_;refine awp_prune [1,6] ?_;simp only[zP,Nat.reduceEqDiff,reduceIte];refine awp_seq_k fun K8 hK8=>?_;refine awp_block ?_;refine aS fun K hK=>?_;simp -dsimp [r0];apply hK;clear hK K;refine awp_seq_k fun K9 hK9=>?_;refine aS fun K hK=>?_;simp -dsimp [wn];refine callK_intro _ (c_in _ _ _) (by simp) ?_;simp -dsimp [wn];refine callK_may _ (fun hm=>c_in _ _ _) (by simp) ?_;simp -dsimp [wn];refine callK_may _ (fun hm=>c_in _ _ _) (by simp) ?_;simp -dsimp [wn];refine callK_may _ (fun hm=>c_in _ _ _) (by simp) ?_;simp -dsimp [wn];apply hK;clear hK K;refine awp_cond rfl (fun hc5=>?_) (fun hc5=>?_)
    ·skip
     try simp at hc5
     have hra:railA p (p.rail u)=false:=by
      cases hq:railA p (p.rail u)with
      |false=>rfl
      |true=>simp[railA]at hq;simp[hq]at hc5;omega
     refine aS fun K hK=>?_;simp -dsimp;apply hK;clear hK K;exact awp_ret (by simp[valid_ff_rail r0 (by simp[railB,hra]:railB p (p.rail u)=false)])
    ·skip
     try simp at hc5
     have hra:railA p (p.rail u)=true:=by simp[railA,hc5];omega
     have hF:=inr_iff.1 hc5.1.1.1.1;have hT:=inr_iff.1 hc5.1.1.1.2;have hlen:(p.rail u).Shape.length≤30:=by omega
     have sF:=nodeB_spot (node_ends hA (i:=(p.rail u).From) (by omega) (by omega));have sT:=nodeB_spot (node_ends hA (i:=(p.rail u).To) (by omega) (by omega));refine awp_skip ?_;simp only[zT,reduceIte,Nat.reduceEqDiff];refine hK9 _ _ ?_;refine awp_prune [1,6,7] ?_;simp only[zP,Nat.reduceEqDiff,reduceIte];refine awp_seq_k fun K10 hK10=>?_;refine aS fun K hK=>?_;simp -dsimp;apply hK;clear hK K;refine awp_block ?_;refine awp_prune [1,6,7,8] ?_;simp only[zP,Nat.reduceEqDiff,reduceIte];refine awp_loop_l [1,6,7] (α:=Nat) (fun j=>[(8,I j)]) (fun _=>[some (.els 2 [p.cells]),some (.els 5 [(p.rail u).cells])]) (fun j=>j≤(p.rail u).Shape.length∧((p.rail u).Shape.take j).all spotB=true) (fun j=>(p.rail u).Shape.length-j) 0 ?_ ?_ ?_
     ·simp
     ·exact sub_same (by simp)
     rintro j ⟨j1,j2⟩;simp only[zP,Nat.reduceEqDiff,reduceIte];refine awp_seq_k fun K11 hK11=>?_;refine aS fun K hK=>?_;simp -dsimp;apply hK;clear hK K;refine awp_cond rfl (fun hc6=>?_) (fun hc6=>?_)
     ·skip
      try simp at hc6
      have s0:(p.rail u).Shape[j]?=some (nth (p.rail u).Shape j):=nth_get hc6;have wj:=zW j (by omega);refine awp_skip ?_;simp only[zT,reduceIte,Nat.reduceEqDiff];refine hK11 _ _ ?_;refine awp_prune [1,6,7,8] ?_;simp only[zP,Nat.reduceEqDiff,reduceIte];refine awp_seq_k fun K12 hK12=>?_;refine awp_block ?_;refine aS fun K hK=>?_;simp -dsimp [s0];refine callK_intro _ (c_spot (nth (p.rail u).Shape j)) (by simp) ?_;simp -dsimp [s0];apply hK;clear hK K;refine awp_cond rfl (fun hc7=>?_) (fun hc7=>?_)
      ·skip
       try simp at hc7
       refine aS fun K hK=>?_;simp -dsimp;apply hK;clear hK K;exact awp_ret (by simp[valid_ff_rail r0 (by simp[railB,all_ff s0 hc7]:railB p (p.rail u)=false)])
      ·skip
       try simp at hc7
       refine awp_skip ?_;simp only[zT,reduceIte,Nat.reduceEqDiff];refine hK12 _ _ ?_;refine awp_prune [1,6,7,8] ?_;simp only[zP,Nat.reduceEqDiff,reduceIte];refine aR fun K hK=>?_;simp -dsimp [wj];apply hK;clear hK K;simp only[zT,reduceIte,Nat.reduceEqDiff];refine⟨j+1,⟨by omega,?_⟩,by omega,sub_same (by simp)⟩;rw[take_all' s0,j2];simp[hc7]
     ·skip
      try simp at hc6
      have hS:=all_of_take (by omega) j2;have hls:(p.line u).all spotB=true:=line_spots sF sT hS;have hll:=line_len p u;have hb:∀m,m<(p.line u).length→spotB (nth (p.line u) m)=true:=fun m hm=>List.all_eq_true.1 hls _ (List.mem_of_getElem? (nth_get hm));refine awp_exit ?_;simp only[zT,reduceIte,Nat.reduceEqDiff];refine hK10 _ _ ?_;refine awp_prune [1,6] ?_;simp only[zP,Nat.reduceEqDiff,reduceIte];refine aS fun K hK=>?_;simp -dsimp;refine callK_intro _ (c_Line p u (by omega) (by omega) ⟨by omega,by omega⟩ ⟨by omega,by omega⟩ (by omega)) (by simp) ?_;simp -dsimp;apply hK;clear hK K;refine aS fun K hK=>?_;simp -dsimp;apply hK;clear hK K;refine awp_block ?_;refine awp_prune [1,6,9,10] ?_;simp only[zP,Nat.reduceEqDiff,reduceIte];refine awp_loop_l [1,6,9] (α:=Nat) (fun j=>[(10,I j)]) (fun _=>[some (.els 2 [p.cells]),some (.els 5 [(p.rail u).cells])]) (fun j=>1≤j∧j≤(p.line u).length∧∀m,m+1<j→segB (p.line u) m=true) (fun j=>(p.line u).length-j) 1 ?_ ?_ ?_
      ·refine⟨by omega,by omega,fun m hm=>by omega⟩
      ·exact sub_same (by simp)
      rintro j ⟨j1,j2,j3⟩;simp only[zP,Nat.reduceEqDiff,reduceIte];refine awp_seq_k fun K13 hK13=>?_;refine aS fun K hK=>?_;simp -dsimp;apply hK;clear hK K;refine awp_cond rfl (fun hc8=>?_) (fun hc8=>?_)
      ·skip
       try simp at hc8
       have wk:IntKind.i64.wrap ((j:Int)-1)=((j-1:Nat):Int):=by rw[wrap_in (by omega) (by omega)];omega
       have wj:=zW j (by omega);have l1:=nth_get (l:=p.line u) (k:=j-1) (by omega);have l2:=nth_get (l:=p.line u) (k:=j) (by omega);refine awp_skip ?_;simp only[zT,reduceIte,Nat.reduceEqDiff];refine hK13 _ _ ?_;refine awp_prune [1,6,9,10] ?_;simp only[zP,Nat.reduceEqDiff,reduceIte];refine awp_seq_k fun K14 hK14=>?_;refine awp_block ?_;refine awp_sd mixed rfl fun K hK=>?_;simp -dsimp [wk,l1,l2];refine callK_intro _ (c_Far (nth (p.line u) (j-1)) (nth (p.line u) j) (hb _ (by omega)) (hb _ (by omega))) (by simp) ?_;simp -dsimp [wk,l1,l2];refine callK_intro _ (c_in _ _ _) (by simp) ?_;simp -dsimp [wk,l1,l2];refine hK _ _ _ (by decide+kernel) ?_;clear hK K;refine awp_cond rfl (fun hc9=>?_) (fun hc9=>?_)
       ·simp at hc9;have hseg:segB (p.line u) (j-1)=inr (far (nth (p.line u) (j-1)) (nth (p.line u) j)) 1 1000000:=by simp only[segB,segLen];rw[show j-1+1=j by omega]
        have hfs:railB p (p.rail u)=false:=by
         have:(List.range ((p.rail u).Shape.length+1)).all (segB (lineOf p (p.rail u)))=false:=by rw[List.all_eq_false];exact⟨j-1,by simp;omega,by rw[show lineOf p (p.rail u)=p.line u from rfl,hseg];simp[hc9]⟩
         simp[railB,this]
        refine aS fun K hK=>?_;simp -dsimp;apply hK;clear hK K;exact awp_ret (by simp[valid_ff_rail r0 hfs])
       ·simp at hc9;have hseg:segB (p.line u) (j-1)=inr (far (nth (p.line u) (j-1)) (nth (p.line u) j)) 1 1000000:=by simp only[segB,segLen];rw[show j-1+1=j by omega]
        refine awp_skip ?_;simp only[zT,reduceIte,Nat.reduceEqDiff];refine hK14 _ _ ?_;refine awp_prune [1,6,9,10] ?_;simp only[zP,Nat.reduceEqDiff,reduceIte];refine aR fun K hK=>?_;simp -dsimp [wj];apply hK;clear hK K;simp only[zT,reduceIte,Nat.reduceEqDiff];refine⟨j+1,⟨by omega,by omega,fun m hm=>?_⟩,by omega,sub_same (by simp)⟩
        by_cases hmj:m+1<j
        ·exact j3 m hmj
        ·rw[show m=j-1 by omega,hseg];exact hc9
      ·skip
       try simp at hc8
       refine awp_exit ?_;simp only[zT,reduceIte,Nat.reduceEqDiff];refine hK8 _ _ ?_;refine awp_prune [1,6] ?_;simp only[zP,Nat.reduceEqDiff,reduceIte];refine aR fun K hK=>?_;simp -dsimp [wu];apply hK;clear hK K;simp only[zT,reduceIte,Nat.reduceEqDiff];refine⟨u+1,⟨by omega,?_⟩,by omega,sub_rb [some 0] rfl (by simp) (by simp)⟩;rw[take_all' r0,u2,railB,hra,hS];simp only[Bool.true_and];rw[List.all_eq_true];intro m hm;simp only[List.mem_range]at hm;exact j3 m (by omega)
   ·skip
    try simp at hc4
    have hB:=all_of_take (by omega) u2;refine awp_exit ?_;simp only[zT,reduceIte,Nat.reduceEqDiff];refine hK6 _ _ ?_;refine awp_prune [1] ?_;simp only[zP,Nat.reduceEqDiff,reduceIte];refine aS fun K hK=>?_;simp -dsimp;apply hK;clear hK K;refine awp_seq_k fun K15 hK15=>?_;refine aS fun K hK=>?_;simp -dsimp;apply hK;clear hK K;refine awp_block ?_;refine awp_prune [1,11,12] ?_;simp only[zP,Nat.reduceEqDiff,reduceIte];refine awp_loop_l [1] (α:=Nat) (fun i=>[(11, .row 1 0 (endsOf p i).length),(12,I i)]) (fun i=>[some (.els 2 [p.cells]),some (.els 2 (eCells (endsOf p i)))]) (fun i=>i≤p.Nodes.length∧(endsOf p i).all (endB p)=true∧((endsOf p i).map (·.2)).Nodup) (fun i=>p.Nodes.length-i) 0 ?_ ?_ ?_
    ·simp[endsOf]
    ·exact(sub_nil 11 2 (by simp)).trans (sub_same (by simp[endsOf]))
    rintro i ⟨i1,i2,i3⟩;simp only[zP,Nat.reduceEqDiff,reduceIte];refine awp_seq_k fun K16 hK16=>?_;refine aS fun K hK=>?_;simp -dsimp;apply hK;clear hK K;refine awp_cond rfl (fun hc10=>?_) (fun hc10=>?_)
    ·skip
     try simp at hc10
     have n0:=p.node_get (i:=(i:Int)) (by omega) (by omega);simp only[Int.toNat_natCast]at n0;have wi:=zW i (by omega);have wr:IntKind.i64.wrap ((p.Rails.length:Int)-1)=(p.Rails.length:Int)-1:=wrap_in (by omega) (by omega);have hle:=nodeB_len (node_ends hA (i:=(i:Int)) (by omega) (by omega));refine awp_skip ?_;simp only[zT,reduceIte,Nat.reduceEqDiff];refine hK16 _ _ ?_;refine awp_prune [1,11,12] ?_;simp only[zP,Nat.reduceEqDiff,reduceIte];refine awp_seq_k fun K17 hK17=>?_;refine awp_block ?_;refine aS fun K hK=>?_;simp -dsimp;apply hK;clear hK K;refine awp_block ?_;refine awp_prune [1,11,12,13] ?_;simp only[zP,Nat.reduceEqDiff,reduceIte];refine awp_loop_l [1,12] (α:=Nat) (fun j=>[(11, .row 1 0 (curE p i j).length),(13,I j)]) (fun j=>[some (.els 2 [p.cells]),some (.els 2 (eCells (curE p i j)))]) (fun j=>j≤(p.node i).Ends.length∧(curE p i j).all (endB p)=true∧((curE p i j).map (·.2)).Nodup) (fun j=>(p.node i).Ends.length-j) 0 ?_ ?_ ?_
     ·rw[curE_zero];exact⟨by omega,i2,i3⟩
     ·simp only[curE_zero];exact sub_same (by simp)
     rintro j ⟨j1,j2,j3⟩;simp only[zP,Nat.reduceEqDiff,reduceIte];refine awp_seq_k fun K18 hK18=>?_;refine aS fun K hK=>?_;simp -dsimp [n0];apply hK;clear hK K;refine awp_cond rfl (fun hc11=>?_) (fun hc11=>?_)
     ·skip
      try simp at hc11
      obtain⟨e,he⟩:∃e,(p.node i).Ends[j]?=some e:=⟨_,List.getElem?_eq_getElem hc11⟩;have hcl:=curE_len hA (j:=j) hc10;have wj:=zW j (by omega);have f1:Fits ((curE p i j).length+1) 17:=fits_of (by omega) (by omega);have f2:Fits ((curE p i j).length+1) 25:=fits_of (by omega) (by omega);refine awp_skip ?_;simp only[zT,reduceIte,Nat.reduceEqDiff];refine hK18 _ _ ?_;refine awp_prune [1,11,12,13] ?_;simp only[zP,Nat.reduceEqDiff,reduceIte];refine awp_seq_k fun K19 hK19=>?_;refine awp_block ?_;refine aS fun K hK=>?_;simp -dsimp [n0,he];apply hK;clear hK K;refine awp_seq_k fun K20 hK20=>?_;refine aS fun K hK=>?_;simp -dsimp [wr];refine callK_intro _ (c_in _ _ _) (by simp) ?_;simp -dsimp [wr];refine callK_may _ (fun hm=>c_at p e (by simp[inr_iff]at hm;omega) (by simp[inr_iff]at hm;omega)) (by simp) ?_;simp -dsimp [wr];apply hK;clear hK K;refine awp_cond rfl (fun hc12=>?_) (fun hc12=>?_)
      ·skip
       try simp at hc12
       have hef:endB p (i,e)=false:=by
        cases hq:endB p (i,e)with
        |false=>rfl
        |true=>simp[endB]at hq;simp[hq]at hc12
       refine aS fun K hK=>?_;simp -dsimp;apply hK;clear hK K;exact awp_ret (by simp[valid_ff_end hc10 he hef])
      ·skip
       try simp at hc12
       refine awp_skip ?_;simp only[zT,reduceIte,Nat.reduceEqDiff];refine hK20 _ _ ?_;refine awp_prune [1,11,12,13,14] ?_;simp only[zP,Nat.reduceEqDiff,reduceIte];refine awp_seq_k fun K21 hK21=>?_;refine aS fun K hK=>?_;simp -dsimp;apply hK;clear hK K;refine awp_block ?_;refine awp_prune [1,11,12,13,14,15] ?_;simp only[zP,Nat.reduceEqDiff,reduceIte];refine awp_loop_l [1,11,12,13,14] (α:=Nat) (fun m=>[(15,I m)]) (fun _=>[some (.els 2 [p.cells]),some (.els 2 (eCells (curE p i j))),some (.els 2 [e.cells])]) (fun m=>m≤(curE p i j).length∧∀x∈(curE p i j).take m,x.2≠e) (fun m=>(curE p i j).length-m) 0 ?_ ?_ ?_
       ·simp
       ·exact sub_same (by simp)
       rintro m ⟨m1,m2⟩;simp only[zP,Nat.reduceEqDiff,reduceIte];refine awp_seq_k fun K22 hK22=>?_;refine aS fun K hK=>?_;simp -dsimp;apply hK;clear hK K;refine awp_cond rfl (fun hc13=>?_) (fun hc13=>?_)
       ·skip
        try simp at hc13
        obtain⟨x,hx⟩:∃x,(curE p i j)[m]?=some x:=⟨_,List.getElem?_eq_getElem hc13⟩;have wm:=zW m (by omega);refine awp_skip ?_;simp only[zT,reduceIte,Nat.reduceEqDiff];refine hK22 _ _ ?_;refine awp_prune [1,11,12,13,14,15] ?_;simp only[zP,Nat.reduceEqDiff,reduceIte];refine awp_seq_k fun K23 hK23=>?_;refine awp_block ?_;refine awp_sd mixed rfl fun K hK=>?_;simp -dsimp [hx,hc13];refine hK _ _ _ (by decide+kernel) ?_;clear hK K;refine awp_cond rfl (fun hc14=>?_) (fun hc14=>?_)
        ·skip
         try simp at hc14
         refine aS fun K hK=>?_;simp -dsimp;apply hK;clear hK K;have hxe:x.2=e:=by cases hxx:x.2;cases e;simp_all
         exact awp_ret (by simp[valid_ff_dup hc10 he hx hxe])
        ·skip
         try simp at hc14
         refine awp_skip ?_;simp only[zT,reduceIte,Nat.reduceEqDiff];refine hK23 _ _ ?_;refine awp_prune [1,11,12,13,14,15] ?_;simp only[zP,Nat.reduceEqDiff,reduceIte];refine aR fun K hK=>?_;simp -dsimp [wm];apply hK;clear hK K;simp only[zT,reduceIte,Nat.reduceEqDiff];refine⟨m+1,⟨by omega,?_⟩,by omega,sub_same (by simp)⟩;intro y hy;rw[List.take_add_one,hx]at hy
         rcases List.mem_append.1 hy with hy|hy
         ·exact m2 y hy
         ·simp only[Option.toList_some,List.mem_singleton]at hy;subst hy;intro hh;rw[←hh]at hc14;have hxm:(curE p i j)[m]=y:=(List.getElem?_eq_some_iff.1 hx).2;simp[hxm]at hc14
       ·skip
        try simp at hc13
        have hne:∀x∈curE p i j,x.2≠e:=by intro x hx;exact m2 x (by rw[List.take_of_length_le (by omega)];exact hx)
        refine awp_exit ?_;simp only[zT,reduceIte,Nat.reduceEqDiff];refine hK21 _ _ ?_;refine awp_prune [1,11,12,13,14] ?_;simp only[zP,Nat.reduceEqDiff,reduceIte];refine aR fun K hK=>?_;simp -dsimp [f1,f2];apply hK;clear hK K;simp only[zT,reduceIte,Nat.reduceEqDiff];refine hK19 _ _ ?_;refine awp_prune [1,11,12,13] ?_;simp only[zP,Nat.reduceEqDiff,reduceIte];refine aR fun K hK=>?_;simp -dsimp [wj];apply hK;clear hK K;simp only[zT,reduceIte,Nat.reduceEqDiff];refine⟨j+1,⟨by omega,?_,?_⟩,by omega,sub_rb [some 0,some 3] rfl (by simp[curE_succ he]) (by simp[curE_succ he,Function.comp_def,List.take_of_length_le])⟩
        ·rw[curE_succ he,List.all_append,j2];simp[endB,hc12]
        ·rw[curE_succ he,List.map_append,List.nodup_append];refine⟨j3,by simp,?_⟩;intro a ha b hb;simp only[List.map_cons,List.map_nil,List.mem_singleton]at hb;subst hb;obtain⟨y,hy,rfl⟩:=List.mem_map.1 ha;exact hne y hy
     ·skip
      try simp at hc11
      have hce:=curE_all (p:=p) (i:=i) (j:=j) (by omega);refine awp_exit ?_;simp only[zT,reduceIte,Nat.reduceEqDiff];refine hK17 _ _ ?_;refine awp_prune [1,11,12] ?_;simp only[zP,Nat.reduceEqDiff,reduceIte];refine aR fun K hK=>?_;simp -dsimp [wi];apply hK;clear hK K;simp only[zT,reduceIte,Nat.reduceEqDiff];exact⟨i+1,⟨by omega,by rw[←hce];exact j2,by rw[←hce];exact j3⟩,by omega,by simp only[←hce];exact sub_same (by simp)⟩
    ·skip
     try simp at hc10
     have hii:i=p.Nodes.length:=by omega
     subst hii;have hle:=endsOf_len hA p.Nodes.length (Nat.le_refl _);have w2:IntKind.i64.wrap (2*(p.Rails.length:Int))=2*(p.Rails.length:Int):=wrap_in (by omega) (by omega);refine awp_exit ?_;simp only[zT,reduceIte,Nat.reduceEqDiff];refine hK15 _ _ ?_;refine awp_prune [1,11] ?_;simp only[zP,Nat.reduceEqDiff,reduceIte];refine aS fun K hK=>?_;simp -dsimp [w2];apply hK;clear hK K;refine awp_ret ?_;have hv:validB p=decide ((endsOf p p.Nodes.length).length=2*p.Rails.length):=by simp[validB,validA,validE,hc0,hA,hB,i2,i3]
     simp only[hv];simp;exact Bool.eq_iff_iff.2 (by simp;omega)
end Go.Tram
end
section
namespace Go.Tram
open Go.AM Go.Proofs
theorem c_rarr (m:Move):PureCall Tryz.prog 41 [m.av] (.agg [I m.Rail,Bo (!m.Back)]):=by
 refine PureCall.of_body Tryz.func41 rfl (by decide) (by simp[Tryz.ntmps41]) ?_;simp only[Tryz.ntmps41,Tryz.results41];refine aS fun K hK=>?_;simp -dsimp;apply hK;clear hK K;refine aS fun K hK=>?_;simp -dsimp;apply hK;clear hK K;exact awp_ret (by simp)
theorem c_rlea (m:Move):PureCall Tryz.prog 43 [m.av] (.agg [I m.Rail,Bo m.Back]):=by
 refine PureCall.of_body Tryz.func43 rfl (by decide) (by simp[Tryz.ntmps43]) ?_;simp only[Tryz.ntmps43,Tryz.results43];refine aS fun K hK=>?_;simp -dsimp;apply hK;clear hK K;refine aS fun K hK=>?_;simp -dsimp;apply hK;clear hK K;exact awp_ret (by simp)
theorem c_rMove (p:Plan) (m:Move) (hR:p.Rails.length≤100000):PureCall Tryz.prog 20 [p.av,m.av] (Bo (movB p m)):=by
 have w:IntKind.i64.wrap ((p.Rails.length:Int)-1)=(p.Rails.length:Int)-1:=wrap_in (by omega) (by omega);refine PureCall.of_body Tryz.func20 rfl (by decide) (by simp[Tryz.ntmps20]) ?_;simp only[Tryz.ntmps20,Tryz.results20];refine aS fun K hK=>?_;simp -dsimp;apply hK;clear hK K;refine aS fun K hK=>?_;simp -dsimp [w];refine callK_intro _ (c_in m.Rail 0 _) (by simp) ?_;simp -dsimp [w];apply hK;clear hK K;exact awp_ret (by simp[movB])
theorem c_index (n:Node) (e:REnd) (hn:n.Ends.length≤1000):PureCall Tryz.prog 42 [n.av,e.av] (I (idxE n e)):=by
 refine PureCall.of_body Tryz.func42 rfl (by decide) (by simp[Tryz.ntmps42]) ?_;simp only[Tryz.ntmps42,Tryz.results42];refine aS fun K hK=>?_;simp -dsimp;apply hK;clear hK K;refine awp_seq_k fun K1 hK1=>?_;refine aS fun K hK=>?_;simp -dsimp;apply hK;clear hK K;refine awp_block ?_;refine awp_prune [2,3,5] ?_;simp only[zP,Nat.reduceEqDiff,reduceIte];refine awp_loop_l [2,3] (α:=Nat) (fun k=>[(5,I k)]) (fun _=>[some (.els 5 [n.cells]),some (.els 2 [e.cells])]) (fun k=>k≤n.Ends.length∧idxTo e (n.Ends.drop k) k=idxE n e) (fun k=>n.Ends.length-k) 0 ?_ ?_ ?_
 ·exact⟨Nat.zero_le _,rfl⟩
 ·exact sub_same (by simp)
 rintro k ⟨k1,k2⟩;simp only[zP,Nat.reduceEqDiff,reduceIte];refine awp_seq_k fun K2 hK2=>?_;refine aS fun K hK=>?_;simp -dsimp;apply hK;clear hK K;refine awp_cond rfl (fun hc0=>?_) (fun hc0=>?_)
 ·skip
  try simp at hc0
  obtain⟨x,hx⟩:∃x,n.Ends[k]?=some x:=⟨_,List.getElem?_eq_getElem (by simpa using hc0)⟩;obtain⟨hxl,hxe⟩:=List.getElem?_eq_some_iff.1 hx;have wk:=zW k (by omega);rw[List.drop_eq_getElem_cons hxl,hxe]at k2;simp only[idxTo]at k2;refine awp_skip ?_;simp only[zT,reduceIte,Nat.reduceEqDiff];refine hK2 _ _ ?_;refine awp_prune [2,3,5] ?_;simp only[zP,Nat.reduceEqDiff,reduceIte];refine awp_seq_k fun K3 hK3=>?_;refine awp_block ?_;refine awp_sd mixed rfl fun K hK=>?_;simp -dsimp [hx];refine hK _ _ _ (by decide+kernel) ?_;clear hK K;refine awp_cond rfl (fun hc1=>?_) (fun hc1=>?_)
  ·have hxe2:x=e:=by obtain⟨a,b⟩:=x;obtain⟨c,d⟩:=e;simpa using hc1
   rw[if_pos hxe2]at k2;refine aS fun K hK=>?_;simp -dsimp;apply hK;clear hK K;exact awp_ret (by simp[←k2])
  ·have hxe2:x≠e:=by rintro rfl;simp at hc1
   rw[if_neg hxe2]at k2;refine awp_skip ?_;simp only[zT,reduceIte,Nat.reduceEqDiff];refine hK3 _ _ ?_;refine awp_prune [2,3,5] ?_;simp only[zP,Nat.reduceEqDiff,reduceIte];refine aR fun K hK=>?_;simp -dsimp [wk];apply hK;clear hK K;simp only[zT,reduceIte,Nat.reduceEqDiff];exact⟨k+1,⟨by omega,by rw[←k2];rfl⟩,by omega,sub_same (by simp)⟩
 ·skip
  try simp at hc0
  have hke:k=n.Ends.length:=by have:¬k<n.Ends.length:=(by simpa using hc0);omega
  subst hke;rw[List.drop_length]at k2;refine awp_exit ?_;simp only[zT,reduceIte,Nat.reduceEqDiff];refine hK1 _ _ ?_;refine awp_prune [] ?_;simp only[zP,Nat.reduceEqDiff,reduceIte];refine aS fun K hK=>?_;simp -dsimp;apply hK;clear hK K;exact awp_ret (by simp[←k2,idxTo])
theorem c_rlets1 (n:Node) (a b:Int) (ha:0≤a∧a≤1000) (hb:0≤b∧b≤1000) (hk:n.Kind=1):PureCall Tryz.prog 44 [n.av,I a,I b] (Bo (letsB n a b)):=by
 have w:IntKind.i64.wrap (a+b)=a+b:=wrap_in (by omega) (by omega);have w2:(a+b).tmod 2=(a+b) % 2:=Int.tmod_eq_emod_of_nonneg (by omega);unfold letsB;simp only[Node.av,Node.cells,hk,Int.reduceEq,if_false,if_true,reduceIte];refine PureCall.of_body Tryz.func44 rfl (by decide) (by simp[Tryz.ntmps44]) ?_;simp only[Tryz.ntmps44,Tryz.results44];refine aS fun K hK=>?_;simp -dsimp [w,w2];apply hK;clear hK K;refine awp_seq_k fun K1 hK1=>?_;refine aS fun K hK=>?_;simp -dsimp [w,w2];apply hK;clear hK K;refine awp_block ?_;refine aS fun K hK=>?_;simp -dsimp [w,w2];apply hK;clear hK K;refine awp_cond rfl (fun hc0=>?_) (fun hc0=>?_)
 ·refine aS fun K hK=>?_;simp -dsimp [w,w2];apply hK;clear hK K
  first|(exfalso;simp at hc0;done)|(exfalso;simp at hc1;done)|(exfalso;simp at hc2;done)|(exfalso;simp at hc3;done)|(exfalso;simp at hc4;done)|(refine awp_ret ?_;simp;done)|(refine awp_ret ?_;simp;exact Bool.eq_iff_iff.2 (by simp;try omega))
 ·refine aS fun K hK=>?_;simp -dsimp [w,w2];apply hK;clear hK K;refine awp_cond rfl (fun hc1=>?_) (fun hc1=>?_)
  ·refine aS fun K hK=>?_;simp -dsimp [w,w2];apply hK;clear hK K
   first|(exfalso;simp at hc0;done)|(exfalso;simp at hc1;done)|(exfalso;simp at hc2;done)|(exfalso;simp at hc3;done)|(exfalso;simp at hc4;done)|(refine awp_ret ?_;simp;done)|(refine awp_ret ?_;simp;exact Bool.eq_iff_iff.2 (by simp;try omega))
  ·refine aS fun K hK=>?_;simp -dsimp [w,w2];apply hK;clear hK K;refine awp_cond rfl (fun hc2=>?_) (fun hc2=>?_)
   ·refine aS fun K hK=>?_;simp -dsimp [w,w2];apply hK;clear hK K
    first|(exfalso;simp at hc0;done)|(exfalso;simp at hc1;done)|(exfalso;simp at hc2;done)|(exfalso;simp at hc3;done)|(exfalso;simp at hc4;done)|(refine awp_ret ?_;simp;done)|(refine awp_ret ?_;simp;exact Bool.eq_iff_iff.2 (by simp;try omega))
   ·refine aS fun K hK=>?_;simp -dsimp [w,w2];apply hK;clear hK K;refine awp_cond rfl (fun hc3=>?_) (fun hc3=>?_)
    ·refine aS fun K hK=>?_;simp -dsimp [w,w2];apply hK;clear hK K
     first|(exfalso;simp at hc0;done)|(exfalso;simp at hc1;done)|(exfalso;simp at hc2;done)|(exfalso;simp at hc3;done)|(exfalso;simp at hc4;done)|(refine awp_ret ?_;simp;done)|(refine awp_ret ?_;simp;exact Bool.eq_iff_iff.2 (by simp;try omega))
    ·refine aS fun K hK=>?_;simp -dsimp [w,w2];apply hK;clear hK K;refine awp_cond rfl (fun hc4=>?_) (fun hc4=>?_)
     ·refine aS fun K hK=>?_;simp -dsimp [w,w2];apply hK;clear hK K
      first|(exfalso;simp at hc0;done)|(exfalso;simp at hc1;done)|(exfalso;simp at hc2;done)|(exfalso;simp at hc3;done)|(exfalso;simp at hc4;done)|(refine awp_ret ?_;simp;done)|(refine awp_ret ?_;simp;exact Bool.eq_iff_iff.2 (by simp;try omega))
     ·refine awp_skip ?_;simp only[zT,reduceIte,Nat.reduceEqDiff];refine hK1 _ _ ?_;refine awp_prune [] ?_;simp only[zP,Nat.reduceEqDiff,reduceIte];refine aS fun K hK=>?_;simp -dsimp [w,w2];apply hK;clear hK K
      first|(exfalso;simp at hc0;done)|(exfalso;simp at hc1;done)|(exfalso;simp at hc2;done)|(exfalso;simp at hc3;done)|(exfalso;simp at hc4;done)|(refine awp_ret ?_;simp;done)|(refine awp_ret ?_;simp;exact Bool.eq_iff_iff.2 (by simp;try omega))
theorem c_rlets2 (n:Node) (a b:Int) (ha:0≤a∧a≤1000) (hb:0≤b∧b≤1000) (hk:n.Kind=2):PureCall Tryz.prog 44 [n.av,I a,I b] (Bo (letsB n a b)):=by
 have w:IntKind.i64.wrap (a+b)=a+b:=wrap_in (by omega) (by omega);have w2:(a+b).tmod 2=(a+b) % 2:=Int.tmod_eq_emod_of_nonneg (by omega);unfold letsB;simp only[Node.av,Node.cells,hk,Int.reduceEq,if_false,if_true,reduceIte];refine PureCall.of_body Tryz.func44 rfl (by decide) (by simp[Tryz.ntmps44]) ?_;simp only[Tryz.ntmps44,Tryz.results44];refine aS fun K hK=>?_;simp -dsimp [w,w2];apply hK;clear hK K;refine awp_seq_k fun K1 hK1=>?_;refine aS fun K hK=>?_;simp -dsimp [w,w2];apply hK;clear hK K;refine awp_block ?_;refine aS fun K hK=>?_;simp -dsimp [w,w2];apply hK;clear hK K;refine awp_cond rfl (fun hc0=>?_) (fun hc0=>?_)
 ·refine aS fun K hK=>?_;simp -dsimp [w,w2];apply hK;clear hK K
  first|(exfalso;simp at hc0;done)|(exfalso;simp at hc1;done)|(exfalso;simp at hc2;done)|(exfalso;simp at hc3;done)|(exfalso;simp at hc4;done)|(refine awp_ret ?_;simp;done)|(refine awp_ret ?_;simp;exact Bool.eq_iff_iff.2 (by simp;try omega))
 ·refine aS fun K hK=>?_;simp -dsimp [w,w2];apply hK;clear hK K;refine awp_cond rfl (fun hc1=>?_) (fun hc1=>?_)
  ·refine aS fun K hK=>?_;simp -dsimp [w,w2];apply hK;clear hK K
   first|(exfalso;simp at hc0;done)|(exfalso;simp at hc1;done)|(exfalso;simp at hc2;done)|(exfalso;simp at hc3;done)|(exfalso;simp at hc4;done)|(refine awp_ret ?_;simp;done)|(refine awp_ret ?_;simp;exact Bool.eq_iff_iff.2 (by simp;try omega))
  ·refine aS fun K hK=>?_;simp -dsimp [w,w2];apply hK;clear hK K;refine awp_cond rfl (fun hc2=>?_) (fun hc2=>?_)
   ·refine aS fun K hK=>?_;simp -dsimp [w,w2];apply hK;clear hK K
    first|(exfalso;simp at hc0;done)|(exfalso;simp at hc1;done)|(exfalso;simp at hc2;done)|(exfalso;simp at hc3;done)|(exfalso;simp at hc4;done)|(refine awp_ret ?_;simp;done)|(refine awp_ret ?_;simp;exact Bool.eq_iff_iff.2 (by simp;try omega))
   ·refine aS fun K hK=>?_;simp -dsimp [w,w2];apply hK;clear hK K;refine awp_cond rfl (fun hc3=>?_) (fun hc3=>?_)
    ·refine aS fun K hK=>?_;simp -dsimp [w,w2];apply hK;clear hK K
     first|(exfalso;simp at hc0;done)|(exfalso;simp at hc1;done)|(exfalso;simp at hc2;done)|(exfalso;simp at hc3;done)|(exfalso;simp at hc4;done)|(refine awp_ret ?_;simp;done)|(refine awp_ret ?_;simp;exact Bool.eq_iff_iff.2 (by simp;try omega))
    ·refine aS fun K hK=>?_;simp -dsimp [w,w2];apply hK;clear hK K;refine awp_cond rfl (fun hc4=>?_) (fun hc4=>?_)
     ·refine aS fun K hK=>?_;simp -dsimp [w,w2];apply hK;clear hK K
      first|(exfalso;simp at hc0;done)|(exfalso;simp at hc1;done)|(exfalso;simp at hc2;done)|(exfalso;simp at hc3;done)|(exfalso;simp at hc4;done)|(refine awp_ret ?_;simp;done)|(refine awp_ret ?_;simp;exact Bool.eq_iff_iff.2 (by simp;try omega))
     ·refine awp_skip ?_;simp only[zT,reduceIte,Nat.reduceEqDiff];refine hK1 _ _ ?_;refine awp_prune [] ?_;simp only[zP,Nat.reduceEqDiff,reduceIte];refine aS fun K hK=>?_;simp -dsimp [w,w2];apply hK;clear hK K
      first|(exfalso;simp at hc0;done)|(exfalso;simp at hc1;done)|(exfalso;simp at hc2;done)|(exfalso;simp at hc3;done)|(exfalso;simp at hc4;done)|(refine awp_ret ?_;simp;done)|(refine awp_ret ?_;simp;exact Bool.eq_iff_iff.2 (by simp;try omega))
theorem c_rlets3 (n:Node) (a b:Int) (ha:0≤a∧a≤1000) (hb:0≤b∧b≤1000) (hk:n.Kind=3):PureCall Tryz.prog 44 [n.av,I a,I b] (Bo (letsB n a b)):=by
 have w:IntKind.i64.wrap (a+b)=a+b:=wrap_in (by omega) (by omega);have w2:(a+b).tmod 2=(a+b) % 2:=Int.tmod_eq_emod_of_nonneg (by omega);unfold letsB;simp only[Node.av,Node.cells,hk,Int.reduceEq,if_false,if_true,reduceIte];refine PureCall.of_body Tryz.func44 rfl (by decide) (by simp[Tryz.ntmps44]) ?_;simp only[Tryz.ntmps44,Tryz.results44];refine aS fun K hK=>?_;simp -dsimp [w,w2];apply hK;clear hK K;refine awp_seq_k fun K1 hK1=>?_;refine aS fun K hK=>?_;simp -dsimp [w,w2];apply hK;clear hK K;refine awp_block ?_;refine aS fun K hK=>?_;simp -dsimp [w,w2];apply hK;clear hK K;refine awp_cond rfl (fun hc0=>?_) (fun hc0=>?_)
 ·refine aS fun K hK=>?_;simp -dsimp [w,w2];apply hK;clear hK K
  first|(exfalso;simp at hc0;done)|(exfalso;simp at hc1;done)|(exfalso;simp at hc2;done)|(exfalso;simp at hc3;done)|(exfalso;simp at hc4;done)|(refine awp_ret ?_;simp;done)|(refine awp_ret ?_;simp;exact Bool.eq_iff_iff.2 (by simp;try omega))
 ·refine aS fun K hK=>?_;simp -dsimp [w,w2];apply hK;clear hK K;refine awp_cond rfl (fun hc1=>?_) (fun hc1=>?_)
  ·refine aS fun K hK=>?_;simp -dsimp [w,w2];apply hK;clear hK K
   first|(exfalso;simp at hc0;done)|(exfalso;simp at hc1;done)|(exfalso;simp at hc2;done)|(exfalso;simp at hc3;done)|(exfalso;simp at hc4;done)|(refine awp_ret ?_;simp;done)|(refine awp_ret ?_;simp;exact Bool.eq_iff_iff.2 (by simp;try omega))
  ·refine aS fun K hK=>?_;simp -dsimp [w,w2];apply hK;clear hK K;refine awp_cond rfl (fun hc2=>?_) (fun hc2=>?_)
   ·refine aS fun K hK=>?_;simp -dsimp [w,w2];apply hK;clear hK K
    first|(exfalso;simp at hc0;done)|(exfalso;simp at hc1;done)|(exfalso;simp at hc2;done)|(exfalso;simp at hc3;done)|(exfalso;simp at hc4;done)|(refine awp_ret ?_;simp;done)|(refine awp_ret ?_;simp;exact Bool.eq_iff_iff.2 (by simp;try omega))
   ·refine aS fun K hK=>?_;simp -dsimp [w,w2];apply hK;clear hK K;refine awp_cond rfl (fun hc3=>?_) (fun hc3=>?_)
    ·refine aS fun K hK=>?_;simp -dsimp [w,w2];apply hK;clear hK K
     first|(exfalso;simp at hc0;done)|(exfalso;simp at hc1;done)|(exfalso;simp at hc2;done)|(exfalso;simp at hc3;done)|(exfalso;simp at hc4;done)|(refine awp_ret ?_;simp;done)|(refine awp_ret ?_;simp;exact Bool.eq_iff_iff.2 (by simp;try omega))
    ·refine aS fun K hK=>?_;simp -dsimp [w,w2];apply hK;clear hK K;refine awp_cond rfl (fun hc4=>?_) (fun hc4=>?_)
     ·refine aS fun K hK=>?_;simp -dsimp [w,w2];apply hK;clear hK K
      first|(exfalso;simp at hc0;done)|(exfalso;simp at hc1;done)|(exfalso;simp at hc2;done)|(exfalso;simp at hc3;done)|(exfalso;simp at hc4;done)|(refine awp_ret ?_;simp;done)|(refine awp_ret ?_;simp;exact Bool.eq_iff_iff.2 (by simp;try omega))
     ·refine awp_skip ?_;simp only[zT,reduceIte,Nat.reduceEqDiff];refine hK1 _ _ ?_;refine awp_prune [] ?_;simp only[zP,Nat.reduceEqDiff,reduceIte];refine aS fun K hK=>?_;simp -dsimp [w,w2];apply hK;clear hK K
      first|(exfalso;simp at hc0;done)|(exfalso;simp at hc1;done)|(exfalso;simp at hc2;done)|(exfalso;simp at hc3;done)|(exfalso;simp at hc4;done)|(refine awp_ret ?_;simp;done)|(refine awp_ret ?_;simp;exact Bool.eq_iff_iff.2 (by simp;try omega))
theorem c_rlets4 (n:Node) (a b:Int) (ha:0≤a∧a≤1000) (hb:0≤b∧b≤1000) (hk:n.Kind=4):PureCall Tryz.prog 44 [n.av,I a,I b] (Bo (letsB n a b)):=by
 have w:IntKind.i64.wrap (a+b)=a+b:=wrap_in (by omega) (by omega);have w2:(a+b).tmod 2=(a+b) % 2:=Int.tmod_eq_emod_of_nonneg (by omega);unfold letsB;simp only[Node.av,Node.cells,hk,Int.reduceEq,if_false,if_true,reduceIte];refine PureCall.of_body Tryz.func44 rfl (by decide) (by simp[Tryz.ntmps44]) ?_;simp only[Tryz.ntmps44,Tryz.results44];refine aS fun K hK=>?_;simp -dsimp [w,w2];apply hK;clear hK K;refine awp_seq_k fun K1 hK1=>?_;refine aS fun K hK=>?_;simp -dsimp [w,w2];apply hK;clear hK K;refine awp_block ?_;refine aS fun K hK=>?_;simp -dsimp [w,w2];apply hK;clear hK K;refine awp_cond rfl (fun hc0=>?_) (fun hc0=>?_)
 ·refine aS fun K hK=>?_;simp -dsimp [w,w2];apply hK;clear hK K
  first|(exfalso;simp at hc0;done)|(exfalso;simp at hc1;done)|(exfalso;simp at hc2;done)|(exfalso;simp at hc3;done)|(exfalso;simp at hc4;done)|(refine awp_ret ?_;simp;done)|(refine awp_ret ?_;simp;exact Bool.eq_iff_iff.2 (by simp;try omega))
 ·refine aS fun K hK=>?_;simp -dsimp [w,w2];apply hK;clear hK K;refine awp_cond rfl (fun hc1=>?_) (fun hc1=>?_)
  ·refine aS fun K hK=>?_;simp -dsimp [w,w2];apply hK;clear hK K
   first|(exfalso;simp at hc0;done)|(exfalso;simp at hc1;done)|(exfalso;simp at hc2;done)|(exfalso;simp at hc3;done)|(exfalso;simp at hc4;done)|(refine awp_ret ?_;simp;done)|(refine awp_ret ?_;simp;exact Bool.eq_iff_iff.2 (by simp;try omega))
  ·refine aS fun K hK=>?_;simp -dsimp [w,w2];apply hK;clear hK K;refine awp_cond rfl (fun hc2=>?_) (fun hc2=>?_)
   ·refine aS fun K hK=>?_;simp -dsimp [w,w2];apply hK;clear hK K
    first|(exfalso;simp at hc0;done)|(exfalso;simp at hc1;done)|(exfalso;simp at hc2;done)|(exfalso;simp at hc3;done)|(exfalso;simp at hc4;done)|(refine awp_ret ?_;simp;done)|(refine awp_ret ?_;simp;exact Bool.eq_iff_iff.2 (by simp;try omega))
   ·refine aS fun K hK=>?_;simp -dsimp [w,w2];apply hK;clear hK K;refine awp_cond rfl (fun hc3=>?_) (fun hc3=>?_)
    ·refine aS fun K hK=>?_;simp -dsimp [w,w2];apply hK;clear hK K
     first|(exfalso;simp at hc0;done)|(exfalso;simp at hc1;done)|(exfalso;simp at hc2;done)|(exfalso;simp at hc3;done)|(exfalso;simp at hc4;done)|(refine awp_ret ?_;simp;done)|(refine awp_ret ?_;simp;exact Bool.eq_iff_iff.2 (by simp;try omega))
    ·refine aS fun K hK=>?_;simp -dsimp [w,w2];apply hK;clear hK K;refine awp_cond rfl (fun hc4=>?_) (fun hc4=>?_)
     ·refine aS fun K hK=>?_;simp -dsimp [w,w2];apply hK;clear hK K
      first|(exfalso;simp at hc0;done)|(exfalso;simp at hc1;done)|(exfalso;simp at hc2;done)|(exfalso;simp at hc3;done)|(exfalso;simp at hc4;done)|(refine awp_ret ?_;simp;done)|(refine awp_ret ?_;simp;exact Bool.eq_iff_iff.2 (by simp;try omega))
     ·refine awp_skip ?_;simp only[zT,reduceIte,Nat.reduceEqDiff];refine hK1 _ _ ?_;refine awp_prune [] ?_;simp only[zP,Nat.reduceEqDiff,reduceIte];refine aS fun K hK=>?_;simp -dsimp [w,w2];apply hK;clear hK K
      first|(exfalso;simp at hc0;done)|(exfalso;simp at hc1;done)|(exfalso;simp at hc2;done)|(exfalso;simp at hc3;done)|(exfalso;simp at hc4;done)|(refine awp_ret ?_;simp;done)|(refine awp_ret ?_;simp;exact Bool.eq_iff_iff.2 (by simp;try omega))
theorem c_rlets5 (n:Node) (a b:Int) (ha:0≤a∧a≤1000) (hb:0≤b∧b≤1000) (hk:n.Kind=5):PureCall Tryz.prog 44 [n.av,I a,I b] (Bo (letsB n a b)):=by
 have w:IntKind.i64.wrap (a+b)=a+b:=wrap_in (by omega) (by omega);have w2:(a+b).tmod 2=(a+b) % 2:=Int.tmod_eq_emod_of_nonneg (by omega);unfold letsB;simp only[Node.av,Node.cells,hk,Int.reduceEq,if_false,if_true,reduceIte];refine PureCall.of_body Tryz.func44 rfl (by decide) (by simp[Tryz.ntmps44]) ?_;simp only[Tryz.ntmps44,Tryz.results44];refine aS fun K hK=>?_;simp -dsimp [w,w2];apply hK;clear hK K;refine awp_seq_k fun K1 hK1=>?_;refine aS fun K hK=>?_;simp -dsimp [w,w2];apply hK;clear hK K;refine awp_block ?_;refine aS fun K hK=>?_;simp -dsimp [w,w2];apply hK;clear hK K;refine awp_cond rfl (fun hc0=>?_) (fun hc0=>?_)
 ·refine aS fun K hK=>?_;simp -dsimp [w,w2];apply hK;clear hK K
  first|(exfalso;simp at hc0;done)|(exfalso;simp at hc1;done)|(exfalso;simp at hc2;done)|(exfalso;simp at hc3;done)|(exfalso;simp at hc4;done)|(refine awp_ret ?_;simp;done)|(refine awp_ret ?_;simp;exact Bool.eq_iff_iff.2 (by simp;try omega))
 ·refine aS fun K hK=>?_;simp -dsimp [w,w2];apply hK;clear hK K;refine awp_cond rfl (fun hc1=>?_) (fun hc1=>?_)
  ·refine aS fun K hK=>?_;simp -dsimp [w,w2];apply hK;clear hK K
   first|(exfalso;simp at hc0;done)|(exfalso;simp at hc1;done)|(exfalso;simp at hc2;done)|(exfalso;simp at hc3;done)|(exfalso;simp at hc4;done)|(refine awp_ret ?_;simp;done)|(refine awp_ret ?_;simp;exact Bool.eq_iff_iff.2 (by simp;try omega))
  ·refine aS fun K hK=>?_;simp -dsimp [w,w2];apply hK;clear hK K;refine awp_cond rfl (fun hc2=>?_) (fun hc2=>?_)
   ·refine aS fun K hK=>?_;simp -dsimp [w,w2];apply hK;clear hK K
    first|(exfalso;simp at hc0;done)|(exfalso;simp at hc1;done)|(exfalso;simp at hc2;done)|(exfalso;simp at hc3;done)|(exfalso;simp at hc4;done)|(refine awp_ret ?_;simp;done)|(refine awp_ret ?_;simp;exact Bool.eq_iff_iff.2 (by simp;try omega))
   ·refine aS fun K hK=>?_;simp -dsimp [w,w2];apply hK;clear hK K;refine awp_cond rfl (fun hc3=>?_) (fun hc3=>?_)
    ·refine aS fun K hK=>?_;simp -dsimp [w,w2];apply hK;clear hK K
     first|(exfalso;simp at hc0;done)|(exfalso;simp at hc1;done)|(exfalso;simp at hc2;done)|(exfalso;simp at hc3;done)|(exfalso;simp at hc4;done)|(refine awp_ret ?_;simp;done)|(refine awp_ret ?_;simp;exact Bool.eq_iff_iff.2 (by simp;try omega))
    ·refine aS fun K hK=>?_;simp -dsimp [w,w2];apply hK;clear hK K;refine awp_cond rfl (fun hc4=>?_) (fun hc4=>?_)
     ·refine aS fun K hK=>?_;simp -dsimp [w,w2];apply hK;clear hK K
      first|(exfalso;simp at hc0;done)|(exfalso;simp at hc1;done)|(exfalso;simp at hc2;done)|(exfalso;simp at hc3;done)|(exfalso;simp at hc4;done)|(refine awp_ret ?_;simp;done)|(refine awp_ret ?_;simp;exact Bool.eq_iff_iff.2 (by simp;try omega))
     ·refine awp_skip ?_;simp only[zT,reduceIte,Nat.reduceEqDiff];refine hK1 _ _ ?_;refine awp_prune [] ?_;simp only[zP,Nat.reduceEqDiff,reduceIte];refine aS fun K hK=>?_;simp -dsimp [w,w2];apply hK;clear hK K
      first|(exfalso;simp at hc0;done)|(exfalso;simp at hc1;done)|(exfalso;simp at hc2;done)|(exfalso;simp at hc3;done)|(exfalso;simp at hc4;done)|(refine awp_ret ?_;simp;done)|(refine awp_ret ?_;simp;exact Bool.eq_iff_iff.2 (by simp;try omega))
theorem c_rlets6 (n:Node) (a b:Int) (ha:0≤a∧a≤1000) (hb:0≤b∧b≤1000) (hk:n.Kind=6):PureCall Tryz.prog 44 [n.av,I a,I b] (Bo (letsB n a b)):=by
 have w:IntKind.i64.wrap (a+b)=a+b:=wrap_in (by omega) (by omega);have w2:(a+b).tmod 2=(a+b) % 2:=Int.tmod_eq_emod_of_nonneg (by omega);unfold letsB;simp only[Node.av,Node.cells,hk,Int.reduceEq,if_false,if_true,reduceIte];refine PureCall.of_body Tryz.func44 rfl (by decide) (by simp[Tryz.ntmps44]) ?_;simp only[Tryz.ntmps44,Tryz.results44];refine aS fun K hK=>?_;simp -dsimp [w,w2];apply hK;clear hK K;refine awp_seq_k fun K1 hK1=>?_;refine aS fun K hK=>?_;simp -dsimp [w,w2];apply hK;clear hK K;refine awp_block ?_;refine aS fun K hK=>?_;simp -dsimp [w,w2];apply hK;clear hK K;refine awp_cond rfl (fun hc0=>?_) (fun hc0=>?_)
 ·refine aS fun K hK=>?_;simp -dsimp [w,w2];apply hK;clear hK K
  first|(exfalso;simp at hc0;done)|(exfalso;simp at hc1;done)|(exfalso;simp at hc2;done)|(exfalso;simp at hc3;done)|(exfalso;simp at hc4;done)|(refine awp_ret ?_;simp;done)|(refine awp_ret ?_;simp;exact Bool.eq_iff_iff.2 (by simp;try omega))
 ·refine aS fun K hK=>?_;simp -dsimp [w,w2];apply hK;clear hK K;refine awp_cond rfl (fun hc1=>?_) (fun hc1=>?_)
  ·refine aS fun K hK=>?_;simp -dsimp [w,w2];apply hK;clear hK K
   first|(exfalso;simp at hc0;done)|(exfalso;simp at hc1;done)|(exfalso;simp at hc2;done)|(exfalso;simp at hc3;done)|(exfalso;simp at hc4;done)|(refine awp_ret ?_;simp;done)|(refine awp_ret ?_;simp;exact Bool.eq_iff_iff.2 (by simp;try omega))
  ·refine aS fun K hK=>?_;simp -dsimp [w,w2];apply hK;clear hK K;refine awp_cond rfl (fun hc2=>?_) (fun hc2=>?_)
   ·refine aS fun K hK=>?_;simp -dsimp [w,w2];apply hK;clear hK K
    first|(exfalso;simp at hc0;done)|(exfalso;simp at hc1;done)|(exfalso;simp at hc2;done)|(exfalso;simp at hc3;done)|(exfalso;simp at hc4;done)|(refine awp_ret ?_;simp;done)|(refine awp_ret ?_;simp;exact Bool.eq_iff_iff.2 (by simp;try omega))
   ·refine aS fun K hK=>?_;simp -dsimp [w,w2];apply hK;clear hK K;refine awp_cond rfl (fun hc3=>?_) (fun hc3=>?_)
    ·refine aS fun K hK=>?_;simp -dsimp [w,w2];apply hK;clear hK K
     first|(exfalso;simp at hc0;done)|(exfalso;simp at hc1;done)|(exfalso;simp at hc2;done)|(exfalso;simp at hc3;done)|(exfalso;simp at hc4;done)|(refine awp_ret ?_;simp;done)|(refine awp_ret ?_;simp;exact Bool.eq_iff_iff.2 (by simp;try omega))
    ·refine aS fun K hK=>?_;simp -dsimp [w,w2];apply hK;clear hK K;refine awp_cond rfl (fun hc4=>?_) (fun hc4=>?_)
     ·refine aS fun K hK=>?_;simp -dsimp [w,w2];apply hK;clear hK K
      first|(exfalso;simp at hc0;done)|(exfalso;simp at hc1;done)|(exfalso;simp at hc2;done)|(exfalso;simp at hc3;done)|(exfalso;simp at hc4;done)|(refine awp_ret ?_;simp;done)|(refine awp_ret ?_;simp;exact Bool.eq_iff_iff.2 (by simp;try omega))
     ·refine awp_skip ?_;simp only[zT,reduceIte,Nat.reduceEqDiff];refine hK1 _ _ ?_;refine awp_prune [] ?_;simp only[zP,Nat.reduceEqDiff,reduceIte];refine aS fun K hK=>?_;simp -dsimp [w,w2];apply hK;clear hK K
      first|(exfalso;simp at hc0;done)|(exfalso;simp at hc1;done)|(exfalso;simp at hc2;done)|(exfalso;simp at hc3;done)|(exfalso;simp at hc4;done)|(refine awp_ret ?_;simp;done)|(refine awp_ret ?_;simp;exact Bool.eq_iff_iff.2 (by simp;try omega))
theorem c_rlets (n:Node) (a b:Int) (ha:0≤a∧a≤1000) (hb:0≤b∧b≤1000) (hk:1≤n.Kind∧n.Kind≤6):PureCall Tryz.prog 44 [n.av,I a,I b] (Bo (letsB n a b)):=by
 have:n.Kind=1∨n.Kind=2∨n.Kind=3∨n.Kind=4∨n.Kind=5∨n.Kind=6:=by omega
 rcases this with h|h|h|h|h|h
 ·exact c_rlets1 n a b ha hb h
 ·exact c_rlets2 n a b ha hb h
 ·exact c_rlets3 n a b ha hb h
 ·exact c_rlets4 n a b ha hb h
 ·exact c_rlets5 n a b ha hb h
 ·exact c_rlets6 n a b ha hb h
theorem idxTo_bd (e:REnd):∀(l:List REnd) (i:Int),0≤i→ -1≤idxTo e l i∧idxTo e l i≤i+l.length
 |[],i,h=>by simp[idxTo];omega
 |x::l,i,h=>by
  have:=idxTo_bd e l (i+1) (by omega);simp only[idxTo]
  split<;>simp<;>omega
theorem idxE_bd (n:Node) (e:REnd):-1≤idxE n e∧idxE n e≤n.Ends.length:=by
 have:=idxTo_bd e n.Ends 0 (by omega);unfold idxE;omega
theorem c_rFollows (p:Plan) (m k:Move) (hv:validB p=true) (hm:movB p m=true):PureCall Tryz.prog 21 [p.av,m.av,k.av] (Bo (rFoll p m k)):=by
 have hm':=movB_iff.1 hm;have ha:=at_in hv (e:=arrE m) hm'.1 hm'.2;have hnode:=p.node_get ha.1 ha.2;have hnf:=node_kind (node_fine hv ha.1 ha.2);have hca:=c_at p (arrE m) hm'.1 hm'.2;have hna:p.node (p.at (arrE m))=nodeAt p m:=rfl;rw[hna]at hnode hnf;have hi1:=c_index (nodeAt p m) (arrE m) (by omega);have hi2:=c_index (nodeAt p m) (leaE k) (by omega);have hb1:=idxE_bd (nodeAt p m) (arrE m);have hb2:=idxE_bd (nodeAt p m) (leaE k);have hlt:=fun h1 h2=>c_rlets (nodeAt p m) (idxE (nodeAt p m) (arrE m)) (idxE (nodeAt p m) (leaE k)) ⟨h1,by omega⟩ ⟨h2,by omega⟩ hnf.1;have hrf:rFoll p m k=(decide (0≤idxE (nodeAt p m) (arrE m))&&(decide (0≤idxE (nodeAt p m) (leaE k))&&letsB (nodeAt p m) (idxE (nodeAt p m) (arrE m)) (idxE (nodeAt p m) (leaE k)))):=rfl;rw[hrf];generalize letsB (nodeAt p m) (idxE (nodeAt p m) (arrE m)) (idxE (nodeAt p m) (leaE k))=lt at hlt ⊢;generalize nodeAt p m=n at*
 refine PureCall.of_body Tryz.func21 rfl (by decide) (by simp[Tryz.ntmps21]) ?_;simp only[Tryz.ntmps21,Tryz.results21];refine aS fun K hK=>?_;simp -dsimp;apply hK;clear hK K;refine awp_sd mixed rfl fun K hK=>?_;simp -dsimp;refine callK_intro _ (c_rarr m) (by simp) ?_;simp -dsimp;refine callK_intro _ (hca) (by simp) ?_;simp -dsimp;refine hK _ _ _ (by decide+kernel) ?_;clear hK K;refine aS fun K hK=>?_;simp -dsimp [hnode,ha.1];apply hK;clear hK K;refine awp_sd mixed rfl fun K hK=>?_;simp -dsimp;refine callK_intro _ (c_rarr m) (by simp) ?_;simp -dsimp;refine callK_intro _ (hi1) (by simp) ?_;simp -dsimp;refine callK_intro _ (c_rlea k) (by simp) ?_;simp -dsimp;refine callK_intro _ (hi2) (by simp) ?_;simp -dsimp;refine hK _ _ _ (by decide+kernel) ?_;clear hK K;refine aS fun K hK=>?_;simp -dsimp;refine callK_may _ (fun hm=>hlt (by simp at hm;exact hm.1) (by simp at hm;exact hm.2)) (by simp) ?_;simp -dsimp;apply hK;clear hK K;exact awp_ret (by simp[Bool.and_assoc])
structure Setg where
 Node:Int
 Leg:Int
 deriving DecidableEq,Inhabited
@[simp] def Setg.cells (s:Setg):List AV:=[I s.Node,I s.Leg]
end Go.Tram
end
section
namespace Go.Tram
open Go.AM Go.Proofs
def smallB (p:Plan):Bool:=(p.Nodes.all (fun n=>decide (n.Ends.length≤8))&&p.Rails.all (fun r=>decide (r.Shape.length≤40)))&&
 !((decide (12<p.Nodes.length)&&decide (p.Nodes.length≤300))||((decide (14<p.Rails.length)&&decide (p.Rails.length≤400))||(decide (400<p.Nodes.length)||decide (500<p.Rails.length))))
def fineB (p:Plan) (m n:Move):Bool:=smallB p&&(validB p&&(movB p m&&movB p n))
end Go.Tram
end
section
namespace Go.Tram
open Go.AM Go.Proofs
theorem c_rWay (p:Plan) (l:List Move) (hv:validB p=true) (hn:l.length≤100000):PureCall Tryz.prog 7 [p.av,mLst l] (Bo (wayB p l)):=by
 have hR:=(valid_parts hv).2.1;have hmo:=fun m=>c_rMove p m (by omega);have hfol:∀m k,movB p m=true→movB p k=true→PureCall Tryz.prog 21 [p.av,m.av,k.av] (Bo (follB p m k)):=fun m k h1 h2=>by rw[foll_eq hv h1 h2];exact c_rFollows p m k hv h1
 refine PureCall.of_body Tryz.func7 rfl (by decide) (by simp[Tryz.ntmps7]) ?_;simp only[Tryz.ntmps7,Tryz.results7];refine aS fun K hK=>?_;simp -dsimp;apply hK;clear hK K;refine awp_seq_k fun K1 hK1=>?_;refine aS fun K hK=>?_;simp -dsimp;apply hK;clear hK K;refine awp_block ?_;refine awp_prune [1,2,5] ?_;simp only[zP,Nat.reduceEqDiff,reduceIte];refine awp_loop_l [1,2] (α:=Nat) (fun i=>[(5,I i)]) (fun i=>[some (.els 2 [p.cells])]) (fun i=>i≤l.length∧(List.range i).all (stepB p l)=true) (fun i=>l.length-i) 0 ?_ ?_ ?_
 ·simp
 ·exact sub_same (by simp)
 rintro i ⟨i1,i2⟩;simp only[zP,Nat.reduceEqDiff,reduceIte];refine awp_seq_k fun K2 hK2=>?_;refine aS fun K hK=>?_;simp -dsimp;apply hK;clear hK K;refine awp_cond rfl (fun hc0=>?_) (fun hc0=>?_)
 ·skip
  try simp at hc0
  obtain⟨m,hgm⟩:∃m,l[i]?=some m:=⟨_,List.getElem?_eq_getElem hc0⟩;have wi:=zW i (by omega);have w1:IntKind.i64.wrap ((i:Int)-1)=(i:Int)-1:=wrap_in (by omega) (by omega);have hprev:0<i→l[i-1]?=some (l[i-1]?.getD default):=fun h=>by rw[List.getElem?_eq_getElem (by omega)];rfl
  have hpm:0<i→movB p (l[i-1]?.getD default)=true:=fun h=>(Bool.and_eq_true_iff.1 (allR_at i2 (show i-1<i by omega))).1;have hst:stepB p l i=(movB p m&&(decide (i=0)||follB p (l[i-1]?.getD default) m)):=by unfold stepB;rw[hgm];rfl
  generalize l[i-1]?.getD default=m' at hprev hpm hst;refine awp_skip ?_;simp only[zT,reduceIte,Nat.reduceEqDiff];refine hK2 _ _ ?_;refine awp_prune [1,2,5] ?_;simp only[zP,Nat.reduceEqDiff,reduceIte];refine awp_seq_k fun K3 hK3=>?_;refine awp_block ?_;refine awp_sd mixed rfl fun K hK=>?_;simp -dsimp [hgm,w1];refine callK_intro _ (hmo m) (by simp) ?_;simp -dsimp [hgm,w1];refine⟨fun _ h=>by omega,?_⟩
  try simp -dsimp
  refine idxK_intro m'.cells (fun hq=>by simp at hq;rw[List.getElem?_map,hprev hq.2];rfl) ?_;simp -dsimp [hgm,w1];refine idxK_intro m.cells (fun _=>by rw[List.getElem?_map,hgm];rfl) ?_;simp -dsimp [hgm,w1];refine callK_may _ (fun hm=>(hfol m' m (hpm (by simp at hm;exact hm.2)) (by simp at hm;exact hm.1))) (by simp) ?_;simp -dsimp [hgm,w1];refine hK _ _ _ (by decide+kernel) ?_;clear hK K;refine awp_cond rfl (fun hc1=>?_) (fun hc1=>?_)
  ·rw[step_neg,←hst]at hc1;have hsf:stepB p l i=false:=by simpa using hc1
   have hb:wayB p l=false:=by unfold wayB;rw[show(List.range l.length).all (stepB p l)=false from by rw[List.all_eq_false];exact⟨i,List.mem_range.2 hc0,by simp[hsf]⟩];rfl
   refine aS fun K hK=>?_;simp -dsimp;apply hK;clear hK K;exact awp_ret (by simp[hb])
  ·rw[step_neg,←hst]at hc1;have hst1:stepB p l i=true:=by simpa using hc1
   refine awp_skip ?_;simp only[zT,reduceIte,Nat.reduceEqDiff];refine hK3 _ _ ?_;refine awp_prune [1,2,5] ?_;simp only[zP,Nat.reduceEqDiff,reduceIte];refine aR fun K hK=>?_;simp -dsimp [wi];apply hK;clear hK K;simp only[zT,reduceIte,Nat.reduceEqDiff];exact⟨i+1,⟨by omega,by rw[allR_succ,i2,hst1];rfl⟩,by omega,sub_rb [some 0] rfl (by simp) (by simp)⟩
 ·skip
  try simp at hc0
  have hie:i=l.length:=by omega
  subst hie;refine awp_exit ?_;simp only[zT,reduceIte,Nat.reduceEqDiff];refine hK1 _ _ ?_;refine awp_prune [1] ?_;simp only[zP,Nat.reduceEqDiff,reduceIte];refine aS fun K hK=>?_;simp -dsimp;refine callK_intro _ (c_in l.length 1 2000) (by simp) ?_;simp -dsimp;apply hK;clear hK K;exact awp_ret (by simp[wayB,i2])
end Go.Tram
end
section
namespace Go.Tram
open Go.AM Go.Proofs
attribute [-simp] minI maxI
end Go.Tram
end
section
namespace Go.Tram
open Go.AM Go.Proofs
theorem c_rLength (p:Plan) (r:Int) (h0:0≤r) (h1:r<p.Rails.length) (ro:RailOk p r):PureCall Tryz.prog 18 [p.av,I r] (I (p.len r)):=
 c_Length p r h0 h1 ro.f ro.t (by have:=ro.s;omega) ro.spots
end Go.Tram
end
section
namespace Go.Tram
open Go.AM Go.Proofs
theorem c_rWayLength (p:Plan) (l:List Move) (hv:validB p=true) (hw:wayB p l=true):PureCall Tryz.prog 15 [p.av,mLst l] (I (begTo p l l.length)):=by
 have hl:=way_len hw;refine PureCall.of_body Tryz.func15 rfl (by decide) (by simp[Tryz.ntmps15]) ?_;simp only[Tryz.ntmps15,Tryz.results15];refine aS fun K hK=>?_;simp -dsimp;apply hK;clear hK K;refine aS fun K hK=>?_;simp -dsimp;apply hK;clear hK K;refine awp_seq_k fun K1 hK1=>?_;refine aS fun K hK=>?_;simp -dsimp;apply hK;clear hK K;refine awp_block ?_;refine awp_prune [1,2,5,6] ?_;simp only[zP,Nat.reduceEqDiff,reduceIte];refine awp_loop_l [1,2] (α:=Nat) (fun i=>[(6,I i),(5,I (begTo p l i))]) (fun i=>[some (.els 2 [p.cells])]) (fun i=>i≤l.length) (fun i=>l.length-i) 0 ?_ ?_ ?_
 ·simp
 ·exact sub_same (by simp[begTo])
 rintro i i1;simp only[zP,Nat.reduceEqDiff,reduceIte];refine awp_seq_k fun K2 hK2=>?_;refine aS fun K hK=>?_;simp -dsimp;apply hK;clear hK K;refine awp_cond rfl (fun hc0=>?_) (fun hc0=>?_)
 ·skip
  try simp at hc0
  obtain⟨m,hgm⟩:∃m,l[i]?=some m:=⟨_,List.getElem?_eq_getElem hc0⟩;have wi:=zW i (by omega);have hma:mvAt l i=m:=by simp[mvAt,hgm]
  have hmv:=way_mov hw i hc0;have hb1:=begTo_bd hv hw (i+1) (by omega);have hbs:begTo p l (i+1)=begTo p l i+p.len m.Rail:=by simp only[begTo];rw[hma]
  rw[hma]at hmv;have hmr:=movB_iff.1 hmv;have ro:=rail_ok hv hmr.1 hmr.2;have ws:IntKind.i64.wrap (begTo p l i+p.len m.Rail)=begTo p l (i+1):=by rw[←hbs];exact wrap_in (by omega) (by omega)
  refine awp_skip ?_;simp only[zT,reduceIte,Nat.reduceEqDiff];refine hK2 _ _ ?_;refine awp_prune [1,2,5,6] ?_;simp only[zP,Nat.reduceEqDiff,reduceIte];refine awp_seq_k fun K3 hK3=>?_;refine awp_block ?_;refine awp_draw mixed rfl fun K hK=>?_;simp -dsimp [hgm,ws];refine callK_intro _ (c_rLength p m.Rail hmr.1 hmr.2 ro) (by simp) ?_;simp -dsimp [hgm,ws];refine hK _ _ _ (by decide+kernel) ?_;clear hK K;simp only[zT,reduceIte,Nat.reduceEqDiff];refine hK3 _ _ ?_;refine awp_prune [1,2,5,6] ?_;simp only[zP,Nat.reduceEqDiff,reduceIte];refine aR fun K hK=>?_;simp -dsimp [wi];apply hK;clear hK K;simp only[zT,reduceIte,Nat.reduceEqDiff];exact⟨i+1,by omega,by omega,sub_same (by simp)⟩
 ·skip
  try simp at hc0
  have hie:i=l.length:=by omega
  subst hie;refine awp_exit ?_;simp only[zT,reduceIte,Nat.reduceEqDiff];refine hK1 _ _ ?_;refine awp_prune [5] ?_;simp only[zP,Nat.reduceEqDiff,reduceIte];refine aS fun K hK=>?_;simp -dsimp;apply hK;clear hK K;exact awp_ret (by simp)
end Go.Tram
end
section
namespace Go.Mo
open Go.AM Go.Cur Go.Proofs
open Go.Tram (Plan validB wayB begTo mvAt movB mLst begTo_bd way_mov way_len len_bd movB_iff c_Valid c_rWay c_rWayLength valid_parts)
theorem c_in3 (x lo hi:Int):PureCall Tryz.prog 23 [I x,I lo,I hi] (Bo (inr x lo hi)):=by
 refine PureCall.of_body Tryz.func23 rfl (by decide) (by simp[Tryz.ntmps23]) ?_;simp only[Tryz.ntmps23,Tryz.results23];refine aS fun K hK=>?_;simp -dsimp;apply hK;clear hK K;refine aS fun K hK=>?_;simp -dsimp;apply hK;clear hK K;exact awp_ret (by simp[inr])
theorem c_rTrain (t:Tn):PureCall Tryz.prog 8 [t.av] (Bo (okT t)):=by
 refine PureCall.of_body Tryz.func8 rfl (by decide) (by simp[Tryz.ntmps8]) ?_;simp only[Tryz.ntmps8,Tryz.results8];refine aS fun K hK=>?_;simp -dsimp;apply hK;clear hK K;refine awp_seq_k fun K1 hK1=>?_;refine aS fun K hK=>?_;simp -dsimp;refine callK_intro _ (c_in3 t.Mass 1000 80000) (by simp) ?_;simp -dsimp;refine callK_may _ (fun hm=>c_in3 t.Length 1 60000) (by simp) ?_;simp -dsimp;refine callK_may _ (fun hm=>c_in3 t.Speed 1 25000) (by simp) ?_;simp -dsimp;refine callK_may _ (fun hm=>c_in3 t.Effort 1 200000) (by simp) ?_;simp -dsimp;refine callK_may _ (fun hm=>c_in3 t.Brake 1 200000) (by simp) ?_;simp -dsimp;refine callK_may _ (fun hm=>c_in3 t.Power 1 2000000) (by simp) ?_;simp -dsimp;refine callK_may _ (fun hm=>c_in3 t.Resist 0 100000) (by simp) ?_;simp -dsimp;refine callK_may _ (fun hm=>c_in3 t.Rise 0 10000) (by simp) ?_;simp -dsimp;refine callK_may _ (fun hm=>c_in3 t.Back 0 100) (by simp) ?_;simp -dsimp;refine callK_may _ (fun hm=>c_in3 t.Grip.length 1 8) (by simp) ?_;simp -dsimp;apply hK;clear hK K;refine awp_cond rfl (fun hc0=>?_) (fun hc0=>?_)
 ·refine aS fun K hK=>?_;simp -dsimp;apply hK;clear hK K;have h0:okT t=false:=by
   simp only[okT];generalize inr t.Mass 1000 80000=b1 at*
   generalize inr t.Length 1 60000=b2 at*
   generalize inr t.Speed 1 25000=b3 at*
   generalize inr t.Effort 1 200000=b4 at*
   generalize inr t.Brake 1 200000=b5 at*
   generalize inr t.Power 1 2000000=b6 at*
   generalize inr t.Resist 0 100000=b7 at*
   generalize inr t.Rise 0 10000=b8 at*
   generalize inr t.Back 0 100=b9 at*
   generalize inr t.Grip.length 1 8=b10 at*
   revert hc0;cases b1<;>cases b2<;>cases b3<;>cases b4<;>cases b5<;>cases b6<;>cases b7<;>cases b8<;>cases b9<;>cases b10<;>simp
  exact awp_ret (by simp[h0])
 ·have hoh:(okT t=t.Grip.all fun x=>inr x 1 1000)∧inr t.Grip.length 1 8=true:=by
   simp only[okT];generalize inr t.Mass 1000 80000=b1 at*
   generalize inr t.Length 1 60000=b2 at*
   generalize inr t.Speed 1 25000=b3 at*
   generalize inr t.Effort 1 200000=b4 at*
   generalize inr t.Brake 1 200000=b5 at*
   generalize inr t.Power 1 2000000=b6 at*
   generalize inr t.Resist 0 100000=b7 at*
   generalize inr t.Rise 0 10000=b8 at*
   generalize inr t.Back 0 100=b9 at*
   generalize inr t.Grip.length 1 8=b10 at*
   revert hc0;cases b1<;>cases b2<;>cases b3<;>cases b4<;>cases b5<;>cases b6<;>cases b7<;>cases b8<;>cases b9<;>cases b10<;>simp
  obtain⟨ho,hn8⟩:=hoh;have hn:=(inr_iff.1 hn8).2;refine awp_skip ?_;simp only[zT,reduceIte,Nat.reduceEqDiff];refine hK1 _ _ ?_;refine awp_prune [1] ?_;simp only[zP,Nat.reduceEqDiff,reduceIte];refine awp_seq_k fun K2 hK2=>?_;refine aS fun K hK=>?_;simp -dsimp;apply hK;clear hK K;refine awp_block ?_;refine awp_prune [1,3] ?_;simp only[zP,Nat.reduceEqDiff,reduceIte];refine awp_loop_l [1] (α:=Nat) (fun k=>[(3,I k)]) (fun _=>[some (.els 10 [t.cells])]) (fun k=>k≤t.Grip.length∧(t.Grip.take k).all (fun x=>inr x 1 1000)=true) (fun k=>t.Grip.length-k) 0 ?_ ?_ ?_
  ·exact⟨Nat.zero_le _,by simp⟩
  ·exact sub_rb [some 0] rfl (by simp) (by simp)
  rintro k ⟨k1,k2⟩;simp only[zP,Nat.reduceEqDiff,reduceIte];refine awp_seq_k fun K3 hK3=>?_;refine aS fun K hK=>?_;simp -dsimp;apply hK;clear hK K;refine awp_cond rfl (fun hc1=>?_) (fun hc1=>?_)
  ·have hkl:k<t.Grip.length:=by simpa using hc1
   have wk:=zW k (by omega);have gk:=at0_nat hkl;refine awp_skip ?_;simp only[zT,reduceIte,Nat.reduceEqDiff];refine hK3 _ _ ?_;refine awp_prune [1,3] ?_;simp only[zP,Nat.reduceEqDiff,reduceIte];refine awp_seq_k fun K4 hK4=>?_;refine awp_block ?_;refine aS fun K hK=>?_;simp -dsimp [gk];refine callK_intro _ (c_in3 (at0 t.Grip k) 1 1000) (by simp) ?_;simp -dsimp [gk];apply hK;clear hK K;refine awp_cond rfl (fun hc2=>?_) (fun hc2=>?_)
   ·have hb:inr (at0 t.Grip k) 1 1000=false:=by simpa using hc2
    have h0:okT t=false:=by rw[ho,List.all_eq_false];exact⟨_,List.mem_of_getElem? gk,by simp[hb]⟩
    refine aS fun K hK=>?_;simp -dsimp;apply hK;clear hK K;exact awp_ret (by simp[h0])
   ·have hb:inr (at0 t.Grip k) 1 1000=true:=by simpa using hc2
    refine awp_skip ?_;simp only[zT,reduceIte,Nat.reduceEqDiff];refine hK4 _ _ ?_;refine awp_prune [1,3] ?_;simp only[zP,Nat.reduceEqDiff,reduceIte];refine aR fun K hK=>?_;simp -dsimp [wk];apply hK;clear hK K;simp only[zT,reduceIte,Nat.reduceEqDiff];exact⟨k+1,⟨by omega,by rw[List.take_add_one,gk,List.all_append,k2];simp[hb]⟩,by omega,sub_rb [some 0] rfl (by simp) (by simp)⟩
  ·have hkl:¬k<t.Grip.length:=by simpa using hc1
   rw[List.take_of_length_le (by omega)]at k2;refine awp_exit ?_;simp only[zT,reduceIte,Nat.reduceEqDiff];refine hK2 _ _ ?_;refine awp_prune [] ?_;simp only[zP,Nat.reduceEqDiff,reduceIte];refine aS fun K hK=>?_;simp -dsimp;apply hK;clear hK K;exact awp_ret (by simp[ho,k2])
end Go.Mo
end
section
namespace Go.Mo
open Go.AM Go.Cur Go.Proofs
open Go.Tram (Plan validB wayB begTo mvAt movB mLst begTo_bd way_mov way_len len_bd movB_iff c_Valid c_rWay c_rWayLength valid_parts)
def upB (sp:List Int):Bool:=(List.range (sp.length-1)).all fun k=> !decide (at0 sp (k+1:Nat)≤at0 sp k)
def stpB (p:Plan) (l:List Mv) (t:Tn) (st:Int) (sp:List Int):Bool:=validB p&&(wayB p l&&(okT t&&(inr st 0 (t.Grip.length-1)&&(inr sp.length 2 100&&(!decide (at0 sp 0<t.Length)&&(upB sp&&decide (at0 sp (sp.length-1)≤begTo p l l.length)))))))
theorem stpB_ok {p:Plan} {l:List Mv} {t:Tn} {st:Int} {sp:List Int} (h:stpB p l t st sp=true):BegOk p l t st sp:=by
 unfold stpB upB at h;simp only[Bool.and_eq_true,inr_iff,Bool.not_eq_true',decide_eq_true_eq,decide_eq_false_iff_not,List.all_eq_true,List.mem_range]at h;obtain⟨h1,h2,h3,h4,h5,h6,h7,h8⟩:=h;exact⟨h3,by omega,by omega,h1,h2,by omega,by omega,h8,fun i hi=>by have:=h7 i (by omega);omega⟩
theorem c_rStops (p:Plan) (l:List Mv) (t:Tn) (st:Int) (sp:List Int) (hl:l.length≤100000) (hg:t.Grip.length≤maxLen) (hs:sp.length≤maxLen):PureCall Tryz.prog 14 [p.av,mLst l,t.av,I st,iL sp] (Bo (stpB p l t st sp)):=by
 have hml:maxLen=9223372036854775807:=rfl;rw[hml]at hg hs;have hva:=c_Valid p;have hwy:=fun h=>c_rWay p l h hl;have htr:=c_rTrain t;have wg:IntKind.i64.wrap ((t.Grip.length:Int)-1)=(t.Grip.length:Int)-1:=wrap_in (by omega) (by omega);refine PureCall.of_body Tryz.func14 rfl (by decide) (by simp[Tryz.ntmps14]) ?_;simp only[Tryz.ntmps14,Tryz.results14];refine aS fun K hK=>?_;simp -dsimp;apply hK;clear hK K;refine awp_seq_k fun K1 hK1=>?_;refine awp_sd mixed rfl fun K hK=>?_;simp -dsimp [wg];refine callK_intro _ (hva) (by simp) ?_;simp -dsimp [wg];refine callK_may _ (fun hm=>(hwy (by simpa using hm))) (by simp) ?_;simp -dsimp [wg];refine callK_may _ (fun hm=>htr) (by simp) ?_;simp -dsimp [wg];refine callK_may _ (fun hm=>c_in3 st 0 ((t.Grip.length:Int)-1)) (by simp) ?_;simp -dsimp [wg];refine callK_may _ (fun hm=>c_in3 (sp.length:Int) 2 100) (by simp) ?_;simp -dsimp [wg];refine idxK_intro (nCell (at0 sp 0)) (fun hm=>by simp at hm;have h2:=inr_iff.1 hm.2;have g0:sp[0]?=some (at0 sp 0):=at0_nat (l:=sp) (k:=0) (by omega);simp[g0]) ?_;simp -dsimp [wg];refine hK _ _ _ (by decide+kernel) ?_;clear hK K;refine awp_cond rfl (fun hc0=>?_) (fun hc0=>?_)
 ·refine aS fun K hK=>?_;simp -dsimp;apply hK;clear hK K;have h0:stpB p l t st sp=false:=by
   unfold stpB;generalize validB p=b1 at*
   generalize wayB p l=b2 at*
   generalize okT t=b3 at*
   generalize inr st 0 (t.Grip.length-1)=b4 at*
   generalize inr (sp.length:Int) 2 100=b5 at*
   generalize decide (at0 sp 0<t.Length)=b6 at*
   generalize (upB sp&&decide (at0 sp (sp.length-1)≤begTo p l l.length))=b7 at*
   revert hc0;clear hva hwy htr;cases b1<;>cases b2<;>cases b3<;>cases b4<;>cases b5<;>cases b6<;>cases b7<;>simp
  exact awp_ret (by simp[h0])
 ·have hcond:(validB p=true∧wayB p l=true)∧(inr (sp.length:Int) 2 100=true∧stpB p l t st sp=(upB sp&&decide (at0 sp (sp.length-1)≤begTo p l l.length))):=by
   unfold stpB;generalize validB p=b1 at*
   generalize wayB p l=b2 at*
   generalize okT t=b3 at*
   generalize inr st 0 (t.Grip.length-1)=b4 at*
   generalize inr (sp.length:Int) 2 100=b5 at*
   generalize decide (at0 sp 0<t.Length)=b6 at*
   generalize (upB sp&&decide (at0 sp (sp.length-1)≤begTo p l l.length))=b7 at*
   revert hc0;clear hva hwy htr;cases b1<;>cases b2<;>cases b3<;>cases b4<;>cases b5<;>cases b6<;>cases b7<;>simp
  obtain⟨⟨hv,hw⟩,hn,hst⟩:=hcond;have hn2:=inr_iff.1 hn;have hrl:=c_rWayLength p l hv hw;refine awp_skip ?_;simp only[zT,reduceIte,Nat.reduceEqDiff];refine hK1 _ _ ?_;refine awp_prune [1,4,5] ?_;simp only[zP,Nat.reduceEqDiff,reduceIte];refine awp_seq_k fun K2 hK2=>?_;refine aS fun K hK=>?_;simp -dsimp;apply hK;clear hK K;refine awp_block ?_;refine awp_prune [1,4,5,11] ?_;simp only[zP,Nat.reduceEqDiff,reduceIte];refine awp_loop_l [1,4,5] (α:=Nat) (fun k=>[(11,I ((k:Int)+1))]) (fun _=>[some (.els 2 [p.cells]),some (.els 10 [t.cells])]) (fun k=>k+1≤sp.length∧(List.range k).all (fun k=> !decide (at0 sp (k+1:Nat)≤at0 sp k))=true) (fun k=>sp.length-k) 0 ?_ ?_ ?_
  ·exact⟨by omega,rfl⟩
  ·exact sub_rb [some 0,some 1] rfl (by simp) (by simp)
  rintro k ⟨k1,k2⟩;simp only[zP,Nat.reduceEqDiff,reduceIte];refine awp_seq_k fun K3 hK3=>?_;refine aS fun K hK=>?_;simp -dsimp;apply hK;clear hK K;refine awp_cond rfl (fun hc1=>?_) (fun hc1=>?_)
  ·have hkl:k+1<sp.length:=by have h:=(by simpa using hc1:(k:Int)+1<sp.length);omega
   have wk:IntKind.i64.wrap (k:Int)=k:=wrap_in (by omega) (by omega);have k0:(0:Int)≤(k:Int)+1:=by omega
   have wk2:IntKind.i64.wrap ((k:Int)+1+1)=(k:Int)+1+1:=wrap_in (by omega) (by omega);have gk:=at0_nat (l:=sp) (k:=k) (by omega);have gk1:=at0_nat (l:=sp) (k:=k+1) hkl;refine awp_skip ?_;simp only[zT,reduceIte,Nat.reduceEqDiff];refine hK3 _ _ ?_;refine awp_prune [1,4,5,11] ?_;simp only[zP,Nat.reduceEqDiff,reduceIte];refine awp_seq_k fun K4 hK4=>?_;refine awp_block ?_;refine awp_sd mixed rfl fun K hK=>?_;simp -dsimp [wk,k0,gk,gk1];refine hK _ _ _ (by decide+kernel) ?_;clear hK K;refine awp_cond rfl (fun hc2=>?_) (fun hc2=>?_)
   ·have hle:at0 sp (k+1:Nat)≤at0 sp k:=by simpa using hc2
    have hup:upB sp=false:=by unfold upB;rw[List.all_eq_false];exact⟨k,List.mem_range.2 (by omega),by simpa using hle⟩
    refine aS fun K hK=>?_;simp -dsimp;apply hK;clear hK K;exact awp_ret (by simp[hst,hup])
   ·have hle:¬at0 sp (k+1:Nat)≤at0 sp k:=by simpa using hc2
    refine awp_skip ?_;simp only[zT,reduceIte,Nat.reduceEqDiff];refine hK4 _ _ ?_;refine awp_prune [1,4,5,11] ?_;simp only[zP,Nat.reduceEqDiff,reduceIte];refine aR fun K hK=>?_;simp -dsimp [wk2];apply hK;clear hK K;simp only[zT,reduceIte,Nat.reduceEqDiff];exact⟨k+1,⟨by omega,by rw[List.range_succ,List.all_append,k2];simpa using hle⟩,by omega,sub_rb [some 0,some 1] rfl (by simp) (by simp)⟩
  ·have hkl:k=sp.length-1:=by have h:¬(k:Int)+1<sp.length:=(by simpa using hc1);omega
   have hup:upB sp=true:=by unfold upB;rw[←hkl];exact k2
   have gz:=at0_nat (l:=sp) (k:=sp.length-1) (by omega);have ez:((sp.length-1:Nat):Int)=(sp.length:Int)-1:=by omega
   rw[ez]at gz;have l1:(1:Int)≤sp.length:=by omega
   have wz:IntKind.i64.wrap ((sp.length:Int)-1)=(sp.length:Int)-1:=wrap_in (by omega) (by omega);refine awp_exit ?_;simp only[zT,reduceIte,Nat.reduceEqDiff];refine hK2 _ _ ?_;refine awp_prune [1,4,5] ?_;simp only[zP,Nat.reduceEqDiff,reduceIte];refine awp_sd mixed rfl fun K hK=>?_;simp -dsimp [wz,l1,gz];refine callK_intro _ (hrl) (by simp) ?_;simp -dsimp [wz,l1,gz];refine hK _ _ _ (by decide+kernel) ?_;clear hK K;exact awp_ret (by simp[hst,hup])
def brfB (p:Plan):Bool:=decide (p.Rails.length≤12)&&(decide (p.Nodes.length≤16)&&((p.Nodes.all fun n=>decide (n.Ends.length≤10))&&validB p))
theorem c_brief9 (p:Plan):PureCall Tryz.prog 6 [p.av] (Bo (brfB p)):=by
 have hva:=c_Valid p;have e1:decide (p.Rails.length≤12)= !decide ((12:Int)<p.Rails.length):=by rw[←decide_not];exact decide_eq_decide.2 (by omega)
 have e2:decide (p.Nodes.length≤16)= !decide ((16:Int)<p.Nodes.length):=by rw[←decide_not];exact decide_eq_decide.2 (by omega)
 unfold brfB;rw[e1,e2];refine PureCall.of_body Tryz.func6 rfl (by decide) (by simp[Tryz.ntmps6]) ?_;simp only[Tryz.ntmps6,Tryz.results6];refine aS fun K hK=>?_;simp -dsimp;apply hK;clear hK K;refine awp_seq_k fun K1 hK1=>?_;refine aS fun K hK=>?_;simp -dsimp;apply hK;clear hK K;refine awp_cond rfl (fun hc0=>?_) (fun hc0=>?_)
 ·refine aS fun K hK=>?_;simp -dsimp;apply hK;clear hK K;refine awp_ret ?_;generalize decide ((12:Int)<p.Rails.length)=b1 at*
  generalize decide ((16:Int)<p.Nodes.length)=b2 at*
  cases b1<;>cases b2<;>simp at hc0 ⊢
 ·have hcc:decide ((12:Int)<p.Rails.length)=false∧decide ((16:Int)<p.Nodes.length)=false:=by
   generalize decide ((12:Int)<p.Rails.length)=b1 at*
   generalize decide ((16:Int)<p.Nodes.length)=b2 at*
   revert hc0;clear hva;cases b1<;>cases b2<;>simp
  have hN:p.Nodes.length≤16:=by have:=hcc.2;simp at this;omega
  refine awp_skip ?_;simp only[zT,reduceIte,Nat.reduceEqDiff];refine hK1 _ _ ?_;refine awp_prune [1] ?_;simp only[zP,Nat.reduceEqDiff,reduceIte];refine awp_seq_k fun K2 hK2=>?_;refine aS fun K hK=>?_;simp -dsimp;apply hK;clear hK K;refine awp_block ?_;refine awp_prune [1,3] ?_;simp only[zP,Nat.reduceEqDiff,reduceIte];refine awp_loop_l [1] (α:=Nat) (fun k=>[(3,I k)]) (fun _=>[some (.els 2 [p.cells])]) (fun k=>k≤p.Nodes.length∧(p.Nodes.take k).all (fun n=>decide (n.Ends.length≤10))=true) (fun k=>p.Nodes.length-k) 0 ?_ ?_ ?_
  ·exact⟨Nat.zero_le _,by simp⟩
  ·exact sub_rb [some 0] rfl (by simp) (by simp)
  rintro k ⟨k1,k2⟩;simp only[zP,Nat.reduceEqDiff,reduceIte];refine awp_seq_k fun K3 hK3=>?_;refine aS fun K hK=>?_;simp -dsimp;apply hK;clear hK K;refine awp_cond rfl (fun hc1=>?_) (fun hc1=>?_)
  ·have hkl:k<p.Nodes.length:=by simpa using hc1
   have wk:=zW k (by omega);obtain⟨x,gx⟩:∃x,p.Nodes[k]?=some x:=⟨_,List.getElem?_eq_getElem hkl⟩;refine awp_skip ?_;simp only[zT,reduceIte,Nat.reduceEqDiff];refine hK3 _ _ ?_;refine awp_prune [1,3] ?_;simp only[zP,Nat.reduceEqDiff,reduceIte];refine awp_seq_k fun K4 hK4=>?_;refine awp_block ?_;refine aS fun K hK=>?_;simp -dsimp [gx];apply hK;clear hK K;refine awp_cond rfl (fun hc2=>?_) (fun hc2=>?_)
   ·have hx:¬x.Ends.length≤10:=by have h:=(by simpa using hc2:(10:Int)<x.Ends.length);omega
    have hall:(p.Nodes.all fun n=>decide (n.Ends.length≤10))=false:=by rw[List.all_eq_false];exact⟨x,List.mem_of_getElem? gx,by simpa using hx⟩
    refine aS fun K hK=>?_;simp -dsimp;apply hK;clear hK K;exact awp_ret (by simp only[hall];simp)
   ·have hx:x.Ends.length≤10:=by have h:¬(10:Int)<x.Ends.length:=(by simpa using hc2);omega
    refine awp_skip ?_;simp only[zT,reduceIte,Nat.reduceEqDiff];refine hK4 _ _ ?_;refine awp_prune [1,3] ?_;simp only[zP,Nat.reduceEqDiff,reduceIte];refine aR fun K hK=>?_;simp -dsimp [wk];apply hK;clear hK K;simp only[zT,reduceIte,Nat.reduceEqDiff];exact⟨k+1,⟨by omega,by rw[List.take_add_one,gx,List.all_append,k2];simpa using hx⟩,by omega,sub_rb [some 0] rfl (by simp) (by simp)⟩
  ·have hkl:¬k<p.Nodes.length:=by simpa using hc1
   rw[List.take_of_length_le (by omega)]at k2;refine awp_exit ?_;simp only[zT,reduceIte,Nat.reduceEqDiff];refine hK2 _ _ ?_;refine awp_prune [1] ?_;simp only[zP,Nat.reduceEqDiff,reduceIte];refine aS fun K hK=>?_;simp -dsimp;refine callK_intro _ (hva) (by simp) ?_;simp -dsimp;apply hK;clear hK K;exact awp_ret (by rw[hcc.1,hcc.2];simp only[k2];simp)
theorem brfB_ok {p:Plan} (h:brfB p=true):validB p=true∧p.Rails.length≤12:=by
 unfold brfB at h;simp only[Bool.and_eq_true,decide_eq_true_eq]at h;exact⟨h.2.2.2,h.1⟩
theorem c_near9 (p:Plan) (t:Tn) (st:Int) (sp:List Int) (hr:p.Rails.length≤maxLen) (hg:t.Grip.length≤maxLen) (hs:sp.length≤maxLen):∃b,PureCall Tryz.prog 13 [p.av,t.av,I st,iL sp] (Bo b):=by
 have hml:maxLen=9223372036854775807:=rfl;rw[hml]at hg hs hr;have htr:=c_rTrain t
 by_cases h1:(List.range (sp.length-1)).all (fun k=> !decide (6000<IntKind.i64.wrap (at0 sp (k+1:Nat)-at0 sp k)))=true
 by_cases h2:p.Rails.all (fun r=> !(decide (r.Limit<300)||(decide (15<r.Slope)||decide (r.Slope< -15))))=true
 ·refine⟨okT t&&(decide ((t.Grip.length:Int)≤10)&&(decide (0≤st)&&(decide (st<(t.Grip.length:Int))&&(decide (30≤at0 t.Grip st)&&(decide (t.Resist≤100)&&(decide (t.Rise≤100)&&(decide (IntKind.i64.wrap (t.Mass.tdiv 3)≤t.Effort)&&(decide (IntKind.i64.wrap (t.Mass.tdiv 3)≤t.Brake)&&(decide (300≤t.Speed)&&decide ((sp.length:Int)≤4)))))))))),?_⟩;refine PureCall.of_body Tryz.func13 rfl (by decide) (by simp[Tryz.ntmps13]) ?_;simp only[Tryz.ntmps13,Tryz.results13];refine aS fun K hK=>?_;simp -dsimp;apply hK;clear hK K;refine awp_seq_k fun K1 hK1=>?_;refine aS fun K hK=>?_;simp -dsimp;apply hK;clear hK K;refine awp_block ?_;refine awp_prune [2,3,4,5,9] ?_;simp only[zP,Nat.reduceEqDiff,reduceIte];refine awp_loop_l [2,3,4,5] (α:=Nat) (fun k=>[(9,I ((k:Int)+1))]) (fun _=>[some (.els 2 [p.cells]),some (.els 10 [t.cells])]) (fun k=>(k=0∨k+1≤sp.length)∧(List.range k).all (fun k=> !decide (6000<IntKind.i64.wrap (at0 sp (k+1:Nat)-at0 sp k)))=true) (fun k=>sp.length-k) 0 ?_ ?_ ?_
  ·exact⟨Or.inl rfl,rfl⟩
  ·exact sub_rb [some 0,some 1] rfl (by simp) (by simp)
  rintro k ⟨k1,k2⟩;simp only[zP,Nat.reduceEqDiff,reduceIte];refine awp_seq_k fun K2 hK2=>?_;refine aS fun K hK=>?_;simp -dsimp;apply hK;clear hK K;refine awp_cond rfl (fun hc0=>?_) (fun hc0=>?_)
  ·have hkl:k+1<sp.length:=by have h:=(by simpa using hc0:(k:Int)+1<sp.length);omega
   have wk:IntKind.i64.wrap (k:Int)=k:=wrap_in (by omega) (by omega);have k0:(0:Int)≤(k:Int)+1:=by omega
   have wk2:IntKind.i64.wrap ((k:Int)+1+1)=(k:Int)+1+1:=wrap_in (by omega) (by omega);have gk:=at0_nat (l:=sp) (k:=k) (by omega);have gk1:=at0_nat (l:=sp) (k:=k+1) hkl;refine awp_skip ?_;simp only[zT,reduceIte,Nat.reduceEqDiff];refine hK2 _ _ ?_;refine awp_prune [2,3,4,5,9] ?_;simp only[zP,Nat.reduceEqDiff,reduceIte];refine awp_seq_k fun K3 hK3=>?_;refine awp_block ?_;refine awp_sd mixed rfl fun K hK=>?_;simp -dsimp [wk,k0,gk,gk1];refine hK _ _ _ (by decide+kernel) ?_;clear hK K;refine awp_cond rfl (fun hc1=>?_) (fun hc1=>?_)
   ·have hle:6000<IntKind.i64.wrap (at0 sp (k+1:Nat)-at0 sp k):=by simpa using hc1
    exact absurd h1 (by rw[Bool.not_eq_true,List.all_eq_false];exact⟨k,List.mem_range.2 (by omega),by simpa using hle⟩)
   ·have hle:¬6000<IntKind.i64.wrap (at0 sp (k+1:Nat)-at0 sp k):=by simpa using hc1
    refine awp_skip ?_;simp only[zT,reduceIte,Nat.reduceEqDiff];refine hK3 _ _ ?_;refine awp_prune [2,3,4,5,9] ?_;simp only[zP,Nat.reduceEqDiff,reduceIte];refine aR fun K hK=>?_;simp -dsimp [wk2];apply hK;clear hK K;simp only[zT,reduceIte,Nat.reduceEqDiff];exact⟨k+1,⟨by omega,by rw[List.range_succ,List.all_append,k2];simpa using hle⟩,by omega,sub_rb [some 0,some 1] rfl (by simp) (by simp)⟩
  ·have hkl:¬k+1<sp.length:=by have h:¬(k:Int)+1<sp.length:=(by simpa using hc0);omega
   have hke:k=sp.length-1:=by omega
   refine awp_exit ?_;simp only[zT,reduceIte,Nat.reduceEqDiff];refine hK1 _ _ ?_;refine awp_prune [2,3,4,5] ?_;simp only[zP,Nat.reduceEqDiff,reduceIte];refine awp_seq_k fun K4 hK4=>?_;refine aS fun K hK=>?_;simp -dsimp;apply hK;clear hK K;refine awp_block ?_;refine awp_prune [2,3,4,5,10] ?_;simp only[zP,Nat.reduceEqDiff,reduceIte];refine awp_loop_l [2,3,4,5] (α:=Nat) (fun k=>[(10,I k)]) (fun _=>[some (.els 2 [p.cells]),some (.els 10 [t.cells])]) (fun k=>k≤p.Rails.length∧(p.Rails.take k).all (fun r=> !(decide (r.Limit<300)||(decide (15<r.Slope)||decide (r.Slope< -15))))=true) (fun k=>p.Rails.length-k) 0 ?_ ?_ ?_
   ·exact⟨Nat.zero_le _,by simp⟩
   ·exact sub_rb [some 0,some 1] rfl (by simp) (by simp)
   rintro j ⟨j1,j2⟩;simp only[zP,Nat.reduceEqDiff,reduceIte];refine awp_seq_k fun K5 hK5=>?_;refine aS fun K hK=>?_;simp -dsimp;apply hK;clear hK K;refine awp_cond rfl (fun hc2=>?_) (fun hc2=>?_)
   ·have hjl:j<p.Rails.length:=by simpa using hc2
    have wj:=zW j (by omega);obtain⟨x,gx⟩:∃x,p.Rails[j]?=some x:=⟨_,List.getElem?_eq_getElem hjl⟩;refine awp_skip ?_;simp only[zT,reduceIte,Nat.reduceEqDiff];refine hK5 _ _ ?_;refine awp_prune [2,3,4,5,10] ?_;simp only[zP,Nat.reduceEqDiff,reduceIte];refine awp_seq_k fun K6 hK6=>?_;refine awp_block ?_;refine aS fun K hK=>?_;simp -dsimp [gx];refine idxK_intro x.cells (fun _=>by simp[gx]) ?_;simp -dsimp [gx];refine idxK_intro x.cells (fun _=>by simp[gx]) ?_;simp -dsimp [gx];apply hK;clear hK K;refine awp_cond rfl (fun hc3=>?_) (fun hc3=>?_)
    ·exact absurd h2 (by rw[Bool.not_eq_true,List.all_eq_false];refine⟨x,List.mem_of_getElem? gx,?_⟩;revert hc3;generalize decide (x.Limit<300)=b1;generalize decide (15<x.Slope)=b2;generalize decide (x.Slope< -15)=b3;cases b1<;>cases b2<;>cases b3<;>simp)
    ·refine awp_skip ?_;simp only[zT,reduceIte,Nat.reduceEqDiff];refine hK6 _ _ ?_;refine awp_prune [2,3,4,5,10] ?_;simp only[zP,Nat.reduceEqDiff,reduceIte];refine aR fun K hK=>?_;simp -dsimp [wj];apply hK;clear hK K;simp only[zT,reduceIte,Nat.reduceEqDiff];exact⟨j+1,⟨by omega,by rw[List.take_add_one,gx,List.all_append,j2];simp only[Option.toList_some,List.all_cons,List.all_nil,Bool.and_true,Bool.true_and];rw[Bool.not_eq_true'];revert hc3;generalize decide (x.Limit<300)=b1;generalize decide (15<x.Slope)=b2;generalize decide (x.Slope< -15)=b3;cases b1<;>cases b2<;>cases b3<;>simp⟩,by omega,sub_rb [some 0,some 1] rfl (by simp) (by simp)⟩
   ·have hjl:¬j<p.Rails.length:=by simpa using hc2
    rw[List.take_of_length_le (by omega)]at j2;refine awp_exit ?_;simp only[zT,reduceIte,Nat.reduceEqDiff];refine hK4 _ _ ?_;refine awp_prune [2,3,5] ?_;simp only[zP,Nat.reduceEqDiff,reduceIte];refine aS fun K hK=>?_;simp -dsimp;refine callK_intro _ (htr) (by simp) ?_;simp -dsimp;refine⟨fun _ _ h _=>h,?_⟩;refine idxK_intro (nCell (at0 t.Grip st)) (fun hm=>by simp at hm;have g:=at0_nat (l:=t.Grip) (k:=st.toNat) (by omega);rw[Int.toNat_of_nonneg (by omega)]at g;simp[g]) ?_;simp -dsimp;apply hK;clear hK K;exact awp_ret (by simp[Bool.and_assoc])
 ·refine⟨false,?_⟩;refine PureCall.of_body Tryz.func13 rfl (by decide) (by simp[Tryz.ntmps13]) ?_;simp only[Tryz.ntmps13,Tryz.results13];refine aS fun K hK=>?_;simp -dsimp;apply hK;clear hK K;refine awp_seq_k fun K1 hK1=>?_;refine aS fun K hK=>?_;simp -dsimp;apply hK;clear hK K;refine awp_block ?_;refine awp_prune [2,3,4,5,9] ?_;simp only[zP,Nat.reduceEqDiff,reduceIte];refine awp_loop_l [2,3,4,5] (α:=Nat) (fun k=>[(9,I ((k:Int)+1))]) (fun _=>[some (.els 2 [p.cells]),some (.els 10 [t.cells])]) (fun k=>(k=0∨k+1≤sp.length)∧(List.range k).all (fun k=> !decide (6000<IntKind.i64.wrap (at0 sp (k+1:Nat)-at0 sp k)))=true) (fun k=>sp.length-k) 0 ?_ ?_ ?_
  ·exact⟨Or.inl rfl,rfl⟩
  ·exact sub_rb [some 0,some 1] rfl (by simp) (by simp)
  rintro k ⟨k1,k2⟩;simp only[zP,Nat.reduceEqDiff,reduceIte];refine awp_seq_k fun K2 hK2=>?_;refine aS fun K hK=>?_;simp -dsimp;apply hK;clear hK K;refine awp_cond rfl (fun hc0=>?_) (fun hc0=>?_)
  ·have hkl:k+1<sp.length:=by have h:=(by simpa using hc0:(k:Int)+1<sp.length);omega
   have wk:IntKind.i64.wrap (k:Int)=k:=wrap_in (by omega) (by omega);have k0:(0:Int)≤(k:Int)+1:=by omega
   have wk2:IntKind.i64.wrap ((k:Int)+1+1)=(k:Int)+1+1:=wrap_in (by omega) (by omega);have gk:=at0_nat (l:=sp) (k:=k) (by omega);have gk1:=at0_nat (l:=sp) (k:=k+1) hkl;refine awp_skip ?_;simp only[zT,reduceIte,Nat.reduceEqDiff];refine hK2 _ _ ?_;refine awp_prune [2,3,4,5,9] ?_;simp only[zP,Nat.reduceEqDiff,reduceIte];refine awp_seq_k fun K3 hK3=>?_;refine awp_block ?_;refine awp_sd mixed rfl fun K hK=>?_;simp -dsimp [wk,k0,gk,gk1];refine hK _ _ _ (by decide+kernel) ?_;clear hK K;refine awp_cond rfl (fun hc1=>?_) (fun hc1=>?_)
   ·have hle:6000<IntKind.i64.wrap (at0 sp (k+1:Nat)-at0 sp k):=by simpa using hc1
    exact absurd h1 (by rw[Bool.not_eq_true,List.all_eq_false];exact⟨k,List.mem_range.2 (by omega),by simpa using hle⟩)
   ·have hle:¬6000<IntKind.i64.wrap (at0 sp (k+1:Nat)-at0 sp k):=by simpa using hc1
    refine awp_skip ?_;simp only[zT,reduceIte,Nat.reduceEqDiff];refine hK3 _ _ ?_;refine awp_prune [2,3,4,5,9] ?_;simp only[zP,Nat.reduceEqDiff,reduceIte];refine aR fun K hK=>?_;simp -dsimp [wk2];apply hK;clear hK K;simp only[zT,reduceIte,Nat.reduceEqDiff];exact⟨k+1,⟨by omega,by rw[List.range_succ,List.all_append,k2];simpa using hle⟩,by omega,sub_rb [some 0,some 1] rfl (by simp) (by simp)⟩
  ·have hkl:¬k+1<sp.length:=by have h:¬(k:Int)+1<sp.length:=(by simpa using hc0);omega
   have hke:k=sp.length-1:=by omega
   refine awp_exit ?_;simp only[zT,reduceIte,Nat.reduceEqDiff];refine hK1 _ _ ?_;refine awp_prune [2,3,4,5] ?_;simp only[zP,Nat.reduceEqDiff,reduceIte];refine awp_seq_k fun K4 hK4=>?_;refine aS fun K hK=>?_;simp -dsimp;apply hK;clear hK K;refine awp_block ?_;refine awp_prune [2,3,4,5,10] ?_;simp only[zP,Nat.reduceEqDiff,reduceIte];refine awp_loop_l [2,3,4,5] (α:=Nat) (fun k=>[(10,I k)]) (fun _=>[some (.els 2 [p.cells]),some (.els 10 [t.cells])]) (fun k=>k≤p.Rails.length∧(p.Rails.take k).all (fun r=> !(decide (r.Limit<300)||(decide (15<r.Slope)||decide (r.Slope< -15))))=true) (fun k=>p.Rails.length-k) 0 ?_ ?_ ?_
   ·exact⟨Nat.zero_le _,by simp⟩
   ·exact sub_rb [some 0,some 1] rfl (by simp) (by simp)
   rintro j ⟨j1,j2⟩;simp only[zP,Nat.reduceEqDiff,reduceIte];refine awp_seq_k fun K5 hK5=>?_;refine aS fun K hK=>?_;simp -dsimp;apply hK;clear hK K;refine awp_cond rfl (fun hc2=>?_) (fun hc2=>?_)
   ·have hjl:j<p.Rails.length:=by simpa using hc2
    have wj:=zW j (by omega);obtain⟨x,gx⟩:∃x,p.Rails[j]?=some x:=⟨_,List.getElem?_eq_getElem hjl⟩;refine awp_skip ?_;simp only[zT,reduceIte,Nat.reduceEqDiff];refine hK5 _ _ ?_;refine awp_prune [2,3,4,5,10] ?_;simp only[zP,Nat.reduceEqDiff,reduceIte];refine awp_seq_k fun K6 hK6=>?_;refine awp_block ?_;refine aS fun K hK=>?_;simp -dsimp [gx];refine idxK_intro x.cells (fun _=>by simp[gx]) ?_;simp -dsimp [gx];refine idxK_intro x.cells (fun _=>by simp[gx]) ?_;simp -dsimp [gx];apply hK;clear hK K;refine awp_cond rfl (fun hc3=>?_) (fun hc3=>?_)
    ·refine aS fun K hK=>?_;simp -dsimp;apply hK;clear hK K;exact awp_ret (by simp)
    ·refine awp_skip ?_;simp only[zT,reduceIte,Nat.reduceEqDiff];refine hK6 _ _ ?_;refine awp_prune [2,3,4,5,10] ?_;simp only[zP,Nat.reduceEqDiff,reduceIte];refine aR fun K hK=>?_;simp -dsimp [wj];apply hK;clear hK K;simp only[zT,reduceIte,Nat.reduceEqDiff];exact⟨j+1,⟨by omega,by rw[List.take_add_one,gx,List.all_append,j2];simp only[Option.toList_some,List.all_cons,List.all_nil,Bool.and_true,Bool.true_and];rw[Bool.not_eq_true'];revert hc3;generalize decide (x.Limit<300)=b1;generalize decide (15<x.Slope)=b2;generalize decide (x.Slope< -15)=b3;cases b1<;>cases b2<;>cases b3<;>simp⟩,by omega,sub_rb [some 0,some 1] rfl (by simp) (by simp)⟩
   ·have hjl:¬j<p.Rails.length:=by simpa using hc2
    rw[List.take_of_length_le (by omega)]at j2;exact absurd j2 h2
 ·refine⟨false,?_⟩;refine PureCall.of_body Tryz.func13 rfl (by decide) (by simp[Tryz.ntmps13]) ?_;simp only[Tryz.ntmps13,Tryz.results13];refine aS fun K hK=>?_;simp -dsimp;apply hK;clear hK K;refine awp_seq_k fun K1 hK1=>?_;refine aS fun K hK=>?_;simp -dsimp;apply hK;clear hK K;refine awp_block ?_;refine awp_prune [2,3,4,5,9] ?_;simp only[zP,Nat.reduceEqDiff,reduceIte];refine awp_loop_l [2,3,4,5] (α:=Nat) (fun k=>[(9,I ((k:Int)+1))]) (fun _=>[some (.els 2 [p.cells]),some (.els 10 [t.cells])]) (fun k=>(k=0∨k+1≤sp.length)∧(List.range k).all (fun k=> !decide (6000<IntKind.i64.wrap (at0 sp (k+1:Nat)-at0 sp k)))=true) (fun k=>sp.length-k) 0 ?_ ?_ ?_
  ·exact⟨Or.inl rfl,rfl⟩
  ·exact sub_rb [some 0,some 1] rfl (by simp) (by simp)
  rintro k ⟨k1,k2⟩;simp only[zP,Nat.reduceEqDiff,reduceIte];refine awp_seq_k fun K2 hK2=>?_;refine aS fun K hK=>?_;simp -dsimp;apply hK;clear hK K;refine awp_cond rfl (fun hc0=>?_) (fun hc0=>?_)
  ·have hkl:k+1<sp.length:=by have h:=(by simpa using hc0:(k:Int)+1<sp.length);omega
   have wk:IntKind.i64.wrap (k:Int)=k:=wrap_in (by omega) (by omega);have k0:(0:Int)≤(k:Int)+1:=by omega
   have wk2:IntKind.i64.wrap ((k:Int)+1+1)=(k:Int)+1+1:=wrap_in (by omega) (by omega);have gk:=at0_nat (l:=sp) (k:=k) (by omega);have gk1:=at0_nat (l:=sp) (k:=k+1) hkl;refine awp_skip ?_;simp only[zT,reduceIte,Nat.reduceEqDiff];refine hK2 _ _ ?_;refine awp_prune [2,3,4,5,9] ?_;simp only[zP,Nat.reduceEqDiff,reduceIte];refine awp_seq_k fun K3 hK3=>?_;refine awp_block ?_;refine awp_sd mixed rfl fun K hK=>?_;simp -dsimp [wk,k0,gk,gk1];refine hK _ _ _ (by decide+kernel) ?_;clear hK K;refine awp_cond rfl (fun hc1=>?_) (fun hc1=>?_)
   ·have hle:6000<IntKind.i64.wrap (at0 sp (k+1:Nat)-at0 sp k):=by simpa using hc1
    refine aS fun K hK=>?_;simp -dsimp;apply hK;clear hK K;exact awp_ret (by simp)
   ·have hle:¬6000<IntKind.i64.wrap (at0 sp (k+1:Nat)-at0 sp k):=by simpa using hc1
    refine awp_skip ?_;simp only[zT,reduceIte,Nat.reduceEqDiff];refine hK3 _ _ ?_;refine awp_prune [2,3,4,5,9] ?_;simp only[zP,Nat.reduceEqDiff,reduceIte];refine aR fun K hK=>?_;simp -dsimp [wk2];apply hK;clear hK K;simp only[zT,reduceIte,Nat.reduceEqDiff];exact⟨k+1,⟨by omega,by rw[List.range_succ,List.all_append,k2];simpa using hle⟩,by omega,sub_rb [some 0,some 1] rfl (by simp) (by simp)⟩
  ·have hkl:¬k+1<sp.length:=by have h:¬(k:Int)+1<sp.length:=(by simpa using hc0);omega
   have hke:k=sp.length-1:=by omega
   exact absurd (hke▸k2) h1
theorem c_same_nil (n:Int):PureCall Tryz.prog 17 [.v (.slice none 0 0), .v (.slice none 0 0),I n] (Bo true):=by
 refine PureCall.of_body Tryz.func17 rfl (by decide) (by simp[Tryz.ntmps17]) ?_;simp only[Tryz.ntmps17,Tryz.results17];refine aS fun K hK=>?_;simp -dsimp;apply hK;clear hK K;refine awp_seq_k fun K1 hK1=>?_;refine aS fun K hK=>?_;simp -dsimp;apply hK;clear hK K;refine awp_cond rfl (fun hc0=>?_) (fun hc0=>?_)
 ·simp at hc0
 ·refine awp_skip ?_;simp only[zT,reduceIte,Nat.reduceEqDiff];refine hK1 _ _ ?_;refine awp_prune [0,1,2] ?_;simp only[zP,Nat.reduceEqDiff,reduceIte];refine awp_seq_k fun K2 hK2=>?_;refine aS fun K hK=>?_;simp -dsimp;apply hK;clear hK K;refine awp_block ?_;refine awp_prune [0,1,2,7] ?_;simp only[zP,Nat.reduceEqDiff,reduceIte];refine awp_loop_l [0,1,2] (α:=Nat) (fun k=>[(7,I k)]) (fun _=>[]) (fun k=>k=0) (fun k=>k) 0 ?_ ?_ ?_
  ·rfl
  ·exact sub_same (by simp)
  rintro k rfl;simp only[zP,Nat.reduceEqDiff,reduceIte];refine awp_seq_k fun K3 hK3=>?_;refine aS fun K hK=>?_;simp -dsimp;apply hK;clear hK K;refine awp_cond rfl (fun hc1=>?_) (fun hc1=>?_)
  ·simp at hc1
  ·refine awp_exit ?_;simp only[zT,reduceIte,Nat.reduceEqDiff];refine hK2 _ _ ?_;refine awp_prune [] ?_;simp only[zP,Nat.reduceEqDiff,reduceIte];refine aS fun K hK=>?_;simp -dsimp;apply hK;clear hK K;exact awp_ret (by simp)
theorem c_same9 (a:List Lg) (n:Int) (hn:a.length≤100000) (hw:∀o∈a,IntKind.i64.wrap (o.At+n)=o.At+n):PureCall Tryz.prog 17 [.lst 10 (a.map Lg.cells), .lst 10 ((a.map fun o=>{o with At:=o.At+n}).map Lg.cells),I n] (Bo true):=by
 refine PureCall.of_body Tryz.func17 rfl (by decide) (by simp[Tryz.ntmps17]) ?_;simp only[Tryz.ntmps17,Tryz.results17];refine aS fun K hK=>?_;simp -dsimp;apply hK;clear hK K;refine awp_seq_k fun K1 hK1=>?_;refine aS fun K hK=>?_;simp -dsimp;apply hK;clear hK K;refine awp_cond rfl (fun hc0=>?_) (fun hc0=>?_)
 ·simp at hc0
 ·refine awp_skip ?_;simp only[zT,reduceIte,Nat.reduceEqDiff];refine hK1 _ _ ?_;refine awp_prune [0,1,2] ?_;simp only[zP,Nat.reduceEqDiff,reduceIte];refine awp_seq_k fun K2 hK2=>?_;refine aS fun K hK=>?_;simp -dsimp;apply hK;clear hK K;refine awp_block ?_;refine awp_prune [0,1,2,7] ?_;simp only[zP,Nat.reduceEqDiff,reduceIte];refine awp_loop_l [0,1,2] (α:=Nat) (fun k=>[(7,I k)]) (fun _=>[]) (fun k=>k≤a.length) (fun k=>a.length-k) 0 ?_ ?_ ?_
  ·exact Nat.zero_le _
  ·exact sub_same (by simp)
  rintro k k1;simp only[zP,Nat.reduceEqDiff,reduceIte];refine awp_seq_k fun K3 hK3=>?_;refine aS fun K hK=>?_;simp -dsimp;apply hK;clear hK K;refine awp_cond rfl (fun hc1=>?_) (fun hc1=>?_)
  ·have hkl:k<a.length:=by simpa using hc1
   have wk:=zW k (by omega);obtain⟨o,go⟩:∃o,a[k]?=some o:=⟨_,List.getElem?_eq_getElem hkl⟩;have hwo:=hw o (List.mem_of_getElem? go);refine awp_skip ?_;simp only[zT,reduceIte,Nat.reduceEqDiff];refine hK3 _ _ ?_;refine awp_prune [0,1,2,7] ?_;simp only[zP,Nat.reduceEqDiff,reduceIte];refine awp_seq_k fun K4 hK4=>?_;refine awp_block ?_;refine aS fun K hK=>?_;simp -dsimp [go];apply hK;clear hK K;refine aS fun K hK=>?_;simp -dsimp [hwo];apply hK;clear hK K;refine awp_sd mixed rfl fun K hK=>?_;simp -dsimp [go];refine hK _ _ _ (by decide+kernel) ?_;clear hK K;refine awp_cond rfl (fun hc2=>?_) (fun hc2=>?_)
   ·simp at hc2
   ·refine awp_skip ?_;simp only[zT,reduceIte,Nat.reduceEqDiff];refine hK4 _ _ ?_;refine awp_prune [0,1,2,7] ?_;simp only[zP,Nat.reduceEqDiff,reduceIte];refine aR fun K hK=>?_;simp -dsimp [wk];apply hK;clear hK K;simp only[zT,reduceIte,Nat.reduceEqDiff];exact⟨k+1,by omega,by omega,sub_rb [] rfl (by simp) (by simp)⟩
  ·refine awp_exit ?_;simp only[zT,reduceIte,Nat.reduceEqDiff];refine hK2 _ _ ?_;refine awp_prune [] ?_;simp only[zP,Nat.reduceEqDiff,reduceIte];refine aS fun K hK=>?_;simp -dsimp;apply hK;clear hK K;exact awp_ret (by simp)
end Go.Mo
end
section
namespace Go.Cur
def E {α:Type}:(α→List α→Int)→List α→Int
 |_,[]=>0
 |f,c::cs=>f c cs-E (fun d l=>f d (c::l)) cs
theorem E_congr {α:Type}:∀{cs:List α} {f g:α→List α→Int},(∀c l,c∈cs→l.length+1=cs.length→(∀x∈l,x∈cs)→f c l=g c l)→E f cs=E g cs
 |[],_,_,_=>rfl
 | c::cs,f,g,h=>by
  rw[E,E,h c cs (by simp) (by simp) (fun x hx=>by simp[hx])]
  congr 1
  exact E_congr fun d l hd hl hm=>h d (c::l) (by simp[hd]) (by simp only[List.length_cons];omega) (fun x hx=>by
   rcases List.mem_cons.1 hx with rfl|hx
   ·simp
   ·exact List.mem_cons_of_mem _ (hm x hx))
theorem E_add {α:Type}:∀{cs:List α} {f g:α→List α→Int},E (fun c l=>f c l+g c l) cs=E f cs+E g cs
 |[],_,_=>rfl
 |c::cs,f,g=>by rw[E,E,E,E_add];omega
theorem E_smul {α:Type} (a:Int):∀{cs:List α} {f:α→List α→Int},E (fun c l=>a*f c l) cs=a*E f cs
 |[],_=>by simp[E]
 |c::cs,f=>by rw[E,E,E_smul,Int.mul_sub]
theorem E_neg {α:Type} {cs:List α} {f:α→List α→Int}:E (fun c l=>-f c l) cs=-E f cs:=by
 have:=E_smul (cs:=cs) (f:=f) (-1);simpa using this
theorem E_sub {α:Type} {cs:List α} {f g:α→List α→Int}:E (fun c l=>f c l-g c l) cs=E f cs-E g cs:=by
 have:=E_add (cs:=cs) (f:=f) (g:=fun c l=>-g c l);rw[E_neg]at this;simpa [Int.sub_eq_add_neg]using this
theorem E_zero {α:Type} {cs:List α} {f:α→List α→Int} (h:∀c l,c∈cs→l.length+1=cs.length→(∀x∈l,x∈cs)→f c l=0):E f cs=0:=by
 have:E f cs=E (fun c l=>0*f c l) cs:=E_congr fun c l h1 h2 h3=>by rw[h c l h1 h2 h3];simp
 rw[this,E_smul,Int.zero_mul]
theorem E_swap {α:Type} {a b:α}:∀{pre post:List α} {f:α→List α→Int},(∀c u v,f c (u++a::b::v)=-f c (u++b::a::v))→E f (pre++a::b::post)=-E f (pre++b::a::post)
 | [],post,f,h=>by
  simp only[List.nil_append,E];have:E (fun d l=>f d (a::b::l)) post=-E (fun d l=>f d (b::a::l)) post:=by
   rw[←E_neg];exact E_congr fun d l _ _ _=>h d [] l
  omega
 |x::pre,post,f,h=>by
  simp only[List.cons_append,E];rw[h,E_swap (f:=fun d l=>f d (x::l)) (pre:=pre) (post:=post) fun c u v=>h c (x::u) v];omega
theorem E_lin {α:Type} {a b z:α} {x y:Int}:∀{pre post:List α} {f:α→List α→Int},(∀c u v,f c (u++z::v)=x*f c (u++a::v)+y*f c (u++b::v))→(∀l,f z l=x*f a l+y*f b l)→
  E f (pre++z::post)=x*E f (pre++a::post)+y*E f (pre++b::post)
 | [],post,f,h,hz=>by
  simp only[List.nil_append,E];have:E (fun d l=>f d (z::l)) post=x*E (fun d l=>f d (a::l)) post+y*E (fun d l=>f d (b::l)) post:=by
   rw[←E_smul,←E_smul,←E_add];exact E_congr fun d l _ _ _=>h d [] l
  rw[hz,this,Int.mul_sub,Int.mul_sub];omega
 |w::pre,post,f,h,hz=>by
  simp only[List.cons_append,E];rw[h,E_lin (f:=fun d l=>f d (w::l)) (pre:=pre) (post:=post) (fun c u v=>h c (w::u) v) (fun l=>hz (w::l)),Int.mul_sub,Int.mul_sub];omega
theorem E_two {α:Type}:∀{cs:List α} {h:α→α→List α→Int},E (fun c l=>E (fun d m=>h c d m) l) cs=-E (fun c l=>E (fun d m=>h d c m) l) cs
 |[],_=>rfl
 |x::cs,h=>by
  simp only[E,E_sub];have h1:E (fun c=>E fun d l=>h c d (x::l)) cs=-E (fun c=>E fun d l=>h d c (x::l)) cs:=E_two (cs:=cs) (h:=fun c d m=>h c d (x::m));have h2:E (fun d m=>h d x m) cs=E (fun c=>h c x) cs:=rfl;have h3:E (fun d m=>h x d m) cs=E (h x) cs:=rfl;omega
def det:List Nat→List (Nat→Int)→Int
 |[],[]=>1
 |[],_::_=>0
 |i::is,cs=>E (fun c l=>c i*det is l) cs
def sg:Nat→Int
 |0=>1
 |n+1=>-sg n
theorem sg_sq:∀n,sg n*sg n=1
 |0=>rfl
 |n+1=>by rw[sg,Int.neg_mul_neg,sg_sq n]
theorem det_swap {a b:Nat→Int}:∀{is:List Nat} {pre post:List (Nat→Int)},det is (pre++a::b::post)=-det is (pre++b::a::post)
 |[],pre,post=>by cases pre<;>simp[det]
 |i::is,pre,post=>by
  rw[det,det];exact E_swap fun c u v=>by rw[det_swap (is:=is),Int.mul_neg]
theorem det_lin {a b:Nat→Int} {x y:Int}:∀{is:List Nat} {pre post:List (Nat→Int)},is≠[]→det is (pre++(fun i=>x*a i+y*b i)::post)=x*det is (pre++a::post)+y*det is (pre++b::post)
 |[],pre,post,h=>absurd rfl h
 |[i],pre,post,_=>by
  rw[det,det,det];refine E_lin (fun c u v=>?_) (fun l=>?_)
  ·cases u<;>simp[det]
  ·simp only[Int.add_mul,Int.mul_assoc]
 |i::j::is,pre,post,_=>by
  rw[det,det,det];refine E_lin (fun c u v=>?_) (fun l=>?_)
  ·rw[det_lin (is:=j::is) (by simp),Int.mul_add,Int.mul_left_comm,Int.mul_left_comm (c i) y]
  ·simp only[Int.add_mul,Int.mul_assoc]
theorem det_front {a:Nat→Int} {is:List Nat}:∀{pre mid post:List (Nat→Int)},det is (pre++mid++a::post)=sg mid.length*det is (pre++a::mid++post)
 |pre,[],post=>by simp[sg]
 |pre,m::mid,post=>by
  have h:=det_front (a:=a) (is:=is) (pre:=pre++[m]) (mid:=mid) (post:=post);have h2:=det_swap (a:=m) (b:=a) (is:=is) (pre:=pre) (post:=mid++post);simp only[List.append_assoc,List.cons_append,List.nil_append,List.length_cons,sg]at h h2 ⊢;rw[h,h2,Int.mul_neg,Int.neg_mul]
theorem det_rows {i j:Nat} {is:List Nat} {cs:List (Nat→Int)}:det (i::j::is) cs=-det (j::i::is) cs:=by
 simp only[det];simp only[←E_smul];rw[E_two]
 congr 1
 exact E_congr fun c l _ _ _=>E_congr fun d m _ _ _=>by rw[Int.mul_left_comm]
theorem det_twice {i:Nat}:∀{u v:List Nat} {cs:List (Nat→Int)},det (i::(u++i::v)) cs=0
 |[],v,cs=>by have:=det_rows (i:=i) (j:=i) (is:=v) (cs:=cs);rw[List.nil_append];omega
 |j::u,v,cs=>by
  rw[List.cons_append,det_rows,det];rw[E_zero fun c l _ _ _=>by rw[det_twice,Int.mul_zero]]
  rfl
theorem det_mem {i:Nat} {is:List Nat} {cs:List (Nat→Int)} (h:i∈is):det (i::is) cs=0:=by
 obtain⟨u,v,rfl⟩:=List.append_of_mem h;exact det_twice
theorem det_row_front {r:Nat}:∀{is v:List Nat} {cs:List (Nat→Int)},det (is++r::v) cs=sg is.length*det (r::(is++v)) cs
 |[],v,cs=>by simp[sg]
 | i::is,v,cs=>by
  have:det (i::(is++r::v)) cs=sg is.length*det (i::r::(is++v)) cs:=by
   rw[det,det,←E_smul];exact E_congr fun c l _ _ _=>by rw[det_row_front,Int.mul_left_comm]
  rw[List.cons_append,this,det_rows,List.length_cons,sg,Int.mul_neg,Int.neg_mul];rfl
def rep (i:Nat) (is:List Nat) (b:Nat→Int) (pre:List (Nat→Int)):List (Nat→Int)→Int
 |[]=>0
 |c::post=>c i*det is (pre++b::post)+rep i is b (pre++[c]) post
theorem rep_E {i:Nat} {is:List Nat} {b:Nat→Int}:∀{post pre:List (Nat→Int)},E (fun d l=>d i*det is (b::pre++l)) post=sg pre.length*rep i is b pre post
 |[],pre=>by simp[E,rep]
 |c::post,pre=>by
  have h:=rep_E (i:=i) (is:=is) (b:=b) (post:=post) (pre:=pre++[c]);have h2:=det_front (a:=b) (is:=is) (pre:=[]) (mid:=pre) (post:=post);simp only[List.append_assoc,List.cons_append,List.nil_append,List.length_append,List.length_cons,List.length_nil,sg]at h h2 ⊢;rw[E,rep,h,h2];have hs:=sg_sq pre.length;rw[Int.mul_add,Int.mul_left_comm (sg pre.length) (c i),←Int.mul_assoc (sg pre.length) (sg pre.length),hs,Int.one_mul,Int.neg_mul];omega
theorem cramer {i:Nat} {is:List Nat} {b:Nat→Int} {cs:List (Nat→Int)} (h:i∈is):rep i is b [] cs=det is cs*b i:=by
 have h1:=det_mem (cs:=b::cs) h;have h2:=rep_E (i:=i) (is:=is) (b:=b) (post:=cs) (pre:=[]);rw[det,E]at h1;simp only[List.cons_append,List.nil_append,List.length_nil,sg,Int.one_mul]at h2;rw[h2]at h1;rw[Int.mul_comm];omega
end Go.Cur
end
section
namespace Go.Cur
def sm (f:Nat→Int):List Nat→Int
 |[]=>0
 |i::is=>f i+sm f is
theorem sm_append {f:Nat→Int}:∀{u v:List Nat},sm f (u++v)=sm f u+sm f v
 |[],v=>by simp[sm]
 |i::u,v=>by rw[List.cons_append,sm,sm,sm_append];omega
theorem sm_congr {f g:Nat→Int}:∀{u:List Nat},(∀i∈u,f i=g i)→sm f u=sm g u
 |[],_=>rfl
 |i::u,h=>by rw[sm,sm,h i (by simp),sm_congr fun k hk=>h k (by simp[hk])]
theorem sm_zero {f:Nat→Int}:∀{u:List Nat},(∀i∈u,f i=0)→sm f u=0
 |[],_=>rfl
 |i::u,h=>by rw[sm,h i (by simp),sm_zero fun k hk=>h k (by simp[hk])];rfl
theorem sm_nn {f:Nat→Int}:∀{u:List Nat},(∀i∈u,0≤f i)→0≤sm f u
 |[],_=>by simp[sm]
 |i::u,h=>by
  have h1:=h i (by simp);have h2:=sm_nn (f:=f) (u:=u) fun k hk=>h k (by simp[hk]);rw[sm];omega
theorem sm_le {f g:Nat→Int}:∀{u:List Nat},(∀i∈u,f i≤g i)→sm f u≤sm g u
 |[],_=>by simp[sm]
 |i::u,h=>by
  have h1:=h i (by simp);have h2:=sm_le (f:=f) (g:=g) (u:=u) fun k hk=>h k (by simp[hk]);rw[sm,sm];omega
theorem sm_add {f g:Nat→Int}:∀{u:List Nat},sm (fun i=>f i+g i) u=sm f u+sm g u
 |[]=>rfl
 |i::u=>by rw[sm,sm,sm,sm_add];omega
theorem sm_smul {f:Nat→Int} (a:Int):∀{u:List Nat},sm (fun i=>a*f i) u=a*sm f u
 |[]=>by simp[sm]
 |i::u=>by rw[sm,sm,sm_smul,Int.mul_add]
theorem sm_comm {f:Nat→Nat→Int}:∀{u v:List Nat},sm (fun i=>sm (fun k=>f i k) v) u=sm (fun k=>sm (fun i=>f i k) u) v
 |[],v=>by rw[sm,sm_zero];intro k _;rfl
 |i::u,v=>by
  rw[sm,sm_comm (u:=u),←sm_add];exact sm_congr fun k _=>rfl
theorem sm_split {f:Nat→Int} {u v:List Nat} {k:Nat}:sm f (u++k::v)=f k+sm f (u++v):=by
 rw[sm_append,sm_append,sm];omega
theorem E_map {α β:Type} {g:β→α}:∀{cs:List β} {f:α→List α→Int},E f (cs.map g)=E (fun c l=>f (g c) (l.map g)) cs
 |[],_=>rfl
 |c::cs,f=>by
  rw[List.map_cons,E,E,E_map];rfl
theorem det_map {i:Nat} {is ks:List Nat} {A:Nat→Nat→Int}:det (i::is) (ks.map fun k i=>A i k)=E (fun k l=>A i k*det is (l.map fun k i=>A i k)) ks:=by
 rw[det,E_map]
theorem det_congr:∀{is ks:List Nat} {A B:Nat→Nat→Int},(∀i∈is,∀k∈ks,A i k=B i k)→det is (ks.map fun k i=>A i k)=det is (ks.map fun k i=>B i k)
 |[],ks,A,B,_=>by cases ks<;>rfl
 |i::is,ks,A,B,h=>by
  rw[det_map,det_map];exact E_congr fun k l hk _ hl=>by rw[h i (by simp) k hk,det_congr fun i hi k hk=>h i (by simp[hi]) k (hl k hk)]
theorem det_zero {e:Nat→Int}:∀{is:List Nat} {cs:List (Nat→Int)},(∀i∈is,e i=0)→det is (e::cs)=0
 |[],_,_=>rfl
 |i::is,cs,h=>by
  rw[det,E,h i (by simp),E_zero fun c l _ _ _=>by rw[det_zero fun k hk=>h k (by simp[hk]),Int.mul_zero]];simp
theorem det_sums {i:Nat} {is:List Nat} {cs:List (Nat→Int)} (h:∀c∈cs,sm c (i::is)=0):det (i::is) cs=0:=by
 have hw:∀w:List Nat,(∀k∈w,k∈is)→E (fun c l=>sm c w*det is l) cs=0:=by
  intro w
  induction w with
  |nil=>intro _;exact E_zero fun c l _ _ _=>by rw[sm,Int.zero_mul]
  |cons k w ih=>
   intro hk;have:E (fun c l=>sm c (k::w)*det is l) cs=E (fun c l=>c k*det is l+sm c w*det is l) cs:=E_congr fun c l _ _ _=>by rw[sm,Int.add_mul]
   rw[this,E_add,ih fun k hk'=>hk k (by simp[hk'])];have:=det_mem (cs:=cs) (hk k (by simp));rw[det]at this;omega
 have h1:E (fun c l=>sm c (i::is)*det is l) cs=0:=E_zero fun c l hc _ _=>by rw[h c hc,Int.zero_mul]
 have h2:E (fun c l=>sm c (i::is)*det is l) cs=E (fun c l=>c i*det is l+sm c is*det is l) cs:=E_congr fun c l _ _ _=>by rw[sm,Int.add_mul]
 rw[h2,E_add,hw is fun _ h=>h]at h1;rw[det];omega
def D (A:Nat→Nat→Int) (ns:List Nat):Int:=det ns (ns.map fun k i=>A i k)
def less1 (A:Nat→Nat→Int) (k0:Nat) (s:Int):Nat→Nat→Int:=fun i k=>if i=k0∧k=k0 then A i k-s else A i k
theorem unit_det {k0:Nat} {u v:List Nat} {cu cv:List (Nat→Int)} (hl:cu.length=u.length) (hu:k0∉u) (hv:k0∉v):
  det (u++k0::v) (cu++(fun i=>if i=k0 then 1 else 0)::cv)=det (u++v) (cu++cv):=by
 have h1:=det_front (a:=fun i=>if i=k0 then(1:Int)else 0) (is:=u++k0::v) (pre:=[]) (mid:=cu) (post:=cv);simp only[List.nil_append,List.cons_append]at h1;rw[h1,det_row_front,det,E,E_zero fun c l _ _ _=>?_,hl]
 ·simp only[if_pos,Int.one_mul,Int.sub_zero];rw[←Int.mul_assoc,sg_sq,Int.one_mul]
 ·rw[det_zero fun i hi=>?_,Int.mul_zero];rw[if_neg];rintro rfl
  rcases List.mem_append.1 hi with h|h
  ·exact hu h
  ·exact hv h
theorem D_step {A:Nat→Nat→Int} {u v:List Nat} {k0:Nat} (s:Int) (hu:k0∉u) (hv:k0∉v):D A (u++k0::v)=D (less1 A k0 s) (u++k0::v)+s*D A (u++v):=by
 have hc:∀w:List Nat,k0∉w→(w.map fun k i=>A i k)=w.map fun k i=>less1 A k0 s i k:=fun w hw=>List.map_congr_left fun k hk=>by
  funext i
  unfold less1;rw[if_neg];rintro⟨_,rfl⟩;exact hw hk
 unfold D;simp only[List.map_append,List.map_cons];have he:(fun i=>A i k0)=fun i=>1*less1 A k0 s i k0+s*(if i=k0 then 1 else 0):=by
  funext i
  unfold less1
  by_cases h:i=k0
  ·simp[h]
  ·simp[h]
 rw[he,det_lin (by simp),Int.one_mul,unit_det (by simp) hu hv,←hc u hu,←hc v hv]
def Cond (A:Nat→Nat→Int) (ns:List Nat):Prop:=(∀i∈ns,∀k∈ns,i≠k→A i k≤0)∧∀k∈ns,0≤sm (fun i=>A i k) ns
theorem less1_ne {A:Nat→Nat→Int} {k0 i k:Nat} {s:Int} (h:i≠k∨k≠k0):less1 A k0 s i k=A i k:=by
 unfold less1;rw[if_neg];rintro⟨rfl,rfl⟩
 rcases h with h|h<;>exact h rfl
theorem less1_sum {A:Nat→Nat→Int} {k0:Nat} {s:Int} {u v:List Nat} (hu:k0∉u) (hv:k0∉v):sm (fun i=>less1 A k0 s i k0) (u++k0::v)=sm (fun i=>A i k0) (u++k0::v)-s:=by
 rw[sm_split,sm_split,sm_congr (g:=fun i=>A i k0)]
 ·simp only[less1,and_self,if_true];omega
 ·intro i hi;refine less1_ne (.inl ?_);rintro rfl
  rcases List.mem_append.1 hi with h|h
  ·exact hu h
  ·exact hv h
theorem Cond.minor {A:Nat→Nat→Int} {k0:Nat} {u v:List Nat} (h:Cond A (u++k0::v)) (hu:k0∉u) (hv:k0∉v):Cond A (u++v):=by
 have hm:∀i∈u++v,i∈u++k0::v:=fun i hi=>by
  simp only[List.mem_append,List.mem_cons]at hi ⊢;rcases hi with h|h<;>simp[h]
 refine⟨fun i hi k hk hne=>h.1 i (hm i hi) k (hm k hk) hne,fun k hk=>?_⟩;have h1:=h.2 k (hm k hk);rw[sm_split]at h1;have h2:=h.1 k0 (by simp) k (hm k hk) (by
  rintro rfl
  rcases List.mem_append.1 hk with h|h
  ·exact hu h
  ·exact hv h)
 omega
theorem Cond.less {A:Nat→Nat→Int} {k0:Nat} {u v:List Nat} (h:Cond A (u++k0::v)) (hu:k0∉u) (hv:k0∉v) {s:Int} (hs:s=sm (fun i=>A i k0) (u++k0::v)):
  Cond (less1 A k0 s) (u++k0::v)∧sm (fun i=>less1 A k0 s i k0) (u++k0::v)=0∧∀k,k≠k0→sm (fun i=>less1 A k0 s i k) (u++k0::v)=sm (fun i=>A i k) (u++k0::v):=by
 have h0:=less1_sum (A:=A) (s:=s) hu hv;have h1:∀k,k≠k0→sm (fun i=>less1 A k0 s i k) (u++k0::v)=sm (fun i=>A i k) (u++k0::v):=fun k hk=>sm_congr fun i _=>less1_ne (.inr hk);refine⟨⟨fun i hi k hk hne=>?_,fun k hk=>?_⟩,by omega,h1⟩
 ·rw[less1_ne (.inl hne)];exact h.1 i hi k hk hne
 ·by_cases e:k=k0
  ·subst e;omega
  ·rw[h1 k e];exact h.2 k hk
theorem nodup_split {u v:List Nat} {k:Nat} (h:(u++k::v).Nodup):k∉u∧k∉v∧(u++v).Nodup:=by
 simp only[List.nodup_append,List.nodup_cons,List.mem_cons]at h ⊢;obtain⟨h1,⟨h2,h3⟩,h4⟩:=h;refine⟨fun hk=>h4 k hk k (.inl rfl) rfl,h2,h1,h3,fun a ha b hb=>h4 a ha b (.inr hb)⟩
theorem D_nn:∀(n:Nat) {ns:List Nat} {A:Nat→Nat→Int},ns.length=n→ns.Nodup→Cond A ns→0≤D A ns
 |0,ns,A,hn,_,_=>by
  rw[List.length_eq_zero_iff]at hn;subst hn;simp[D,det]
 | n +1,ns,A,hn,hd,hc=>by
  have key:∀(w:List Nat) (A:Nat→Nat→Int),Cond A ns→(∀k∈ns,k∉w→sm (fun i=>A i k) ns=0)→0≤D A ns:=by
   intro w
   induction w with
   | nil=>
    intro A _ h0
    cases ns with
    |nil=>simp at hn
    | cons i is=>
     have:D A (i::is)=0:=det_sums fun c hc=>by
      obtain⟨k,hk,rfl⟩:=List.mem_map.1 hc;exact h0 k hk (by simp)
     omega
   | cons k0 w ih=>
    intro A hc h0
    by_cases hk0:k0∈ns
    ·obtain⟨u,v,rfl⟩:=List.append_of_mem hk0;obtain⟨hu,hv,hd'⟩:=nodup_split hd;obtain⟨c1,c2,c3⟩:=hc.less hu hv rfl;rw[D_step (sm (fun i=>A i k0) (u++k0::v)) hu hv];have i1:=ih _ c1 fun k hk hkw=>by
      by_cases e:k=k0
      ·subst e;exact c2
      ·rw[c3 k e];exact h0 k hk (by simp[e,hkw])
     have i2:=D_nn n (by simp only[List.length_append,List.length_cons]at hn ⊢;omega) hd' (hc.minor hu hv);have:=Int.mul_nonneg (hc.2 k0 hk0) i2;omega
    ·exact ih A hc fun k hk hkw=>h0 k hk (by
      simp only[List.mem_cons,not_or];exact⟨fun e=>hk0 (e▸hk),hkw⟩)
  exact key ns A hc fun k hk hkn=>absurd hk hkn
def Leads (A:Nat→Nat→Int) (ns:List Nat):Prop:=∀U:List Nat,U.Nodup→U≠[]→(∀k∈U,k∈ns)→∃k∈U,0<sm (fun i=>A i k) U
theorem D_pos:∀(n:Nat) {ns:List Nat} {A:Nat→Nat→Int},ns.length=n→ns.Nodup→Cond A ns→Leads A ns→0<D A ns
 |0,ns,A,hn,_,_,_=>by
  rw[List.length_eq_zero_iff]at hn;subst hn;simp[D,det]
 | n+1,ns,A,hn,hd,hc,hl=>by
  obtain⟨k0,hk0,hs⟩:=hl ns hd (by intro e;rw[e]at hn;simp at hn) fun _ h=>h;obtain⟨u,v,rfl⟩:=List.append_of_mem hk0;obtain⟨hu,hv,hd'⟩:=nodup_split hd;rw[D_step (sm (fun i=>A i k0) (u++k0::v)) hu hv];have i1:=D_nn (n+1) hn hd (hc.less hu hv rfl).1;have i2:=D_pos n (ns:=u++v) (A:=A) (by simp only[List.length_append,List.length_cons]at hn ⊢;omega) hd' (hc.minor hu hv) fun U h1 h2 h3=>hl U h1 h2 fun k hk=>by
   have:=h3 k hk;simp only[List.mem_append,List.mem_cons]at this ⊢
   rcases this with h|h<;>simp[h]
  have:=Int.mul_pos hs i2;omega
end Go.Cur
end
section
namespace Go.Cur
theorem exists_min {x:Nat→Int}:∀{ns:List Nat},ns≠[]→∃k∈ns,∀i∈ns,x k≤x i
 |[],h=>absurd rfl h
 |[a],_=>⟨a,by simp,by simp⟩
 | a::b::l,_=>by
  obtain⟨k,hk,hm⟩:=exists_min (x:=x) (ns:=b::l) (by simp)
  by_cases h:x a≤x k
  ·exact⟨a,by simp,fun i hi=>by
    rcases List.mem_cons.1 hi with rfl|hi
    ·exact Int.le_refl _
    ·have:=hm i hi;omega⟩
  ·exact⟨k,List.mem_cons_of_mem _ hk,fun i hi=>by
    rcases List.mem_cons.1 hi with rfl|hi
    ·omega
    ·exact hm i hi⟩
theorem sm_pos {f:Nat→Int}:∀{u:List Nat},(∀i∈u,0≤f i)→(∃i∈u,0<f i)→0<sm f u
 |[],_,⟨_,h,_⟩=>by simp at h
 |a::u,h,⟨i,hi,hp⟩=>by
  have h1:=h a (by simp);have h2:=sm_nn (f:=f) (u:=u) fun k hk=>h k (by simp[hk]);rw[sm]
  rcases List.mem_cons.1 hi with rfl|hi
  ·omega
  ·have:=sm_pos (f:=f) (u:=u) (fun k hk=>h k (by simp[hk])) ⟨i,hi,hp⟩;omega
theorem sm_filter {f:Nat→Int} {p:Nat→Bool}:∀{u:List Nat},sm f u=sm f (u.filter p)+sm f (u.filter fun k=> !p k)
 |[]=>rfl
 |a::u=>by
  have:=sm_filter (f:=f) (p:=p) (u:=u)
  by_cases h:p a
  ·simp only[List.filter_cons,h,if_true,Bool.not_true,sm];simp only[Bool.false_eq_true,if_false];omega
  ·simp only[List.filter_cons,h,sm];simp only[Bool.false_eq_true,if_false,Bool.not_false,if_true,sm];omega
theorem sm_part {f:Nat→Int} {ns U:List Nat} (hn:ns.Nodup) (hU:U.Nodup) (hs:∀k∈U,k∈ns) (h:∀k∈ns,k∉U→f k≤0):sm f ns≤sm f U:=by
 induction U generalizing ns with
 |nil=>
  rw[sm];have:=sm_nn (f:=fun k=>-f k) (u:=ns) fun k hk=>by have:=h k hk (by simp);omega
  have h2:=sm_smul (f:=f) (-1) (u:=ns);simp only[Int.neg_mul,Int.one_mul]at h2;omega
 | cons a U ih=>
  obtain⟨u,v,rfl⟩:=List.append_of_mem (hs a (by simp));obtain⟨hu,hv,hd⟩:=nodup_split hn;rw[List.nodup_cons]at hU;rw[sm_split,sm];have:=ih hd hU.2 (fun k hk=>by
   have:=hs k (by simp[hk]);simp only[List.mem_append,List.mem_cons]at this ⊢
   rcases this with h|rfl|h
   ·simp[h]
   ·exact absurd hk hU.1
   ·simp[h]) fun k hk hkU=>h k (by
    simp only[List.mem_append,List.mem_cons]at hk ⊢;rcases hk with h|h<;>simp[h]) (by
    simp only[List.mem_cons,not_or];refine⟨?_,hkU⟩;rintro rfl
    rcases List.mem_append.1 hk with h|h
    ·exact hu h
    ·exact hv h)
  omega
theorem min_principle {A:Nat→Nat→Int} {ns:List Nat} {x:Nat→Int} (hd:ns.Nodup) (hoff:∀i∈ns,∀k∈ns,i≠k→A i k≤0) (hrow:∀i∈ns,0≤sm (fun k=>A i k) ns) (hcol:∀k∈ns,0≤sm (fun i=>A i k) ns) (hl:Leads A ns)
  (hx:∀i∈ns,0≤sm (fun k=>A i k*x k) ns):∀k∈ns,0≤x k:=by
 intro k0 hk0;obtain⟨km,hkm,hmin⟩:=exists_min (x:=x) (ns:=ns) (by rintro rfl;simp at hk0)
 suffices h:0≤x km by have:=hmin k0 hk0;omega
 refine Int.not_lt.1 fun hneg=>?_
 let p:Nat→Bool:=fun k=>decide (x k=x km)
 let U:=ns.filter p
 let V:=ns.filter fun k=> !p k
 let sig:Nat→Int:=fun k=>sm (fun i=>A i k) U
 have hU:∀k∈U,k∈ns∧x k=x km:=fun k hk=>by simpa [U,p]using hk
 have hV:∀k∈V,k∈ns∧x km+1≤x k∧∀i∈U,i≠k:=fun k hk=>by
  have:k∈ns∧¬x k=x km:=by simpa [V,p]using hk
  have h2:=hmin k this.1;exact⟨this.1,by omega,fun i hi e=>this.2 (e▸(hU i hi).2)⟩
 have hUd:U.Nodup:=hd.filter _;have hUn:U≠[]:=List.ne_nil_of_mem (a:=km) (by simp[U,p,hkm]);have h1:0≤sm (fun i=>sm (fun k=>A i k*x k) ns) U:=sm_nn fun i hi=>hx i (hU i hi).1;rw[sm_comm]at h1;have h2:sm (fun k=>sm (fun i=>A i k*x k) U) ns=sm (fun k=>x k*sig k) ns:=sm_congr fun k _=>by
  rw[←sm_smul];exact sm_congr fun i _=>Int.mul_comm _ _
 rw[h2,sm_filter (p:=p)]at h1;have h3:sm (fun k=>x k*sig k) U=x km*sm sig U:=by
  rw[←sm_smul];exact sm_congr fun k hk=>by rw[(hU k hk).2]
 have hsV:∀k∈V,sig k≤0:=fun k hk=>by
  have:=sm_nn (f:=fun i=>-A i k) (u:=U) fun i hi=>by
   have:=hoff i (hU i hi).1 k (hV k hk).1 ((hV k hk).2.2 i hi);omega
  have h2:=sm_smul (f:=fun i=>A i k) (-1) (u:=U);simp only[Int.neg_mul,Int.one_mul]at h2;show sm (fun i=>A i k) U≤0;omega
 have h4:sm (fun k=>x k*sig k) V≤sm (fun k=>(x km+1)*sig k) V:=sm_le fun k hk=>by
  have a:=hsV k hk;have b:=(hV k hk).2.1;exact Int.mul_le_mul_of_nonpos_right b a
 rw[sm_smul]at h4;have h5:sm sig U+sm sig V=sm (fun i=>sm (fun k=>A i k) ns) U:=by
  have:=sm_filter (f:=sig) (p:=p) (u:=ns);have h6:=sm_comm (f:=A) (u:=U) (v:=ns);show sm sig (ns.filter p)+sm sig (ns.filter fun k=> !p k)=_;rw[←this,h6]
 have h6:0≤sm (fun i=>sm (fun k=>A i k) ns) U:=sm_nn fun i hi=>hrow i (hU i hi).1;have h7:0<sm sig U:=by
  refine sm_pos (fun k hk=>?_) (hl U hUd hUn fun k hk=>(hU k hk).1);have:=hcol k (hU k hk).1;have h8:=sm_part (f:=fun i=>A i k) hd hUd (fun k hk=>(hU k hk).1) fun i hi hiU=>hoff i hi k (hU k hk).1 (by rintro rfl;exact hiU hk);show 0≤sm (fun i=>A i k) U;omega
 have h8:sm sig V≤0:=by
  have:=sm_le (f:=sig) (g:=fun _=>0) (u:=V) hsV;rw[sm_zero fun _ _=>rfl]at this;exact this
 change 0≤sm (fun k=>x k*sig k) U+sm (fun k=>x k*sig k) V at h1;rw[h3]at h1;have h9:x km*(sm sig U+sm sig V)≤0:=by
  rw[h5];exact Int.mul_nonpos_of_nonpos_of_nonneg (by omega) h6
 rw[Int.mul_add]at h9;rw[Int.add_mul,Int.one_mul]at h4;have h10:sm sig V=0:=by omega
 have h11:x km*(sm sig U+sm sig V)<0:=Int.mul_neg_of_neg_of_pos hneg (by omega);rw[Int.mul_add]at h11;omega
end Go.Cur
end
section
namespace Go.Cur
def num (A:Nat→Nat→Int) (b:Nat→Int) (ns:List Nat) (k:Nat):Int:=det ns (ns.map fun j i=>if j=k then b i else A i j)
theorem rep_map {A:Nat→Nat→Int} {b:Nat→Int} {i:Nat} {is:List Nat}:∀{post pre:List Nat},(pre++post).Nodup→
  rep i is b (pre.map fun k i=>A i k) (post.map fun k i=>A i k)=sm (fun k=>A i k*det is ((pre++post).map fun j i=>if j=k then b i else A i j)) post
 |[],_,_=>rfl
 | k::post,pre,h=>by
  have ih:=rep_map (A:=A) (b:=b) (i:=i) (is:=is) (post:=post) (pre:=pre++[k]) (by simpa using h);obtain⟨h1,h2,_⟩:=nodup_split h;have hc:∀w:List Nat,k∉w→(w.map fun j i=>if j=k then b i else A i j)=w.map fun k i=>A i k:=fun w hw=>List.map_congr_left fun j hj=>by
   funext i
   rw[if_neg];rintro rfl;exact hw hj
  simp only[List.map_append,List.map_cons,List.map_nil,List.append_assoc,List.cons_append,List.nil_append]at ih;rw[List.map_cons,rep,sm,ih];rw[List.map_append,List.map_cons];rw[hc pre h1,hc post h2];simp
theorem cramer_num {A:Nat→Nat→Int} {b:Nat→Int} {ns:List Nat} (hd:ns.Nodup) {i:Nat} (hi:i∈ns):sm (fun k=>A i k*num A b ns k) ns=D A ns*b i:=by
 have h1:=cramer (i:=i) (is:=ns) (b:=b) (cs:=ns.map fun k i=>A i k) hi;have h2:=rep_map (A:=A) (b:=b) (i:=i) (is:=ns) (post:=ns) (pre:=[]) hd;simp only[List.map_nil,List.nil_append]at h2;rw[h2]at h1;exact h1
structure Part where
 ns:List Nat
 L:Nat→Nat→Int
 u:Nat→Int
 fs:List Nat
 p:Nat→Nat
 s:Nat→Int
 V:Nat→Int
def Part.at_ (P:Part) (S:Nat→Bool) (c:Nat→Int) (i:Nat):Int:=sm (fun b=>if S b=true∧P.p b=i then c b else 0) P.fs
def Part.A (P:Part) (S:Nat→Bool):Nat→Nat→Int:=fun i k=>P.L i k+if i=k then P.at_ S P.s i else 0
def Part.b (P:Part) (S:Nat→Bool):Nat→Int:=fun i=>-P.u i+P.at_ S (fun b=>P.s b*P.V b) i
def Part.num (P:Part) (S:Nat→Bool) (k:Nat):Int:=Cur.num (P.A S) (P.b S) P.ns k
def Part.den (P:Part) (S:Nat→Bool):Int:=D (P.A S) P.ns
structure Part.Ok (P:Part):Prop where
 nd:P.ns.Nodup
 off:∀i∈P.ns,∀k∈P.ns,i≠k→P.L i k≤0
 col:∀k∈P.ns,sm (fun i=>P.L i k) P.ns=0
 row:∀i∈P.ns,sm (fun k=>P.L i k) P.ns=0
 lead:∀U:List Nat,U.Nodup→U≠[]→(∀k∈U,k∈P.ns)→(∃k∈P.ns,k∉U)→∃k∈U,0<sm (fun i=>P.L i k) U
 pin:∀b∈P.fs,P.p b∈P.ns
 spos:∀b∈P.fs,0<P.s b
theorem sm_at {P:Part} {S:Nat→Bool} {c:Nat→Int}:∀{U:List Nat},U.Nodup→sm (P.at_ S c) U=sm (fun b=>if S b=true∧P.p b∈U then c b else 0) P.fs:=by
 intro U hU;unfold Part.at_;rw[sm_comm];refine sm_congr fun b _=>?_
 induction U with
 |nil=>simp[sm]
 | cons a U ih=>
  rw[List.nodup_cons]at hU;rw[sm,ih hU.2]
  by_cases hS:S b=true
  ·by_cases ha:P.p b=a
   ·subst ha;simp[hS,hU.1]
   ·simp[hS,ha]
  ·simp[hS]
theorem sm_diag {f:Nat→Int} {g:Nat→Nat→Int} {k:Nat}:∀{U:List Nat},U.Nodup→k∈U→sm (fun i=>g i k+if i=k then f i else 0) U=sm (fun i=>g i k) U+f k
 |[],_,h=>by simp at h
 | a::U,hU,h=>by
  rw[List.nodup_cons]at hU;rw[sm,sm]
  rcases List.mem_cons.1 h with rfl|hm
  ·rw[sm_congr (u:=U) (g:=fun i=>g i k) fun i hi=>by
    rw[if_neg]; · omega
    ·rintro rfl;exact hU.1 hi]
   rw[if_pos rfl];omega
  ·rw[sm_diag hU.2 hm,if_neg]
   ·omega
   ·rintro rfl;exact hU.1 hm
theorem sm_diag' {f:Nat→Int} {g:Nat→Int} {k:Nat}:∀{U:List Nat},U.Nodup→k∈U→sm (fun i=>g i+if k=i then f k else 0) U=sm g U+f k
 |[],_,h=>by simp at h
 | a::U,hU,h=>by
  rw[List.nodup_cons]at hU;rw[sm,sm]
  rcases List.mem_cons.1 h with rfl|hm
  ·rw[sm_congr (u:=U) (g:=g) fun i hi=>by
    rw[if_neg]; · omega
    ·rintro rfl;exact hU.1 hi]
   rw[if_pos rfl];omega
  ·rw[sm_diag' hU.2 hm,if_neg]
   ·omega
   ·rintro rfl;exact hU.1 hm
theorem at_nn {P:Part} (ho:P.Ok) {S:Nat→Bool} {i:Nat}:0≤P.at_ S P.s i:=sm_nn fun b hb=>by
 have:=ho.spos b hb
 split<;>omega
theorem A_off {P:Part} (ho:P.Ok) {S:Nat→Bool}:∀i∈P.ns,∀k∈P.ns,i≠k→P.A S i k≤0:=fun i hi k hk h=>by
 have:=ho.off i hi k hk h;unfold Part.A;rw[if_neg h];omega
theorem A_col {P:Part} (ho:P.Ok) {S:Nat→Bool} {k:Nat} {U:List Nat} (hU:U.Nodup) (hk:k∈U):sm (fun i=>P.A S i k) U=sm (fun i=>P.L i k) U+P.at_ S P.s k:=sm_diag hU hk
theorem A_row {P:Part} (ho:P.Ok) {S:Nat→Bool} {i:Nat} (hi:i∈P.ns):sm (fun k=>P.A S i k) P.ns=P.at_ S P.s i:=by
 have:=sm_diag' (f:=fun i=>P.at_ S P.s i) (g:=fun k=>P.L i k) ho.nd hi;rw[ho.row i hi]at this;unfold Part.A;omega
theorem A_cond {P:Part} (ho:P.Ok) {S:Nat→Bool}:Cond (P.A S) P.ns:=⟨A_off ho,fun k hk=>by
 rw[A_col ho ho.nd hk,ho.col k hk];have:=at_nn ho (S:=S) (i:=k);omega⟩
theorem A_leads {P:Part} (ho:P.Ok) {S:Nat→Bool} (hS:∃b∈P.fs,S b=true):Leads (P.A S) P.ns:=fun U hU hn hs=>by
 by_cases hall:∃k∈P.ns,k∉U
 ·obtain⟨k,hk,h⟩:=ho.lead U hU hn hs hall;refine⟨k,hk,?_⟩;rw[A_col ho hU hk];have:=at_nn ho (S:=S) (i:=k);omega
 ·obtain⟨b,hb,hSb⟩:=hS;have hpU:P.p b∈U:=by
   by_cases h:P.p b∈U
   ·exact h
   ·exact absurd ⟨_,ho.pin b hb,h⟩ hall
  refine⟨P.p b,hpU,?_⟩;rw[A_col ho hU hpU];have h1:sm (fun i=>P.L i (P.p b)) P.ns≤sm (fun i=>P.L i (P.p b)) U:=sm_part ho.nd hU hs fun i hi hiU=>absurd ⟨i,hi,hiU⟩ hall;rw[ho.col _ (ho.pin b hb)]at h1;have h2:0<P.at_ S P.s (P.p b):=sm_pos (fun c hc=>by
   have:=ho.spos c hc
   split<;>omega) ⟨b,hb,by rw[if_pos ⟨hSb,rfl⟩];exact ho.spos b hb⟩
  omega
theorem den_pos {P:Part} (ho:P.Ok) {S:Nat→Bool} (hS:∃b∈P.fs,S b=true):0<P.den S:=D_pos _ rfl ho.nd (A_cond ho) (A_leads ho hS)
theorem solves {P:Part} (ho:P.Ok) {S:Nat→Bool} {i:Nat} (hi:i∈P.ns):sm (fun k=>P.A S i k*P.num S k) P.ns=P.den S*P.b S i:=cramer_num ho.nd hi
end Go.Cur
end
section
namespace Go.Cur
theorem sm_sub {f g:Nat→Int} {u:List Nat}:sm (fun i=>f i-g i) u=sm f u-sm g u:=by
 have h1:=sm_add (f:=f) (g:=fun i=>-1*g i) (u:=u);rw[sm_smul]at h1;rw[show(fun i=>f i-g i)=fun i=>f i+ -1*g i from funext fun i=>by omega,h1];omega
theorem sm_only {f:Nat→Int} {k:Nat}:∀{U:List Nat},U.Nodup→k∈U→sm (fun i=>if k=i then f i else 0) U=f k
 |U,hU,hk=>by
  have:=sm_diag' (f:=f) (g:=fun _=>0) hU hk;rw[sm_zero (f:=fun _=>0) fun _ _=>rfl]at this;rw[sm_congr (g:=fun i=>0+if k=i then f k else 0) fun i _=>by by_cases h:k=i<;>simp[h],this];omega
theorem at_diff {P:Part} {S S':Nat→Bool} (hs:∀b,S' b=true→S b=true) (c:Nat→Int) (i:Nat):P.at_ S c i=P.at_ S' c i+P.at_ (fun b=>S b&& !S' b) c i:=by
 unfold Part.at_;rw[←sm_add];refine sm_congr fun b _=>?_
 by_cases h:S' b=true
 ·simp[h,hs b h]
 ·simp[h]
theorem rise {P:Part} (ho:P.Ok) {S S':Nat→Bool} (hs:∀b,S' b=true→S b=true) (hn:∃b∈P.fs,S' b=true) (hr:∀b∈P.fs,S b=true→S' b=false→P.V b*P.den S≤P.num S (P.p b)):
  ∀k∈P.ns,P.num S k*P.den S'≤P.num S' k*P.den S:=by
 have hn':∃b∈P.fs,S b=true:=by obtain⟨b,hb,h⟩:=hn;exact⟨b,hb,hs b h⟩
 have d1:=den_pos ho hn;have d2:=den_pos ho hn';have key:=min_principle (A:=P.A S') (x:=fun k=>P.num S' k*P.den S-P.num S k*P.den S') ho.nd (A_off ho) (fun i hi=>by rw[A_row ho hi];exact at_nn ho) (A_cond ho).2 (A_leads ho hn) fun i hi=>by
  have e1:sm (fun k=>P.A S' i k*(P.num S' k*P.den S-P.num S k*P.den S')) P.ns=P.den S*sm (fun k=>P.A S' i k*P.num S' k) P.ns-P.den S'*sm (fun k=>P.A S' i k*P.num S k) P.ns:=by
   rw[←sm_smul,←sm_smul,←sm_sub];refine sm_congr fun k _=>?_;rw[Int.mul_sub,Int.mul_comm (P.den S),Int.mul_comm (P.den S'),Int.mul_assoc,Int.mul_assoc]
  have e2:sm (fun k=>P.A S i k*P.num S k) P.ns=sm (fun k=>P.A S' i k*P.num S k) P.ns+P.at_ (fun b=>S b&& !S' b) P.s i*P.num S i:=by
   have e3:=sm_only (f:=fun k=>P.at_ (fun b=>S b&& !S' b) P.s k*P.num S k) ho.nd hi;rw[←e3,←sm_add];refine sm_congr fun k _=>?_;unfold Part.A
   by_cases h:i=k
   ·subst h;simp only[if_true];rw[at_diff hs P.s i,←Int.add_assoc,Int.add_mul]
   ·simp[h]
  rw[solves ho hi]at e2;have e4:P.b S i=P.b S' i+P.at_ (fun b=>S b&& !S' b) (fun b=>P.s b*P.V b) i:=by
   unfold Part.b;rw[at_diff hs (fun b=>P.s b*P.V b) i];omega
  have e5:0≤P.at_ (fun b=>S b&& !S' b) P.s i*P.num S i-P.den S*P.at_ (fun b=>S b&& !S' b) (fun b=>P.s b*P.V b) i:=by
   unfold Part.at_;rw[Int.mul_comm (sm _ _) (P.num S i),←sm_smul,←sm_smul,←sm_sub];refine sm_nn fun b hb=>?_
   by_cases h:(S b&& !S' b)=true∧P.p b=i
   ·rw[if_pos h,if_pos h];simp only[Bool.and_eq_true,Bool.not_eq_true']at h;obtain⟨⟨h1,h2⟩,h3⟩:=h;have:=hr b hb h1 h2;rw[h3]at this;have h4:=Int.mul_le_mul_of_nonneg_left this (Int.le_of_lt (ho.spos b hb));rw[Int.mul_comm (P.num S i),Int.mul_left_comm (P.den S),Int.mul_comm (P.den S)];omega
   ·rw[if_neg h,if_neg h];simp
  rw[e1,solves ho hi];have e6:P.den S*(P.den S'*P.b S' i)-P.den S'*sm (fun k=>P.A S' i k*P.num S k) P.ns=P.den S'*(P.at_ (fun b=>S b&& !S' b) P.s i*P.num S i-P.den S*P.at_ (fun b=>S b&& !S' b) (fun b=>P.s b*P.V b) i):=by
   rw[e4,Int.mul_add]at e2;have:sm (fun k=>P.A S' i k*P.num S k) P.ns=P.den S*P.b S' i+P.den S*P.at_ (fun b=>S b&& !S' b) (fun b=>P.s b*P.V b) i-P.at_ (fun b=>S b&& !S' b) P.s i*P.num S i:=by omega
   rw[this,Int.mul_left_comm (P.den S),←Int.mul_sub]
   congr 1
   omega
  rw[e6];exact Int.mul_nonneg (Int.le_of_lt d1) e5
 intro k hk;have:=key k hk;omega
theorem flow_sum {P:Part} (ho:P.Ok) (S:Nat→Bool):sm (fun b=>if S b=true then P.s b*(P.V b*P.den S-P.num S (P.p b))else 0) P.fs=P.den S*sm P.u P.ns:=by
 have h1:sm (fun i=>sm (fun k=>P.A S i k*P.num S k) P.ns) P.ns=sm (fun i=>P.den S*P.b S i) P.ns:=sm_congr fun i hi=>solves ho hi;rw[sm_comm,sm_smul]at h1;have h2:sm (fun k=>sm (fun i=>P.A S i k*P.num S k) P.ns) P.ns=sm (fun k=>P.at_ S P.s k*P.num S k) P.ns:=sm_congr fun k hk=>by
  have:sm (fun i=>P.A S i k*P.num S k) P.ns=sm (fun i=>P.num S k*P.A S i k) P.ns:=sm_congr fun i _=>Int.mul_comm _ _;rw[this,sm_smul,A_col ho ho.nd hk,ho.col k hk,Int.zero_add,Int.mul_comm]
 have h3:sm (fun k=>P.at_ S P.s k*P.num S k) P.ns=sm (fun b=>if S b=true then P.s b*P.num S (P.p b)else 0) P.fs:=by
  have:sm (fun k=>P.at_ S P.s k*P.num S k) P.ns=sm (fun k=>sm (fun b=>if S b=true∧P.p b=k then P.s b*P.num S k else 0) P.fs) P.ns:=sm_congr fun k _=>by
   unfold Part.at_;rw[Int.mul_comm,←sm_smul];refine sm_congr fun b _=>?_
   by_cases h:S b=true∧P.p b=k
   ·rw[if_pos h,if_pos h,Int.mul_comm]
   ·rw[if_neg h,if_neg h,Int.mul_zero]
  rw[this,sm_comm];refine sm_congr fun b hb=>?_
  by_cases h:S b=true
  ·have:=sm_only (f:=fun k=>P.s b*P.num S k) ho.nd (ho.pin b hb);rw[if_pos h,←this];exact sm_congr fun k _=>by simp[h]
  ·rw[if_neg h];exact sm_zero fun k _=>by simp[h]
 have h4:sm (P.b S) P.ns=-sm P.u P.ns+sm (fun b=>if S b=true then P.s b*P.V b else 0) P.fs:=by
  unfold Part.b;rw[sm_add,sm_at ho.nd]
  congr 1
  ·have:=sm_smul (f:=P.u) (-1) (u:=P.ns);simpa using this
  ·refine sm_congr fun b hb=>?_
   by_cases h:S b=true<;>simp[h,ho.pin b hb]
 rw[h2,h3,h4]at h1;have h5:sm (fun b=>if S b=true then P.s b*(P.V b*P.den S-P.num S (P.p b))else 0) P.fs=P.den S*sm (fun b=>if S b=true then P.s b*P.V b else 0) P.fs-sm (fun b=>if S b=true then P.s b*P.num S (P.p b)else 0) P.fs:=by
  rw[←sm_smul,←sm_sub];refine sm_congr fun b _=>?_
  by_cases h:S b=true
  ·simp only[h,if_true];rw[Int.mul_sub,Int.mul_comm (P.V b),Int.mul_left_comm]
  ·simp[h]
 rw[h5,h1,Int.mul_add,Int.mul_neg];omega
def Fits_ (P:Part) (S:Nat→Bool):Prop:=(∃b∈P.fs,S b=true)∧∀b∈P.fs,(S b=true→P.num S (P.p b)≤P.V b*P.den S)∧(S b=false→P.V b*P.den S≤P.num S (P.p b))
theorem exists_fit {P:Part} (ho:P.Ok) (hsum:0<sm P.u P.ns) (hf:P.fs≠[]):∃S,Fits_ P S:=by
 have go:∀(n:Nat) (S:Nat→Bool),(P.fs.filter S).length≤n→(∃b∈P.fs,S b=true)→(∀b∈P.fs,S b=false→P.V b*P.den S≤P.num S (P.p b))→∃S,Fits_ P S:=by
  intro n
  induction n with
  |zero=>
   intro S h ⟨b,hb,hS⟩ _;have:b∈P.fs.filter S:=List.mem_filter.2 ⟨hb,hS⟩;rw[List.length_eq_zero_iff.1 (Nat.le_zero.1 h)]at this;simp at this
  | succ n ih=>
   intro S h hn hout
   let S':Nat→Bool:=fun b=>S b&&decide (P.num S (P.p b)≤P.V b*P.den S)
   have hs:∀b,S' b=true→S b=true:=fun b hb=>by simp only[S',Bool.and_eq_true]at hb;exact hb.1
   have hd:=den_pos ho hn
   by_cases hall:∀b∈P.fs,S b=true→P.num S (P.p b)≤P.V b*P.den S
   ·exact⟨S,hn,fun b hb=>⟨hall b hb,hout b hb⟩⟩
   ·have hn':∃b∈P.fs,S' b=true:=by
     refine Classical.byContradiction fun hno=>?_;have hneg:∀b∈P.fs,S b=true→P.V b*P.den S-P.num S (P.p b)≤0:=fun b hb hS=>by
      have:¬P.num S (P.p b)≤P.V b*P.den S:=fun hle=>hno ⟨b,hb,by simp[S',hS,hle]⟩;omega
     have h1:=flow_sum ho S;have h2:sm (fun b=>if S b=true then P.s b*(P.V b*P.den S-P.num S (P.p b))else 0) P.fs≤sm (fun _=>0) P.fs:=sm_le fun b hb=>by
      split
      ·exact Int.mul_nonpos_of_nonneg_of_nonpos (Int.le_of_lt (ho.spos b hb)) (hneg b hb (by assumption))
      ·exact Int.le_refl _
     rw[sm_zero (f:=fun _=>0) fun _ _=>rfl,h1]at h2;have:=Int.mul_pos hd hsum;omega
    have hrise:=rise ho hs hn' fun b hb h1 h2=>by
     simp only[S',h1,Bool.true_and,decide_eq_false_iff_not]at h2;omega
    have hd':=den_pos ho hn';refine ih S' ?_ hn' fun b hb hb'=>?_
    ·simp only[Classical.not_forall]at hall;obtain⟨b,hb,hSb,hgt⟩:=hall;have h1:P.fs.filter S'=(P.fs.filter S).filter S':=by
      rw[List.filter_filter];refine List.filter_congr fun a _=>?_;simp only[S']
      cases S a<;>simp
     have h2:((P.fs.filter S).filter S').length<(P.fs.filter S).length:=by
      refine List.length_filter_lt_length_iff_exists.2 ⟨b,List.mem_filter.2 ⟨hb,hSb⟩,?_⟩;simp only[S',hSb,Bool.true_and,decide_eq_true_eq];exact hgt
     rw[h1];omega
    ·have h1:P.V b*P.den S≤P.num S (P.p b):=by
      by_cases hS:S b=true
      ·simp only[S',hS,Bool.true_and,decide_eq_false_iff_not]at hb';omega
      ·exact hout b hb (by simpa using hS)
     have h2:=hrise _ (ho.pin b hb);have h3:=Int.mul_le_mul_of_nonneg_right h1 (Int.le_of_lt hd');have h4:(P.V b*P.den S')*P.den S≤P.num S' (P.p b)*P.den S:=by
      rw[Int.mul_assoc,Int.mul_comm (P.den S'),←Int.mul_assoc];omega
     exact Int.le_of_mul_le_mul_right h4 hd
 refine go _ (fun _=>true) (Nat.le_refl _) ?_ fun b _ h=>by simp at h
 obtain⟨b,l,hl⟩:=List.exists_cons_of_ne_nil hf;exact⟨b,by simp[hl],rfl⟩
end Go.Cur
end
section
namespace Go.Cur
def nmE (f:Nat→Nat) (e:Nat×Nat):Nat→Nat:=fun k=>if k=e.1∨k=e.2 then min (f e.1) (f e.2)else f k
def nmR (E:List (Nat×Nat)) (f:Nat→Nat):Nat→Nat:=E.foldl nmE f
def nmT (E:List (Nat×Nat)):Nat→Nat→Nat
 |0=>id
 |t+1=>nmR E (nmT E t)
def Closed (E:List (Nat×Nat)) (U:Nat→Prop):Prop:=∀e∈E,(U e.1↔U e.2)
theorem nmE_le {f:Nat→Nat} {e:Nat×Nat} {k:Nat}:nmE f e k≤f k:=by
 unfold nmE
 split
 ·rename_i h;rcases h with rfl|rfl
  ·exact Nat.min_le_left _ _
  ·exact Nat.min_le_right _ _
 ·exact Nat.le_refl _
theorem nmR_le:∀{E:List (Nat×Nat)} {f:Nat→Nat} {k:Nat},nmR E f k≤f k
 |[],f,k=>Nat.le_refl _
 |e::E,f,k=>Nat.le_trans (nmR_le (E:=E) (f:=nmE f e)) nmE_le
theorem nmT_le {E:List (Nat×Nat)}:∀{t k:Nat},nmT E t k≤k
 |0,k=>Nat.le_refl _
 |t+1,k=>Nat.le_trans nmR_le (nmT_le (t:=t))
theorem nmR_in {E:List (Nat×Nat)} {U:Nat→Prop}:∀{E':List (Nat×Nat)} {f:Nat→Nat},(∀e∈E',(U e.1↔U e.2))→(∀k,U (f k)↔U k)→∀k,U (nmR E' f k)↔U k
 |[],f,_,h,k=>h k
 | e::E',f,hE,h,k=>nmR_in (E:=E) (E':=E') (f:=nmE f e) (fun e he=>hE e (by simp[he])) (fun k=>by
   have he:=hE e (by simp);unfold nmE
   split
   ·rename_i hk;have hm:min (f e.1) (f e.2)=f e.1∨min (f e.1) (f e.2)=f e.2:=by omega
    have h1:=h e.1;have h2:=h e.2
    rcases hm with hm|hm<;>rw[hm]<;>rcases hk with rfl|rfl
    ·exact h1
    ·exact h1.trans he
    ·exact h2.trans he.symm
    ·exact h2
   ·exact h k) k
theorem nmT_in {E:List (Nat×Nat)} {U:Nat→Prop} (hU:Closed E U):∀{t:Nat} (k:Nat),U (nmT E t k)↔U k
 |0,k=>Iff.rfl
 |t+1,k=>nmR_in (E:=E) hU (nmT_in hU (t:=t)) k
theorem low_keep {m:Nat}:∀{E:List (Nat×Nat)} {f:Nat→Nat},(∀e∈E,(f e.1≤m↔f e.2≤m))→∀k,nmR E f k≤m↔f k≤m
 |[],f,_,k=>Iff.rfl
 | e::E,f,h,k=>by
  have h0:=h e (by simp);have h1:∀k,nmE f e k≤m↔f k≤m:=fun k=>by
   unfold nmE
   split
   ·rename_i hk
    rcases hk with rfl|rfl<;>omega
   ·exact Iff.rfl
  have:=low_keep (m:=m) (E:=E) (f:=nmE f e) (fun e' he=>by rw[h1,h1];exact h e' (by simp[he])) k;exact this.trans (h1 k)
theorem low_more {m:Nat} {E:List (Nat×Nat)} {f:Nat→Nat} {e:Nat×Nat} (he:e∈E) (h:f e.1≤m∨f e.2≤m):nmR E f e.1≤m∧nmR E f e.2≤m:=by
 obtain⟨u,v,rfl⟩:=List.append_of_mem he;have hc:nmR (u++e::v) f=nmR v (nmE (nmR u f) e):=by simp[nmR,List.foldl_append]
 rw[hc];have h1:nmR u f e.1≤f e.1:=nmR_le;have h2:nmR u f e.2≤f e.2:=nmR_le;have h3:nmE (nmR u f) e e.1=min (nmR u f e.1) (nmR u f e.2):=by simp[nmE]
 have h4:nmE (nmR u f) e e.2=min (nmR u f e.1) (nmR u f e.2):=by simp[nmE]
 have h5:=nmR_le (E:=v) (f:=nmE (nmR u f) e) (k:=e.1);have h6:=nmR_le (E:=v) (f:=nmE (nmR u f) e) (k:=e.2);rw[h3]at h5;rw[h4]at h6;omega
def cntL (n m:Nat) (f:Nat→Nat):Nat:=((List.range n).filter fun k=>decide (f k≤m)).length
theorem cntL_mono {n m:Nat} {f g:Nat→Nat} (h:∀k,g k≤f k) {j:Nat} (hj:j<n) (h1:¬f j≤m) (h2:g j≤m):cntL n m f<cntL n m g:=by
 unfold cntL;have:(List.range n).filter (fun k=>decide (f k≤m))=((List.range n).filter fun k=>decide (g k≤m)).filter fun k=>decide (f k≤m):=by
  rw[List.filter_filter];refine List.filter_congr fun k _=>?_;have:=h k
  by_cases hf:f k≤m
  ·have:g k≤m:=by omega
   simp[hf,this]
  ·simp[hf]
 rw[this];exact List.length_filter_lt_length_iff_exists.2 ⟨j,List.mem_filter.2 ⟨List.mem_range.2 hj,by simpa using h2⟩,by simpa using h1⟩
theorem cntL_le {n m:Nat} {f:Nat→Nat}:cntL n m f≤n:=by
 have:=List.length_filter_le (fun k=>decide (f k≤m)) (List.range n);simpa [cntL]using this
theorem low_closed {E:List (Nat×Nat)} {n:Nat} (hE:∀e∈E,e.1<n∧e.2<n) (m:Nat):∀e∈E,(nmT E n e.1≤m↔nmT E n e.2≤m):=by
 have key:∀t,(∀e∈E,(nmT E t e.1≤m↔nmT E t e.2≤m))∨t+1≤cntL n m (nmT E t):=by
  intro t
  induction t with
  | zero=>
   by_cases hn:n=0
   ·left;intro e he;have:=hE e he;omega
   ·right
    have:0∈(List.range n).filter fun k=>decide (nmT E 0 k≤m):=List.mem_filter.2 ⟨List.mem_range.2 (by omega),by simp[nmT]⟩;exact List.length_pos_of_mem this
  | succ t ih=>
   by_cases hc:∀e∈E,(nmT E t e.1≤m↔nmT E t e.2≤m)
   ·left
    intro e he;have:=low_keep (m:=m) (E:=E) (f:=nmT E t) hc;rw[nmT,this,this];exact hc e he
   ·right
    have ih:=ih.resolve_left hc;simp only[Classical.not_forall]at hc;obtain⟨e,he,hne⟩:=hc;have hor:nmT E t e.1≤m∨nmT E t e.2≤m:=by omega
    have hm:=low_more (f:=nmT E t) he hor;have hb:=hE e he;have:cntL n m (nmT E t)<cntL n m (nmT E (t+1)):=by
     rcases(by omega:¬nmT E t e.1≤m∨¬nmT E t e.2≤m)with h|h
     ·exact cntL_mono (fun k=>nmR_le) hb.1 h hm.1
     ·exact cntL_mono (fun k=>nmR_le) hb.2 h hm.2
    omega
 rcases key n with h|h
 ·exact h
 ·have:=cntL_le (n:=n) (m:=m) (f:=nmT E n);omega
def nm (E:List (Nat×Nat)) (n:Nat):Nat→Nat:=nmT E n
section
variable {E:List (Nat×Nat)} {n:Nat}
theorem nm_le {k:Nat}:nm E n k≤k:=nmT_le
theorem nm_eq (hE:∀e∈E,e.1<n∧e.2<n) {e:Nat×Nat} (he:e∈E):nm E n e.1=nm E n e.2:=by
 have h1:=(low_closed hE (nm E n e.1) e he).1 (Nat.le_refl _);have h2:=(low_closed hE (nm E n e.2) e he).2 (Nat.le_refl _);unfold nm at*
 omega
theorem nm_closed (hE:∀e∈E,e.1<n∧e.2<n) (i:Nat):Closed E fun k=>nm E n k=i:=fun e he=>by
 show nm E n e.1=i↔nm E n e.2=i;rw[nm_eq hE he]
theorem nm_nm (hE:∀e∈E,e.1<n∧e.2<n) (k:Nat):nm E n (nm E n k)=nm E n k:=(nmT_in (t:=n) (nm_closed hE (nm E n k)) k).2 rfl
theorem nm_in {U:Nat→Prop} (hU:Closed E U) (k:Nat):U (nm E n k)↔U k:=nmT_in hU k
def cp (E:List (Nat×Nat)) (n i:Nat):List Nat:=(List.range n).filter fun k=>decide (nm E n k=i)
theorem cp_mem {i k:Nat}:k∈cp E n i↔k<n∧nm E n k=i:=by simp[cp]
theorem cp_nodup {i:Nat}:(cp E n i).Nodup:=List.nodup_range.filter _
theorem cp_sorted {i:Nat}:(cp E n i).Pairwise (· < ·):=List.Pairwise.filter _ List.pairwise_lt_range
theorem cp_joined {U:Nat→Prop} (hU:Closed E U) {i k j:Nat} (hk:k∈cp E n i) (h:U k) (hj:j∈cp E n i):U j:=by
 rw[cp_mem]at hk hj;have h1:=(nm_in (n:=n) hU k).2 h;rw[hk.2]at h1;exact(nm_in (n:=n) hU j).1 (by rw[hj.2];exact h1)
theorem cp_out (hE:∀e∈E,e.1<n∧e.2<n) {U:List Nat} {i k j:Nat} (hs:∀x∈U,x∈cp E n i) (hk:k∈U) (hj:j∈cp E n i) (hn:j∉U):∃e∈E,(e.1∈U∧e.2∉U∧e.2∈cp E n i)∨(e.2∈U∧e.1∉U∧e.1∈cp E n i):=by
 by_cases hc:Closed E (fun x=>x∈U)
 ·exact absurd (cp_joined hc (hs k hk) hk hj) hn
 ·simp only[Closed,Classical.not_forall]at hc;obtain⟨e,he,h⟩:=hc;refine⟨e,he,?_⟩;have h1:=nm_eq hE he;have hb:=hE e he
  by_cases h3:e.1∈U
  ·left
   refine⟨h3,fun h4=>h ⟨fun _=>h4,fun _=>h3⟩,?_⟩;have:=cp_mem.1 (hs _ h3);exact cp_mem.2 ⟨hb.2,by rw[←h1];exact this.2⟩
  ·have h4:e.2∈U:=by
    refine Classical.byContradiction fun h4=>h ⟨fun h5=>absurd h5 h3,fun h5=>absurd h5 h4⟩
   right
   refine⟨h4,h3,?_⟩;have:=cp_mem.1 (hs _ h4);exact cp_mem.2 ⟨hb.1,by rw[h1];exact this.2⟩
def heads (E:List (Nat×Nat)) (n:Nat):List Nat:=(List.range n).filter fun i=>decide (nm E n i=i)
def partsN (E:List (Nat×Nat)) (n:Nat):List (List Nat):=(heads E n).map (cp E n)
theorem heads_mem {i:Nat}:i∈heads E n↔i<n∧nm E n i=i:=by simp[heads]
theorem cp_self {i:Nat} (h:i∈heads E n):i∈cp E n i:=by
 rw[heads_mem]at h;exact cp_mem.2 h
theorem nm_head (hE:∀e∈E,e.1<n∧e.2<n) {k:Nat} (hk:k<n):nm E n k∈heads E n:=heads_mem.2 ⟨Nat.lt_of_le_of_lt nm_le hk,nm_nm hE k⟩
theorem cp_whole {i:Nat} {p:List Nat} (hi:i∈heads E n) (h1:i∈p) (hc:Closed E fun x=>x∈p) {j:Nat} (hj:j∈cp E n i):j∈p:=cp_joined hc (cp_self hi) h1 hj
end
end Go.Cur
end
section
namespace Go.Cur
structure Wn where
 a:Nat
 b:Nat
 s:Int
def Wn.e (w:Wn):Nat×Nat:=(w.a,w.b)
def ew (w:Wn) (i:Nat):Int:=(if i=w.a then 1 else 0)-(if i=w.b then 1 else 0)
def lw:List Wn→Nat→Nat→Int
 |[],_,_=>0
 |w::W,i,k=>w.s*(ew w i*ew w k)+lw W i k
def OkW (W:List Wn) (n:Nat):Prop:=∀w∈W,w.a<n∧w.b<n∧w.a≠w.b∧0<w.s
def edges (W:List Wn):List (Nat×Nat):=W.map Wn.e
theorem lw_append {i k:Nat}:∀{u v:List Wn},lw (u++v) i k=lw u i k+lw v i k
 |[],v=>by simp[lw]
 |w::u,v=>by rw[List.cons_append,lw,lw,lw_append];omega
theorem lw_comm {i k:Nat}:∀{W:List Wn},lw W i k=lw W k i
 |[]=>rfl
 |w::W=>by rw[lw,lw,lw_comm,Int.mul_comm (ew w i)]
theorem ew_sum {w:Wn}:∀{U:List Nat},U.Nodup→sm (ew w) U=(if w.a∈U then 1 else 0)-(if w.b∈U then 1 else 0)
 |[],_=>by simp[sm]
 | x::U,h=>by
  rw[List.nodup_cons]at h;rw[sm,ew_sum h.2];unfold ew
  by_cases ha:x=w.a
  ·by_cases hb:x=w.b
   ·have h1:w.a∉U:=ha▸h.1;have h2:w.b∉U:=hb▸h.1;have h3:w.b=w.a:=by omega
    subst ha;simp[h3]
   ·have h1:w.a∉U:=ha▸h.1;have h2:¬w.b=x:=fun e=>hb e.symm;subst ha;simp[h1,hb,h2];omega
  ·have h2:¬w.a=x:=fun e=>ha e.symm
   by_cases hb:x=w.b
   ·have h1:w.b∉U:=hb▸h.1;subst hb;simp[h1,ha,h2];omega
   ·have h3:¬w.b=x:=fun e=>hb e.symm;simp[ha,hb,h2,h3]
def lwU:List Wn→List Nat→Nat→Int
 |[],_,_=>0
 |w::W,U,k=>w.s*(ew w k*((if w.a∈U then 1 else 0)-(if w.b∈U then 1 else 0)))+lwU W U k
theorem lw_sum {k:Nat} {U:List Nat} (hU:U.Nodup):∀{W:List Wn},sm (fun i=>lw W i k) U=lwU W U k
 |[]=>by simp only[lw,lwU];exact sm_zero fun _ _=>rfl
 |w::W=>by
  simp only[lw,lwU];rw[sm_add,lw_sum hU,←ew_sum hU]
  congr 1
  rw[sm_smul]
  congr 1
  rw[←sm_smul];exact sm_congr fun i _=>Int.mul_comm _ _
theorem ew_off {w:Wn} {i k:Nat} (h:i≠k):ew w i*ew w k≤0:=by
 unfold ew
 by_cases h1:i=w.a
 ·have h3:¬k=w.a:=by omega
  by_cases h2:i=w.b
  ·have h4:¬k=w.b:=by omega
   simp[h1,h3,h4]
  ·rw[if_pos h1,if_neg h2,if_neg h3]
   split<;>omega
 ·by_cases h2:i=w.b
  ·have h4:¬k=w.b:=by omega
   rw[if_neg h1,if_pos h2,if_neg h4]
   split<;>omega
  ·rw[if_neg h1,if_neg h2];omega
theorem lw_off {n i k:Nat} (h:i≠k):∀{W:List Wn},OkW W n→lw W i k≤0
 |[],_=>Int.le_refl _
 |w::W,hW=>by
  have h1:=lw_off h (W:=W) fun w hw=>hW w (by simp[hw]);have h2:=ew_off (w:=w) h;have h3:=(hW w (by simp)).2.2.2;have:=Int.mul_nonpos_of_nonneg_of_nonpos (Int.le_of_lt h3) h2;rw[lw];omega
theorem lwU_nn {n k:Nat} {U:List Nat} (hk:k∈U):∀{W:List Wn},OkW W n→0≤lwU W U k
 |[],_=>Int.le_refl _
 | w ::W,hW=>by
  have h1:=lwU_nn hk (W:=W) fun w hw=>hW w (by simp[hw]);have h3:=(hW w (by simp)).2.2.2;have h2:0≤ew w k*((if w.a∈U then 1 else 0)-(if w.b∈U then 1 else 0)):=by
   unfold ew
   by_cases e1:k=w.a
   ·have h5:=(hW w (by simp)).2.2.1;rw[if_pos e1,if_neg (by omega),←e1,if_pos hk]
    split<;>omega
   ·by_cases e2:k=w.b
    ·rw[if_neg e1,if_pos e2,←e2,if_pos hk]
     split<;>omega
    ·rw[if_neg e1,if_neg e2];omega
  have:=Int.mul_nonneg (Int.le_of_lt h3) h2;rw[lwU];omega
theorem lwU_pos {n k:Nat} {U:List Nat} (hk:k∈U):∀{W:List Wn},OkW W n→(∃w∈W,(k=w.a∧w.b∉U)∨(k=w.b∧w.a∉U))→0<lwU W U k
 |[],_,⟨_,h,_⟩=>by simp at h
 | w::W,hW,⟨x,hx,h⟩=>by
  have hW':OkW W n:=fun w hw=>hW w (by simp[hw])
  rcases List.mem_cons.1 hx with rfl|hx
  ·have h1:=lwU_nn hk hW';have h3:=(hW x (by simp)).2.2.2;have h2:ew x k*((if x.a∈U then 1 else 0)-(if x.b∈U then 1 else 0))=1:=by
    have h5:=(hW x (by simp)).2.2.1;unfold ew
    rcases h with⟨e,h⟩|⟨e,h⟩
    ·rw[if_pos e,if_neg (by omega),←e,if_pos hk,if_neg h];rfl
    ·rw[if_neg (by omega),if_pos e,←e,if_pos hk,if_neg h];rfl
   rw[lwU,h2];omega
  ·have h1:=lwU_pos hk hW' ⟨x,hx,h⟩;have h2:=lwU_nn hk (W:=[w]) fun y hy=>hW y (by simp only[List.mem_singleton]at hy;subst hy;simp);simp only[lwU]at h2 ⊢;omega
theorem lwU_cp {n i k:Nat} {E:List (Nat×Nat)} (hE:∀e∈E,e.1<n∧e.2<n):∀{W:List Wn},(∀w∈W,w.e∈E)→lwU W (cp E n i) k=0
 |[],_=>rfl
 | w::W,hW=>by
  have h1:=nm_eq hE (hW w (by simp));have hb:=hE _ (hW w (by simp));have h2:w.a∈cp E n i↔w.b∈cp E n i:=by
   rw[cp_mem,cp_mem];simp only[Wn.e]at h1 hb;rw[h1];exact⟨fun h=>⟨hb.2,h.2⟩,fun h=>⟨hb.1,h.2⟩⟩
  rw[lwU,lwU_cp hE fun w hw=>hW w (by simp[hw])]
  by_cases h:w.a∈cp E n i
  ·rw[if_pos h,if_pos (h2.1 h)];simp
  ·rw[if_neg h,if_neg fun e=>h (h2.2 e)];simp
theorem edges_ok {W:List Wn} {n:Nat} (hW:OkW W n):∀e∈edges W,e.1<n∧e.2<n:=fun e he=>by
 obtain⟨w,hw,rfl⟩:=List.mem_map.1 he;have:=hW w hw;exact⟨this.1,this.2.1⟩
def prt (W:List Wn) (n i:Nat) (u:Nat→Int) (fs:List Nat) (p:Nat→Nat) (s V:Nat→Int):Part:=⟨cp (edges W) n i,lw W,u,fs,p,s,V⟩
theorem prt_ok {W:List Wn} {n i:Nat} {u:Nat→Int} {fs:List Nat} {p:Nat→Nat} {s V:Nat→Int} (hW:OkW W n) (hp:∀b∈fs,p b∈cp (edges W) n i) (hs:∀b∈fs,0<s b):(prt W n i u fs p s V).Ok where
 nd:=cp_nodup
 off:=fun i _ k _ h=>lw_off h hW
 col:=fun k _=>by
  show sm (fun i=>lw W i k) (cp (edges W) n i)=0;rw[lw_sum cp_nodup,lwU_cp (edges_ok hW) fun w hw=>List.mem_map.2 ⟨w,hw,rfl⟩]
 row:=fun k _=>by
  show sm (fun i=>lw W k i) (cp (edges W) n i)=0;rw[sm_congr (g:=fun i=>lw W i k) fun i _=>lw_comm,lw_sum cp_nodup,lwU_cp (edges_ok hW) fun w hw=>List.mem_map.2 ⟨w,hw,rfl⟩]
 lead:=fun U hU hn hs ⟨j,hj,hjU⟩=>by
  obtain⟨k0,hk0⟩:=List.exists_mem_of_ne_nil U hn;obtain⟨e,he,h⟩:=cp_out (edges_ok hW) hs hk0 hj hjU;obtain⟨w,hw,rfl⟩:=List.mem_map.1 he
  rcases h with⟨h1,h2,_⟩|⟨h1,h2,_⟩
  ·refine⟨w.a,h1,?_⟩;show 0<sm (fun i=>lw W i w.a) U;rw[lw_sum hU];exact lwU_pos h1 hW ⟨w,hw, .inl ⟨rfl,h2⟩⟩
  ·refine⟨w.b,h1,?_⟩;show 0<sm (fun i=>lw W i w.b) U;rw[lw_sum hU];exact lwU_pos h1 hW ⟨w,hw, .inr ⟨rfl,h2⟩⟩
 pin:=hp
 spos:=hs
end Go.Cur
end
section
namespace Go.Cur
theorem num_congr {P:Part} {S S':Nat→Bool} (h:∀b∈P.fs,S b=S' b):P.num S=P.num S'∧P.den S=P.den S':=by
 have ha:∀c,P.at_ S c=P.at_ S' c:=fun c=>funext fun i=>sm_congr fun b hb=>by rw[h b hb]
 have hA:P.A S=P.A S':=by funext i k;unfold Part.A;rw[ha]
 have hb:P.b S=P.b S':=by funext i;unfold Part.b;rw[ha]
 refine⟨?_,?_⟩
 ·funext k;unfold Part.num;rw[hA,hb]
 ·unfold Part.den;rw[hA]
end Go.Cur
end
section
namespace Go.Cur
def ps (t:Nat→Int):Nat→Int
 |0=>0
 |j+1=>ps t j+t j
theorem ps_congr {t u:Nat→Int}:∀{n:Nat},(∀j,j<n→t j=u j)→ps t n=ps u n
 |0,_=>rfl
 |n+1,h=>by rw[ps,ps,ps_congr fun j hj=>h j (by omega),h n (by omega)]
theorem ps_front {t:Nat→Int}:∀{n:Nat},ps t (n+1)=t 0+ps (fun j=>t (j+1)) n
 |0=>by simp[ps]
 |n+1=>by rw[ps,ps_front,ps];omega
theorem ps_smul {t:Nat→Int} (a:Int):∀{n:Nat},ps (fun j=>a*t j) n=a*ps t n
 |0=>by simp[ps]
 |n+1=>by rw[ps,ps,ps_smul,Int.mul_add]
theorem ps_neg {t:Nat→Int} {n:Nat}:ps (fun j=>-t j) n=-ps t n:=by
 have:=ps_smul (t:=t) (-1) (n:=n);simpa using this
theorem E_ps {α:Type} [Inhabited α]:∀{cs:List α} {f:α→List α→Int},E f cs=ps (fun j=>sg j*f (cs[j]?.getD default) (cs.eraseIdx j)) cs.length
 |[],_=>rfl
 | c::cs,f=>by
  rw[E,E_ps,List.length_cons,ps_front];have:ps (fun j=>sg (j+1)*f ((c::cs)[j+1]?.getD default) ((c::cs).eraseIdx (j+1))) cs.length=-ps (fun j=>sg j*f (cs[j]?.getD default) (c::cs.eraseIdx j)) cs.length:=by
   rw[←ps_neg];refine ps_congr fun j hj=>?_;simp only[sg,List.getElem?_cons_succ,List.eraseIdx_cons_succ,Int.neg_mul]
  rw[this];simp[sg];omega
def minor (a:Nat→Nat→Int) (rows cols:List Nat):Int:=det rows (cols.map fun k i=>a i k)
theorem minor_cons {a:Nat→Nat→Int} {r:Nat} {rows cols:List Nat}:minor a (r::rows) cols=ps (fun j=>sg j*(a r (cols[j]?.getD 0)*minor a rows (cols.eraseIdx j))) cols.length:=by
 unfold minor;rw[det_map,E_ps]
 rfl
theorem det_names {f:Nat→Nat}:∀{is:List Nat} {cs:List (Nat→Int)},det (is.map f) cs=det is (cs.map fun c i=>c (f i))
 |[],[]=>rfl
 |[],_::_=>rfl
 |i::is,cs=>by
  rw[List.map_cons,det,det,E_map];exact E_congr fun c l _ _ _=>by rw[det_names]
theorem minor_names {a:Nat→Nat→Int} {f g:Nat→Nat} {rows cols:List Nat}:minor a (rows.map f) (cols.map g)=minor (fun i k=>a (f i) (g k)) rows cols:=by
 unfold minor;rw[det_names,List.map_map,List.map_map]
 rfl
theorem minor_congr {a b:Nat→Nat→Int} {rows cols:List Nat} (h:∀i∈rows,∀k∈cols,a i k=b i k):minor a rows cols=minor b rows cols:=det_congr h
theorem list_range {p:List Nat}:p=(List.range p.length).map fun j=>p.getD j 0:=by
 refine List.ext_getElem (by simp) fun j h1 h2=>?_;simp[h1]
theorem D_minor {A:Nat→Nat→Int} {p:List Nat}:D A p=minor (fun i k=>A (p.getD i 0) (p.getD k 0)) (List.range p.length) (List.range p.length):=by
 have h:D A p=minor A p p:=rfl;rw[h]
 conv=>lhs;rw[list_range (p:=p)]
 exact minor_names
theorem getD_inj {p:List Nat} (hp:p.Nodup) {i j:Nat} (hi:i<p.length) (hj:j<p.length) (h:p.getD i 0=p.getD j 0):i=j:=by
 simp only[List.getD_eq_getElem?_getD,List.getElem?_eq_getElem hi,List.getElem?_eq_getElem hj,Option.getD_some]at h;exact(List.getElem_inj hp).1 h
theorem num_minor {A:Nat→Nat→Int} {b:Nat→Int} {p:List Nat} (hp:p.Nodup) {k:Nat} (hk:k<p.length):num A b p (p.getD k 0)=minor (fun i j=>if j=k then b (p.getD i 0)else A (p.getD i 0) (p.getD j 0)) (List.range p.length) (List.range p.length):=by
 have h:num A b p (p.getD k 0)=minor (fun i j=>if j=p.getD k 0 then b i else A i j) p p:=rfl;rw[h]
 conv=>lhs;rw[list_range (p:=p)]
 rw[minor_names];refine minor_congr fun i hi j hj=>?_;rw[List.mem_range]at hi hj;have e:((List.range p.length).map fun j=>p.getD j 0)=p:=list_range.symm;rw[e]
 by_cases h:j=k
 ·subst h;simp
 ·rw[if_neg h,if_neg fun e=>h (getD_inj hp hj hk e)]
def sa (f:Nat→Nat):List Nat→Nat
 |[]=>0
 |i::is=>f i+sa f is
theorem sa_append {f:Nat→Nat}:∀{u v:List Nat},sa f (u++v)=sa f u+sa f v
 |[],v=>by simp[sa]
 |i::u,v=>by rw[List.cons_append,sa,sa,sa_append];omega
theorem sa_le {f g:Nat→Nat}:∀{u:List Nat},(∀i∈u,f i≤g i)→sa f u≤sa g u
 |[],_=>Nat.le_refl _
 |i::u,h=>by
  have h1:=h i (by simp);have h2:=sa_le (f:=f) (g:=g) (u:=u) fun k hk=>h k (by simp[hk]);rw[sa,sa];omega
theorem sa_mul {f:Nat→Nat} (a:Nat):∀{u:List Nat},sa (fun i=>f i*a) u=sa f u*a
 |[]=>by simp[sa]
 |i::u=>by rw[sa,sa,sa_mul,Nat.add_mul]
theorem E_abs:∀{cs:List Nat} {f:Nat→List Nat→Int} {g:Nat→Nat},(∀u c v,cs=u++c::v→(f c (u++v)).natAbs≤g c)→(E f cs).natAbs≤sa g cs
 |[],f,g,_=>by simp[E,sa]
 |c::cs,f,g,h=>by
  have h1:=h [] c cs rfl;have h2:=E_abs (cs:=cs) (f:=fun d l=>f d (c::l)) (g:=g) fun u d v e=>h (c::u) d v (by rw[e];rfl);rw[E,sa];simp only[List.nil_append]at h1;omega
theorem minor_abs {a:Nat→Nat→Int} {R:Nat}:∀{rows cols:List Nat},(∀i∈rows,sa (fun k=>(a i k).natAbs) cols≤R)→(minor a rows cols).natAbs≤R^rows.length
 |[],cols,_=>by
  unfold minor
  cases cols<;>simp[det]
 |i::rows,cols,h=>by
  have hm:minor a (i::rows) cols=E (fun k l=>a i k*minor a rows l) cols:=det_map;rw[hm];refine Nat.le_trans (E_abs (g:=fun k=>(a i k).natAbs*R^rows.length) fun u c v e=>?_) ?_
  ·rw[Int.natAbs_mul];refine Nat.mul_le_mul_left _ (minor_abs fun j hj=>?_);have:=h j (by simp[hj]);rw[e,sa_append,sa]at this;rw[sa_append];omega
  ·rw[sa_mul,List.length_cons,Nat.pow_succ,Nat.mul_comm];exact Nat.mul_le_mul_left _ (h i (by simp))
def bnd (R B:Nat):Nat→Nat
 |0=>0
 |n+1=>B*R^n+R*bnd R B n
theorem sa_split {f:Nat→Nat} {u v:List Nat} {k:Nat}:sa f (u++k::v)=f k+sa f (u++v):=by
 rw[sa_append,sa_append,sa];omega
theorem minor_mark {a:Nat→Nat→Int} {R B k0:Nat}:∀{rows cols:List Nat},cols.Nodup→k0∈cols→(∀i∈rows,(a i k0).natAbs≤B)→(∀i∈rows,sa (fun k=>if k=k0 then 0 else(a i k).natAbs) cols≤R)→(minor a rows cols).natAbs≤bnd R B rows.length
 |[],cols,_,hk,_,_=>by
  unfold minor
  cases cols with
  |nil=>simp at hk
  |cons c cs=>simp[det]
 | i ::rows,cols,hn,hk,hB,hR=>by
  have hm:minor a (i::rows) cols=E (fun k l=>a i k*minor a rows l) cols:=det_map;rw[hm,List.length_cons,bnd];refine Nat.le_trans (E_abs (g:=fun k=>if k=k0 then B*R^rows.length else(a i k).natAbs*bnd R B rows.length) fun u c v e=>?_) ?_
  ·rw[Int.natAbs_mul];subst e;obtain⟨hu,hv,hd⟩:=nodup_split hn
   by_cases hc:c=k0
   ·rw[if_pos hc];subst hc;refine Nat.mul_le_mul (hB i (by simp)) (minor_abs fun j hj=>?_);have:=hR j (by simp[hj]);rw[sa_split,if_pos rfl,Nat.zero_add]at this;refine Nat.le_trans (Nat.le_of_eq ?_) this;have hne:∀x∈u++v,x≠c:=fun x hx=>by
     rintro rfl
     rcases List.mem_append.1 hx with h|h
     ·exact hu h
     ·exact hv h
    refine Nat.le_antisymm (sa_le fun x hx=>by rw[if_neg (hne x hx)];exact Nat.le_refl _) (sa_le fun x hx=>by rw[if_neg (hne x hx)];exact Nat.le_refl _)
   ·rw[if_neg hc];refine Nat.mul_le_mul_left _ (minor_mark hd ?_ (fun j hj=>hB j (by simp[hj])) fun j hj=>?_)
    ·simp only[List.mem_append,List.mem_cons]at hk ⊢
     rcases hk with h|rfl|h
     ·exact .inl h
     ·exact absurd rfl hc
     ·exact .inr h
    ·have:=hR j (by simp[hj]);rw[sa_split]at this;omega
  ·obtain⟨u,v,rfl⟩:=List.append_of_mem hk;obtain⟨hu,hv,hd⟩:=nodup_split hn;have hne:∀x∈u++v,x≠k0:=fun x hx=>by
    rintro rfl
    rcases List.mem_append.1 hx with h|h
    ·exact hu h
    ·exact hv h
   rw[sa_split,if_pos rfl];refine Nat.add_le_add_left ?_ _;have h1:=hR i (by simp);rw[sa_split,if_pos rfl,Nat.zero_add]at h1;refine Nat.le_trans (Nat.le_of_eq (Nat.le_antisymm (sa_le (g:=fun k=>(if k=k0 then 0 else(a i k).natAbs)*bnd R B rows.length) fun x hx=>by rw[if_neg (hne x hx),if_neg (hne x hx)];exact Nat.le_refl _) (sa_le fun x hx=>by rw[if_neg (hne x hx),if_neg (hne x hx)];exact Nat.le_refl _))) ?_;rw[sa_mul];exact Nat.mul_le_mul_right _ h1
end Go.Cur
end
