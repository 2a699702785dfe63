import Derived.Test.YtibddmpaklcleaaK5
import Derived.OpenShut
import Derived.ProofKit
import Derived.WalkKit
import Derived.Test.YtibddmpaklcleaaRows
set_option maxRecDepth 100000
set_option maxHeartbeats 8000000
set_option linter.unusedVariables false
set_option linter.unusedSimpArgs false
section
namespace Go.Cur
open Go.AM Go.Proofs
def onAll (wi:List Bool) (ws:List Int):List Bool:=ws.foldl (fun b w=>b.set w.toNat true) wi
theorem onAll_snoc {wi:List Bool} {ws:List Int} {k:Nat} {w:Int} (h:ws[k]?=some w):onAll wi (ws.take (k+1))=(onAll wi (ws.take k)).set w.toNat true:=by
 unfold onAll;rw[List.take_add_one,h,List.foldl_append];rfl
theorem onAll_len:∀(ws:List Int) (wi:List Bool),(onAll wi ws).length=wi.length
 |[],wi=>rfl
 |w::ws,wi=>by
  have:=onAll_len ws (wi.set w.toNat true);unfold onAll at this ⊢;rw[List.foldl_cons,this,List.length_set]
def rlB (g:Gr) (s:Sta) (ws:List Int) (l:List Ld):Bool:=decide ((settleS g (onAll s.Wires ws) l s.Feeds).cuts.length=0)
theorem len_eq0 (c:List Cu):((c.length:Int)==0)=decide (c=[]):=by
 cases c with
 |nil=>rfl
 |cons a t=>
  have:¬((a::t).length:Int)=0:=by simp only[List.length_cons];omega
  rw[beq_eq_false_iff_ne.2 this];simp
theorem not_long {g:Gr} {wi:List Bool} {l:List Ld} (h:SetOk g wi l) (fe:List Bool):longB g ⟨fe,wi⟩=false:=by
 unfold longB;rw[List.any_eq_false];intro p hp;have:=h.p5' fe p hp;simp;omega
theorem c_relievesa (g:Gr) (s:Sta) (ws:List Int) (l:List Ld) (hnt:NetOk g s) (hw:∀w∈ws,0≤w∧w<s.Wires.length) (h:SetOk g (onAll s.Wires ws) l) (hwl:ws.length≤1000) (hne:s.Feeds≠[]) (hwn:s.Wires≠[]):
  PureCall Try.prog 60 [net g s,iL ws,lL l] (Bo (rlB g s ws l)):=by
 have hol:=onAll_len ws s.Wires;have hnt2:NetOk g ⟨s.Feeds,onAll s.Wires ws⟩:=⟨hnt.gr,hnt.sf,by rw[hol];exact hnt.sw⟩;have hlg:=c_long g ⟨s.Feeds,onAll s.Wires ws⟩ hnt2 (h.few _);rw[not_long h]at hlg;have hbd:=grB_bd hnt.gr;have hsf:=hnt.sf;have hsw:=hnt.sw;have hst:=m_settlea g (onAll s.Wires ws) l s.Feeds h hsf _ rfl;have hrl:rlB g s ws l=decide ((settleS g (onAll s.Wires ws) l s.Feeds).cuts.length=0):=rfl;generalize settleS g (onAll s.Wires ws) l s.Feeds=Z at hst hrl;rw[hrl];have htw:List.take s.Wires.length ((onAll s.Wires ws).map bCell)=(onAll s.Wires ws).map bCell:=List.take_of_length_le (by simp;omega);refine PureCall.of_bodyG Try.func60 rfl (by decide) (by simp[Try.ntmps60]) ?_;intro J hJ;simp only[Try.ntmps60,Try.results60];refine gS fun K hK=>?_;simp -dsimp;apply hK;clear hK K;refine gwp_sd mixed rfl (by decide) rfl rfl fun K hK=>?_;simp -dsimp;refine callK_own (o_Cl s.Feeds hne (by omega)) ?_;simp -dsimp;refine callK_own (o_Cl s.Wires hwn (by omega)) ?_;simp -dsimp;refine hK _ _ _ (by decide+kernel) ?_;clear hK K;refine gwp_seq_k fun K1 hK1=>?_;refine gS fun K hK=>?_;simp -dsimp;apply hK;clear hK K;refine gwp_block ?_;refine gwp_prune [2,7,29,30,31] (Or.inr (by simp)) ?_;simp only[zP,Nat.reduceEqDiff,reduceIte];refine gwp_loop_l [2,7,29,30] (α:=Nat) (fun k=>[(31,I k)]) (fun k=>[some (.els 1 (s.Feeds.map bCell)),some (.els 1 ((onAll s.Wires (ws.take k)).map bCell)),some (.els 6 [[I g.Nodes, .lst 4 (g.Wires.map Wr.cells), .lst 4 (g.Feeds.map Fd.cells),I g.Least, .row 0 0 s.Feeds.length, .row 1 0 s.Wires.length]])]) (fun k=>k≤ws.length) (fun k=>ws.length-k) 0 ?_ ?_ ?_
 ·exact Nat.zero_le _
 ·exact gsub (sub_rb [some 0,some 1,some 2] rfl (by simp) (by simp[onAll])) (by simp)
 rintro k k1;simp only[zP,Nat.reduceEqDiff,reduceIte];refine gS fun K hK=>?_;simp -dsimp;apply hK;clear hK K;refine gwp_seq_k fun K2 hK2=>?_;refine gwp_cond rfl (fun hc0=>?_) (fun hc0=>?_)
 ·have hkl:k<ws.length:=by simpa using hc0
  have wk:=zW k (by omega);obtain⟨w,hwk⟩:∃w,ws[k]?=some w:=⟨_,List.getElem?_eq_getElem hkl⟩;obtain⟨hw0,hw1⟩:=hw w (List.mem_of_getElem? hwk);have hos:=onAll_snoc (wi:=s.Wires) hwk;have hok:=onAll_len (ws.take k) s.Wires;obtain⟨wn,rfl⟩:∃wn:Nat,w=wn:=⟨w.toNat,by omega⟩;rw[Int.toNat_natCast]at hos;refine gwp_skip ?_;simp only[zT,reduceIte,Nat.reduceEqDiff];refine hK2 _ _ ?_;refine gwp_prune [2,7,29,30,31] (Or.inr (by simp)) ?_;simp only[zP,Nat.reduceEqDiff,reduceIte];refine gwp_seq_k fun K3 hK3=>?_;refine gwp_block ?_;refine gS fun K hK=>?_;simp -dsimp [hwk];apply hK;clear hK K;refine gR fun K hK=>?_;simp -dsimp [hok,(by omega:wn<s.Wires.length)];apply hK;clear hK K;simp only[zT,reduceIte,Nat.reduceEqDiff];refine hK3 _ _ ?_;refine gwp_prune [2,7,29,30,31] (Or.inr (by simp)) ?_;simp only[zP,Nat.reduceEqDiff,reduceIte];refine gR fun K hK=>?_;simp -dsimp [wk];apply hK;clear hK K;simp only[zT,reduceIte,Nat.reduceEqDiff];exact⟨k+1,by omega,by omega,gsub (sub_rb [some 0,some 1,some 2] rfl (by simp) (by simp[hos,List.map_set])) (by simp)⟩
 ·have hke:k=ws.length:=by have hn:¬k<ws.length:=(by simpa using hc0);omega
  subst hke;rw[List.take_of_length_le (Nat.le_refl _)];refine gwp_exit ?_;simp only[zT,reduceIte,Nat.reduceEqDiff];refine hK1 _ _ ?_;refine gwp_prune [2,7] (Or.inr (by simp)) ?_;simp only[zP,Nat.reduceEqDiff,reduceIte];refine gwp_weak (gsub (sub_rf (T':=[(2,lL l),(7, .ptr 0 0 0)]) (H':=[hMa g s.Feeds (onAll s.Wires ws),some (.els 1 (s.Feeds.map bCell))]) [some 2,some 0] rfl ⟨.inr (by simp), .inr (by simp),trivial⟩ (by simp[htw,hol])) (by simp)) ?_
  ·refine gS fun K hK=>?_;simp -dsimp;refine callK_intro _ (hlg) (by simp) ?_;simp -dsimp;refine callK_mut [0] [1] [some 0,none,some 1,some 2,some 3,some 4] (hst) (by decide) rfl (by simp) (by simp) rfl (by simp) ?_;simp -dsimp;apply hK;clear hK K;exact gwp_ret (by simp[len_eq0,resP,tupOf])
theorem c_relieves0a (g:Gr) (s:Sta) (l:List Ld) (hnt:NetOk g s) (h:SetOk g s.Wires l) (hne:s.Feeds≠[]) (hwe:s.Wires=[]):
  PureCall Try.prog 60 [net g s,iL [],lL l] (Bo (rlB g s [] l)):=by
 have hlg:=c_long g ⟨s.Feeds,s.Wires⟩ hnt (h.few _);rw[not_long h]at hlg;have hbd:=grB_bd hnt.gr;have hsf:=hnt.sf;have hsw:=hnt.sw;have hst:=m_settlea g s.Wires l s.Feeds h hsf _ rfl;have hrl:rlB g s [] l=decide ((settleS g s.Wires l s.Feeds).cuts.length=0):=rfl;generalize settleS g s.Wires l s.Feeds=Z at hst hrl;rw[hrl];refine PureCall.of_bodyG Try.func60 rfl (by decide) (by simp[Try.ntmps60]) ?_;intro J hJ;simp only[Try.ntmps60,Try.results60];refine gS fun K hK=>?_;simp -dsimp;apply hK;clear hK K;refine gwp_sd mixed rfl (by decide) rfl rfl fun K hK=>?_;simp -dsimp;refine callK_own (o_Cl s.Feeds hne (by omega)) ?_;simp -dsimp;refine callK_intro _ (c_Clone_Bool s.Wires (by omega)) (by simp) ?_;simp -dsimp;refine hK _ _ _ (by decide+kernel) ?_;clear hK K;refine gwp_seq_k fun K1 hK1=>?_;refine gS fun K hK=>?_;simp -dsimp;apply hK;clear hK K;refine gwp_block ?_;refine gwp_prune [2,7,29,30,31] (Or.inr (by simp)) ?_;simp only[zP,Nat.reduceEqDiff,reduceIte];refine gwp_loop_l [2,7,29,30] (α:=Nat) (fun k=>[(31,I 0)]) (fun k=>[some (.els 1 (s.Feeds.map bCell)),some (.els 6 [[I g.Nodes, .lst 4 (g.Wires.map Wr.cells), .lst 4 (g.Feeds.map Fd.cells),I g.Least, .row 0 0 s.Feeds.length,bL s.Wires]])]) (fun k=>True) (fun k=>0) 0 ?_ ?_ ?_
 ·trivial
 ·exact gsub (sub_rb [some 0,some 1] rfl (by simp) (by simp)) (by simp)
 rintro k k1;simp only[zP,Nat.reduceEqDiff,reduceIte];refine gS fun K hK=>?_;simp -dsimp;apply hK;clear hK K;refine gwp_seq_k fun K2 hK2=>?_;refine gwp_cond rfl (fun hc0=>?_) (fun hc0=>?_)
 ·simp at hc0
 ·refine gwp_exit ?_;simp only[zT,reduceIte,Nat.reduceEqDiff];refine hK1 _ _ ?_;refine gwp_prune [2,7] (Or.inr (by simp)) ?_;simp only[zP,Nat.reduceEqDiff,reduceIte];refine gwp_weak (gsub (sub_rb (T':=[(2,lL l),(7, .ptr 0 0 0)]) (H':=[hMa g s.Feeds s.Wires,some (.els 1 (s.Feeds.map bCell))]) [some 1,some 0] rfl (by simp) (by simp)) (by simp)) ?_
  ·refine gS fun K hK=>?_;simp -dsimp;refine callK_intro _ (hlg) (by simp) ?_;simp -dsimp;refine callK_mut [0] [1] [some 0,none,some 1,some 2,some 3,some 4] (hst) (by decide) rfl (by simp) (by simp) rfl (by simp) ?_;simp -dsimp;apply hK;clear hK K;exact gwp_ret (by simp[len_eq0,resP,tupOf])
theorem c_relievesb (g:Gr) (s:Sta) (ws:List Int) (l:List Ld) (hnt:NetOk g s) (hw:∀w∈ws,0≤w∧w<s.Wires.length) (h:SetOk g (onAll s.Wires ws) l) (hwl:ws.length≤1000) (hne:s.Feeds=[]) (hwn:s.Wires≠[]):
  PureCall Try.prog 60 [net g s,iL ws,lL l] (Bo (rlB g s ws l)):=by
 have hol:=onAll_len ws s.Wires;have hnt2:NetOk g ⟨s.Feeds,onAll s.Wires ws⟩:=⟨hnt.gr,hnt.sf,by rw[hol];exact hnt.sw⟩;have hlg:=c_long g ⟨s.Feeds,onAll s.Wires ws⟩ hnt2 (h.few _);rw[not_long h]at hlg;have hbd:=grB_bd hnt.gr;have hsf:=hnt.sf;have hsw:=hnt.sw;change PureCall _ _ [.iptr [I g.Nodes, .lst 4 (g.Wires.map Wr.cells), .lst 4 (g.Feeds.map Fd.cells),I g.Least,bL s.Feeds,bL (onAll s.Wires ws)]] _ at hlg;rw[hne]at hlg;have hst:=m_settleb g (onAll s.Wires ws) l s.Feeds h hsf hne _ rfl;have hrl:rlB g s ws l=decide ((settleS g (onAll s.Wires ws) l s.Feeds).cuts.length=0):=rfl;generalize settleS g (onAll s.Wires ws) l s.Feeds=Z at hst hrl;rw[hrl];have htw:List.take s.Wires.length ((onAll s.Wires ws).map bCell)=(onAll s.Wires ws).map bCell:=List.take_of_length_le (by simp;omega);refine PureCall.of_bodyG Try.func60 rfl (by decide) (by simp[Try.ntmps60]) ?_;intro J hJ;simp only[Try.ntmps60,Try.results60];refine gS fun K hK=>?_;simp -dsimp;apply hK;clear hK K;refine gwp_sd mixed rfl (by decide) rfl rfl fun K hK=>?_;simp -dsimp;refine callK_intro _ (c_Clone_Bool s.Feeds (by omega)) (by simp) ?_;simp -dsimp;refine callK_own (o_Cl s.Wires hwn (by omega)) ?_;simp -dsimp;refine hK _ _ _ (by decide+kernel) ?_;clear hK K;refine gwp_seq_k fun K1 hK1=>?_;refine gS fun K hK=>?_;simp -dsimp;apply hK;clear hK K;refine gwp_block ?_;refine gwp_prune [2,7,29,30,31] (Or.inr (by simp)) ?_;simp only[zP,Nat.reduceEqDiff,reduceIte];refine gwp_loop_l [2,7,29,30] (α:=Nat) (fun k=>[(31,I k)]) (fun k=>[some (.els 1 ((onAll s.Wires (ws.take k)).map bCell)),some (.els 6 [[I g.Nodes, .lst 4 (g.Wires.map Wr.cells), .lst 4 (g.Feeds.map Fd.cells),I g.Least,bL s.Feeds, .row 0 0 s.Wires.length]])]) (fun k=>k≤ws.length) (fun k=>ws.length-k) 0 ?_ ?_ ?_
 ·exact Nat.zero_le _
 ·exact gsub (sub_rb [some 0,some 1] rfl (by simp) (by simp[onAll])) (by simp)
 rintro k k1;simp only[zP,Nat.reduceEqDiff,reduceIte];refine gS fun K hK=>?_;simp -dsimp;apply hK;clear hK K;refine gwp_seq_k fun K2 hK2=>?_;refine gwp_cond rfl (fun hc0=>?_) (fun hc0=>?_)
 ·have hkl:k<ws.length:=by simpa using hc0
  have wk:=zW k (by omega);obtain⟨w,hwk⟩:∃w,ws[k]?=some w:=⟨_,List.getElem?_eq_getElem hkl⟩;obtain⟨hw0,hw1⟩:=hw w (List.mem_of_getElem? hwk);have hos:=onAll_snoc (wi:=s.Wires) hwk;have hok:=onAll_len (ws.take k) s.Wires;obtain⟨wn,rfl⟩:∃wn:Nat,w=wn:=⟨w.toNat,by omega⟩;rw[Int.toNat_natCast]at hos;refine gwp_skip ?_;simp only[zT,reduceIte,Nat.reduceEqDiff];refine hK2 _ _ ?_;refine gwp_prune [2,7,29,30,31] (Or.inr (by simp)) ?_;simp only[zP,Nat.reduceEqDiff,reduceIte];refine gwp_seq_k fun K3 hK3=>?_;refine gwp_block ?_;refine gS fun K hK=>?_;simp -dsimp [hwk];apply hK;clear hK K;refine gR fun K hK=>?_;simp -dsimp [hok,(by omega:wn<s.Wires.length)];apply hK;clear hK K;simp only[zT,reduceIte,Nat.reduceEqDiff];refine hK3 _ _ ?_;refine gwp_prune [2,7,29,30,31] (Or.inr (by simp)) ?_;simp only[zP,Nat.reduceEqDiff,reduceIte];refine gR fun K hK=>?_;simp -dsimp [wk];apply hK;clear hK K;simp only[zT,reduceIte,Nat.reduceEqDiff];exact⟨k+1,by omega,by omega,gsub (sub_rb [some 0,some 1] rfl (by simp) (by simp[hos,List.map_set])) (by simp)⟩
 ·have hke:k=ws.length:=by have hn:¬k<ws.length:=(by simpa using hc0);omega
  subst hke;rw[List.take_of_length_le (Nat.le_refl _)];refine gwp_exit ?_;simp only[zT,reduceIte,Nat.reduceEqDiff];refine hK1 _ _ ?_;refine gwp_prune [2,7] (Or.inr (by simp)) ?_;simp only[zP,Nat.reduceEqDiff,reduceIte];refine gwp_weak (gsub (sub_rf (T':=[(2,lL l),(7, .ptr 0 0 0)]) (H':=[hMb g s.Feeds (onAll s.Wires ws)]) [some 1] rfl ⟨.inr (by simp), .inr (by simp),trivial⟩ (by simp[htw,hol,hne])) (by simp)) ?_
  ·refine gS fun K hK=>?_;simp -dsimp;refine callK_intro _ (hlg) (by simp) ?_;simp -dsimp;refine callK_mut [0] [] [some 0,some 1,some 2,some 3] (hst) (by decide) rfl (by simp) (by simp) rfl (by simp) ?_;simp -dsimp;apply hK;clear hK K;exact gwp_ret (by simp[len_eq0,resP,tupOf])
theorem c_relieves0b (g:Gr) (s:Sta) (l:List Ld) (hnt:NetOk g s) (h:SetOk g s.Wires l) (hne:s.Feeds=[]) (hwe:s.Wires=[]):
  PureCall Try.prog 60 [net g s,iL [],lL l] (Bo (rlB g s [] l)):=by
 have hlg:=c_long g ⟨s.Feeds,s.Wires⟩ hnt (h.few _);rw[not_long h]at hlg;have hbd:=grB_bd hnt.gr;have hsf:=hnt.sf;have hsw:=hnt.sw;change PureCall _ _ [.iptr [I g.Nodes, .lst 4 (g.Wires.map Wr.cells), .lst 4 (g.Feeds.map Fd.cells),I g.Least,bL s.Feeds,bL s.Wires]] _ at hlg;rw[hne]at hlg;have hst:=m_settleb g s.Wires l s.Feeds h hsf hne _ rfl;have hrl:rlB g s [] l=decide ((settleS g s.Wires l s.Feeds).cuts.length=0):=rfl;generalize settleS g s.Wires l s.Feeds=Z at hst hrl;rw[hrl];refine PureCall.of_bodyG Try.func60 rfl (by decide) (by simp[Try.ntmps60]) ?_;intro J hJ;simp only[Try.ntmps60,Try.results60];refine gS fun K hK=>?_;simp -dsimp;apply hK;clear hK K;refine gwp_sd mixed rfl (by decide) rfl rfl fun K hK=>?_;simp -dsimp;refine callK_intro _ (c_Clone_Bool s.Feeds (by omega)) (by simp) ?_;simp -dsimp;refine callK_intro _ (c_Clone_Bool s.Wires (by omega)) (by simp) ?_;simp -dsimp;refine hK _ _ _ (by decide+kernel) ?_;clear hK K;refine gwp_seq_k fun K1 hK1=>?_;refine gS fun K hK=>?_;simp -dsimp;apply hK;clear hK K;refine gwp_block ?_;refine gwp_prune [2,7,29,30,31] (Or.inr (by simp)) ?_;simp only[zP,Nat.reduceEqDiff,reduceIte];refine gwp_loop_l [2,7,29,30] (α:=Nat) (fun k=>[(31,I 0)]) (fun k=>[some (.els 6 [[I g.Nodes, .lst 4 (g.Wires.map Wr.cells), .lst 4 (g.Feeds.map Fd.cells),I g.Least,bL s.Feeds,bL s.Wires]])]) (fun k=>True) (fun k=>0) 0 ?_ ?_ ?_
 ·trivial
 ·exact gsub (sub_rb [some 0] rfl (by simp) (by simp)) (by simp)
 rintro k k1;simp only[zP,Nat.reduceEqDiff,reduceIte];refine gS fun K hK=>?_;simp -dsimp;apply hK;clear hK K;refine gwp_seq_k fun K2 hK2=>?_;refine gwp_cond rfl (fun hc0=>?_) (fun hc0=>?_)
 ·simp at hc0
 ·refine gwp_exit ?_;simp only[zT,reduceIte,Nat.reduceEqDiff];refine hK1 _ _ ?_;refine gwp_prune [2,7] (Or.inr (by simp)) ?_;simp only[zP,Nat.reduceEqDiff,reduceIte];refine gwp_weak (gsub (sub_rb (T':=[(2,lL l),(7, .ptr 0 0 0)]) (H':=[hMb g s.Feeds s.Wires]) [some 0] rfl (by simp) (by simp[hne])) (by simp)) ?_
  ·refine gS fun K hK=>?_;simp -dsimp;refine callK_intro _ (hlg) (by simp) ?_;simp -dsimp;refine callK_mut [0] [] [some 0,some 1,some 2,some 3] (hst) (by decide) rfl (by simp) (by simp) rfl (by simp) ?_;simp -dsimp;apply hK;clear hK K;exact gwp_ret (by simp[len_eq0,resP,tupOf])
end Go.Cur
end
section
namespace Go.Cur
open Go.AM Go.Proofs
theorem c_rel (g:Gr) (s:Sta) (ws:List Int) (l:List Ld) (hnt:NetOk g s) (hw:∀w∈ws,0≤w∧w<s.Wires.length) (h:SetOk g (onAll s.Wires ws) l) (hwl:ws.length≤1000):
  PureCall Try.prog 60 [net g s,iL ws,lL l] (Bo (rlB g s ws l)):=by
 by_cases hwn:s.Wires=[]
 ·have hws:ws=[]:=by
   cases ws with
   |nil=>rfl
   |cons w ws=>
    have:=hw w (by simp);rw[hwn]at this;simp at this;omega
  subst hws
  by_cases hf:s.Feeds=[]
  ·exact c_relieves0b g s l hnt h hf hwn
  ·exact c_relieves0a g s l hnt h hf hwn
 ·by_cases hf:s.Feeds=[]
  ·exact c_relievesb g s ws l hnt hw h hwl hf hwn
  ·exact c_relievesa g s ws l hnt hw h hwl hf hwn
def fA:Option (List Int)→AV
 |none=> .v (.slice none 0 0)
 |some c=>iL c
@[simp] theorem fA_ren (g:List (Option Nat)) (k:Nat) (o:Option (List Int)):renAV g k (fA o)=fA o:=by
 cases o<;>cases k<;>rfl
@[simp] theorem fA_noRef (k:Nat) (o:Option (List Int)):AV.noRef k (fA o)=true:=by
 cases o<;>cases k<;>rfl
theorem fA_some (c:List Int):fA (some c)=iL c:=rfl
theorem fA_none:fA none= .v (.slice none 0 0):=rfl
def chA (c:List Int):Option (List Int):=if c=[]then none else some c
def chF (rl:List Int→Bool):Nat→List Int→List Int→Option (List Int)→Bool×Option (List Int)
 |0,c,_,_=>(rl c,chA c)
 |d+1,c,r,f=>(List.range r.length).foldl (fun q i=>if q.1=true then q else chF rl d (c++[at0 r (i:Nat)]) (r.drop (i+1)) q.2) (false,f)
def chS (rl:List Int→Bool) (d:Nat) (c r:List Int) (q:Bool×Option (List Int)) (i:Nat):Bool×Option (List Int):=if q.1=true then q else chF rl d (c++[at0 r (i:Nat)]) (r.drop (i+1)) q.2
theorem chF_succ (rl:List Int→Bool) (d:Nat) (c r:List Int) (f:Option (List Int)):chF rl (d+1) c r f=(List.range r.length).foldl (chS rl d c r) (false,f):=rfl
theorem chS_true (rl:List Int→Bool) (d:Nat) (c r:List Int) (q:Bool×Option (List Int)) (hq:q.1=true):∀l:List Nat,l.foldl (chS rl d c r) q=q
 |[]=>rfl
 |i::l=>by
  rw[List.foldl_cons,show chS rl d c r q i=q from if_pos hq];exact chS_true rl d c r q hq l
theorem fold_more {α:Type} (f:α→Nat→α) (x:α) {i n:Nat} (h:i≤n):(List.range n).foldl f x=((List.range (n-i)).map (fun j=>i+j)).foldl f ((List.range i).foldl f x):=by
 rw[←List.foldl_append]
 congr 1
 rw[show n=i+(n-i)by omega,List.range_add];simp
abbrev chR (g:Gr) (s:Sta) (l:List Ld) (f:Option (List Int)):Hp:=[some (.els 1 [[fA f]]),some (.els 1 [[net g s]]),some (.els 1 [[lL l]]),some (.els 1 [[.clo 59 [.ptr 0 0 0, .ptr 1 0 0, .ptr 2 0 0, .ptr 3 0 0]]])]
theorem m_ClI (t:List Int) (hne:t≠[]) (hn:t.length≤1000):MutCall Try.prog 61 [iL t] [] [] (.row 0 0 t.length) [] [some (.els 1 (t.map nCell))]:=by
 have f1:Fits t.length 9:=fits_of (by omega) (by omega);refine MutCall.of_bodyG [] Try.func61 rfl (by decide) (by simp[Try.ntmps61]) rfl rfl ?_;intro J hJ;simp only[Try.ntmps61,Try.results61];refine gS fun K hK=>?_;simp -dsimp;apply hK;clear hK K;refine gwp_seq_k fun K1 hK1=>?_;refine gS fun K hK=>?_;simp -dsimp [hne];apply hK;clear hK K;refine gwp_cond rfl (fun hc0=>?_) (fun hc0=>?_)
 ·simp at hc0
 ·refine gwp_skip ?_;simp only[zT,reduceIte,Nat.reduceEqDiff];refine hK1 _ _ ?_;refine gwp_prune [0] (Or.inr (by simp)) ?_;simp only[zP,Nat.reduceEqDiff,reduceIte];refine gS fun K hK=>?_;simp -dsimp [hne,f1];apply hK;clear hK K;exact gwp_ret ⟨[some 0],rfl,by simp,by simp,by simp,by simp[resP,tupOf]⟩
theorem m_ch_zero (g:Gr) (s:Sta) (l:List Ld) (rl:List Int→Bool) (c r:List Int) (f:Option (List Int)) (hc:c≠[]) (hrl:PureCall Try.prog 60 [net g s,iL c,lL l] (Bo (rl c))):
  MutCall Try.prog 59 [.row 4 0 c.length,iL r,I 0, .ptr 0 0 0, .ptr 1 0 0, .ptr 2 0 0, .ptr 3 0 0] (chR g s l f) [some (.els 1 (c.map nCell))] (Bo (rl c)) (chR g s l (some c)) []:=by
 have htc:List.take c.length (c.map nCell)=c.map nCell:=List.take_of_length_le (by simp);refine MutCall.of_bodyG [3,4,5,6] Try.func59 rfl (by decide) (by simp[Try.ntmps59]) rfl rfl ?_;intro J hJ;simp only[Try.ntmps59,Try.results59];refine gS fun K hK=>?_;simp -dsimp;apply hK;clear hK K;refine gwp_seq_k fun K1 hK1=>?_;refine gS fun K hK=>?_;simp -dsimp;apply hK;clear hK K;refine gwp_cond rfl (fun hc0=>?_) (fun hc0=>?_)
 ·refine gS fun K hK=>?_;simp -dsimp;apply hK;clear hK K;refine gS fun K hK=>?_;simp -dsimp [htc];refine callK_intro _ (hrl) (by simp) ?_;simp -dsimp [htc];apply hK;clear hK K;refine gwp_weak (gsub (sub_rf (T':=[(3, .ptr 0 0 0),(4, .ptr 1 0 0),(5, .ptr 2 0 0),(6, .ptr 3 0 0),(10,Bo (rl c))]) (H':=chR g s l (some c)) [some 0,some 1,some 2,some 3] rfl ⟨.inr (by simp), .inr (by simp), .inr (by simp), .inr (by simp), .inr (by simp),trivial⟩ (by simp[htc,fA_some])) (by simp)) ?_;exact gwp_ret ⟨[some 0,some 1,some 2,some 3],rfl,by simp,by simp,by simp,by simp[resP,tupOf]⟩
 ·simp at hc0
theorem m_ch_zero0 (g:Gr) (s:Sta) (l:List Ld) (rl:List Int→Bool) (r:List Int) (f:Option (List Int)) (hrl:PureCall Try.prog 60 [net g s, .v (.slice none 0 0),lL l] (Bo (rl []))):
  MutCall Try.prog 59 [.v (.slice none 0 0),iL r,I 0, .ptr 0 0 0, .ptr 1 0 0, .ptr 2 0 0, .ptr 3 0 0] (chR g s l f) [] (Bo (rl [])) (chR g s l none) []:=by
 refine MutCall.of_bodyG [3,4,5,6] Try.func59 rfl (by decide) (by simp[Try.ntmps59]) rfl rfl ?_;intro J hJ;simp only[Try.ntmps59,Try.results59];refine gS fun K hK=>?_;simp -dsimp;apply hK;clear hK K;refine gwp_seq_k fun K1 hK1=>?_;refine gS fun K hK=>?_;simp -dsimp;apply hK;clear hK K;refine gwp_cond rfl (fun hc0=>?_) (fun hc0=>?_)
 ·refine gS fun K hK=>?_;simp -dsimp;apply hK;clear hK K;refine gS fun K hK=>?_;simp -dsimp;refine callK_intro _ (hrl) (by simp) ?_;simp -dsimp;apply hK;clear hK K;exact gwp_ret ⟨[some 0,some 1,some 2,some 3],rfl,by simp,by simp[fA_none],by simp,by simp[resP,tupOf]⟩
 ·simp at hc0
theorem m_ch_succ (g:Gr) (s:Sta) (l:List Ld) (rl:List Int→Bool) (d:Nat) (c r:List Int) (f:Option (List Int)) (hd:d≤100) (hc:c≠[]) (hcl:c.length≤900) (hr:r.length≤1000)
  (hb:∀(i:Nat) (f:Option (List Int)),i<r.length→MutCall Try.prog 59 [.row 4 0 (c++[at0 r i]).length,iL (r.drop (i+1)),I d, .ptr 0 0 0, .ptr 1 0 0, .ptr 2 0 0, .ptr 3 0 0] (chR g s l f) [some (.els 1 ((c++[at0 r i]).map nCell))] (Bo (chF rl d (c++[at0 r i]) (r.drop (i+1)) f).1) (chR g s l (chF rl d (c++[at0 r i]) (r.drop (i+1)) f).2) []):
  MutCall Try.prog 59 [.row 4 0 c.length,iL r,I (d+1:Nat), .ptr 0 0 0, .ptr 1 0 0, .ptr 2 0 0, .ptr 3 0 0] (chR g s l f) [some (.els 1 (c.map nCell))] (Bo (chF rl (d+1) c r f).1) (chR g s l (chF rl (d+1) c r f).2) []:=by
 have htc:List.take c.length (c.map nCell)=c.map nCell:=List.take_of_length_le (by simp);have f1:Fits (c.length+1) 9:=fits_of (by omega) (by omega);rw[chF_succ];refine MutCall.of_bodyG [3,4,5,6] Try.func59 rfl (by decide) (by simp[Try.ntmps59]) rfl rfl ?_;intro J hJ;simp only[Try.ntmps59,Try.results59];refine gS fun K hK=>?_;simp -dsimp;apply hK;clear hK K;refine gwp_seq_k fun K1 hK1=>?_;refine gS fun K hK=>?_;simp -dsimp;apply hK;clear hK K;refine gwp_cond rfl (fun hc0=>?_) (fun hc0=>?_)
 ·exfalso;simp at hc0;omega
 ·refine gwp_skip ?_;simp only[zT,reduceIte,Nat.reduceEqDiff];refine hK1 _ _ ?_;refine gwp_prune [0,1,2,3,4,5,6] (Or.inr (by simp)) ?_;simp only[zP,Nat.reduceEqDiff,reduceIte];refine gwp_seq_k fun K2 hK2=>?_;refine gS fun K hK=>?_;simp -dsimp;apply hK;clear hK K;refine gwp_block ?_;refine gwp_prune [0,1,2,3,4,5,6,20,21,22] (Or.inr (by simp)) ?_;simp only[zP,Nat.reduceEqDiff,reduceIte];refine gwp_loop_l [0,1,2,3,4,5,6,20,21] (α:=Nat×Option (List Int)) (fun x=>[(22,I x.1)]) (fun x=>chR g s l x.2++[some (.els 1 (c.map nCell))]) (fun x=>x.1≤r.length∧(List.range x.1).foldl (chS rl d c r) (false,f)=(false,x.2)) (fun x=>r.length-x.1) (0,f) ?_ ?_ ?_
  ·exact⟨Nat.zero_le _,rfl⟩
  ·exact gsub (sub_rb [some 0,some 1,some 2,some 3,some 4] rfl (by simp) (by simp)) (by simp)
  rintro⟨i,fi⟩ ⟨k1,k2⟩;simp only at k1 k2 ⊢;simp only[zP,Nat.reduceEqDiff,reduceIte];refine gS fun K hK=>?_;simp -dsimp;apply hK;clear hK K;refine gwp_seq_k fun K3 hK3=>?_;refine gwp_cond rfl (fun hc1=>?_) (fun hc1=>?_)
  ·have hil:i<r.length:=by simpa using hc1
   have wi:=zW i (by omega);have wd:IntKind.i64.wrap (d:Int)=(d:Int):=wrap_in (by omega) (by omega);have gr:=at0_nat hil;have hcall:=hb i fi hil;have hst:(List.range (i+1)).foldl (chS rl d c r) (false,f)=chF rl d (c++[at0 r i]) (r.drop (i+1)) fi:=by rw[List.range_succ,List.foldl_append,k2];rfl
   generalize chF rl d (c++[at0 r i]) (r.drop (i+1)) fi=q at hcall hst;refine gwp_skip ?_;simp only[zT,reduceIte,Nat.reduceEqDiff];refine hK3 _ _ ?_;refine gwp_prune [0,1,2,3,4,5,6,20,21,22] (Or.inr (by simp)) ?_;simp only[zP,Nat.reduceEqDiff,reduceIte];refine gwp_seq_k fun K4 hK4=>?_;refine gwp_block ?_;refine gS fun K hK=>?_;simp -dsimp [gr];apply hK;clear hK K;refine gwp_sd mixed rfl (by decide) rfl rfl fun K hK=>?_;simp -dsimp [htc,wi,wd,f1,(by omega:(0:Int)≤(i:Int)+1),(by omega:i+1≤r.length)];refine callK_mutF [] [] [none,none,none,none,none,some 0] (m_ClI c hc (by omega)) (by decide) rfl (by simp) (by simp) rfl (by simp) (by simp) (by simp) ?_;simp -dsimp [htc,wi,wd,f1,(by omega:(0:Int)≤(i:Int)+1),(by omega:i+1≤r.length)];refine callK_mut [0,1,2,3] [6] [some 0,some 1,some 2,some 3,none,none,none] (hcall) (by decide) rfl (by simp) (by simp) rfl (by simp) ?_;simp -dsimp [htc,wi,wd,f1,(by omega:(0:Int)≤(i:Int)+1),(by omega:i+1≤r.length)];refine hK _ _ _ (by decide+kernel) ?_;clear hK K;refine gwp_cond rfl (fun hc2=>?_) (fun hc2=>?_)
   ·refine gS fun K hK=>?_;simp -dsimp;apply hK;clear hK K;have hfin:(List.range r.length).foldl (chS rl d c r) (false,f)=q:=by rw[fold_more _ _ (show i+1≤r.length by omega),hst];exact chS_true _ _ _ _ _ hc2 _
    rw[hfin];exact gwp_ret ⟨[some 0,some 1,some 2,some 3],rfl,by simp,by simp,by simp,by simp[resP,tupOf,hc2]⟩
   ·refine gwp_skip ?_;simp only[zT,reduceIte,Nat.reduceEqDiff];refine hK4 _ _ ?_;refine gwp_prune [0,1,2,3,4,5,6,20,21,22] (Or.inr (by simp)) ?_;simp only[zP,Nat.reduceEqDiff,reduceIte];refine gR fun K hK=>?_;simp -dsimp [wi];apply hK;clear hK K;simp only[zT,reduceIte,Nat.reduceEqDiff];exact⟨(i+1,q.2),⟨by simp only;omega,by rw[hst];exact Prod.ext hc2 rfl⟩,by simp only;omega,gsub (sub_rb [some 0,some 1,some 2,some 3,some 4] rfl (by simp) (by simp)) (by simp)⟩
  ·have hie:i=r.length:=by have hn:¬i<r.length:=(by simpa using hc1);omega
   subst hie;refine gwp_exit ?_;simp only[zT,reduceIte,Nat.reduceEqDiff];refine hK2 _ _ ?_;refine gwp_prune [3,4,5,6] (Or.inr (by simp)) ?_;simp only[zP,Nat.reduceEqDiff,reduceIte];refine gS fun K hK=>?_;simp -dsimp;apply hK;clear hK K;rw[k2];exact gwp_ret ⟨[some 0,some 1,some 2,some 3],rfl,by simp,by simp,by simp,by simp[resP,tupOf]⟩
theorem c_Clone_nil:PureCall Try.prog 61 [.v (.slice none 0 0)] (.v (.slice none 0 0)):=by
 refine PureCall.of_body Try.func61 rfl (by decide) (by simp[Try.ntmps61]) ?_;simp only[Try.ntmps61,Try.results61];refine aS fun K hK=>?_;simp -dsimp;apply hK;clear hK K;refine awp_seq_k fun K1 hK1=>?_;refine aS fun K hK=>?_;simp -dsimp;apply hK;clear hK K;refine awp_cond rfl (fun hc0=>?_) (fun hc0=>?_)
 ·refine aS fun K hK=>?_;simp -dsimp;apply hK;clear hK K;exact awp_ret (by simp)
 ·simp at hc0
theorem m_ch_succ0 (g:Gr) (s:Sta) (l:List Ld) (rl:List Int→Bool) (d:Nat) (r:List Int) (f:Option (List Int)) (hd:d≤100) (hr:r.length≤1000)
  (hb:∀(i:Nat) (f:Option (List Int)),i<r.length→MutCall Try.prog 59 [.row 4 0 [at0 r i].length,iL (r.drop (i+1)),I d, .ptr 0 0 0, .ptr 1 0 0, .ptr 2 0 0, .ptr 3 0 0] (chR g s l f) [some (.els 1 ([at0 r i].map nCell))] (Bo (chF rl d [at0 r i] (r.drop (i+1)) f).1) (chR g s l (chF rl d [at0 r i] (r.drop (i+1)) f).2) []):
  MutCall Try.prog 59 [.v (.slice none 0 0),iL r,I (d+1:Nat), .ptr 0 0 0, .ptr 1 0 0, .ptr 2 0 0, .ptr 3 0 0] (chR g s l f) [] (Bo (chF rl (d+1) [] r f).1) (chR g s l (chF rl (d+1) [] r f).2) []:=by
 have f1:Fits 1 9:=fits_of (by omega) (by omega);rw[chF_succ];refine MutCall.of_bodyG [3,4,5,6] Try.func59 rfl (by decide) (by simp[Try.ntmps59]) rfl rfl ?_;intro J hJ;simp only[Try.ntmps59,Try.results59];refine gS fun K hK=>?_;simp -dsimp;apply hK;clear hK K;refine gwp_seq_k fun K1 hK1=>?_;refine gS fun K hK=>?_;simp -dsimp;apply hK;clear hK K;refine gwp_cond rfl (fun hc0=>?_) (fun hc0=>?_)
 ·exfalso;simp at hc0;omega
 ·refine gwp_skip ?_;simp only[zT,reduceIte,Nat.reduceEqDiff];refine hK1 _ _ ?_;refine gwp_prune [0,1,2,3,4,5,6] (Or.inr (by simp)) ?_;simp only[zP,Nat.reduceEqDiff,reduceIte];refine gwp_seq_k fun K2 hK2=>?_;refine gS fun K hK=>?_;simp -dsimp;apply hK;clear hK K;refine gwp_block ?_;refine gwp_prune [0,1,2,3,4,5,6,20,21,22] (Or.inr (by simp)) ?_;simp only[zP,Nat.reduceEqDiff,reduceIte];refine gwp_loop_l [0,1,2,3,4,5,6,20,21] (α:=Nat×Option (List Int)) (fun x=>[(22,I x.1)]) (fun x=>chR g s l x.2) (fun x=>x.1≤r.length∧(List.range x.1).foldl (chS rl d [] r) (false,f)=(false,x.2)) (fun x=>r.length-x.1) (0,f) ?_ ?_ ?_
  ·exact⟨Nat.zero_le _,rfl⟩
  ·exact gsub (sub_rb [some 0,some 1,some 2,some 3] rfl (by simp) (by simp)) (by simp)
  rintro⟨i,fi⟩ ⟨k1,k2⟩;simp only at k1 k2 ⊢;simp only[zP,Nat.reduceEqDiff,reduceIte];refine gS fun K hK=>?_;simp -dsimp;apply hK;clear hK K;refine gwp_seq_k fun K3 hK3=>?_;refine gwp_cond rfl (fun hc1=>?_) (fun hc1=>?_)
  ·have hil:i<r.length:=by simpa using hc1
   have wi:=zW i (by omega);have wd:IntKind.i64.wrap (d:Int)=(d:Int):=wrap_in (by omega) (by omega);have gr:=at0_nat hil;have hcall:=hb i fi hil;have hst:(List.range (i+1)).foldl (chS rl d [] r) (false,f)=chF rl d [at0 r i] (r.drop (i+1)) fi:=by rw[List.range_succ,List.foldl_append,k2];rfl
   generalize chF rl d [at0 r i] (r.drop (i+1)) fi=q at hcall hst;refine gwp_skip ?_;simp only[zT,reduceIte,Nat.reduceEqDiff];refine hK3 _ _ ?_;refine gwp_prune [0,1,2,3,4,5,6,20,21,22] (Or.inr (by simp)) ?_;simp only[zP,Nat.reduceEqDiff,reduceIte];refine gwp_seq_k fun K4 hK4=>?_;refine gwp_block ?_;refine gS fun K hK=>?_;simp -dsimp [gr];apply hK;clear hK K;refine gwp_sd mixed rfl (by decide) rfl rfl fun K hK=>?_;simp -dsimp [wi,wd,(by omega:(0:Int)≤(i:Int)+1),(by omega:i+1≤r.length),f1];refine callK_intro _ (c_Clone_nil) (by simp) ?_;simp -dsimp [wi,wd,(by omega:(0:Int)≤(i:Int)+1),(by omega:i+1≤r.length),f1];refine callK_mut [0,1,2,3] [4] [some 0,some 1,some 2,some 3,none] (hcall) (by decide) rfl (by simp) (by simp) rfl (by simp) ?_;simp -dsimp [wi,wd,(by omega:(0:Int)≤(i:Int)+1),(by omega:i+1≤r.length),f1];refine hK _ _ _ (by decide+kernel) ?_;clear hK K;refine gwp_cond rfl (fun hc2=>?_) (fun hc2=>?_)
   ·refine gS fun K hK=>?_;simp -dsimp;apply hK;clear hK K;have hfin:(List.range r.length).foldl (chS rl d [] r) (false,f)=q:=by rw[fold_more _ _ (show i+1≤r.length by omega),hst];exact chS_true _ _ _ _ _ hc2 _
    rw[hfin];exact gwp_ret ⟨[some 0,some 1,some 2,some 3],rfl,by simp,by simp,by simp,by simp[resP,tupOf,hc2]⟩
   ·refine gwp_skip ?_;simp only[zT,reduceIte,Nat.reduceEqDiff];refine hK4 _ _ ?_;refine gwp_prune [0,1,2,3,4,5,6,20,21,22] (Or.inr (by simp)) ?_;simp only[zP,Nat.reduceEqDiff,reduceIte];refine gR fun K hK=>?_;simp -dsimp [wi];apply hK;clear hK K;simp only[zT,reduceIte,Nat.reduceEqDiff];exact⟨(i+1,q.2),⟨by simp only;omega,by rw[hst];exact Prod.ext hc2 rfl⟩,by simp only;omega,gsub (sub_rb [some 0,some 1,some 2,some 3] rfl (by simp) (by simp)) (by simp)⟩
  ·have hie:i=r.length:=by have hn:¬i<r.length:=(by simpa using hc1);omega
   subst hie;refine gwp_exit ?_;simp only[zT,reduceIte,Nat.reduceEqDiff];refine hK2 _ _ ?_;refine gwp_prune [3,4,5,6] (Or.inr (by simp)) ?_;simp only[zP,Nat.reduceEqDiff,reduceIte];refine gS fun K hK=>?_;simp -dsimp;apply hK;clear hK K;rw[k2];exact gwp_ret ⟨[some 0,some 1,some 2,some 3],rfl,by simp,by simp,by simp,by simp[resP,tupOf]⟩
theorem m_ch (g:Gr) (s:Sta) (l:List Ld) (rl:List Int→Bool) (off:List Int) (hol:off.length≤6) (hrl:∀c:List Int,(∀x∈c,x∈off)→c.length≤900→PureCall Try.prog 60 [net g s,iL c,lL l] (Bo (rl c))):
  ∀(d:Nat) (c r:List Int) (f:Option (List Int)),c≠[]→(∀x∈c,x∈off)→(∀x∈r,x∈off)→r.length≤6→c.length+d≤100→
   MutCall Try.prog 59 [.row 4 0 c.length,iL r,I d, .ptr 0 0 0, .ptr 1 0 0, .ptr 2 0 0, .ptr 3 0 0] (chR g s l f) [some (.els 1 (c.map nCell))] (Bo (chF rl d c r f).1) (chR g s l (chF rl d c r f).2) []
 |0,c,r,f,hc,hco,hro,hr,hcd=>by
  have e:chA c=some c:=if_neg hc;show MutCall _ _ _ _ _ (Bo (rl c)) (chR g s l (chA c)) [];rw[e];exact m_ch_zero g s l rl c r f hc (hrl c hco (by omega))
 |d+1,c,r,f,hc,hco,hro,hr,hcd=>by
  refine m_ch_succ g s l rl d c r f (by omega) hc (by omega) (by omega) fun i f' hi=>?_;refine m_ch g s l rl off hol hrl d (c++[at0 r i]) (r.drop (i+1)) f' (by simp) (fun x hx=>?_) (fun x hx=>hro x (List.mem_of_mem_drop hx)) (by simp;omega) (by simp;omega)
  rcases List.mem_append.1 hx with h|h
  ·exact hco x h
  ·rw[List.mem_singleton.1 h];exact hro _ (List.mem_of_getElem? (at0_nat hi))
theorem m_ch0 (g:Gr) (s:Sta) (l:List Ld) (rl:List Int→Bool) (off:List Int) (hol:off.length≤6) (hrl:∀c:List Int,(∀x∈c,x∈off)→c.length≤900→PureCall Try.prog 60 [net g s,iL c,lL l] (Bo (rl c))) (d:Nat) (f:Option (List Int)) (hd:d≤6):
  MutCall Try.prog 59 [.v (.slice none 0 0),iL off,I d, .ptr 0 0 0, .ptr 1 0 0, .ptr 2 0 0, .ptr 3 0 0] (chR g s l f) [] (Bo (chF rl d [] off f).1) (chR g s l (chF rl d [] off f).2) []:=by
 cases d with
 | zero=>
  refine m_ch_zero0 g s l rl off f ?_;refine PureCall.argR (hrl [] (by simp) (by simp)) rfl fun i c c' h1 h2 w S y h=>?_
  match i,h1,h2 with
  |0,h1,h2=>
   simp only[List.getElem?_cons_zero,Option.some.injEq]at h1 h2;rw[←h2,h1];exact h
  |1,h1,h2=>
   simp only[List.getElem?_cons_succ,List.getElem?_cons_zero,Option.some.injEq]at h1 h2;rw[←h2];rw[←h1]at h;exact nil_lst h
  |2,h1,h2=>
   simp only[List.getElem?_cons_succ,List.getElem?_cons_zero,Option.some.injEq]at h1 h2;rw[←h2,h1];exact h
  |i+3,h1,h2=>simp at h1
 |succ d=>
  refine m_ch_succ0 g s l rl d off f (by omega) (by omega) fun i f' hi=>?_;refine m_ch g s l rl off hol hrl d [at0 off i] (off.drop (i+1)) f' (by simp) (fun x hx=>?_) (fun x hx=>List.mem_of_mem_drop hx) (by simp;omega) (by simp;omega);rw[List.mem_singleton.1 hx];exact List.mem_of_getElem? (at0_nat hi)
def offS (wi:List Bool) (s:List Int) (i:Nat):List Int:=if bAt wi i=true then s else s++[(i:Int)]
def offL (wi:List Bool) (n:Nat):List Int:=(List.range n).foldl (offS wi) []
theorem offL_succ (wi:List Bool) (n:Nat):offL wi (n+1)=offS wi (offL wi n) n:=by
 unfold offL;rw[List.range_succ,List.foldl_append];rfl
theorem offL_len (wi:List Bool):∀n,(offL wi n).length≤n
 |0=>by simp[offL]
 |n+1=>by
  have:=offL_len wi n;rw[offL_succ];unfold offS
  split
  ·omega
  ·simp;omega
def relS (rl:List Int→Bool) (off:List Int) (q:Bool×Option (List Int)) (k:Nat):Bool×Option (List Int):=if q.1=true then q else chF rl k [] off q.2
def relF (rl:List Int→Bool) (off:List Int):Bool×Option (List Int):=(List.range (off.length+1)).foldl (relS rl off) (false,none)
theorem relS_true (rl:List Int→Bool) (off:List Int) (q:Bool×Option (List Int)) (hq:q.1=true):∀l:List Nat,l.foldl (relS rl off) q=q
 |[]=>rfl
 |i::l=>by
  rw[List.foldl_cons,show relS rl off q i=q from if_pos hq];exact relS_true rl off q hq l
theorem c_Relief_t (g:Gr) (s:Sta) (l:List Ld) (hl:l.length≤1000) (hf:fineB g s l=true) (off:List Int) (hoff:off=offL s.Wires s.Wires.length) (rl:List Int→Bool)
  (hrl:off.length≤6→∀c:List Int,(∀x∈c,x∈off)→c.length≤900→PureCall Try.prog 60 [net g s,iL c,lL l] (Bo (rl c))) (res:AV)
  (h6:6<off.length→res= .tup [.v (.slice none 0 0),I 2]) (ht:off.length≤6→(relF rl off).1=true→res= .tup [fA (relF rl off).2,I 0]) (hn:off.length≤6→(relF rl off).1=false→res= .tup [.v (.slice none 0 0),I 4]):
  PureCall Try.prog 35 [g.av,s.av,lL l] res:=by
 have hb:=c_begin_t g s l hl hf;have hnt:=fine_net hf;have hbd:=grB_bd hnt.gr;have hsw:=hnt.sw;have hlo:off.length≤s.Wires.length:=by rw[hoff];exact offL_len _ _
 refine PureCall.of_bodyG Try.func35 rfl (by decide) (by simp[Try.ntmps35]) ?_;intro J hJ;simp only[Try.ntmps35,Try.results35];refine gS fun K hK=>?_;simp -dsimp;apply hK;clear hK K;refine gS fun K hK=>?_;simp -dsimp;refine callK_intro _ (hb) (by simp) ?_;simp -dsimp;apply hK;clear hK K;refine gwp_seq_k fun K1 hK1=>?_;refine gS fun K hK=>?_;simp -dsimp;apply hK;clear hK K;refine gwp_cond rfl (fun hc0=>?_) (fun hc0=>?_)
 ·simp at hc0
 ·refine gwp_skip ?_;simp only[zT,reduceIte,Nat.reduceEqDiff];refine hK1 _ _ ?_;refine gwp_prune [4,5,8] (Or.inr (by simp)) ?_;simp only[zP,Nat.reduceEqDiff,reduceIte];refine gS fun K hK=>?_;simp -dsimp;apply hK;clear hK K;refine gwp_seq_k fun K2 hK2=>?_;refine gS fun K hK=>?_;simp -dsimp;apply hK;clear hK K;refine gwp_block ?_;refine gwp_prune [5,8,10,26,27,28] (Or.inr (by simp)) ?_;simp only[zP,Nat.reduceEqDiff,reduceIte];refine gwp_loop_l [5,8,26,27] (α:=Nat) (fun k=>[(10, .row 4 0 (offL s.Wires k).length),(28,I k)]) (fun k=>[some (.els 4 [g.cells]),some (.els 2 [s.cells]),some (.els 1 [[lL l]]),some (.els 1 [[net g s]]),some (.els 1 ((offL s.Wires k).map nCell))]) (fun k=>k≤s.Wires.length) (fun k=>s.Wires.length-k) 0 ?_ ?_ ?_
  ·exact Nat.zero_le _
  ·exact gsub ((sub_nil 10 1 (by simp)).trans (sub_rb [some 0,some 1,some 2,some 3,some 4] rfl (by simp[offL]) (by simp[offL]))) (by simp)
  rintro k k1;simp only[zP,Nat.reduceEqDiff,reduceIte];refine gS fun K hK=>?_;simp -dsimp;apply hK;clear hK K;refine gwp_seq_k fun K3 hK3=>?_;refine gwp_cond rfl (fun hc1=>?_) (fun hc1=>?_)
  ·have hkl:k<s.Wires.length:=by simpa using hc1
   have wk:=zW k (by omega);have gb:=bAt_get (l:=s.Wires) (k:=k) hkl;have hos:=offL_succ s.Wires k;unfold offS at hos;have hol:=offL_len s.Wires k;have f1:Fits ((offL s.Wires k).length+1) 9:=fits_of (by omega) (by omega);refine gwp_skip ?_;simp only[zT,reduceIte,Nat.reduceEqDiff];refine hK3 _ _ ?_;refine gwp_prune [5,8,10,26,27,28] (Or.inr (by simp)) ?_;simp only[zP,Nat.reduceEqDiff,reduceIte];refine gwp_seq_k fun K4 hK4=>?_;refine gwp_block ?_;refine gS fun K hK=>?_;simp -dsimp [gb];apply hK;clear hK K;refine gS fun K hK=>?_;simp -dsimp;apply hK;clear hK K;refine gwp_cond rfl (fun hc2=>?_) (fun hc2=>?_)
   ·have hbf:bAt s.Wires k=false:=by simpa using hc2
    refine gR fun K hK=>?_;simp -dsimp [f1];apply hK;clear hK K;simp only[zT,reduceIte,Nat.reduceEqDiff];refine hK4 _ _ ?_;refine gwp_prune [5,8,10,26,27,28] (Or.inr (by simp)) ?_;simp only[zP,Nat.reduceEqDiff,reduceIte];refine gR fun K hK=>?_;simp -dsimp [wk];apply hK;clear hK K;simp only[zT,reduceIte,Nat.reduceEqDiff];rw[if_neg (by simp[hbf])]at hos;exact⟨k+1,by omega,by omega,gsub (sub_rb [some 0,some 1,some 2,some 3,some 5] rfl (by simp[hos]) (by simp[hos])) (by simp)⟩
   ·have hbt:bAt s.Wires k=true:=by simpa using hc2
    refine gwp_skip ?_;simp only[zT,reduceIte,Nat.reduceEqDiff];refine hK4 _ _ ?_;refine gwp_prune [5,8,10,26,27,28] (Or.inr (by simp)) ?_;simp only[zP,Nat.reduceEqDiff,reduceIte];refine gR fun K hK=>?_;simp -dsimp [wk];apply hK;clear hK K;simp only[zT,reduceIte,Nat.reduceEqDiff];rw[if_pos hbt]at hos;exact⟨k+1,by omega,by omega,gsub (sub_rb [some 0,some 1,some 2,some 3,some 4] rfl (by simp[hos]) (by simp[hos])) (by simp)⟩
  ·have hke:k=s.Wires.length:=by have hn:¬k<s.Wires.length:=(by simpa using hc1);omega
   subst hke;rw[←hoff];have hto:List.take off.length (off.map nCell)=off.map nCell:=List.take_of_length_le (by simp);refine gwp_exit ?_;simp only[zT,reduceIte,Nat.reduceEqDiff];refine hK2 _ _ ?_;refine gwp_prune [5,8,10] (Or.inr (by simp)) ?_;simp only[zP,Nat.reduceEqDiff,reduceIte];refine gwp_seq_k fun K5 hK5=>?_;refine gwp_weak (gsub (sub_rf (T':=[(5, .ptr 0 0 0),(8, .ptr 1 0 0),(10,iL off)]) (H':=[some (.els 1 [[lL l]]),some (.els 1 [[net g s]])]) [some 2,some 3] rfl ⟨.inr (by simp), .inr (by simp), .inr (by simp[hto]),trivial⟩ (by simp)) (by simp)) ?_
   ·refine gS fun K hK=>?_;simp -dsimp;apply hK;clear hK K;refine gwp_cond rfl (fun hc3=>?_) (fun hc3=>?_)
    ·refine gS fun K hK=>?_;simp -dsimp;apply hK;clear hK K;have h6':6<off.length:=by have:=(by simpa using hc3:(6:Int)<off.length);omega
     exact gwp_ret (by simp[h6 h6',resP,tupOf])
    ·have hl6:off.length≤6:=by have:=(by simpa using hc3:(off.length:Int)≤6);omega
     have hch:=m_ch0 g s l rl off hl6 (hrl hl6);have wo:IntKind.i64.wrap ((off.length:Int)+1)=(off.length:Int)+1:=wrap_in (by omega) (by omega);refine gwp_skip ?_;simp only[zT,reduceIte,Nat.reduceEqDiff];refine hK5 _ _ ?_;refine gwp_prune [5,8,10] (Or.inr (by simp)) ?_;simp only[zP,Nat.reduceEqDiff,reduceIte];refine gS fun K hK=>?_;simp -dsimp;apply hK;clear hK K;refine gS fun K hK=>?_;simp -dsimp;apply hK;clear hK K;refine gS fun K hK=>?_;simp -dsimp;apply hK;clear hK K;refine gwp_seq_k fun K6 hK6=>?_;refine gS fun K hK=>?_;simp -dsimp [wo];apply hK;clear hK K;refine gwp_block ?_;refine gwp_prune [10,13,14,46,47] (Or.inr (by simp)) ?_;simp only[zP,Nat.reduceEqDiff,reduceIte];refine gwp_loop_l [10,13,14,46] (α:=Nat×Option (List Int)) (fun x=>[(47,I x.1)]) (fun x=>[some (.els 1 [[lL l]]),some (.els 1 [[net g s]]),some (.els 1 [[fA x.2]]),some (.els 1 [[.clo 59 [.ptr 2 0 0, .ptr 1 0 0, .ptr 0 0 0, .ptr 3 0 0]]])]) (fun x=>x.1≤off.length+1∧(List.range x.1).foldl (relS rl off) (false,none)=(false,x.2)) (fun x=>off.length+1-x.1) (0,none) ?_ ?_ ?_
     ·exact⟨Nat.zero_le _,rfl⟩
     ·exact gsub (sub_rb [some 0,some 1,some 2,some 3] rfl (by simp) (by simp[fA_none])) (by simp)
     rintro⟨k,f⟩ ⟨k1,k2⟩;simp only at k1 k2 ⊢;simp only[zP,Nat.reduceEqDiff,reduceIte];refine gS fun K hK=>?_;simp -dsimp;apply hK;clear hK K;refine gwp_seq_k fun K7 hK7=>?_;refine gwp_cond rfl (fun hc4=>?_) (fun hc4=>?_)
     ·have hko:k≤off.length:=by have:=(by simpa using hc4:(k:Int)<off.length+1);omega
      have wk:=zW k (by omega);have hcall:=hch k f (by omega);have hst:(List.range (k+1)).foldl (relS rl off) (false,none)=chF rl k [] off f:=by rw[List.range_succ,List.foldl_append,k2];rfl
      generalize chF rl k [] off f=q at hcall hst;refine gwp_skip ?_;simp only[zT,reduceIte,Nat.reduceEqDiff];refine hK7 _ _ ?_;refine gwp_prune [10,13,14,46,47] (Or.inr (by simp)) ?_;simp only[zP,Nat.reduceEqDiff,reduceIte];refine gwp_seq_k fun K8 hK8=>?_;refine gwp_block ?_;refine gS fun K hK=>?_;simp -dsimp;apply hK;clear hK K;refine gS fun K hK=>?_;simp -dsimp;refine callK_mut [2,1,0,3] [] [some 2,some 1,some 0,some 3] (hcall) (by decide) rfl (by simp) (by simp) rfl (by simp) ?_;simp -dsimp;apply hK;clear hK K;refine gwp_cond rfl (fun hc5=>?_) (fun hc5=>?_)
      ·obtain⟨o,ho⟩:∃o,q.2=o:=⟨_,rfl⟩;rw[ho]
       rcases o with _|cc
       ·refine gS fun K hK=>?_;simp -dsimp [fA];apply hK;clear hK K;have hfin:relF rl off=q:=by unfold relF;rw[fold_more _ _ (show k+1≤off.length+1 by omega),hst];exact relS_true _ _ _ hc5 _
        have hr:=ht hl6 (by rw[hfin];exact hc5);rw[hfin]at hr;exact gwp_ret (by simp[hr,ho,fA,resP,tupOf])
       ·refine gS fun K hK=>?_;simp -dsimp [fA];apply hK;clear hK K;have hfin:relF rl off=q:=by unfold relF;rw[fold_more _ _ (show k+1≤off.length+1 by omega),hst];exact relS_true _ _ _ hc5 _
        have hr:=ht hl6 (by rw[hfin];exact hc5);rw[hfin]at hr;exact gwp_ret (by simp[hr,ho,fA,resP,tupOf])
      ·refine gwp_skip ?_;simp only[zT,reduceIte,Nat.reduceEqDiff];refine hK8 _ _ ?_;refine gwp_prune [10,13,14,46,47] (Or.inr (by simp)) ?_;simp only[zP,Nat.reduceEqDiff,reduceIte];refine gR fun K hK=>?_;simp -dsimp [wk];apply hK;clear hK K;simp only[zT,reduceIte,Nat.reduceEqDiff];exact⟨(k+1,q.2),⟨by simp only;omega,by rw[hst];exact Prod.ext hc5 rfl⟩,by simp only;omega,gsub (sub_rb [some 0,some 1,some 2,some 3] rfl (by simp) (by simp)) (by simp)⟩
     ·have hko:k=off.length+1:=by have:=(by simpa using hc4:(off.length:Int)+1≤k);omega
      subst hko;refine gwp_exit ?_;simp only[zT,reduceIte,Nat.reduceEqDiff];refine hK6 _ _ ?_;refine gwp_prune [] (Or.inr (by simp)) ?_;simp only[zP,Nat.reduceEqDiff,reduceIte];refine gS fun K hK=>?_;simp -dsimp;apply hK;clear hK K;have hr:=hn hl6 (by unfold relF;rw[k2]);exact gwp_ret (by simp[hr,resP,tupOf])
end Go.Cur
end
section
namespace Go.Cur
open Go.AM Go.Proofs
theorem c_rAll (n:Nat) (hn:n≤1000):PureCall Try.prog 20 [I n] (bL (List.replicate n true)):=by
 have f0:Fits n 2:=fits_of (by omega) (by omega);refine PureCall.of_body Try.func20 rfl (by decide) (by simp[Try.ntmps20]) ?_;simp only[Try.ntmps20,Try.results20];refine aS fun K hK=>?_;simp -dsimp;apply hK;clear hK K;refine aS fun K hK=>?_;simp -dsimp [f0];apply hK;clear hK K;refine awp_seq_k fun K1 hK1=>?_;refine aS fun K hK=>?_;simp -dsimp;apply hK;clear hK K;refine awp_block ?_;refine awp_prune [0,3,4] ?_;simp only[zP,Nat.reduceEqDiff,reduceIte];refine awp_loop_l [0,3] (α:=Nat) (fun k=>[(4,I k)]) (fun k=>[some (.els 1 ((svK n k).map bCell))]) (fun k=>k≤n) (fun k=>n-k) 0 ?_ ?_ ?_
 ·exact Nat.zero_le _
 ·exact sub_rb [some 0] rfl (by simp) (by simp[svK_zero,bCell])
 rintro k k1;simp only[zP,Nat.reduceEqDiff,reduceIte];refine awp_seq_k fun K2 hK2=>?_;refine aS fun K hK=>?_;simp -dsimp;apply hK;clear hK K;refine awp_cond rfl (fun hc0=>?_) (fun hc0=>?_)
 ·have hkl:k<n:=by simpa using hc0
  have wk:=zW k (by omega);have hsl:=svK_len (n:=n) (k:=k) k1;have hst:=svK_set hkl;refine awp_skip ?_;simp only[zT,reduceIte,Nat.reduceEqDiff];refine hK2 _ _ ?_;refine awp_prune [0,3,4] ?_;simp only[zP,Nat.reduceEqDiff,reduceIte];refine awp_seq_k fun K3 hK3=>?_;refine awp_block ?_;refine aR fun K hK=>?_;simp -dsimp [hkl,hsl];apply hK;clear hK K;simp only[zT,reduceIte,Nat.reduceEqDiff];refine hK3 _ _ ?_;refine awp_prune [0,3,4] ?_;simp only[zP,Nat.reduceEqDiff,reduceIte];refine aR fun K hK=>?_;simp -dsimp [wk];apply hK;clear hK K;simp only[zT,reduceIte,Nat.reduceEqDiff];exact⟨k+1,by omega,by omega,sub_rb [some 0] rfl (by simp) (by simp[←hst,List.map_set,bCell])⟩
 ·have hke:k=n:=by have hn:¬k<n:=(by simpa using hc0);omega
  subst hke;have htk:List.take k ((List.replicate k true).map bCell)=(List.replicate k true).map bCell:=List.take_of_length_le (by simp);refine awp_exit ?_;simp only[zT,reduceIte,Nat.reduceEqDiff];refine hK1 _ _ ?_;refine awp_prune [3] ?_;simp only[zP,Nat.reduceEqDiff,reduceIte];refine aS fun K hK=>?_;simp -dsimp;apply hK;clear hK K;exact awp_ret (by rw[svK_all];simp[htk])
theorem c_rIndex (l:List Int) (x:Int) (hn:l.length≤100000):PureCall Try.prog 53 [iL l,I x] (I (firstI l fun y=>decide (x=y))):=by
 refine PureCall.of_body Try.func53 rfl (by decide) (by simp[Try.ntmps53]) ?_;simp only[Try.ntmps53,Try.results53];refine aS fun K hK=>?_;simp -dsimp;apply hK;clear hK K;refine awp_seq_k fun K1 hK1=>?_;refine aS fun K hK=>?_;simp -dsimp;apply hK;clear hK K;refine awp_block ?_;refine awp_prune [0,1,5] ?_;simp only[zP,Nat.reduceEqDiff,reduceIte];refine awp_loop_l [0,1] (α:=Nat) (fun k=>[(5,I k)]) (fun k=>[]) (fun k=>k≤l.length∧((l.take k).any fun y=>decide (x=y))=false) (fun k=>l.length-k) 0 ?_ ?_ ?_
 ·exact⟨Nat.zero_le _,rfl⟩
 ·exact sub_same (by simp)
 rintro k ⟨k1,k2⟩;simp only[zP,Nat.reduceEqDiff,reduceIte];refine awp_seq_k fun K2 hK2=>?_;refine aS fun K hK=>?_;simp -dsimp;apply hK;clear hK K;refine awp_cond rfl (fun hc0=>?_) (fun hc0=>?_)
 ·have hkl:k<l.length:=by simpa using hc0
  have wk:=zW k (by omega);obtain⟨y,hy⟩:∃y,l[k]?=some y:=⟨_,List.getElem?_eq_getElem hkl⟩;refine awp_skip ?_;simp only[zT,reduceIte,Nat.reduceEqDiff];refine hK2 _ _ ?_;refine awp_prune [0,1,5] ?_;simp only[zP,Nat.reduceEqDiff,reduceIte];refine awp_seq_k fun K3 hK3=>?_;refine awp_block ?_;refine aS fun K hK=>?_;simp -dsimp [hy];apply hK;clear hK K;refine awp_cond rfl (fun hc1=>?_) (fun hc1=>?_)
  ·refine aS fun K hK=>?_;simp -dsimp;apply hK;clear hK K;have hxy:x=y:=by have:y=x:=(by simpa using hc1);exact this.symm
   exact awp_ret (by simp[firstI_hit hy (by simp[hxy]) k2])
  ·refine awp_skip ?_;simp only[zT,reduceIte,Nat.reduceEqDiff];refine hK3 _ _ ?_;refine awp_prune [0,1,5] ?_;simp only[zP,Nat.reduceEqDiff,reduceIte];refine aR fun K hK=>?_;simp -dsimp [wk];apply hK;clear hK K;simp only[zT,reduceIte,Nat.reduceEqDiff];have hxy:¬x=y:=by intro h;simp[h]at hc1
   exact⟨k+1,⟨by omega,by rw[List.take_add_one,hy,List.any_append,k2];simp[hxy]⟩,by omega,sub_rb [] rfl (by simp) (by simp)⟩
 ·have hkl:¬k<l.length:=by simpa using hc0
  rw[List.take_of_length_le (by omega)]at k2;refine awp_exit ?_;simp only[zT,reduceIte,Nat.reduceEqDiff];refine hK1 _ _ ?_;refine awp_prune [] ?_;simp only[zP,Nat.reduceEqDiff,reduceIte];refine aS fun K hK=>?_;simp -dsimp;apply hK;clear hK K;exact awp_ret (by simp[firstI_none k2])
theorem first_ge (l:List Int) (x:Int):decide (0≤firstI l fun y=>decide (x=y))=decide (x∈l):=by rw[firstI_nn,any_eq]
theorem c_rFeeders (g:Gr) (s:Sta) (part:List Int) (hs:s.Feeds.length=g.Feeds.length) (hp:part.length≤1000) (hn:g.Feeds.length≤1000):PureCall Try.prog 25 [g.av,s.av,iL part] (iL (feedL g s part)):=by
 unfold feedL;refine PureCall.of_body Try.func25 rfl (by decide) (by simp[Try.ntmps25]) ?_;simp only[Try.ntmps25,Try.results25];refine aS fun K hK=>?_;simp -dsimp;apply hK;clear hK K;refine aS fun K hK=>?_;simp -dsimp;apply hK;clear hK K;refine awp_seq_k fun K1 hK1=>?_;refine aS fun K hK=>?_;simp -dsimp;apply hK;clear hK K;refine awp_block ?_;refine awp_prune [2,3,4,7,8] ?_;simp only[zP,Nat.reduceEqDiff,reduceIte];refine awp_loop_l [2,3,4] (α:=Nat) (fun k=>[(7, .row 2 0 ((upI k).filter (fdOn g s part)).length),(8,I k)]) (fun k=>[some (.els 4 [g.cells]),some (.els 2 [s.cells]),some (.els 1 (((upI k).filter (fdOn g s part)).map nCell))]) (fun k=>k≤g.Feeds.length) (fun k=>g.Feeds.length-k) 0 ?_ ?_ ?_
 ·exact Nat.zero_le _
 ·exact(sub_nil 7 1 (by simp)).trans (sub_same (by simp[upI]))
 rintro k k1;simp only[zP,Nat.reduceEqDiff,reduceIte];refine awp_seq_k fun K2 hK2=>?_;refine aS fun K hK=>?_;simp -dsimp;apply hK;clear hK K;refine awp_cond rfl (fun hc0=>?_) (fun hc0=>?_)
 ·have hkl:k<g.Feeds.length:=by simpa using hc0
  have wk:=zW k (by omega);have hfl:((upI k).filter (fdOn g s part)).length≤k:=by have:=List.length_filter_le (fdOn g s part) (upI k);rw[upI_len]at this;omega
  have hfs:(upI (k+1)).filter (fdOn g s part)=(upI k).filter (fdOn g s part)++if fdOn g s part k then [(k:Int)]else []:=by rw[upI_snoc,List.filter_append];cases hq:fdOn g s part k<;>simp[hq]
  have f1:Fits (((upI k).filter (fdOn g s part)).length+1) 9:=fits_of (by omega) (by omega);have gb:=bAt_get (l:=s.Feeds) (k:=k) (by omega);have gf:g.Feeds[k]?=some (fdI g k):=by have:=fdI_get (g:=g) (i:=(k:Int)) (by omega) (by omega);rwa [Int.toNat_natCast]at this
  have hon:fdOn g s part k=(bAt s.Feeds k&&decide (0≤firstI part fun y=>decide ((fdI g k).At=y))):=by rw[first_ge];unfold fdOn;rw[Int.toNat_natCast]
  have hix:=c_rIndex part (fdI g k).At (by omega);generalize (upI k).filter (fdOn g s part)=L at hfs hfl f1 ⊢;generalize (firstI part fun y=>decide ((fdI g k).At=y))=ix at hon hix;refine awp_skip ?_;simp only[zT,reduceIte,Nat.reduceEqDiff];refine hK2 _ _ ?_;refine awp_prune [2,3,4,7,8] ?_;simp only[zP,Nat.reduceEqDiff,reduceIte];refine awp_seq_k fun K3 hK3=>?_;refine awp_block ?_;refine aS fun K hK=>?_;simp -dsimp [gb,gf,hs];refine idxK_intro (fdI g k).cells (fun _=>by simp[gf]) ?_;simp -dsimp [gb,gf,hs];refine callK_may _ (fun hm=>hix) (by simp) ?_;simp -dsimp [gb,gf,hs];apply hK;clear hK K;refine awp_cond rfl (fun hc1=>?_) (fun hc1=>?_)
  ·refine aR fun K hK=>?_;simp -dsimp [f1];apply hK;clear hK K;simp only[zT,reduceIte,Nat.reduceEqDiff];refine hK3 _ _ ?_;refine awp_prune [2,3,4,7,8] ?_;simp only[zP,Nat.reduceEqDiff,reduceIte];refine aR fun K hK=>?_;simp -dsimp [wk];apply hK;clear hK K;simp only[zT,reduceIte,Nat.reduceEqDiff];have hb:fdOn g s part k=true:=by rw[hon];simpa using hc1
   exact⟨k+1,by omega,by omega,sub_rb [some 0,some 1,some 3] rfl (by simp[hfs,hb]) (by simp[hfs,hb])⟩
  ·refine awp_skip ?_;simp only[zT,reduceIte,Nat.reduceEqDiff];refine hK3 _ _ ?_;refine awp_prune [2,3,4,7,8] ?_;simp only[zP,Nat.reduceEqDiff,reduceIte];refine aR fun K hK=>?_;simp -dsimp [wk];apply hK;clear hK K;simp only[zT,reduceIte,Nat.reduceEqDiff];have hb:fdOn g s part k=false:=by rw[hon];simpa using hc1
   exact⟨k+1,by omega,by omega,sub_rb [some 0,some 1,some 2] rfl (by simp[hfs,hb]) (by simp[hfs,hb])⟩
 ·have hke:k=g.Feeds.length:=by have hn:¬k<g.Feeds.length:=(by simpa using hc0);omega
  subst hke;refine awp_exit ?_;simp only[zT,reduceIte,Nat.reduceEqDiff];refine hK1 _ _ ?_;refine awp_prune [7] ?_;simp only[zP,Nat.reduceEqDiff,reduceIte];refine aS fun K hK=>?_;simp -dsimp;apply hK;clear hK K;exact awp_ret (by simp)
def curL (n:Nat) (l:List Ld) (sv:List Bool):List Int:=(List.range n).map fun(k:Nat)=>cur l sv k
theorem curL_get {n:Nat} {l:List Ld} {sv:List Bool} {k:Nat} (h:k<n):(curL n l sv)[k]?=some (cur l sv k):=by
 unfold curL;rw[List.getElem?_map,List.getElem?_range h];rfl
theorem cur_snoc {l:List Ld} {sv:List Bool} {k:Nat} {f:Ld} {b:Bool} (hl:l[k]?=some f) (hs:sv[k]?=some b) (x:Int):cur (l.take (k+1)) (sv.take (k+1)) x=curS x (cur (l.take k) (sv.take k) x) (f,b):=by
 have hk:=(List.getElem?_eq_some_iff.1 hl).1;have hk2:=(List.getElem?_eq_some_iff.1 hs).1;unfold cur;rw[List.take_add_one,List.take_add_one,hl,hs,List.zip_append (by simp;omega)];simp
theorem curL_set {n:Nat} {l:List Ld} {sv:List Bool} {k a:Nat} {f:Ld} (hl:l[k]?=some f) (hs:sv[k]?=some true) (ha:f.At=a):(curL n (l.take k) (sv.take k)).set a f.Units=curL n (l.take (k+1)) (sv.take (k+1)):=by
 refine List.ext_getElem? fun i=>?_
 by_cases hi:i<n
 ·rw[curL_get hi,cur_snoc hl hs];unfold curS
  by_cases h:i=a
  ·subst h;rw[List.getElem?_set_self (by simp[curL];omega),if_pos ⟨rfl,ha⟩]
  ·rw[List.getElem?_set_ne (fun e=>h e.symm),curL_get hi,if_neg (fun e=>h (by have:=e.2;simp only at this;omega))]
 ·rw[List.getElem?_eq_none (by simp[curL];omega),List.getElem?_eq_none (by simp[curL];omega)]
theorem rowz (n:Nat) (f:Nat→Int) (h:∀k,f k=0):List.replicate n [AV.v (Value.int .i64 0)]=((List.range n).map f).map nCell:=by
 refine List.ext_getElem? fun i=>?_
 by_cases hi:i<n
 ·rw[List.getElem?_replicate,if_pos hi,List.getElem?_map,List.getElem?_map,List.getElem?_range hi];simp[h]
 ·rw[List.getElem?_eq_none (by simp;omega),List.getElem?_eq_none (by simp;omega)]
theorem c_rCurrents (g:Gr) (l:List Ld) (sv:List Bool) (n:Nat) (hg:g.Nodes=n) (hn:n≤1000) (hl:l.length≤1000) (hs:sv.length=l.length) (hat:∀y∈l,0≤y.At∧y.At<n):PureCall Try.prog 22 [g.av,lL l,bL sv] (iL (curL n l sv)):=by
 have f0:Fits n 9:=fits_of (by omega) (by omega);have hz:List.replicate n [AV.v (Value.int .i64 0)]=(curL n [] []).map nCell:=rowz n _ fun k=>rfl;refine PureCall.of_body Try.func22 rfl (by decide) (by simp[Try.ntmps22]) ?_;simp only[Try.ntmps22,Try.results22];refine aS fun K hK=>?_;simp -dsimp;apply hK;clear hK K;refine aS fun K hK=>?_;simp -dsimp [hg,f0];apply hK;clear hK K;refine awp_seq_k fun K1 hK1=>?_;refine aS fun K hK=>?_;simp -dsimp;apply hK;clear hK K;refine awp_block ?_;refine awp_prune [1,2,7,8] ?_;simp only[zP,Nat.reduceEqDiff,reduceIte];refine awp_loop_l [1,2,7] (α:=Nat) (fun k=>[(8,I k)]) (fun k=>[some (.els 4 [g.cells]),some (.els 1 ((curL n (l.take k) (sv.take k)).map nCell))]) (fun k=>k≤l.length) (fun k=>l.length-k) 0 ?_ ?_ ?_
 ·exact Nat.zero_le _
 ·exact sub_rb [some 0,some 1] rfl (by simp) (by simp[hg,hz])
 rintro k k1;simp only[zP,Nat.reduceEqDiff,reduceIte];refine awp_seq_k fun K2 hK2=>?_;refine aS fun K hK=>?_;simp -dsimp;apply hK;clear hK K;refine awp_cond rfl (fun hc0=>?_) (fun hc0=>?_)
 ·have hkl:k<l.length:=by simpa using hc0
  have wk:=zW k (by omega);have gl:=ldA_get hkl;have gb:=bAt_get (l:=sv) (k:=k) (by omega);have hne:¬sv=[]:=by intro e;rw[e]at hs;simp at hs;omega
  have hya:=hat _ (List.mem_of_getElem? gl);obtain⟨a,ha⟩:∃a:Nat,(ldA l k).At=a:=⟨(ldA l k).At.toNat,by omega⟩;have han:a<n:=by omega
  have hcl:(curL n (l.take k) (sv.take k)).length=n:=by simp[curL]
  have hks:k<sv.length:=by omega
  have hbe:sv[k]=bAt sv k:=Option.some.inj (by rw[←List.getElem?_eq_getElem hks];exact gb);refine awp_skip ?_;simp only[zT,reduceIte,Nat.reduceEqDiff];refine hK2 _ _ ?_;refine awp_prune [1,2,7,8] ?_;simp only[zP,Nat.reduceEqDiff,reduceIte];refine awp_seq_k fun K3 hK3=>?_;refine awp_block ?_;refine aS fun K hK=>?_;simp -dsimp [gb,hks,hbe];apply hK;clear hK K;refine awp_cond rfl (fun hc1=>?_) (fun hc1=>?_)
  ·have hb:sv[k]?=some true:=by rw[gb,hc1]
   have hst:=curL_set (n:=n) gl hb ha;refine awp_draw mixed rfl fun K hK=>?_;simp -dsimp [gl,ha,hcl,han];refine hK _ _ _ (by decide+kernel) ?_;clear hK K;simp only[zT,reduceIte,Nat.reduceEqDiff];refine hK3 _ _ ?_;refine awp_prune [1,2,7,8] ?_;simp only[zP,Nat.reduceEqDiff,reduceIte];refine aR fun K hK=>?_;simp -dsimp [wk];apply hK;clear hK K;simp only[zT,reduceIte,Nat.reduceEqDiff];exact⟨k+1,by omega,by omega,sub_rb [some 0,some 1] rfl (by simp) (by simp[←hst,List.map_set,nCell])⟩
  ·refine awp_skip ?_;simp only[zT,reduceIte,Nat.reduceEqDiff];refine hK3 _ _ ?_;refine awp_prune [1,2,7,8] ?_;simp only[zP,Nat.reduceEqDiff,reduceIte];refine aR fun K hK=>?_;simp -dsimp [wk];apply hK;clear hK K;simp only[zT,reduceIte,Nat.reduceEqDiff];have hb:sv[k]?=some false:=by rw[gb,hc1]
   have hst:curL n (l.take k) (sv.take k)=curL n (l.take (k+1)) (sv.take (k+1)):=by unfold curL;refine List.map_congr_left fun i _=>?_;rw[cur_snoc gl hb];simp[curS]
   exact⟨k+1,by omega,by omega,sub_rb [some 0,some 1] rfl (by simp) (by simp[←hst])⟩
 ·have hke:k=l.length:=by have hn:¬k<l.length:=(by simpa using hc0);omega
  subst hke;have htl:List.take n ((curL n l sv).map nCell)=(curL n l sv).map nCell:=List.take_of_length_le (by rw[List.length_map];simp[curL]);rw[List.take_of_length_le (Nat.le_refl _),List.take_of_length_le (by omega)];have hcl2:(curL n l sv).length=n:=by simp[curL]
  refine awp_exit ?_;simp only[zT,reduceIte,Nat.reduceEqDiff];refine hK1 _ _ ?_;refine awp_prune [7] ?_;simp only[zP,Nat.reduceEqDiff,reduceIte];refine aS fun K hK=>?_;simp -dsimp;apply hK;clear hK K;exact awp_ret (by simp[htl,hcl2])
def smallB (ps:List (List Nat)):Bool:=ps.all fun p=>decide (p.length≤10)
theorem c_rSmall (ps:List (List Nat)) (hn:ps.length≤100000):PureCall Try.prog 34 [.lst 1 (ps.map pAV)] (Bo (smallB ps)):=by
 unfold smallB;refine PureCall.of_body Try.func34 rfl (by decide) (by simp[Try.ntmps34]) ?_;simp only[Try.ntmps34,Try.results34];refine aS fun K hK=>?_;simp -dsimp;apply hK;clear hK K;refine awp_seq_k fun K1 hK1=>?_;refine aS fun K hK=>?_;simp -dsimp;apply hK;clear hK K;refine awp_block ?_;refine awp_prune [0,3] ?_;simp only[zP,Nat.reduceEqDiff,reduceIte];refine awp_loop_l [0] (α:=Nat) (fun k=>[(3,I k)]) (fun k=>[]) (fun k=>k≤ps.length∧((ps.take k).all fun p=>decide (p.length≤10))=true) (fun k=>ps.length-k) 0 ?_ ?_ ?_
 ·exact⟨Nat.zero_le _,rfl⟩
 ·exact sub_same (by simp)
 rintro k ⟨k1,k2⟩;simp only[zP,Nat.reduceEqDiff,reduceIte];refine awp_seq_k fun K2 hK2=>?_;refine aS fun K hK=>?_;simp -dsimp;apply hK;clear hK K;refine awp_cond rfl (fun hc0=>?_) (fun hc0=>?_)
 ·have hkl:k<ps.length:=by simpa using hc0
  have wk:=zW k (by omega);obtain⟨p,hp⟩:∃p,ps[k]?=some p:=⟨_,List.getElem?_eq_getElem hkl⟩;have hul:=upN_len p;refine awp_skip ?_;simp only[zT,reduceIte,Nat.reduceEqDiff];refine hK2 _ _ ?_;refine awp_prune [0,3] ?_;simp only[zP,Nat.reduceEqDiff,reduceIte];refine awp_seq_k fun K3 hK3=>?_;refine awp_block ?_;refine aS fun K hK=>?_;simp -dsimp [hp,pAV];apply hK;clear hK K;refine awp_cond rfl (fun hc1=>?_) (fun hc1=>?_)
  ·refine aS fun K hK=>?_;simp -dsimp;apply hK;clear hK K;have hf:(ps.all fun p=>decide (p.length≤10))=false:=by
    rw[List.all_eq_false];exact⟨p,List.mem_of_getElem? hp,by have:=(by simpa using hc1:(10:Int)<(upN p).length);simp;omega⟩
   exact awp_ret (by simp[hf])
  ·refine awp_skip ?_;simp only[zT,reduceIte,Nat.reduceEqDiff];refine hK3 _ _ ?_;refine awp_prune [0,3] ?_;simp only[zP,Nat.reduceEqDiff,reduceIte];refine aR fun K hK=>?_;simp -dsimp [wk];apply hK;clear hK K;simp only[zT,reduceIte,Nat.reduceEqDiff];exact⟨k+1,⟨by omega,by rw[List.take_add_one,hp,List.all_append,k2];have:=(by simpa using hc1:((upN p).length:Int)≤10);simp;omega⟩,by omega,sub_rb [] rfl (by simp) (by simp)⟩
 ·have hkl:¬k<ps.length:=by simpa using hc0
  rw[List.take_of_length_le (by omega)]at k2;refine awp_exit ?_;simp only[zT,reduceIte,Nat.reduceEqDiff];refine hK1 _ _ ?_;refine awp_prune [] ?_;simp only[zP,Nat.reduceEqDiff,reduceIte];refine aS fun K hK=>?_;simp -dsimp;apply hK;clear hK K;exact awp_ret (by simp[k2])
end Go.Cur
end
section
namespace Go.Cur
open Go.AM Go.Proofs
def cntA:List Int→Int→Int
 |[],_=>0
 |a::l,x=>(if a=x then 1 else 0)+cntA l x
theorem cntA_nn (x:Int):∀l,0≤cntA l x∧cntA l x≤l.length
 |[]=>by simp[cntA]
 |a::l=>by
  have:=cntA_nn x l;simp only[cntA,List.length_cons]
  split<;>omega
theorem cntA_append (x:Int):∀(a b:List Int),cntA (a++b) x=cntA a x+cntA b x
 |[],b=>by simp[cntA]
 |w::a,b=>by simp only[List.cons_append,cntA,cntA_append x a b];omega
theorem cntA_zero {x:Int}:∀{l:List Int},cntA l x=0↔x∉l
 |[]=>by simp[cntA]
 |a::l=>by
  have h1:=cntA_zero (x:=x) (l:=l);have h2:=cntA_nn x l;simp only[cntA,List.mem_cons,not_or]
  by_cases h:a=x
  ·simp[h];omega
  ·rw[if_neg h,←h1];exact⟨fun e=>⟨fun k=>h k.symm,by omega⟩,fun e=>by omega⟩
theorem cntA_take {x:Int} {l:List Int} (k:Nat):cntA (l.take k) x≤cntA l x:=by
 have h:=cntA_append x (l.take k) (l.drop k);rw[List.take_append_drop]at h;have:=cntA_nn x (l.drop k);omega
theorem deg_take_le (x:Int) (l:List Wr) (k:Nat):deg (l.take k) x≤deg l x:=by
 have h:=deg_append x (l.take k) (l.drop k);rw[List.take_append_drop]at h;have:=deg_nn x (l.drop k);omega
def fdR (g:Gr) (f:Fd):Bool:=inr f.At 0 (g.Nodes-1)&&inr f.Volts 1 1000&&inr f.Siem 1 4&&inr f.Limit 0 2000
def fAt (l:List Fd):List Int:=l.map fun f=>f.At
theorem any_at {l:List Fd} {x:Int}:(l.any fun f=>decide (f.At=x))=decide (x∈fAt l):=by
 unfold fAt;rw[Bool.eq_iff_iff];simp
@[simp] theorem fAt_nil:fAt []=[]:=rfl
theorem fAt_snoc {l:List Fd} {k:Nat} {f:Fd} (h:l[k]?=some f):fAt (l.take (k+1))=fAt (l.take k)++[f.At]:=by
 unfold fAt;rw[List.take_add_one,h];simp
theorem fAt_take (l:List Fd) (k:Nat):fAt (l.take k)=(fAt l).take k:=by unfold fAt;rw[List.map_take]
theorem fd_cnt {g:Gr}:∀{k:Nat},k≤g.Feeds.length→fdTo g k=true→∀x,cntA (fAt (g.Feeds.take k)) x≤1
 |0,_,_,x=>by simp[cntA]
 |k+1,hk,h,x=>by
  simp only[fdTo,Bool.and_eq_true]at h;have ih:=fd_cnt (k:=k) (by omega) h.1 x;obtain⟨f,hf⟩:∃f,g.Feeds[k]?=some f:=⟨_,List.getElem?_eq_getElem (by omega)⟩;have h2:=h.2;rw[hf]at h2;simp only[fdB,Bool.and_eq_true,any_at,Bool.not_eq_true',decide_eq_false_iff_not]at h2;have e:=fAt_snoc hf;rw[e,cntA_append];simp only[cntA]
  by_cases hx:f.At=x
  ·have:=cntA_zero.2 h2.2;rw[hx]at this;rw[this,if_pos hx];omega
  ·rw[if_neg hx];omega
theorem grB_cnt {g:Gr} (h:grB g=true) (x:Int):cntA (fAt g.Feeds) x≤1:=by
 simp only[grB,Bool.and_eq_true]at h;have:=fd_cnt (Nat.le_refl _) h.2 x
 rwa [List.take_length]at this
theorem grB_of {g:Gr} (h1:grH g=true) (h2:∀(k:Nat) w,g.Wires[k]?=some w→wrB g w=true) (h3:∀(k:Nat) f,g.Feeds[k]?=some f→fdR g f=true) (h4:∀k:Nat,(k:Int)<g.Nodes→deg g.Wires k≤3∧cntA (fAt g.Feeds) k≤1):grB g=true:=by
 have a:∀k,k≤g.Wires.length→wrTo g k=true:=by
  intro k
  induction k with
  |zero=>intro _;rfl
  |succ k ih=>
   intro hk;obtain⟨w,hw⟩:∃w,g.Wires[k]?=some w:=⟨_,List.getElem?_eq_getElem (by omega)⟩;have hwb:=h2 k w hw;have hwb2:=hwb;simp only[wrB,Bool.and_eq_true,inr_iff]at hwb2;simp only[wrTo,ih (by omega),hw,hwb,wrD,Bool.true_and,Bool.and_eq_true,decide_eq_true_eq];have e1:=h4 w.A.toNat (by omega);have e2:=h4 w.B.toNat (by omega);rw[Int.toNat_of_nonneg (by omega)]at e1 e2;exact⟨Int.le_trans (deg_take_le _ _ _) e1.1,Int.le_trans (deg_take_le _ _ _) e2.1⟩
 have b:∀k,k≤g.Feeds.length→fdTo g k=true:=by
  intro k
  induction k with
  |zero=>intro _;rfl
  | succ k ih=>
   intro hk;obtain⟨f,hf⟩:∃f,g.Feeds[k]?=some f:=⟨_,List.getElem?_eq_getElem (by omega)⟩;have hfb:=h3 k f hf;have hfb2:=hfb;simp only[fdR,Bool.and_eq_true,inr_iff]at hfb2;have hany:((g.Feeds.take k).any fun x=>decide (x.At=f.At))=false:=by
    rw[any_at,decide_eq_false_iff_not,←cntA_zero];have e1:=(h4 f.At.toNat (by omega)).2;rw[Int.toNat_of_nonneg (by omega)]at e1;have e2:=fAt_snoc hf;have e3:=cntA_take (x:=f.At) (l:=fAt g.Feeds) (k+1);rw[←fAt_take,e2,cntA_append]at e3;simp only[cntA,if_true]at e3;have:=cntA_nn f.At (fAt (g.Feeds.take k));omega
   simp only[fdTo,ih (by omega),hf,fdB,hany,Bool.true_and,Bool.not_false,Bool.and_true];exact hfb
 simp only[grB,h1,a _ (Nat.le_refl _),b _ (Nat.le_refl _),Bool.and_self]
def degR (n:Nat) (l:List Wr):List Int:=(List.range n).map fun(k:Nat)=>deg l k
theorem degR_get {n:Nat} {l:List Wr} {k:Nat} (h:k<n):(degR n l)[k]?=some (deg l k):=by
 unfold degR;rw[List.getElem?_map,List.getElem?_range h];rfl
theorem degR_len (n:Nat) (l:List Wr):(degR n l).length=n:=by simp[degR]
theorem degR_set {n:Nat} {l:List Wr} {k a b:Nat} {w:Wr} (hw:l[k]?=some w) (ha:w.A=a) (hb:w.B=b) (hab:a≠b):((degR n (l.take k)).set a (deg (l.take k) a+1)).set b (deg (l.take k) b+1)=degR n (l.take (k+1)):=by
 have e:l.take (k+1)=l.take k++[w]:=by rw[List.take_add_one,hw];rfl
 refine List.ext_getElem? fun i=>?_
 by_cases hi:i<n
 ·rw[degR_get hi,e,deg_append];simp only[deg,ha,hb]
  by_cases h1:i=b
  ·subst h1;rw[List.getElem?_set_self (by simp[degR];omega),if_neg (by omega),if_pos rfl]
   all_goals exact congrArg some (by omega)
  ·rw[List.getElem?_set_ne (fun e=>h1 e.symm)]
   by_cases h2:i=a
   ·subst h2;rw[List.getElem?_set_self (by simp[degR];omega),if_pos rfl,if_neg (by omega)]
    all_goals exact congrArg some (by omega)
   ·rw[List.getElem?_set_ne (fun e=>h2 e.symm),degR_get hi,if_neg (by omega),if_neg (by omega)]
    all_goals exact congrArg some (by omega)
 ·rw[List.getElem?_eq_none (by simp[degR];omega),List.getElem?_eq_none (by simp[degR];omega)]
def cntR (n:Nat) (l:List Int):List Int:=(List.range n).map fun(k:Nat)=>cntA l k
theorem cntR_get {n:Nat} {l:List Int} {k:Nat} (h:k<n):(cntR n l)[k]?=some (cntA l k):=by
 unfold cntR;rw[List.getElem?_map,List.getElem?_range h];rfl
theorem cntR_len (n:Nat) (l:List Int):(cntR n l).length=n:=by simp[cntR]
theorem cntR_set {n:Nat} {l:List Int} {a:Nat}:(cntR n l).set a (cntA l a+1)=cntR n (l++[(a:Int)]):=by
 refine List.ext_getElem? fun i=>?_
 by_cases hi:i<n
 ·rw[cntR_get hi,cntA_append];simp only[cntA]
  by_cases h2:i=a
  ·subst h2;rw[List.getElem?_set_self (by simp[cntR];omega),if_pos rfl]
   all_goals exact congrArg some (by omega)
  ·rw[List.getElem?_set_ne (fun e=>h2 e.symm),cntR_get hi,if_neg (by omega)]
   all_goals exact congrArg some (by omega)
 ·rw[List.getElem?_eq_none (by simp[cntR];omega),List.getElem?_eq_none (by simp[cntR];omega)]
theorem c_rGrid (g:Gr) (hw0:g.Wires.length≤100000) (hf0:g.Feeds.length≤100000):PureCall Try.prog 41 [g.av] (Bo (grB g)):=by
 refine PureCall.of_body Try.func41 rfl (by decide) (by simp[Try.ntmps41]) ?_;simp only[Try.ntmps41,Try.results41];refine aS fun K hK=>?_;simp -dsimp;apply hK;clear hK K;refine awp_seq_k fun K1 hK1=>?_;refine aS fun K hK=>?_;simp -dsimp;refine callK_intro _ (c_rin g.Nodes 1 40) (by simp) ?_;simp -dsimp;refine callK_may _ (fun hm=>c_rin g.Least 0 1000) (by simp) ?_;simp -dsimp;apply hK;clear hK K;refine awp_cond rfl (fun hc0=>?_) (fun hc0=>?_)
 ·refine aS fun K hK=>?_;simp -dsimp;apply hK;clear hK K;have hf:grH g=false:=by
   cases hh:grH g with
   |false=>rfl
   |true=>
    simp only[grH,Bool.and_eq_true,decide_eq_true_eq]at hh;have h1:(g.Wires.length:Int)≤80:=by omega
    have h2:(g.Feeds.length:Int)≤12:=by omega
    simp[hh.1.1.1,hh.2]at hc0;omega
  exact awp_ret (by simp[grB,hf])
 ·have hH:grH g=true:=by
   simp at hc0;simp only[grH,hc0.1.1.1,hc0.2,Bool.and_eq_true,decide_eq_true_eq,and_true,true_and];omega
  have hN:=hH;simp only[grH,Bool.and_eq_true,decide_eq_true_eq,inr_iff]at hN;obtain⟨n,hn⟩:∃n:Nat,g.Nodes=n:=⟨g.Nodes.toNat,by omega⟩;have f0:Fits n 9:=fits_of (by omega) (by omega);have wn:IntKind.i64.wrap ((n:Int)-1)=(n:Int)-1:=wrap_in (by omega) (by omega);have hz1:List.replicate n [AV.v (Value.int .i64 0)]=(degR n []).map nCell:=rowz n _ fun k=>rfl;have hz2:(cntR n []).map nCell=(degR n []).map nCell:=rfl;refine awp_skip ?_;simp only[zT,reduceIte,Nat.reduceEqDiff];refine hK1 _ _ ?_;refine awp_prune [1] ?_;simp only[zP,Nat.reduceEqDiff,reduceIte];refine awp_sd mixed rfl fun K hK=>?_;simp -dsimp [hn,f0];refine hK _ _ _ (by decide+kernel) ?_;clear hK K;refine awp_seq_k fun K2 hK2=>?_;refine aS fun K hK=>?_;simp -dsimp;apply hK;clear hK K;refine awp_block ?_;refine awp_prune [1,3,4,5] ?_;simp only[zP,Nat.reduceEqDiff,reduceIte];refine awp_loop_l [1,3,4] (α:=Nat) (fun k=>[(5,I k)]) (fun k=>[some (.els 4 [g.cells]),some (.els 1 ((degR n (g.Wires.take k)).map nCell)),some (.els 1 ((cntR n []).map nCell))]) (fun k=>k≤g.Wires.length∧∀i w,i<k→g.Wires[i]?=some w→wrB g w=true) (fun k=>g.Wires.length-k) 0 ?_ ?_ ?_
  ·exact⟨Nat.zero_le _,fun i w h=>by omega⟩
  ·exact sub_rb [some 0,some 1,some 2] rfl (by simp) (by simp[hn,hz1,hz2])
  rintro k ⟨k1,k2⟩;simp only[zP,Nat.reduceEqDiff,reduceIte];refine awp_seq_k fun K3 hK3=>?_;refine aS fun K hK=>?_;simp -dsimp;apply hK;clear hK K;refine awp_cond rfl (fun hc1=>?_) (fun hc1=>?_)
  ·have hkl:k<g.Wires.length:=by simpa using hc1
   obtain⟨w,hw⟩:∃w,g.Wires[k]?=some w:=⟨_,List.getElem?_eq_getElem hkl⟩;have wk:=zW k (by omega);refine awp_skip ?_;simp only[zT,reduceIte,Nat.reduceEqDiff];refine hK3 _ _ ?_;refine awp_prune [1,3,4,5] ?_;simp only[zP,Nat.reduceEqDiff,reduceIte];refine awp_seq_k fun K4 hK4=>?_;refine awp_block ?_;refine aS fun K hK=>?_;simp -dsimp [hw];apply hK;clear hK K;refine awp_seq_k fun K5 hK5=>?_;refine aS fun K hK=>?_;simp -dsimp [hn,wn];refine callK_intro _ (c_rin _ _ _) (by simp) ?_;simp -dsimp [hn,wn];refine callK_may _ (fun hm=>c_rin w.B 0 ((n:Int)-1)) (by simp) ?_;simp -dsimp [hn,wn];refine callK_may _ (fun hm=>c_rin w.Siem 1 4) (by simp) ?_;simp -dsimp [hn,wn];apply hK;clear hK K;refine awp_cond rfl (fun hc2=>?_) (fun hc2=>?_)
   ·have hwr:wrB g w= !(!inr w.A 0 ((n:Int)-1)|| !inr w.B 0 ((n:Int)-1)||w.A==w.B|| !inr w.Siem 1 4):=by
     simp only[wrB,beq_d,hn]
     cases inr w.A 0 ((n:Int)-1)<;>cases inr w.B 0 ((n:Int)-1)<;>cases decide (w.A=w.B)<;>cases inr w.Siem 1 4<;>rfl
    refine aS fun K hK=>?_;simp -dsimp;apply hK;clear hK K;have hwf:wrB g w=false:=by rw[hwr,hc2];rfl
    exact awp_ret (by simp[grB_w hw (by rw[hwf];rfl)])
   ·have hwr:wrB g w= !(!inr w.A 0 ((n:Int)-1)|| !inr w.B 0 ((n:Int)-1)||w.A==w.B|| !inr w.Siem 1 4):=by
     simp only[wrB,beq_d,hn]
     cases inr w.A 0 ((n:Int)-1)<;>cases inr w.B 0 ((n:Int)-1)<;>cases decide (w.A=w.B)<;>cases inr w.Siem 1 4<;>rfl
    have hwo:wrB g w=true:=by rw[hwr,hc2];rfl
    have hwb:=hwo;simp only[wrB,Bool.and_eq_true,inr_iff,Bool.not_eq_true',decide_eq_false_iff_not,hn]at hwb;obtain⟨a,ha⟩:∃a:Nat,w.A=a:=⟨w.A.toNat,by omega⟩;obtain⟨b,hb⟩:∃b:Nat,w.B=b:=⟨w.B.toNat,by omega⟩;have han:a<n:=by omega
    have hbn:b<n:=by omega
    have hab:a≠b:=by omega
    have hst:=degR_set (n:=n) hw ha hb hab;have ga:=degR_get (l:=g.Wires.take k) han;have gb:=degR_get (l:=g.Wires.take k) hbn;have hd:=fun x=>deg_nn x (g.Wires.take k);have hlt:(g.Wires.take k).length≤k:=by rw[List.length_take];omega
    have hdl:=degR_len n (g.Wires.take k);have wa:IntKind.i64.wrap (deg (g.Wires.take k) a+1)=deg (g.Wires.take k) a+1:=by have:=hd a;exact wrap_in (by omega) (by omega)
    have wb:IntKind.i64.wrap (deg (g.Wires.take k) b+1)=deg (g.Wires.take k) b+1:=by have:=hd b;exact wrap_in (by omega) (by omega)
    generalize degR n (g.Wires.take k)=dr at hst ga gb hdl ⊢;have hal:a<dr.length:=by omega
    have hbl:b<dr.length:=by omega
    have hga:dr[a]=deg (g.Wires.take k) a:=Option.some.inj (by rw[←List.getElem?_eq_getElem hal];exact ga);have hgb:dr[b]=deg (g.Wires.take k) b:=Option.some.inj (by rw[←List.getElem?_eq_getElem hbl];exact gb);refine awp_skip ?_;simp only[zT,reduceIte,Nat.reduceEqDiff];refine hK5 _ _ ?_;refine awp_prune [1,3,4,5,6] ?_;simp only[zP,Nat.reduceEqDiff,reduceIte];refine aS fun K hK=>?_;simp -dsimp [ha,hal,han,hga,wa];apply hK;clear hK K;refine aR fun K hK=>?_;simp -dsimp [hb,hbl,hbn,hgb,wb,hab];apply hK;clear hK K;simp only[zT,reduceIte,Nat.reduceEqDiff];refine hK4 _ _ ?_;refine awp_prune [1,3,4,5] ?_;simp only[zP,Nat.reduceEqDiff,reduceIte];refine aR fun K hK=>?_;simp -dsimp [wk];apply hK;clear hK K;simp only[zT,reduceIte,Nat.reduceEqDiff];refine⟨k+1,⟨by omega,fun i w' hi hw'=>?_⟩,by omega,sub_rb [some 0,some 1,some 2] rfl (by simp) (by simp[←hst,List.map_set,nCell,hn])⟩
    rcases Nat.lt_succ_iff_lt_or_eq.1 hi with h|h
    ·exact k2 i w' h hw'
    ·subst h;rw[hw]at hw';rw[←Option.some.inj hw'];exact hwo
  ·have hke:k=g.Wires.length:=by have hx:¬k<g.Wires.length:=(by simpa using hc1);omega
   subst hke;rw[List.take_of_length_le (Nat.le_refl _)];refine awp_exit ?_;simp only[zT,reduceIte,Nat.reduceEqDiff];refine hK2 _ _ ?_;refine awp_prune [1,3,4] ?_;simp only[zP,Nat.reduceEqDiff,reduceIte];refine awp_seq_k fun K6 hK6=>?_;refine aS fun K hK=>?_;simp -dsimp;apply hK;clear hK K;refine awp_block ?_;refine awp_prune [1,3,4,7] ?_;simp only[zP,Nat.reduceEqDiff,reduceIte];refine awp_loop_l [1,3,4] (α:=Nat) (fun k=>[(7,I k)]) (fun k=>[some (.els 4 [g.cells]),some (.els 1 ((degR n g.Wires).map nCell)),some (.els 1 ((cntR n (fAt (g.Feeds.take k))).map nCell))]) (fun k=>k≤g.Feeds.length∧∀i f,i<k→g.Feeds[i]?=some f→fdR g f=true) (fun k=>g.Feeds.length-k) 0 ?_ ?_ ?_
   ·exact⟨Nat.zero_le _,fun i w h=>by omega⟩
   ·exact sub_rb [some 0,some 1,some 2] rfl (by simp) (by simp)
   rintro i ⟨i1,i2⟩;simp only[zP,Nat.reduceEqDiff,reduceIte];refine awp_seq_k fun K7 hK7=>?_;refine aS fun K hK=>?_;simp -dsimp;apply hK;clear hK K;refine awp_cond rfl (fun hc3=>?_) (fun hc3=>?_)
   ·have hil:i<g.Feeds.length:=by simpa using hc3
    obtain⟨f,hf⟩:∃f,g.Feeds[i]?=some f:=⟨_,List.getElem?_eq_getElem hil⟩;have wi:=zW i (by omega);refine awp_skip ?_;simp only[zT,reduceIte,Nat.reduceEqDiff];refine hK7 _ _ ?_;refine awp_prune [1,3,4,7] ?_;simp only[zP,Nat.reduceEqDiff,reduceIte];refine awp_seq_k fun K8 hK8=>?_;refine awp_block ?_;refine aS fun K hK=>?_;simp -dsimp [hf];apply hK;clear hK K;refine awp_seq_k fun K9 hK9=>?_;refine aS fun K hK=>?_;simp -dsimp [hn,wn];refine callK_intro _ (c_rin _ _ _) (by simp) ?_;simp -dsimp [hn,wn];refine callK_may _ (fun hm=>c_rin f.Volts 1 1000) (by simp) ?_;simp -dsimp [hn,wn];refine callK_may _ (fun hm=>c_rin f.Siem 1 4) (by simp) ?_;simp -dsimp [hn,wn];refine callK_may _ (fun hm=>c_rin f.Limit 0 2000) (by simp) ?_;simp -dsimp [hn,wn];apply hK;clear hK K;refine awp_cond rfl (fun hc4=>?_) (fun hc4=>?_)
    ·have hfd:fdR g f= !(!inr f.At 0 ((n:Int)-1)|| !inr f.Volts 1 1000|| !inr f.Siem 1 4|| !inr f.Limit 0 2000):=by
      simp only[fdR,hn]
      cases inr f.At 0 ((n:Int)-1)<;>cases inr f.Volts 1 1000<;>cases inr f.Siem 1 4<;>cases inr f.Limit 0 2000<;>rfl
     refine aS fun K hK=>?_;simp -dsimp;apply hK;clear hK K;have hff:fdR g f=false:=by rw[hfd,hc4];rfl
     have hfb:fdB g (g.Feeds.take i) f=false:=by
      have:fdB g (g.Feeds.take i) f=(fdR g f&& !((g.Feeds.take i).any fun x=>decide (x.At=f.At))):=rfl;rw[this,hff];rfl
     exact awp_ret (by simp[grB_f hf hfb])
    ·have hfd:fdR g f= !(!inr f.At 0 ((n:Int)-1)|| !inr f.Volts 1 1000|| !inr f.Siem 1 4|| !inr f.Limit 0 2000):=by
      simp only[fdR,hn]
      cases inr f.At 0 ((n:Int)-1)<;>cases inr f.Volts 1 1000<;>cases inr f.Siem 1 4<;>cases inr f.Limit 0 2000<;>rfl
     have hfo:fdR g f=true:=by rw[hfd,hc4];rfl
     have hfb:=hfo;simp only[fdR,Bool.and_eq_true,inr_iff,hn]at hfb;obtain⟨a,ha⟩:∃a:Nat,f.At=a:=⟨f.At.toNat,by omega⟩;have han:a<n:=by omega
     have hst:=cntR_set (n:=n) (l:=fAt (g.Feeds.take i)) (a:=a);have e2:fAt (g.Feeds.take (i+1))=fAt (g.Feeds.take i)++[(a:Int)]:=by rw[fAt_snoc hf,ha]
     rw[←e2]at hst;have ga:=cntR_get (l:=fAt (g.Feeds.take i)) han;have hd:=cntA_nn (a:Int) (fAt (g.Feeds.take i));have hlt:(fAt (g.Feeds.take i)).length≤i:=by unfold fAt;rw[List.length_map,List.length_take];omega
     have hdl:=cntR_len n (fAt (g.Feeds.take i));have wa:IntKind.i64.wrap (cntA (fAt (g.Feeds.take i)) a+1)=cntA (fAt (g.Feeds.take i)) a+1:=wrap_in (by omega) (by omega);generalize cntA (fAt (g.Feeds.take i)) a=ca at hst ga wa;generalize cntR n (fAt (g.Feeds.take i))=cr at hst ga hdl ⊢;have hal:a<cr.length:=by omega
     have hga:cr[a]=ca:=Option.some.inj (by rw[←List.getElem?_eq_getElem hal];exact ga);refine awp_skip ?_;simp only[zT,reduceIte,Nat.reduceEqDiff];refine hK9 _ _ ?_;refine awp_prune [1,3,4,7,8] ?_;simp only[zP,Nat.reduceEqDiff,reduceIte];refine aR fun K hK=>?_;simp -dsimp [ha,hal,han,hga,wa];apply hK;clear hK K;simp only[zT,reduceIte,Nat.reduceEqDiff];refine hK8 _ _ ?_;refine awp_prune [1,3,4,7] ?_;simp only[zP,Nat.reduceEqDiff,reduceIte];refine aR fun K hK=>?_;simp -dsimp [wi];apply hK;clear hK K;simp only[zT,reduceIte,Nat.reduceEqDiff];refine⟨i+1,⟨by omega,fun j w' hj hw'=>?_⟩,by omega,sub_rb [some 0,some 1,some 2] rfl (by simp) (by simp[←hst,List.map_set,nCell,hn])⟩
     rcases Nat.lt_succ_iff_lt_or_eq.1 hj with h|h
     ·exact i2 j w' h hw'
     ·subst h;rw[hf]at hw';rw[←Option.some.inj hw'];exact hfo
   ·have hie:i=g.Feeds.length:=by have hx:¬i<g.Feeds.length:=(by simpa using hc3);omega
    subst hie;rw[List.take_of_length_le (Nat.le_refl _)];refine awp_exit ?_;simp only[zT,reduceIte,Nat.reduceEqDiff];refine hK6 _ _ ?_;refine awp_prune [1,3,4] ?_;simp only[zP,Nat.reduceEqDiff,reduceIte];refine awp_seq_k fun K10 hK10=>?_;refine aS fun K hK=>?_;simp -dsimp;apply hK;clear hK K;refine awp_block ?_;refine awp_prune [1,3,4,9] ?_;simp only[zP,Nat.reduceEqDiff,reduceIte];refine awp_loop_l [1,3,4] (α:=Nat) (fun k=>[(9,I k)]) (fun k=>[some (.els 4 [g.cells]),some (.els 1 ((degR n g.Wires).map nCell)),some (.els 1 ((cntR n (fAt g.Feeds)).map nCell))]) (fun k=>k≤n∧∀j:Nat,j<k→deg g.Wires j≤3∧cntA (fAt g.Feeds) j≤1) (fun k=>n-k) 0 ?_ ?_ ?_
    ·exact⟨Nat.zero_le _,fun i h=>by omega⟩
    ·exact sub_rb [some 0,some 1,some 2] rfl (by simp) (by simp)
    rintro j ⟨j1,j2⟩;simp only[zP,Nat.reduceEqDiff,reduceIte];refine awp_seq_k fun K11 hK11=>?_;refine aS fun K hK=>?_;simp -dsimp [hn];apply hK;clear hK K;refine awp_cond rfl (fun hc5=>?_) (fun hc5=>?_)
    ·have hjn:j<n:=by simpa using hc5
     have wj:=zW j (by omega);have ga:=degR_get (l:=g.Wires) hjn;have gb:=cntR_get (l:=fAt g.Feeds) hjn;have hdl:=degR_len n g.Wires;have hcl:=cntR_len n (fAt g.Feeds);have hal:j<(degR n g.Wires).length:=by omega
     have hbl:j<(cntR n (fAt g.Feeds)).length:=by omega
     have hga:(degR n g.Wires)[j]=deg g.Wires j:=Option.some.inj (by rw[←List.getElem?_eq_getElem hal];exact ga);have hgb:(cntR n (fAt g.Feeds))[j]=cntA (fAt g.Feeds) j:=Option.some.inj (by rw[←List.getElem?_eq_getElem hbl];exact gb);refine awp_skip ?_;simp only[zT,reduceIte,Nat.reduceEqDiff];refine hK11 _ _ ?_;refine awp_prune [1,3,4,9] ?_;simp only[zP,Nat.reduceEqDiff,reduceIte];refine awp_seq_k fun K12 hK12=>?_;refine awp_block ?_;refine aS fun K hK=>?_;simp -dsimp [hal,hbl,hjn,hga,hgb];apply hK;clear hK K;refine awp_cond rfl (fun hc6=>?_) (fun hc6=>?_)
     ·refine aS fun K hK=>?_;simp -dsimp;apply hK;clear hK K;have hf:grB g=false:=by
       cases h:grB g with
       |false=>rfl
       |true=>
        have h1:=deg_le h (j:Int);have h2:=grB_cnt h (j:Int);simp at hc6;omega
      exact awp_ret (by simp[hf])
     ·refine awp_skip ?_;simp only[zT,reduceIte,Nat.reduceEqDiff];refine hK12 _ _ ?_;refine awp_prune [1,3,4,9] ?_;simp only[zP,Nat.reduceEqDiff,reduceIte];refine aR fun K hK=>?_;simp -dsimp [wj];apply hK;clear hK K;simp only[zT,reduceIte,Nat.reduceEqDiff];refine⟨j+1,⟨by omega,fun q hq=>?_⟩,by omega,sub_rb [some 0,some 1,some 2] rfl (by simp) (by simp[hn])⟩
      rcases Nat.lt_succ_iff_lt_or_eq.1 hq with h|h
      ·exact j2 q h
      ·subst h;simp at hc6;omega
    ·have hje:¬j<n:=by simpa using hc5
     refine awp_exit ?_;simp only[zT,reduceIte,Nat.reduceEqDiff];refine hK10 _ _ ?_;refine awp_prune [] ?_;simp only[zP,Nat.reduceEqDiff,reduceIte];refine aS fun K hK=>?_;simp -dsimp;apply hK;clear hK K;have ht:grB g=true:=grB_of hH (fun k w hw=>k2 k w (List.getElem?_eq_some_iff.1 hw).1 hw) (fun k f hf=>i2 k f (List.getElem?_eq_some_iff.1 hf).1 hf) (fun k hk=>j2 k (by omega));exact awp_ret (by simp[ht])
theorem c_rState (g:Gr) (s:Sta) (hw0:g.Wires.length≤100000):PureCall Try.prog 43 [g.av,s.av] (Bo (stB g s)):=by
 refine PureCall.of_body Try.func43 rfl (by decide) (by simp[Try.ntmps43]) ?_;simp only[Try.ntmps43,Try.results43];refine aS fun K hK=>?_;simp -dsimp;apply hK;clear hK K;refine awp_seq_k fun K1 hK1=>?_;refine aS fun K hK=>?_;simp -dsimp;apply hK;clear hK K;refine awp_cond rfl (fun hc0=>?_) (fun hc0=>?_)
 ·refine aS fun K hK=>?_;simp -dsimp;apply hK;clear hK K;have hf:stB g s=false:=by
   cases hh:stB g s with
   |false=>rfl
   |true=>
    simp only[stB,Bool.and_eq_true,decide_eq_true_eq]at hh;simp[hh.1.1,hh.1.2]at hc0
  exact awp_ret (by simp[hf])
 ·have hl:s.Feeds.length=g.Feeds.length∧s.Wires.length=g.Wires.length:=by simp at hc0;omega
  refine awp_skip ?_;simp only[zT,reduceIte,Nat.reduceEqDiff];refine hK1 _ _ ?_;refine awp_prune [2,3] ?_;simp only[zP,Nat.reduceEqDiff,reduceIte];refine awp_seq_k fun K2 hK2=>?_;refine aS fun K hK=>?_;simp -dsimp;apply hK;clear hK K;refine awp_block ?_;refine awp_prune [2,3,5] ?_;simp only[zP,Nat.reduceEqDiff,reduceIte];refine awp_loop_l [2,3] (α:=Nat) (fun k=>[(5,I k)]) (fun k=>[some (.els 4 [g.cells]),some (.els 2 [s.cells])]) (fun k=>k≤g.Wires.length∧swTo g s k=true) (fun k=>g.Wires.length-k) 0 ?_ ?_ ?_
  ·exact⟨Nat.zero_le _,rfl⟩
  ·exact sub_rb [some 0,some 1] rfl (by simp) (by simp)
  rintro k ⟨k1,k2⟩;simp only[zP,Nat.reduceEqDiff,reduceIte];refine awp_seq_k fun K3 hK3=>?_;refine aS fun K hK=>?_;simp -dsimp;apply hK;clear hK K;refine awp_cond rfl (fun hc1=>?_) (fun hc1=>?_)
  ·have hkl:k<g.Wires.length:=by simpa using hc1
   obtain⟨w,hw⟩:∃w,g.Wires[k]?=some w:=⟨_,List.getElem?_eq_getElem hkl⟩;have wk:=zW k (by omega);have gb:=bAt_get (l:=s.Wires) (k:=k) (by omega);refine awp_skip ?_;simp only[zT,reduceIte,Nat.reduceEqDiff];refine hK3 _ _ ?_;refine awp_prune [2,3,5] ?_;simp only[zP,Nat.reduceEqDiff,reduceIte];refine awp_seq_k fun K4 hK4=>?_;refine awp_block ?_;refine aS fun K hK=>?_;simp -dsimp [hw,gb,hl.2];refine idxK_intro (bCell (bAt s.Wires k)) (fun _=>by simp[gb]) ?_;simp -dsimp [hw,gb,hl.2];apply hK;clear hK K;refine awp_cond rfl (fun hc2=>?_) (fun hc2=>?_)
   ·refine aS fun K hK=>?_;simp -dsimp;apply hK;clear hK K;have hfl:(w.Sw||bAt s.Wires k)=false:=by cases hw1:w.Sw<;>cases hb1:bAt s.Wires k<;>simp[hw1,hb1]at hc2 ⊢
    have h1:swTo g s (k+1)=false:=by simp only[swTo,hw,hfl,Bool.and_false]
    have h2:=swTo_ff h1 (g.Wires.length-(k+1));rw[show k+1+(g.Wires.length-(k+1))=g.Wires.length by omega]at h2;exact awp_ret (by simp[stB,h2])
   ·refine awp_skip ?_;simp only[zT,reduceIte,Nat.reduceEqDiff];refine hK4 _ _ ?_;refine awp_prune [2,3,5] ?_;simp only[zP,Nat.reduceEqDiff,reduceIte];refine aR fun K hK=>?_;simp -dsimp [wk];apply hK;clear hK K;simp only[zT,reduceIte,Nat.reduceEqDiff];refine⟨k+1,⟨by omega,?_⟩,by omega,sub_rb [some 0,some 1] rfl (by simp) (by simp)⟩;simp only[swTo,k2,hw,Bool.true_and]
    cases hw1:w.Sw<;>cases hb1:bAt s.Wires k<;>simp[hw1,hb1]at hc2 ⊢
  ·have hke:k=g.Wires.length:=by have hx:¬k<g.Wires.length:=(by simpa using hc1);omega
   subst hke;refine awp_exit ?_;simp only[zT,reduceIte,Nat.reduceEqDiff];refine hK2 _ _ ?_;refine awp_prune [] ?_;simp only[zP,Nat.reduceEqDiff,reduceIte];refine aS fun K hK=>?_;simp -dsimp;apply hK;clear hK K;exact awp_ret (by simp[stB,hl.1,hl.2,k2])
def lAt (l:List Ld):List Int:=l.map fun f=>f.At
@[simp] theorem lAt_nil:lAt []=[]:=rfl
theorem any_lat {l:List Ld} {x:Int}:(l.any fun f=>decide (f.At=x))=decide (x∈lAt l):=by
 unfold lAt;rw[Bool.eq_iff_iff];simp
theorem c_rLoads (g:Gr) (l:List Ld) (n:Nat) (hn:g.Nodes=n) (hn1:0<n) (hn0:n≤1000) (hl0:l.length≤100000):PureCall Try.prog 58 [g.av,lL l] (Bo (ldTo g l l.length)):=by
 have f0:Fits n 9:=fits_of (by omega) (by omega);have wn:IntKind.i64.wrap ((n:Int)-1)=(n:Int)-1:=wrap_in (by omega) (by omega);have hz:List.replicate n [AV.v (Value.int .i64 0)]=(cntR n []).map nCell:=rowz n _ fun k=>rfl;refine PureCall.of_body Try.func58 rfl (by decide) (by simp[Try.ntmps58]) ?_;simp only[Try.ntmps58,Try.results58];refine aS fun K hK=>?_;simp -dsimp;apply hK;clear hK K;refine aS fun K hK=>?_;simp -dsimp [hn,f0];apply hK;clear hK K;refine awp_seq_k fun K1 hK1=>?_;refine aS fun K hK=>?_;simp -dsimp;apply hK;clear hK K;refine awp_block ?_;refine awp_prune [1,2,5,6] ?_;simp only[zP,Nat.reduceEqDiff,reduceIte];refine awp_loop_l [1,2,5] (α:=Nat) (fun k=>[(6,I k)]) (fun k=>[some (.els 4 [g.cells]),some (.els 1 ((cntR n (lAt (l.take k))).map nCell))]) (fun k=>k≤l.length∧ldTo g l k=true) (fun k=>l.length-k) 0 ?_ ?_ ?_
 ·exact⟨Nat.zero_le _,rfl⟩
 ·exact sub_rb [some 0,some 1] rfl (by simp) (by simp[hn,hz])
 rintro k ⟨k1,k2⟩;simp only[zP,Nat.reduceEqDiff,reduceIte];refine awp_seq_k fun K2 hK2=>?_;refine aS fun K hK=>?_;simp -dsimp;apply hK;clear hK K;refine awp_cond rfl (fun hc0=>?_) (fun hc0=>?_)
 ·have hkl:k<l.length:=by simpa using hc0
  have wk:=zW k (by omega);obtain⟨f,hf⟩:∃f,l[k]?=some f:=⟨_,List.getElem?_eq_getElem hkl⟩;have hfd:ldB g (l.take k) f= !(!inr f.At 0 ((n:Int)-1)|| !inr f.Units (-40) 40|| !inr f.Rank 0 100|| !decide (cntA (lAt (l.take k)) f.At=0)):=by
   have e:((l.take k).any fun x=>decide (x.At=f.At))= !decide (cntA (lAt (l.take k)) f.At=0):=by
    rw[any_lat,←decide_not];exact decide_eq_decide.2 (by rw[cntA_zero,Decidable.not_not])
   simp only[ldB,hn,e]
   cases inr f.At 0 ((n:Int)-1)<;>cases inr f.Units (-40) 40<;>cases inr f.Rank 0 100<;>cases decide (cntA (lAt (l.take k)) f.At=0)<;>rfl
  have hcn:=cntA_nn f.At (lAt (l.take k));have hlt:(lAt (l.take k)).length≤k:=by unfold lAt;rw[List.length_map,List.length_take];omega
  have hcl:=cntR_len n (lAt (l.take k));have hn0l:0<(cntR n (lAt (l.take k))).length:=by omega
  have hend:ldB g (l.take k) f=false→ldTo g l l.length=false:=fun h=>by
   have h1:ldTo g l (k+1)=false:=by simp only[ldTo,hf,h,Bool.and_false]
   have h2:=ldTo_ff h1 (l.length-(k+1))
   rwa [show k+1+(l.length-(k+1))=l.length by omega]at h2
  refine awp_skip ?_;simp only[zT,reduceIte,Nat.reduceEqDiff];refine hK2 _ _ ?_;refine awp_prune [1,2,5,6] ?_;simp only[zP,Nat.reduceEqDiff,reduceIte];refine awp_seq_k fun K3 hK3=>?_;refine awp_block ?_;refine awp_seq_k fun K4 hK4=>?_;have hcase:inr f.At 0 ((n:Int)-1)=true→0≤f.At∧f.At.toNat<n:=fun h=>by rw[inr_iff]at h;omega
  obtain⟨iA,hiA⟩:∃iA,iA=inr f.At 0 ((n:Int)-1):=⟨_,rfl⟩
  cases iA
  all_goals have hin:=hiA.symm
  rotate_left
  obtain⟨hA0,hat⟩:=hcase hin;have hal:f.At.toNat<(cntR n (lAt (l.take k))).length:=by omega
  have hga:(cntR n (lAt (l.take k)))[f.At.toNat]=cntA (lAt (l.take k)) f.At:=Option.some.inj (by rw[←List.getElem?_eq_getElem hal,cntR_get hat,Int.toNat_of_nonneg hA0])
  rotate_left
  ·refine awp_sd mixed rfl fun K hK=>?_;simp -dsimp [hf,hn,wn,hin,hn0l,hn1];refine callK_intro _ (c_rin _ _ _) (by simp) ?_;simp -dsimp [hf,hn,wn,hin,hn0l,hn1];refine idxK_intro ((⟨0,0,0⟩:Ld).cells) (fun hm=>by simp[hin]at hm) ?_;simp -dsimp [hf,hn,wn,hin,hn0l,hn1];refine callK_may _ (fun hm=>c_rin 0 (-40) 40) (by simp) ?_;simp -dsimp [hf,hn,wn,hin,hn0l,hn1];refine idxK_intro ((⟨0,0,0⟩:Ld).cells) (fun hm=>by simp[hin]at hm) ?_;simp -dsimp [hf,hn,wn,hin,hn0l,hn1];refine callK_may _ (fun hm=>c_rin 0 0 100) (by simp) ?_;simp -dsimp [hf,hn,wn,hin,hn0l,hn1];refine idxK_intro ((⟨0,0,0⟩:Ld).cells) (fun hm=>by simp[hin]at hm) ?_;simp -dsimp [hf,hn,wn,hin,hn0l,hn1];refine hK _ _ _ (by decide+kernel) ?_;clear hK K;refine awp_cond rfl (fun hc1=>?_) (fun hc1=>?_)
   ·refine aS fun K hK=>?_;simp -dsimp;apply hK;clear hK K;exact awp_ret (by simp[hend (by rw[hfd,hin];rfl)])
   ·simp[hin]at hc1
  ·refine awp_sd mixed rfl fun K hK=>?_;simp -dsimp [hf,hn,wn,hin,hA0,hat,hal,hga];refine callK_intro _ (c_rin _ _ _) (by simp) ?_;simp -dsimp [hf,hn,wn,hin,hA0,hat,hal,hga];refine idxK_intro f.cells (fun _=>by simp[hf]) ?_;simp -dsimp [hf,hn,wn,hin,hA0,hat,hal,hga];refine callK_may _ (fun hm=>c_rin f.Units (-40) 40) (by simp) ?_;simp -dsimp [hf,hn,wn,hin,hA0,hat,hal,hga];refine idxK_intro f.cells (fun _=>by simp[hf]) ?_;simp -dsimp [hf,hn,wn,hin,hA0,hat,hal,hga];refine callK_may _ (fun hm=>c_rin f.Rank 0 100) (by simp) ?_;simp -dsimp [hf,hn,wn,hin,hA0,hat,hal,hga];refine idxK_intro f.cells (fun _=>by simp[hf]) ?_;simp -dsimp [hf,hn,wn,hin,hA0,hat,hal,hga];refine hK _ _ _ (by decide+kernel) ?_;clear hK K;refine awp_cond rfl (fun hc1=>?_) (fun hc1=>?_)
   ·refine aS fun K hK=>?_;simp -dsimp;apply hK;clear hK K;have hlf:ldB g (l.take k) f=false:=by
     rw[hfd,hin]
     cases h1:inr f.Units (-40) 40<;>cases h2:inr f.Rank 0 100<;>simp[h1,h2]at hc1 ⊢
     omega
    exact awp_ret (by simp[hend hlf])
   ·have hlt2:ldB g (l.take k) f=true:=by
     rw[hfd,hin]
     cases h1:inr f.Units (-40) 40<;>cases h2:inr f.Rank 0 100<;>simp[h1,h2]at hc1 ⊢
     omega
    have hst:=cntR_set (n:=n) (l:=lAt (l.take k)) (a:=f.At.toNat);rw[Int.toNat_of_nonneg hA0]at hst;have hsn:lAt (l.take (k+1))=lAt (l.take k)++[f.At]:=by unfold lAt;rw[List.take_add_one,hf];simp
    rw[←hsn]at hst;have wa:IntKind.i64.wrap (cntA (lAt (l.take k)) f.At+1)=cntA (lAt (l.take k)) f.At+1:=wrap_in (by omega) (by omega);refine awp_skip ?_;simp only[zT,reduceIte,Nat.reduceEqDiff];refine hK4 _ _ ?_;refine awp_prune [1,2,5,6] ?_;simp only[zP,Nat.reduceEqDiff,reduceIte];refine aR fun K hK=>?_;simp -dsimp [hf,hA0,hat,hal,hga,wa];apply hK;clear hK K;simp only[zT,reduceIte,Nat.reduceEqDiff];refine hK3 _ _ ?_;refine awp_prune [1,2,5,6] ?_;simp only[zP,Nat.reduceEqDiff,reduceIte];refine aR fun K hK=>?_;simp -dsimp [wk];apply hK;clear hK K;simp only[zT,reduceIte,Nat.reduceEqDiff];refine⟨k+1,⟨by omega,?_⟩,by omega,sub_rb [some 0,some 1] rfl (by simp) (by simp[←hst,List.map_set,nCell,hn])⟩;simp only[ldTo,k2,hf,hlt2,Bool.and_self]
 ·have hke:k=l.length:=by have hx:¬k<l.length:=(by simpa using hc0);omega
  subst hke;refine awp_exit ?_;simp only[zT,reduceIte,Nat.reduceEqDiff];refine hK1 _ _ ?_;refine awp_prune [] ?_;simp only[zP,Nat.reduceEqDiff,reduceIte];refine aS fun K hK=>?_;simp -dsimp;apply hK;clear hK K;exact awp_ret (by simp[k2])
theorem c_rFine (g:Gr) (s:Sta) (l:List Ld) (hw0:g.Wires.length≤100000) (hf0:g.Feeds.length≤100000) (hl0:l.length≤100000):PureCall Try.prog 32 [g.av,s.av,lL l] (Bo (fineB g s l)):=by
 have hg:=c_rGrid g hw0 hf0;have hs:=c_rState g s hw0;have hl:grB g=true→PureCall Try.prog 58 [g.av,lL l] (Bo (ldTo g l l.length)):=fun h=>by
  have hbd:=grB_bd h;exact c_rLoads g l g.Nodes.toNat (by omega) (by omega) (by omega) hl0
 refine PureCall.of_body Try.func32 rfl (by decide) (by simp[Try.ntmps32]) ?_;simp only[Try.ntmps32,Try.results32];refine aS fun K hK=>?_;simp -dsimp;apply hK;clear hK K;refine aS fun K hK=>?_;simp -dsimp;refine callK_intro _ (hg) (by simp) ?_;simp -dsimp;refine callK_may _ (fun hm=>hs) (by simp) ?_;simp -dsimp;refine callK_may _ (fun hm=>hl (by simp at hm;exact hm.1)) (by simp) ?_;simp -dsimp;apply hK;clear hK K;exact awp_ret (by simp[fineB])
end Go.Cur
end
section
namespace Go.Cur
open Go.AM Go.Proofs
def nmS (n:Nat) (f:Nat→Nat):List Int:=(List.range n).map fun(k:Nat)=>((f k:Nat):Int)
theorem nmS_get {n:Nat} {f:Nat→Nat} {k:Nat} (h:k<n):(nmS n f)[k]?=some ((f k:Nat):Int):=by
 unfold nmS;rw[List.getElem?_map,List.getElem?_range h];rfl
theorem nmS_len (n:Nat) (f:Nat→Nat):(nmS n f).length=n:=by simp[nmS]
theorem nmS_set {n:Nat} {f:Nat→Nat} {a v:Nat}:(nmS n f).set a (v:Int)=nmS n fun k=>if k=a then v else f k:=by
 refine List.ext_getElem? fun i=>?_
 by_cases hi:i<n
 ·rw[nmS_get hi]
  by_cases h2:i=a
  ·subst h2;rw[List.getElem?_set_self (by simp[nmS];omega),if_pos rfl]
  ·rw[List.getElem?_set_ne (fun e=>h2 e.symm),nmS_get hi,if_neg h2]
 ·rw[List.getElem?_eq_none (by simp[nmS];omega),List.getElem?_eq_none (by simp[nmS];omega)]
theorem nmS_congr {n:Nat} {f h:Nat→Nat} (e:∀k,k<n→f k=h k):nmS n f=nmS n h:=by
 unfold nmS;exact List.map_congr_left fun k hk=>by rw[e k (List.mem_range.1 hk)]
theorem onW_sn {l:List Wr} {b:List Bool} {k:Nat} {w:Wr} {c:Bool} (hl:l[k]?=some w) (hb:b[k]?=some c):onW (l.take (k+1)) (b.take (k+1))=onW (l.take k) (b.take k)++if c=true then [⟨w.A.toNat,w.B.toNat,w.Siem⟩]else []:=by
 have hk:=(List.getElem?_eq_some_iff.1 hl).1;have hk2:=(List.getElem?_eq_some_iff.1 hb).1;unfold onW;rw[List.take_add_one,List.take_add_one,hl,hb,List.zip_append (by simp;omega),List.filterMap_append]
 cases c<;>simp
theorem nmR_snoc (E:List (Nat×Nat)) (e:Nat×Nat) (f:Nat→Nat):nmR (E++[e]) f=nmE (nmR E f) e:=by
 unfold nmR;rw[List.foldl_append];rfl
def hdL (E:List (Nat×Nat)) (n i:Nat):List (List Nat):=((List.range i).filter fun j=>decide (nm E n j=j)).map (cp E n)
theorem hdL_succ (E:List (Nat×Nat)) (n i:Nat):hdL E n (i+1)=hdL E n i++if nm E n i=i then [cp E n i]else []:=by
 unfold hdL;rw[List.range_succ,List.filter_append,List.map_append]
 by_cases h:nm E n i=i<;>simp[h]
theorem hdL_len (E:List (Nat×Nat)) (n i:Nat):(hdL E n i).length≤i:=by
 unfold hdL;rw[List.length_map];have:=List.length_filter_le (fun j=>decide (nm E n j=j)) (List.range i);simpa using this
def ptL (E:List (Nat×Nat)) (n i k:Nat):List Nat:=(List.range k).filter fun q=>decide (nm E n q=i)
theorem ptL_zero (E:List (Nat×Nat)) (n i:Nat):ptL E n i i=[]:=by
 unfold ptL;rw[List.filter_eq_nil_iff];intro q hq;have:=nm_le (E:=E) (n:=n) (k:=q);rw[List.mem_range]at hq;simp;omega
theorem ptL_succ (E:List (Nat×Nat)) (n i k:Nat):ptL E n i (k+1)=ptL E n i k++if nm E n k=i then [k]else []:=by
 unfold ptL;rw[List.range_succ,List.filter_append]
 by_cases h:nm E n k=i<;>simp[h]
theorem ptL_len (E:List (Nat×Nat)) (n i k:Nat):(ptL E n i k).length≤k:=by
 unfold ptL;have:=List.length_filter_le (fun q=>decide (nm E n q=i)) (List.range k);simpa using this
theorem c_rParts (g:Gr) (s:Sta) (hnt:NetOk g s):PureCall Try.prog 23 [g.av,s.av] (.lst 1 ((partL g s).map pAV)):=by
 have hbd:=grB_bd hnt.gr;have hsw:=hnt.sw;have hwr:=hnt.wires;have hwo:∀(k:Nat) w,g.Wires[k]?=some w→w.A.toNat<g.Nodes.toNat∧w.B.toNat<g.Nodes.toNat∧0≤w.A∧0≤w.B:=fun k w hw=>by
  have:=hwr w (List.mem_of_getElem? hw);simp only[wrB,Bool.and_eq_true,inr_iff]at this;omega
 have hpl:partL g s=hdL (netE g s) g.Nodes.toNat g.Nodes.toNat:=rfl;rw[hpl];have hEe:netE g s=edges (onW g.Wires s.Wires):=rfl;obtain⟨n,hn⟩:∃n:Nat,g.Nodes=n:=⟨g.Nodes.toNat,by omega⟩;have hnn:g.Nodes.toNat=n:=by omega
 rw[hnn]at hwo ⊢;generalize netE g s=E at hEe ⊢;have f0:Fits n 9:=fits_of (by omega) (by omega);have hz:List.replicate n [AV.v (Value.int .i64 0)]=(nmS n fun _=>0).map nCell:=rowz n _ fun k=>rfl;refine PureCall.of_body Try.func23 rfl (by decide) (by simp[Try.ntmps23]) ?_;simp only[Try.ntmps23,Try.results23];refine aS fun K hK=>?_;simp -dsimp;apply hK;clear hK K;refine aS fun K hK=>?_;simp -dsimp [hn,f0];apply hK;clear hK K;refine awp_seq_k fun K1 hK1=>?_;refine aS fun K hK=>?_;simp -dsimp;apply hK;clear hK K;refine awp_block ?_;refine awp_prune [2,3,5,6] ?_;simp only[zP,Nat.reduceEqDiff,reduceIte];refine awp_loop_l [2,3,5] (α:=Nat) (fun k=>[(6,I k)]) (fun k=>[some (.els 4 [g.cells]),some (.els 2 [s.cells]),some (.els 1 ((nmS n fun j=>if j<k then j else 0).map nCell))]) (fun k=>k≤n) (fun k=>n-k) 0 ?_ ?_ ?_
 ·exact Nat.zero_le _
 ·exact sub_rb [some 0,some 1,some 2] rfl (by simp) (by simp[hn,hz])
 rintro k k1;simp only[zP,Nat.reduceEqDiff,reduceIte];refine awp_seq_k fun K2 hK2=>?_;refine aS fun K hK=>?_;simp -dsimp [hn];apply hK;clear hK K;refine awp_cond rfl (fun hc0=>?_) (fun hc0=>?_)
 ·have hkl:k<n:=by simpa using hc0
  have wk:=zW k (by omega);have hnl:=nmS_len n fun j=>if j<k then j else 0;have hst:=nmS_set (n:=n) (f:=fun j=>if j<k then j else 0) (a:=k) (v:=k);have hst2:nmS n (fun j=>if j=k then k else if j<k then j else 0)=nmS n fun j=>if j<k+1 then j else 0:=nmS_congr fun j hj=>by
   by_cases h1:j=k
   ·rw[if_pos h1,if_pos (by omega),h1]
   ·rw[if_neg h1]
    by_cases h2:j<k
    ·rw[if_pos h2,if_pos (by omega)]
    ·rw[if_neg h2,if_neg (by omega)]
  rw[hst2]at hst;generalize (nmS n fun j=>if j<k then j else 0)=R at hnl hst ⊢;refine awp_skip ?_;simp only[zT,reduceIte,Nat.reduceEqDiff];refine hK2 _ _ ?_;refine awp_prune [2,3,5,6] ?_;simp only[zP,Nat.reduceEqDiff,reduceIte];refine awp_seq_k fun K3 hK3=>?_;refine awp_block ?_;refine aR fun K hK=>?_;simp -dsimp [hnl,hkl];apply hK;clear hK K;simp only[zT,reduceIte,Nat.reduceEqDiff];refine hK3 _ _ ?_;refine awp_prune [2,3,5,6] ?_;simp only[zP,Nat.reduceEqDiff,reduceIte];refine aR fun K hK=>?_;simp -dsimp [wk];apply hK;clear hK K;simp only[zT,reduceIte,Nat.reduceEqDiff];exact⟨k+1,by omega,by omega,sub_rb [some 0,some 1,some 2] rfl (by simp) (by simp[←hst,List.map_set,nCell,hn])⟩
 ·have hke:k=n:=by have hx:¬k<n:=(by simpa using hc0);omega
  have e0:nmS n (fun j=>if j<k then j else 0)=nmS n (nmT E 0):=nmS_congr fun j hj=>by rw[if_pos (by omega)];rfl
  rw[e0];refine awp_exit ?_;simp only[zT,reduceIte,Nat.reduceEqDiff];refine hK1 _ _ ?_;refine awp_prune [2,3,5] ?_;simp only[zP,Nat.reduceEqDiff,reduceIte];refine awp_seq_k fun K4 hK4=>?_;refine aS fun K hK=>?_;simp -dsimp;apply hK;clear hK K;refine awp_block ?_;refine awp_prune [2,3,5,7] ?_;simp only[zP,Nat.reduceEqDiff,reduceIte];refine awp_loop_l [2,3,5] (α:=Nat) (fun t=>[(7,I t)]) (fun t=>[some (.els 4 [g.cells]),some (.els 2 [s.cells]),some (.els 1 ((nmS n (nmT E t)).map nCell))]) (fun t=>t≤n) (fun t=>n-t) 0 ?_ ?_ ?_
  ·exact Nat.zero_le _
  ·exact sub_rb [some 0,some 1,some 2] rfl (by simp) (by simp[hn])
  rintro t t1;simp only[zP,Nat.reduceEqDiff,reduceIte];refine awp_seq_k fun K5 hK5=>?_;refine aS fun K hK=>?_;simp -dsimp [hn];apply hK;clear hK K;refine awp_cond rfl (fun hc1=>?_) (fun hc1=>?_)
  ·have htl:t<n:=by simpa using hc1
   have wt:=zW t (by omega);refine awp_skip ?_;simp only[zT,reduceIte,Nat.reduceEqDiff];refine hK5 _ _ ?_;refine awp_prune [2,3,5,7] ?_;simp only[zP,Nat.reduceEqDiff,reduceIte];refine awp_seq_k fun K6 hK6=>?_;refine awp_block ?_;refine aS fun K hK=>?_;simp -dsimp;apply hK;clear hK K;refine awp_block ?_;refine awp_prune [2,3,5,7,8] ?_;simp only[zP,Nat.reduceEqDiff,reduceIte];refine awp_loop_l [2,3,5,7] (α:=Nat) (fun i=>[(8,I i)]) (fun i=>[some (.els 4 [g.cells]),some (.els 2 [s.cells]),some (.els 1 ((nmS n (nmR (edges (onW (g.Wires.take i) (s.Wires.take i))) (nmT E t))).map nCell))]) (fun i=>i≤g.Wires.length) (fun i=>g.Wires.length-i) 0 ?_ ?_ ?_
   ·exact Nat.zero_le _
   ·exact sub_rb [some 0,some 1,some 2] rfl (by simp) (by simp[onW,edges,nmR,hn])
   rintro i i1;simp only[zP,Nat.reduceEqDiff,reduceIte];refine awp_seq_k fun K7 hK7=>?_;refine aS fun K hK=>?_;simp -dsimp;apply hK;clear hK K;refine awp_cond rfl (fun hc2=>?_) (fun hc2=>?_)
   ·have hil:i<g.Wires.length:=by simpa using hc2
    have wi:=zW i (by omega);obtain⟨w,hw⟩:∃w,g.Wires[i]?=some w:=⟨_,List.getElem?_eq_getElem hil⟩;have gb:=bAt_get (l:=s.Wires) (k:=i) (by omega);have hos:=onW_sn hw gb;obtain⟨ha,hb,ha0,hb0⟩:=hwo i w hw;obtain⟨a,hae⟩:∃a:Nat,w.A=a:=⟨w.A.toNat,by omega⟩;obtain⟨b,hbe⟩:∃b:Nat,w.B=b:=⟨w.B.toNat,by omega⟩;have han:a<n:=by omega
    have hbn:b<n:=by omega
    obtain⟨f,hf⟩:∃f,f=nmR (edges (onW (g.Wires.take i) (s.Wires.take i))) (nmT E t):=⟨_,rfl⟩;rw[←hf];have hnl:=nmS_len n f;have ga:=nmS_get (f:=f) han;have gbb:=nmS_get (f:=f) hbn;have hst:((nmS n f).set a ((min (f a) (f b):Nat):Int)).set b ((min (f a) (f b):Nat):Int)=nmS n (nmE f (a,b)):=by
     rw[nmS_set,nmS_set];refine nmS_congr fun j hj=>?_;unfold nmE;simp only
     by_cases h1:j=b
     ·rw[if_pos h1,if_pos (Or.inr h1)]
     ·rw[if_neg h1]
      by_cases h2:j=a
      ·rw[if_pos h2,if_pos (Or.inl h2)]
      ·rw[if_neg h2,if_neg (by omega)]
    have hmn:(if f b<f a then((f b:Nat):Int)else((f a:Nat):Int))=((min (f a) (f b):Nat):Int):=by split<;>omega
    have hab:a≠b:=by have:=hwr w (List.mem_of_getElem? hw);simp only[wrB,Bool.and_eq_true,Bool.not_eq_true',decide_eq_false_iff_not]at this;omega
    have his:i<s.Wires.length:=by omega
    have hgs:s.Wires[i]=bAt s.Wires i:=Option.some.inj (by rw[←List.getElem?_eq_getElem his];exact gb);obtain⟨R,hR⟩:∃R,R=nmS n f:=⟨_,rfl⟩;rw[←hR]at hnl ga gbb hst ⊢;have hal:a<R.length:=by omega
    have hbl:b<R.length:=by omega
    have hga:R[a]=((f a:Nat):Int):=Option.some.inj (by rw[←List.getElem?_eq_getElem hal];exact ga);have hgb:R[b]=((f b:Nat):Int):=Option.some.inj (by rw[←List.getElem?_eq_getElem hbl];exact gbb);refine awp_skip ?_;simp only[zT,reduceIte,Nat.reduceEqDiff];refine hK7 _ _ ?_;refine awp_prune [2,3,5,7,8] ?_;simp only[zP,Nat.reduceEqDiff,reduceIte];refine awp_seq_k fun K8 hK8=>?_;refine awp_block ?_;refine aS fun K hK=>?_;simp -dsimp [hw];apply hK;clear hK K;refine aS fun K hK=>?_;simp -dsimp [hgs,his];apply hK;clear hK K;refine awp_cond rfl (fun hc3=>?_) (fun hc3=>?_)
    ·refine awp_sd mixed rfl fun K hK=>?_;simp -dsimp [hae,hbe,hal,hbl,han,hbn,hga,hgb,hmn];refine hK _ _ _ (by decide+kernel) ?_;clear hK K;refine awp_draw mixed rfl fun K hK=>?_;simp -dsimp [hae,hbe,hal,hbl,han,hbn,hab,hgb];refine hK _ _ _ (by decide+kernel) ?_;clear hK K;simp only[zT,reduceIte,Nat.reduceEqDiff];refine hK8 _ _ ?_;refine awp_prune [2,3,5,7,8] ?_;simp only[zP,Nat.reduceEqDiff,reduceIte];refine aR fun K hK=>?_;simp -dsimp [wi];apply hK;clear hK K;simp only[zT,reduceIte,Nat.reduceEqDiff];have hon:edges (onW (g.Wires.take (i+1)) (s.Wires.take (i+1)))=edges (onW (g.Wires.take i) (s.Wires.take i))++[(a,b)]:=by rw[hos,if_pos hc3];unfold edges;rw[List.map_append];simp[Wn.e,hae,hbe]
     refine⟨i+1,by omega,by omega,sub_rb [some 0,some 1,some 2] rfl (by simp) ?_⟩;rw[hon,nmR_snoc,←hf,←hst];simp[List.map_set,nCell,hn]
    ·refine awp_skip ?_;simp only[zT,reduceIte,Nat.reduceEqDiff];refine hK8 _ _ ?_;refine awp_prune [2,3,5,7,8] ?_;simp only[zP,Nat.reduceEqDiff,reduceIte];refine aR fun K hK=>?_;simp -dsimp [wi];apply hK;clear hK K;simp only[zT,reduceIte,Nat.reduceEqDiff];have hon:edges (onW (g.Wires.take (i+1)) (s.Wires.take (i+1)))=edges (onW (g.Wires.take i) (s.Wires.take i)):=by rw[hos,if_neg (by simp[hc3]),List.append_nil]
     refine⟨i+1,by omega,by omega,sub_rb [some 0,some 1,some 2] rfl (by simp) ?_⟩;rw[hon,←hf];simp[hn,hR]
   ·have hie:i=g.Wires.length:=by have hx:¬i<g.Wires.length:=(by simpa using hc2);omega
    have e1:nmR (edges (onW (g.Wires.take i) (s.Wires.take i))) (nmT E t)=nmT E (t+1):=by rw[hie,List.take_of_length_le (Nat.le_refl _),List.take_of_length_le (by omega),←hEe];rfl
    rw[e1];refine awp_exit ?_;simp only[zT,reduceIte,Nat.reduceEqDiff];refine hK6 _ _ ?_;refine awp_prune [2,3,5,7] ?_;simp only[zP,Nat.reduceEqDiff,reduceIte];refine aR fun K hK=>?_;simp -dsimp [wt];apply hK;clear hK K;simp only[zT,reduceIte,Nat.reduceEqDiff];exact⟨t+1,by omega,by omega,sub_rb [some 0,some 1,some 2] rfl (by simp) (by simp[hn])⟩
  ·have hte:t=n:=by have hx:¬t<n:=(by simpa using hc1);omega
   rw[hte,show nmT E n=nm E n from rfl];refine awp_exit ?_;simp only[zT,reduceIte,Nat.reduceEqDiff];refine hK4 _ _ ?_;refine awp_prune [2,5] ?_;simp only[zP,Nat.reduceEqDiff,reduceIte];refine aS fun K hK=>?_;simp -dsimp;apply hK;clear hK K;refine awp_seq_k fun K9 hK9=>?_;refine aS fun K hK=>?_;simp -dsimp;apply hK;clear hK K;refine awp_block ?_;refine awp_prune [2,5,11,12] ?_;simp only[zP,Nat.reduceEqDiff,reduceIte];refine awp_loop_l [2,5] (α:=Nat) (fun i=>[(11, .row 3 0 (hdL E n i).length),(12,I i)]) (fun i=>[some (.els 4 [g.cells]),some (.els 2 [s.cells]),some (.els 1 ((nmS n (nm E n)).map nCell)),some (.els 1 ((hdL E n i).map pAV))]) (fun i=>i≤n) (fun i=>n-i) 0 ?_ ?_ ?_
   ·exact Nat.zero_le _
   ·exact(sub_nil 11 1 (by simp)).trans (sub_rb [some 0,some 1,some 2,some 3] rfl (by simp[hdL]) (by simp[hdL,hn]))
   rintro i i1;simp only[zP,Nat.reduceEqDiff,reduceIte];refine awp_seq_k fun K10 hK10=>?_;refine aS fun K hK=>?_;simp -dsimp [hn];apply hK;clear hK K;refine awp_cond rfl (fun hc4=>?_) (fun hc4=>?_)
   ·have hil:i<n:=by simpa using hc4
    have wi:=zW i (by omega);have gi:=nmS_get (f:=nm E n) hil;have hnl:=nmS_len n (nm E n);have hhs:=hdL_succ E n i;have hhl:=hdL_len E n i;have f1:Fits ((hdL E n i).length+1) 25:=fits_of (by omega) (by omega);have hil2:i<(nmS n (nm E n)).length:=by omega
    have hgi:(nmS n (nm E n))[i]=((nm E n i:Nat):Int):=Option.some.inj (by rw[←List.getElem?_eq_getElem hil2];exact gi);refine awp_skip ?_;simp only[zT,reduceIte,Nat.reduceEqDiff];refine hK10 _ _ ?_;refine awp_prune [2,5,11,12] ?_;simp only[zP,Nat.reduceEqDiff,reduceIte];refine awp_seq_k fun K11 hK11=>?_;refine awp_block ?_;refine awp_seq_k fun K12 hK12=>?_;refine aS fun K hK=>?_;simp -dsimp [hil2,hil,hgi];apply hK;clear hK K;refine awp_cond rfl (fun hc5=>?_) (fun hc5=>?_)
    ·have hne:¬nm E n i=i:=by intro h;simp[h]at hc5
     rw[if_neg hne,List.append_nil]at hhs;refine awp_exit ?_;simp only[zT,reduceIte,Nat.reduceEqDiff];refine hK11 _ _ ?_;refine awp_prune [2,5,11,12] ?_;simp only[zP,Nat.reduceEqDiff,reduceIte];refine aR fun K hK=>?_;simp -dsimp [wi];apply hK;clear hK K;simp only[zT,reduceIte,Nat.reduceEqDiff];exact⟨i+1,by omega,by omega,sub_rb [some 0,some 1,some 2,some 3] rfl (by simp[hhs]) (by simp[hhs,hn])⟩
    ·have heq:nm E n i=i:=by have h:=hc5;simp at h;omega
     rw[if_pos heq]at hhs;refine awp_skip ?_;simp only[zT,reduceIte,Nat.reduceEqDiff];refine hK12 _ _ ?_;refine awp_prune [2,5,11,12] ?_;simp only[zP,Nat.reduceEqDiff,reduceIte];refine aS fun K hK=>?_;simp -dsimp;apply hK;clear hK K;refine awp_seq_k fun K13 hK13=>?_;refine aS fun K hK=>?_;simp -dsimp;apply hK;clear hK K;refine awp_block ?_;refine awp_prune [2,5,11,12,13,14] ?_;simp only[zP,Nat.reduceEqDiff,reduceIte];refine awp_loop_l [2,5,11,12] (α:=Nat) (fun k=>[(13, .row 4 0 (ptL E n i k).length),(14,I k)]) (fun k=>[some (.els 4 [g.cells]),some (.els 2 [s.cells]),some (.els 1 ((nmS n (nm E n)).map nCell)),some (.els 1 ((hdL E n i).map pAV)),some (.els 1 ((upN (ptL E n i k)).map nCell))]) (fun k=>k≤n) (fun k=>n-k) i ?_ ?_ ?_
     ·exact i1
     ·exact(sub_nil 13 1 (by simp)).trans (sub_rb [some 0,some 1,some 2,some 3,some 4] rfl (by simp[ptL_zero]) (by simp[ptL_zero,upN,hn]))
     rintro k k1;simp only[zP,Nat.reduceEqDiff,reduceIte];refine awp_seq_k fun K14 hK14=>?_;refine aS fun K hK=>?_;simp -dsimp [hn];apply hK;clear hK K;refine awp_cond rfl (fun hc6=>?_) (fun hc6=>?_)
     ·have hkl:k<n:=by simpa using hc6
      have wk:=zW k (by omega);have gk:=nmS_get (f:=nm E n) hkl;have hps:=ptL_succ E n i k;have hpl2:=ptL_len E n i k;have hul:=upN_len (ptL E n i k);have f2:Fits ((ptL E n i k).length+1) 9:=fits_of (by omega) (by omega);have hkl2:k<(nmS n (nm E n)).length:=by omega
      have hgk:(nmS n (nm E n))[k]=((nm E n k:Nat):Int):=Option.some.inj (by rw[←List.getElem?_eq_getElem hkl2];exact gk);refine awp_skip ?_;simp only[zT,reduceIte,Nat.reduceEqDiff];refine hK14 _ _ ?_;refine awp_prune [2,5,11,12,13,14] ?_;simp only[zP,Nat.reduceEqDiff,reduceIte];refine awp_seq_k fun K15 hK15=>?_;refine awp_block ?_;refine aS fun K hK=>?_;simp -dsimp [hkl2,hkl,hgk];apply hK;clear hK K;refine awp_cond rfl (fun hc7=>?_) (fun hc7=>?_)
      ·have hnk:nm E n k=i:=by have h:=hc7;simp at h;omega
       rw[if_pos hnk]at hps;refine aR fun K hK=>?_;simp -dsimp [f2,hul];apply hK;clear hK K;simp only[zT,reduceIte,Nat.reduceEqDiff];refine hK15 _ _ ?_;refine awp_prune [2,5,11,12,13,14] ?_;simp only[zP,Nat.reduceEqDiff,reduceIte];refine aR fun K hK=>?_;simp -dsimp [wk];apply hK;clear hK K;simp only[zT,reduceIte,Nat.reduceEqDiff];exact⟨k+1,by omega,by omega,sub_rb [some 0,some 1,some 2,some 3,some 5] rfl (by simp[hps]) (by simp[hps,upN,hn])⟩
      ·have hnk:¬nm E n k=i:=by intro h;simp[h]at hc7
       rw[if_neg hnk,List.append_nil]at hps;refine awp_skip ?_;simp only[zT,reduceIte,Nat.reduceEqDiff];refine hK15 _ _ ?_;refine awp_prune [2,5,11,12,13,14] ?_;simp only[zP,Nat.reduceEqDiff,reduceIte];refine aR fun K hK=>?_;simp -dsimp [wk];apply hK;clear hK K;simp only[zT,reduceIte,Nat.reduceEqDiff];exact⟨k+1,by omega,by omega,sub_rb [some 0,some 1,some 2,some 3,some 4] rfl (by simp[hps]) (by simp[hps,hn])⟩
     ·have hke:k=n:=by have hx:¬k<n:=(by simpa using hc6);omega
      have hcp:ptL E n i k=cp E n i:=by rw[hke];rfl
      rw[hcp];have hul:=upN_len (cp E n i);have htk:List.take (cp E n i).length ((upN (cp E n i)).map nCell)=(upN (cp E n i)).map nCell:=List.take_of_length_le (by rw[List.length_map];omega);refine awp_weak (sub_rf (T':=[(2, .ptr 0 0 0),(5, .row 2 0 n),(11, .row 3 0 (hdL E n i).length),(12,I i),(13,iL (upN (cp E n i)))]) (H':=[some (.els 4 [g.cells]),some (.els 2 [s.cells]),some (.els 1 ((nmS n (nm E n)).map nCell)),some (.els 1 ((hdL E n i).map pAV))]) [some 0,some 1,some 2,some 3] rfl ⟨.inr (by simp), .inr (by simp), .inr (by simp), .inr (by simp), .inr (by simp[htk,hul]),trivial⟩ (by simp[pAV,hn])) ?_;refine awp_exit ?_;simp only[zT,reduceIte,Nat.reduceEqDiff];refine hK13 _ _ ?_;refine awp_prune [2,5,11,12,13] ?_;simp only[zP,Nat.reduceEqDiff,reduceIte];refine aR fun K hK=>?_;simp -dsimp [f1];apply hK;clear hK K;simp only[zT,reduceIte,Nat.reduceEqDiff];refine hK11 _ _ ?_;refine awp_prune [2,5,11,12] ?_;simp only[zP,Nat.reduceEqDiff,reduceIte];refine aR fun K hK=>?_;simp -dsimp [wi];apply hK;clear hK K;simp only[zT,reduceIte,Nat.reduceEqDiff];exact⟨i+1,by omega,by omega,sub_rb [some 0,some 1,some 2,some 4] rfl (by simp[hhs]) (by simp[hhs,pAV,hn])⟩
   ·have hie:i=n:=by have hx:¬i<n:=(by simpa using hc4);omega
    rw[hie];refine awp_exit ?_;simp only[zT,reduceIte,Nat.reduceEqDiff];refine hK9 _ _ ?_;refine awp_prune [11] ?_;simp only[zP,Nat.reduceEqDiff,reduceIte];refine aS fun K hK=>?_;simp -dsimp;apply hK;clear hK K;exact awp_ret (by simp[pAV])
end Go.Cur
end
section
namespace Go.Cur
open Go.AM Go.Proofs
theorem m_rSolution (m:List (List Int)) (b:List Int) (n:Nat) (hq:Sq m n) (h1:1≤n) (hn:n≤10) (hb:b.length=n):MutCall Try.prog 76 [mL m,iL b] [] [] (.tup [.row 0 0 n,I (wr (detL m))]) [] [some (.els 1 ((solL m b).map nCell))]:=by
 have hml:=hq.len;have hdet:=c_rDet m n hq h1 hn;refine MutCall.of_bodyG [] Try.func76 rfl (by decide) (by simp[Try.ntmps76]) rfl rfl ?_;intro J hJ;simp only[Try.ntmps76,Try.results76];refine gS fun K hK=>?_;simp -dsimp;apply hK;clear hK K;refine gS fun K hK=>?_;simp -dsimp;apply hK;clear hK K;refine gwp_seq_k fun K1 hK1=>?_;refine gS fun K hK=>?_;simp -dsimp;apply hK;clear hK K;refine gwp_block ?_;refine gwp_prune [0,1,6,7] (Or.inr (by simp)) ?_;simp only[zP,Nat.reduceEqDiff,reduceIte];refine gwp_loop_l [0,1] (α:=Nat) (fun k=>[(6, .row 0 0 k),(7,I k)]) (fun k=>[some (.els 1 (((solL m b).take k).map nCell))]) (fun k=>k≤n) (fun k=>n-k) 0 ?_ ?_ ?_
 ·exact Nat.zero_le _
 ·exact gsub ((sub_nil 6 1 (by simp)).trans (sub_same (by simp))) (by simp)
 rintro k k1;simp only[zP,Nat.reduceEqDiff,reduceIte];refine gwp_seq_k fun K2 hK2=>?_;refine gS fun K hK=>?_;simp -dsimp;apply hK;clear hK K;refine gwp_cond rfl (fun hc0=>?_) (fun hc0=>?_)
 ·have hkn:k<n:=by rw[←hml];simpa using hc0
  have wk:=zW k (by omega);have gsk:(solL m b)[k]?=some (wr (detL (repl m b k))):=by
   unfold solL;rw[List.getElem?_map,List.getElem?_range (by omega)];rfl
  have hsl:min k (solL m b).length=k:=by simp only[solL,List.length_map,List.length_range];omega
  have hdk:=c_rDet (repl m b k) n (repl_sq hq) h1 hn;have hrl:=repl_len (m:=m) (b:=b) (k:=k);have hrg:=fun i (hi:i<n)=>repl_get (m:=m) (b:=b) (k:=k) (i:=i) (by omega);generalize repl m b k=M at gsk hdk hrl hrg;refine gwp_skip ?_;simp only[zT,reduceIte,Nat.reduceEqDiff];refine hK2 _ _ ?_;refine gwp_prune [0,1,6,7] (Or.inr (by simp)) ?_;simp only[zP,Nat.reduceEqDiff,reduceIte];refine gwp_seq_k fun K3 hK3=>?_;refine gwp_block ?_;refine gS fun K hK=>?_;simp -dsimp;apply hK;clear hK K;refine gwp_seq_k fun K4 hK4=>?_;refine gS fun K hK=>?_;simp -dsimp;apply hK;clear hK K;refine gwp_block ?_;refine gwp_prune [0,1,6,7,8,9] (Or.inr (by simp)) ?_;simp only[zP,Nat.reduceEqDiff,reduceIte];refine gwp_loop_l [0,1,6,7] (α:=Nat) (fun i=>[(8, .row 1 0 i),(9,I i)]) (fun i=>[some (.els 1 (((solL m b).take k).map nCell)),some (.els 1 ((M.take i).map rCell))]) (fun i=>i≤n) (fun i=>n-i) 0 ?_ ?_ ?_
  ·exact Nat.zero_le _
  ·exact gsub ((sub_nil 8 1 (by simp)).trans (sub_rb [some 0,some 1] rfl (by simp) (by simp))) (by simp)
  rintro i i1;simp only[zP,Nat.reduceEqDiff,reduceIte];refine gwp_seq_k fun K5 hK5=>?_;refine gS fun K hK=>?_;simp -dsimp;apply hK;clear hK K;refine gwp_cond rfl (fun hc1=>?_) (fun hc1=>?_)
  ·have hin:i<n:=by rw[←hml];simpa using hc1
   have wi:=zW i (by omega);obtain⟨gr,hrn⟩:=hq.row hin;have gb:=at0_nat (l:=b) (k:=i) (by omega);have hgi:=hrg i hin;have hMt:M.take (i+1)=M.take i++[(rowAt m i).set k (at0 b i)]:=by rw[List.take_add_one,hgi];rfl
   have hmin:min i M.length=i:=by omega
   have hne:rowAt m i≠[]:=by intro e;rw[e]at hrn;simp at hrn;omega
   generalize rowAt m i=r at gr hrn hMt hgi hne;have f1:Fits (i+1) 25:=fits_of (by omega) (by omega);have f0:Fits n 9:=fits_of (by omega) (by omega);have hn0:0<n:=h1;have hnz:¬n=0:=by omega
   have htr:List.take n ((r.map nCell).set k [I (at0 b (i:Int))])=(r.map nCell).set k [I (at0 b (i:Int))]:=List.take_of_length_le (by simp;omega);refine gwp_skip ?_;simp only[zT,reduceIte,Nat.reduceEqDiff];refine hK5 _ _ ?_;refine gwp_prune [0,1,6,7,8,9] (Or.inr (by simp)) ?_;simp only[zP,Nat.reduceEqDiff,reduceIte];refine gwp_seq_k fun K6 hK6=>?_;refine gwp_block ?_;refine gS fun K hK=>?_;simp -dsimp [gr,hrn,f0,hne,hn0,hnz];apply hK;clear hK K;refine gS fun K hK=>?_;simp -dsimp [gb,hrn,hkn];apply hK;clear hK K;refine gwp_flag (by decide) ?_;refine gR fun K hK=>?_;simp -dsimp [f1,hmin];apply hK;clear hK K;simp only[zT,reduceIte,Nat.reduceEqDiff];refine hK6 _ _ ?_;refine gwp_prune [0,1,6,7,8,9] (Or.inr (by simp)) ?_;simp only[zP,Nat.reduceEqDiff,reduceIte];refine gR fun K hK=>?_;simp -dsimp [wi];apply hK;clear hK K;simp only[zT,reduceIte,Nat.reduceEqDiff];exact⟨i+1,by omega,by omega,gsub (sub_rf [some 0,some 4] rfl (by simp[hmin,hrn]) (by simp[hmin,hrn,List.take_add_one,hgi,List.map_set,htr])) (by simp)⟩
  ·have hil:¬i<m.length:=by simpa using hc1
   have hin:i=n:=by omega
   have htk:List.take i (M.map rCell)=M.map rCell:=List.take_of_length_le (by simp;omega);have hmin:min i M.length=i:=by omega
   have hle:i≤M.length:=by omega
   have f2:Fits (k+1) 9:=fits_of (by omega) (by omega);refine gwp_exit ?_;simp only[zT,reduceIte,Nat.reduceEqDiff];refine hK4 _ _ ?_;refine gwp_prune [0,1,6,7,8] (Or.inr (by simp)) ?_;simp only[zP,Nat.reduceEqDiff,reduceIte];refine gR fun K hK=>?_;simp -dsimp [hmin,hle,htk,hsl,f2];refine callK_intro _ (hdk) (by simp) ?_;simp -dsimp [hmin,hle,htk,hsl,f2];apply hK;clear hK K;simp only[zT,reduceIte,Nat.reduceEqDiff];refine hK3 _ _ ?_;refine gwp_prune [0,1,6,7] (Or.inr (by simp)) ?_;simp only[zP,Nat.reduceEqDiff,reduceIte];refine gR fun K hK=>?_;simp -dsimp [wk];apply hK;clear hK K;simp only[zT,reduceIte,Nat.reduceEqDiff];exact⟨k+1,by omega,by omega,gsub (sub_rb [some 2] rfl (by simp[hsl]) (by simp[hsl,List.take_add_one,gsk])) (by simp)⟩
 ·have hkl:¬k<m.length:=by simpa using hc0
  have hkn:k=n:=by omega
  refine gwp_exit ?_;simp only[zT,reduceIte,Nat.reduceEqDiff];refine hK1 _ _ ?_;refine gwp_prune [0,6] (Or.inr (by simp)) ?_;simp only[zP,Nat.reduceEqDiff,reduceIte];refine gS fun K hK=>?_;simp -dsimp;refine callK_intro _ (hdet) (by simp) ?_;simp -dsimp;apply hK;clear hK K;have hsn:k=(solL m b).length:=by simp[solL];omega
  have htk:List.take k ((solL m b).map nCell)=(solL m b).map nCell:=List.take_of_length_le (by simp;omega);exact gwp_ret ⟨[some 0],rfl,by simp,by simp[htk],by simp,by simp[resP,tupOf,hkn]⟩
theorem first_idx {p:List Nat} {a:Nat}:firstI (upN p) (fun y=>decide ((a:Int)=y))=if a∈p then((p.idxOf a:Nat):Int)else-1:=by
 by_cases h:a∈p
 ·rw[if_pos h,firstI_idx (by omega) (by rw[Int.toNat_natCast];exact h),Int.toNat_natCast]
 ·rw[if_neg h];refine firstI_none (List.any_eq_false.2 fun y hy=>?_);rw[upN_mem]at hy;rw[decide_eq_true_eq];rintro rfl;rw[Int.toNat_natCast]at hy;exact h hy.2
def outz (c k n:Nat):List (List AV):=outs c k n++List.replicate (n-k) [.v (.slice none 0 0)]
theorem outz_all {c n:Nat}:outz c n n=outs c n n:=by unfold outz;simp
theorem outz_zero {c n:Nat}:outz c 0 n=List.replicate n [.v (.slice none 0 0)]:=by unfold outz;simp[outs]
theorem outz_set {c k n:Nat} (h:k<n):(outz c k n).set k [.row (k+c) 0 n]=outz c (k+1) n:=by
 unfold outz;rw[List.set_append_right _ _ (by simp),outs_succ,show n-k=(n-(k+1))+1 by omega,List.replicate_succ];simp
theorem outz_get {c k n:Nat} (h:k<n):(outz c k n)[k]?=some [.v (.slice none 0 0)]:=by
 unfold outz;rw[List.getElem?_append_right (by simp),List.getElem?_replicate,if_pos (by simp;omega)]
theorem ren_outz {g:List (Option Nat)} {c c' m n:Nat} (hg:∀i,i<m→newName g (i+c)=some (i+c')):((outz c m n).map fun e=>e.map (renAV g 3))=outz c' m n:=by
 unfold outz;rw[List.map_append,ren_outs hg];simp
theorem m_rMatrix (g:Gr) (s:Sta) (p:List Nat) (n:Nat) (hpn:p.length=n) (h1:1≤n) (h10:n≤10) (hnd:p.Nodup)
  (hsw:s.Wires.length=g.Wires.length) (hwl:g.Wires.length≤80) (hw:∀w∈g.Wires,wrB g w=true) (hcl:∀w∈onW g.Wires s.Wires,w.a∈p↔w.b∈p):
  MutCall Try.prog 75 [g.av,s.av,iL (upN p)] [] [] (.row 0 0 n) [] ([some (.els 1 (outs 1 n n))]++mrows (Lf (onW g.Wires s.Wires) p) n n):=by
 have hpl:=upN_len p;have ff:Fits n 25:=fits_of (by omega) (by omega);have f9:Fits n 9:=fits_of (by omega) (by omega);refine MutCall.of_bodyG [] Try.func75 rfl (by decide) (by simp[Try.ntmps75]) rfl rfl ?_;intro J hJ;simp only[Try.ntmps75,Try.results75];refine gS fun K hK=>?_;simp -dsimp;apply hK;clear hK K;refine gS fun K hK=>?_;simp -dsimp [hpl,hpn,ff];apply hK;clear hK K;refine gwp_seq_k fun K1 hK1=>?_;refine gS fun K hK=>?_;simp -dsimp;apply hK;clear hK K;refine gwp_block ?_;refine gwp_prune [2,3,4,7,8] (Or.inr (by simp)) ?_;simp only[zP,Nat.reduceEqDiff,reduceIte];refine gwp_loop_l [2,3,4,7] (α:=Nat) (fun k=>[(8,I k)]) (fun k=>[some (.els 4 [g.cells]),some (.els 2 [s.cells]),some (.els 1 (outz 3 k n))]++mrows (fun _ _=>0) k n) (fun k=>k≤n) (fun k=>n-k) 0 ?_ ?_ ?_
 ·exact Nat.zero_le _
 ·exact gsub (sub_rb [some 0,some 1,some 2] rfl (by simp) (by simp[outz_zero,mrows])) (by simp)
 rintro k k1;simp only[zP,Nat.reduceEqDiff,reduceIte];refine gwp_seq_k fun K2 hK2=>?_;refine gS fun K hK=>?_;simp -dsimp [hpl,hpn];apply hK;clear hK K;refine gwp_cond rfl (fun hc0=>?_) (fun hc0=>?_)
 ·have hkn:k<n:=by simpa [hpl,hpn]using hc0
  have wk:=zW k (by omega);have go:=outz_get (c:=3) hkn;have gs:=outz_set (c:=3) hkn;refine gwp_skip ?_;simp only[zT,reduceIte,Nat.reduceEqDiff];refine hK2 _ _ ?_;refine gwp_prune [2,3,4,7,8] (Or.inr (by simp)) ?_;simp only[zP,Nat.reduceEqDiff,reduceIte];refine gwp_seq_k fun K3 hK3=>?_;refine gwp_block ?_;refine gR fun K hK=>?_;simp -dsimp [hpl,hpn,f9,hkn,go,gs,Nat.add_assoc];apply hK;clear hK K;simp only[zT,reduceIte,Nat.reduceEqDiff];refine hK3 _ _ ?_;refine gwp_prune [2,3,4,7,8] (Or.inr (by simp)) ?_;simp only[zP,Nat.reduceEqDiff,reduceIte];refine gR fun K hK=>?_;simp -dsimp [wk];apply hK;clear hK K;simp only[zT,reduceIte,Nat.reduceEqDiff];have hM:∀i,i<k+1→hget (mrows (fun _ _=>0) k n++[some (.els 1 (List.replicate n [I 0]))]) i=mrow (fun _ _=>0) n i:=fun i hi=>by
   rcases Nat.lt_succ_iff_lt_or_eq.1 hi with h|h
   ·exact hget_mrows h
   ·subst h;rw[hget_mtail0];exact mrow0 _ _
  have hro:=ren_outz (g:=some 0::some 1::some 2::(List.range (k+1)).map fun i=>some (i+3)) (c:=3) (c':=3) (m:=k+1) (n:=n) (fun i hi=>newName_cat (gf:=[some 0,some 1,some 2]) hi (by simp));refine⟨k+1,by omega,by omega,gsub (sub_cat (F':=[some (.els 4 [g.cells]),some (.els 2 [s.cells]),some (.els 1 (outz 3 (k+1) n))]) [some 0,some 1,some 2] (fun _ _=>0) (k+1) n 3 (by simp[nodupB]) (fun i hi=>by simp) hM (by simp) ?_) (by simp)⟩;simp[hro]
 ·have hkn:k=n:=by have hx:¬k<n:=(by simpa [hpl,hpn]using hc0);omega
  subst hkn;rw[outz_all];refine gwp_exit ?_;simp only[zT,reduceIte,Nat.reduceEqDiff];refine hK1 _ _ ?_;refine gwp_prune [2,3,4,7] (Or.inr (by simp)) ?_;simp only[zP,Nat.reduceEqDiff,reduceIte];refine gwp_seq_k fun K4 hK4=>?_;refine gS fun K hK=>?_;simp -dsimp;apply hK;clear hK K;refine gwp_block ?_;refine gwp_prune [2,3,4,7,9] (Or.inr (by simp)) ?_;simp only[zP,Nat.reduceEqDiff,reduceIte];refine gwp_loop_l [2,3,4,7] (α:=Nat) (fun q=>[(9,I q)]) (fun q=>[some (.els 4 [g.cells]),some (.els 2 [s.cells]),some (.els 1 (outs 3 k k))]++mrows (Lf (onW (g.Wires.take q) (s.Wires.take q)) p) k k) (fun q=>q≤g.Wires.length) (fun q=>g.Wires.length-q) 0 ?_ ?_ ?_
  ·exact Nat.zero_le _
  ·have hm0:mrows (Lf (onW (g.Wires.take 0) (s.Wires.take 0)) p) k k=mrows (fun _ _=>0) k k:=mrows_congr fun i _ j _=>rfl;rw[hm0];exact gsub (sub_same (by simp)) (by simp)
  rintro q q1;simp only[zP,Nat.reduceEqDiff,reduceIte];refine gwp_seq_k fun K5 hK5=>?_;refine gS fun K hK=>?_;simp -dsimp;apply hK;clear hK K;refine gwp_cond rfl (fun hc1=>?_) (fun hc1=>?_)
  ·have hql:q<g.Wires.length:=by simpa using hc1
   obtain⟨w,hq⟩:∃w,g.Wires[q]?=some w:=⟨_,List.getElem?_eq_getElem hql⟩;have wq:=zW q (by omega);have hwb:=hw w (List.mem_of_getElem? hq);simp only[wrB,Bool.and_eq_true,inr_iff,Bool.not_eq_true',decide_eq_false_iff_not]at hwb;obtain⟨⟨⟨hwA,hwB⟩,hAB⟩,hwS⟩:=hwb;have gsw:=bAt_get (l:=s.Wires) (k:=q) (by omega);have hsn:=onW_snoc hq gsw;obtain⟨a,ha⟩:∃a:Nat,w.A=a:=⟨w.A.toNat,by omega⟩;obtain⟨b,hb⟩:∃b:Nat,w.B=b:=⟨w.B.toNat,by omega⟩;have hab:a≠b:=by omega
   obtain⟨wA,wB,wS,wSw⟩:=w;simp only at ha hb hwS hsn;subst ha hb;simp only[Int.toNat_natCast]at hsn;have hfb:∀i j,(Lf (onW (g.Wires.take q) (s.Wires.take q)) p i j).natAbs≤320:=fun i j=>by
    refine Nat.le_trans (lw_abs fun x hx=>?_) ?_
    ·obtain⟨w',hw',e⟩:=onW_mem (onW_take hx);have:=hw w' hw';simp only[wrB,Bool.and_eq_true,inr_iff]at this;rw[e];simp only;omega
    ·have:=onW_len (g.Wires.take q) (s.Wires.take q);rw[List.length_take]at this;omega
   have hiA:=c_rIndex (upN p) a (by omega);have hiB:=c_rIndex (upN p) b (by omega);rw[first_idx]at hiA hiB;refine gwp_skip ?_;simp only[zT,reduceIte,Nat.reduceEqDiff];refine hK5 _ _ ?_;refine gwp_prune [2,3,4,7,9] (Or.inr (by simp)) ?_;simp only[zP,Nat.reduceEqDiff,reduceIte];refine gwp_seq_k fun K6 hK6=>?_;refine gwp_block ?_;refine gS fun K hK=>?_;simp -dsimp [hq];apply hK;clear hK K;refine gwp_sd mixed rfl (by decide) rfl rfl fun K hK=>?_;simp -dsimp [Nat.add_assoc];refine callK_intro _ (hiA) (by simp) ?_;simp -dsimp [Nat.add_assoc];refine callK_intro _ (hiB) (by simp) ?_;simp -dsimp [Nat.add_assoc];refine hK _ _ _ (by exact draw_pairs [(0,1),(0,2),(0,4),(1,4),(2,4),(3,4),(0,5),(1,5),(2,5),(3,5),(4,5),(0,6),(1,6),(2,6),(3,6),(4,6)] (by decide+kernel) (by decide+kernel) (by simp[confl]<;>omega)) ?_;clear hK K;refine gwp_seq_k fun K7 hK7=>?_;refine gS fun K hK=>?_;simp -dsimp [gsw];apply hK;clear hK K;refine gwp_cond rfl (fun hc2=>?_) (fun hc2=>?_)
   ·have hfe:mrows (Lf (onW (g.Wires.take (q+1)) (s.Wires.take (q+1))) p) k k=mrows (Lf (onW (g.Wires.take q) (s.Wires.take q)) p) k k:=by
     rw[hsn]
     cases hx:bAt s.Wires q with
     |false=>simp
     | true=>
      have hna:a∉p:=by
       intro hm;rw[hx,if_pos hm]at hc2;simp at hc2<;>omega
      refine mrows_congr fun i hi j hj=>?_;have hxi:p.getD i 0∈p:=by rw[List.getD_eq_getElem?_getD,List.getElem?_eq_getElem (by omega)];simp
      have hmem:(⟨a,b,wS⟩:Wn)∈onW g.Wires s.Wires:=onW_take (k:=q+1) (by rw[hsn,hx];simp);have hnb:b∉p:=fun h=>hna ((hcl _ hmem).2 h);have e0:ew ⟨a,b,wS⟩ (p.getD i 0)=0:=by
       have n1:p.getD i 0≠a:=fun e=>hna (by rw[←e];exact hxi);have n2:p.getD i 0≠b:=fun e=>hnb (by rw[←e];exact hxi);unfold ew;rw[if_neg n1,if_neg n2];rfl
      unfold Lf;rw[if_pos rfl,lw_append];show _+(wS*(ew ⟨a,b,wS⟩ (p.getD i 0)*ew ⟨a,b,wS⟩ (p.getD j 0))+0)=_;rw[e0,Int.zero_mul,Int.mul_zero];omega
    refine gwp_exit ?_;simp only[zT,reduceIte,Nat.reduceEqDiff];refine hK6 _ _ ?_;refine gwp_prune [2,3,4,7,9] (Or.inr (by simp)) ?_;simp only[zP,Nat.reduceEqDiff,reduceIte];refine gR fun K hK=>?_;simp -dsimp [wq];apply hK;clear hK K;simp only[zT,reduceIte,Nat.reduceEqDiff];refine⟨q+1,by omega,by omega,gsub (sub_cat (F':=[some (.els 4 [g.cells]),some (.els 2 [s.cells]),some (.els 1 (outs 3 k k))]) [some 0,some 1,some 2] (Lf (onW (g.Wires.take (q+1)) (s.Wires.take (q+1))) p) k k 3 (by simp[nodupB]) (fun i hi=>by simp) ?_ (by simp) ?_) (by simp)⟩
    ·intro i hi;show hget (mrows _ k k++_) i=_;rw[hget_mrows hi];rw[←hget_mrows' (m:=k) hi,←hget_mrows' (m:=k) hi,hfe]
    ·have hro:=ren_outs (g:=some 0::some 1::some 2::(List.range k).map fun i=>some (i+3)) (c:=3) (c':=3) (m:=k) (n:=k) (fun i hi=>newName_cat (gf:=[some 0,some 1,some 2]) hi (by simp));simp[hro]
   ·have hap:a∈p∧bAt s.Wires q=true:=by
     refine⟨Decidable.byContradiction fun h=>?_,Decidable.byContradiction fun h=>?_⟩
     ·rw[if_neg h]at hc2;simp at hc2
     ·have h':bAt s.Wires q=false:=by simpa using h
      rw[h']at hc2;simp at hc2
    have hmem:(⟨a,b,wS⟩:Wn)∈onW g.Wires s.Wires:=onW_take (k:=q+1) (by rw[hsn,hap.2];simp);have hbp:b∈p:=(hcl _ hmem).1 hap.1;rw[if_pos hap.1,if_pos hbp];obtain⟨ia,hia⟩:∃ia:Nat,ia=p.idxOf a:=⟨_,rfl⟩;obtain⟨ib,hib⟩:∃ib:Nat,ib=p.idxOf b:=⟨_,rfl⟩;rw[←hia,←hib];have hik:ia<k:=by rw[hia,←hpn];exact List.idxOf_lt_length_of_mem hap.1
    have hjk:ib<k:=by rw[hib,←hpn];exact List.idxOf_lt_length_of_mem hbp
    have gA:p[ia]?=some a:=by rw[hia];exact idxOf_get hap.1
    have gB:p[ib]?=some b:=by rw[hib];exact idxOf_get hbp
    have lia:ia≤k+1:=by omega
    have lib:ib≤k+1:=by omega
    have hij:ia≠ib:=by rintro rfl;rw[gA]at gB;simp only[Option.some.injEq]at gB;exact hab gB
    have hji:ib≠ia:=fun e=>hij e.symm;have hfe:∀i,i<k→∀j,j<k→Lf (onW (g.Wires.take (q+1)) (s.Wires.take (q+1))) p i j=upd2 (upd2 (upd2 (upd2 (Lf (onW (g.Wires.take q) (s.Wires.take q)) p) ia ia (Lf (onW (g.Wires.take q) (s.Wires.take q)) p ia ia+wS)) ib ib (Lf (onW (g.Wires.take q) (s.Wires.take q)) p ib ib+wS)) ia ib (Lf (onW (g.Wires.take q) (s.Wires.take q)) p ia ib-wS)) ib ia (Lf (onW (g.Wires.take q) (s.Wires.take q)) p ib ia-wS) i j:=by
     intro i hi j hj;have hE:∀i,i<k→ew ⟨a,b,wS⟩ (p.getD i 0)=(if i=ia then 1 else 0)-(if i=ib then 1 else 0):=by
      intro i hi;have hgi:p[i]?=some (p.getD i 0):=by rw[List.getD_eq_getElem?_getD,List.getElem?_eq_getElem (by omega)];rfl
      have q1:(p.getD i 0=a)↔i=ia:=by
       constructor
       ·intro e;rw[e]at hgi;exact(List.getElem?_inj (by omega) hnd).1 (hgi.trans gA.symm)
       ·rintro rfl;rw[gA]at hgi;simp only[Option.some.injEq]at hgi;exact hgi.symm
      have q2:(p.getD i 0=b)↔i=ib:=by
       constructor
       ·intro e;rw[e]at hgi;exact(List.getElem?_inj (by omega) hnd).1 (hgi.trans gB.symm)
       ·rintro rfl;rw[gB]at hgi;simp only[Option.some.injEq]at hgi;exact hgi.symm
      unfold ew;simp only[q1,q2]
     rw[hsn,hap.2];have hL:Lf (onW (g.Wires.take q) (s.Wires.take q)++[⟨a,b,wS⟩]) p i j=Lf (onW (g.Wires.take q) (s.Wires.take q)) p i j+wS*(((if i=ia then 1 else 0)-(if i=ib then 1 else 0))*((if j=ia then 1 else 0)-(if j=ib then 1 else 0))):=by
      unfold Lf;rw[lw_append,←hE i hi,←hE j hj];simp[lw]
     rw[if_pos rfl,hL];unfold upd2
     by_cases e1:i=ia
     ·subst e1
      by_cases e2:j=i
      ·subst e2;simp[hij,hji]
      ·by_cases e3:j=ib
       ·subst e3;simp[hij,hji,e2];omega
       ·simp[hij,hji,e2,e3]
     ·by_cases e2:i=ib
      ·subst e2
       by_cases e3:j=i
       ·subst e3;simp[hij,hji]
       ·by_cases e4:j=ia
        ·subst e4;simp[hij,hji,e3];omega
        ·simp[hij,hji,e3,e4]
      ·simp[e1,e2]
    generalize Lf (onW (g.Wires.take q) (s.Wires.take q)) p=f at hfe hfb ⊢;have w1:IntKind.i64.wrap (f ia ia+wS)=f ia ia+wS:=wrap_in (by have:=hfb ia ia;omega) (by have:=hfb ia ia;omega);have w2:IntKind.i64.wrap (f ib ib+wS)=f ib ib+wS:=wrap_in (by have:=hfb ib ib;omega) (by have:=hfb ib ib;omega);have w3:IntKind.i64.wrap (f ia ib-wS)=f ia ib-wS:=wrap_in (by have:=hfb ia ib;omega) (by have:=hfb ia ib;omega);have w4:IntKind.i64.wrap (f ib ia-wS)=f ib ia-wS:=wrap_in (by have:=hfb ib ia;omega) (by have:=hfb ib ia;omega);have e2:upd2 f ia ia (f ia ia+wS) ib ib=f ib ib:=by simp[upd2,hji]
    have e3:upd2 (upd2 f ia ia (f ia ia+wS)) ib ib (f ib ib+wS) ia ib=f ia ib:=by simp[upd2,hij,hji]
    have e4:upd2 (upd2 (upd2 f ia ia (f ia ia+wS)) ib ib (f ib ib+wS)) ia ib (f ia ib-wS) ib ia=f ib ia:=by simp[upd2,hij,hji]
    refine gwp_skip ?_;simp only[zT,reduceIte,Nat.reduceEqDiff];refine hK7 _ _ ?_;refine gwp_prune [2,3,4,7,9,10,11,12] (Or.inr (by simp)) ?_;simp only[zP,Nat.reduceEqDiff,reduceIte];refine gwp_sd mixed rfl (by decide) rfl rfl fun K hK=>?_;simp -dsimp [lia,lib,Nat.add_assoc,outs_get hik,hik,hget_mrows hik,mrow,mrow_get hik,hset_mrows hik,w1];refine hK _ _ _ (by exact draw_pairs [(0,1),(0,4),(1,4),(2,4),(3,4),(0,5),(1,5),(2,5),(3,5),(4,5),(0,6),(1,6),(2,6),(3,6),(4,6),(5,6),(0,7),(1,7),(2,7),(3,7),(4,7),(0,8),(1,8),(2,8),(3,8),(4,8),(0,9),(1,9),(2,9),(3,9),(4,9),(5,9),(6,9),(7,9),(8,9),(0,10),(1,10),(2,10),(3,10),(4,10),(0,11),(1,11),(2,11),(3,11),(4,11),(0,12),(1,12),(2,12),(3,12),(4,12),(5,12),(6,12),(7,12),(8,12),(9,12),(10,12),(11,12),(0,13),(1,13),(2,13),(3,13),(4,13),(5,13),(6,13),(7,13),(8,13),(9,13),(10,13),(11,13),(0,14),(1,14),(2,14),(3,14),(4,14)] (by decide+kernel) (by decide+kernel) (by simp[confl]<;>omega)) ?_;clear hK K;refine gwp_sd mixed rfl (by decide) rfl rfl fun K hK=>?_;simp -dsimp [lia,lib,Nat.add_assoc,outs_get hjk,hjk,hget_mrows hjk,mrow,mrow_get hjk,hset_mrows hjk,e2,w2];refine hK _ _ _ (by exact draw_pairs [(0,1),(0,4),(1,4),(2,4),(3,4),(0,5),(1,5),(2,5),(3,5),(4,5),(0,6),(1,6),(2,6),(3,6),(4,6),(5,6),(0,7),(1,7),(2,7),(3,7),(4,7),(0,8),(1,8),(2,8),(3,8),(4,8),(0,9),(1,9),(2,9),(3,9),(4,9),(5,9),(6,9),(7,9),(8,9),(0,10),(1,10),(2,10),(3,10),(4,10),(0,11),(1,11),(2,11),(3,11),(4,11),(0,12),(1,12),(2,12),(3,12),(4,12),(5,12),(6,12),(7,12),(8,12),(9,12),(10,12),(11,12),(0,13),(1,13),(2,13),(3,13),(4,13),(5,13),(6,13),(7,13),(8,13),(9,13),(10,13),(11,13),(0,14),(1,14),(2,14),(3,14),(4,14)] (by decide+kernel) (by decide+kernel) (by simp[confl]<;>omega)) ?_;clear hK K;refine gwp_sd mixed rfl (by decide) rfl rfl fun K hK=>?_;simp -dsimp [lia,lib,Nat.add_assoc,outs_get hik,hik,hget_mrows hik,mrow,hjk,mrow_get hjk,hset_mrows hik,e3,w3];refine hK _ _ _ (by exact draw_pairs [(0,1),(0,4),(1,4),(2,4),(3,4),(0,5),(1,5),(2,5),(3,5),(4,5),(0,6),(1,6),(2,6),(3,6),(4,6),(5,6),(0,7),(1,7),(2,7),(3,7),(4,7),(0,8),(1,8),(2,8),(3,8),(4,8),(0,9),(1,9),(2,9),(3,9),(4,9),(5,9),(6,9),(7,9),(8,9),(0,10),(1,10),(2,10),(3,10),(4,10),(0,11),(1,11),(2,11),(3,11),(4,11),(0,12),(1,12),(2,12),(3,12),(4,12),(5,12),(6,12),(7,12),(8,12),(9,12),(10,12),(11,12),(0,13),(1,13),(2,13),(3,13),(4,13),(5,13),(6,13),(7,13),(8,13),(9,13),(10,13),(11,13),(0,14),(1,14),(2,14),(3,14),(4,14)] (by decide+kernel) (by decide+kernel) (by simp[confl]<;>omega)) ?_;clear hK K;refine gwp_draw mixed rfl (by decide) rfl rfl fun K hK=>?_;simp -dsimp [lia,lib,Nat.add_assoc,outs_get hjk,hjk,hget_mrows hjk,mrow,hik,mrow_get hik,hset_mrows hjk,e4,w4];refine hK _ _ _ (by exact draw_pairs [(0,1),(0,4),(1,4),(2,4),(3,4),(0,5),(1,5),(2,5),(3,5),(4,5),(0,6),(1,6),(2,6),(3,6),(4,6),(5,6),(0,7),(1,7),(2,7),(3,7),(4,7),(0,8),(1,8),(2,8),(3,8),(4,8),(0,9),(1,9),(2,9),(3,9),(4,9),(5,9),(6,9),(7,9),(8,9),(0,10),(1,10),(2,10),(3,10),(4,10),(0,11),(1,11),(2,11),(3,11),(4,11),(0,12),(1,12),(2,12),(3,12),(4,12),(5,12),(6,12),(7,12),(8,12),(9,12),(10,12),(11,12),(0,13),(1,13),(2,13),(3,13),(4,13),(5,13),(6,13),(7,13),(8,13),(9,13),(10,13),(11,13),(0,14),(1,14),(2,14),(3,14),(4,14)] (by decide+kernel) (by decide+kernel) (by simp[confl]<;>omega)) ?_;clear hK K;simp only[zT,reduceIte,Nat.reduceEqDiff];refine hK6 _ _ ?_;refine gwp_prune [2,3,4,7,9] (Or.inr (by simp)) ?_;simp only[zP,Nat.reduceEqDiff,reduceIte];refine gR fun K hK=>?_;simp -dsimp [wq];apply hK;clear hK K;simp only[zT,reduceIte,Nat.reduceEqDiff];refine⟨q+1,by omega,by omega,gsub (sub_cat (F':=[some (.els 4 [g.cells]),some (.els 2 [s.cells]),some (.els 1 (outs 3 k k))]) [some 0,some 1,some 2] (Lf (onW (g.Wires.take (q+1)) (s.Wires.take (q+1))) p) k k 3 (by simp[nodupB]) (fun i hi=>by simp) ?_ (by simp) ?_) (by simp)⟩
    ·intro i hi;show hget (mrows _ k k++_) i=_;rw[hget_mrows hi];rw[←hget_mrows' (m:=k) hi,←hget_mrows' (m:=k) hi,mrows_congr hfe]
    ·have hro:=ren_outs (g:=some 0::some 1::some 2::(List.range k).map fun i=>some (i+3)) (c:=3) (c':=3) (m:=k) (n:=k) (fun i hi=>newName_cat (gf:=[some 0,some 1,some 2]) hi (by simp));simp[hro]
  ·have hqe:q=g.Wires.length:=by have hx:¬q<g.Wires.length:=(by simpa using hc1);omega
   have ht1:g.Wires.take q=g.Wires:=List.take_of_length_le (by omega);have ht2:s.Wires.take q=s.Wires:=List.take_of_length_le (by omega);rw[ht1,ht2];refine gwp_exit ?_;simp only[zT,reduceIte,Nat.reduceEqDiff];refine hK4 _ _ ?_;refine gwp_prune [7] (Or.inr (by simp)) ?_;simp only[zP,Nat.reduceEqDiff,reduceIte];refine gS fun K hK=>?_;simp -dsimp;apply hK;clear hK K;have hout:∀i,i<k→some (i+3)∉ [some 2]:=fun i hi=>by simp
   have hro:=ren_outs (g:=some 2::(List.range k).map fun i=>some (i+3)) (c:=3) (c':=1) (m:=k) (n:=k) (fun i hi=>newName_cat (gf:=[some 2]) hi (hout i hi));refine gwp_ret ⟨[some 2]++(List.range k).map fun i=>some (i+3),nodupB_cat' rfl hout,by simp,?_,by simp,by simp[resP,tupOf]⟩;refine renH_cat (F':=[some (.els 1 (outs 1 k k))]) [some 2] _ k k 3 (fun i hi=>?_) ?_
   ·show hget (mrows _ k k) i=_;exact hget_mrows' hi
   ·simp[hro]
end Go.Cur
end
section
namespace Go.Cur
open Go.AM Go.Proofs
theorem c_rFrac (n d:Int) (hd:0<d) (h1:-9223372036854775807≤n) (h2:n≤9223372036854775807) (h3:d≤9223372036854775807):PureCall Try.prog 52 [I n,I d] (red n d).av:=by
 have wn:IntKind.i64.wrap (-n)=-n:=wrap_in (by omega) (by omega);have hmx:(if n< -n then-n else n)=(n.natAbs:Int):=by split<;>omega
 obtain⟨hg,q1,q2⟩:=red_div hd h1 h2 h3;refine PureCall.of_body Try.func52 rfl (by decide) (by simp[Try.ntmps52]) ?_;simp only[Try.ntmps52,Try.results52];refine aS fun K hK=>?_;simp -dsimp;apply hK;clear hK K;refine aS fun K hK=>?_;simp -dsimp [wn,hmx];apply hK;clear hK K;refine awp_seq_k fun K1 hK1=>?_;refine awp_block ?_;refine awp_prune [0,1,4,5,6] ?_;simp only[zP,Nat.reduceEqDiff,reduceIte];refine awp_loop_l [0,1,4] (α:=Nat×Nat) (fun x=>[(5,I x.1),(6,I x.2)]) (fun _=>[some (.els 2 [[I 0,I 0]])]) (fun x=>Nat.gcd x.1 x.2=Int.gcd n d) (fun x=>x.2) (n.natAbs,d.toNat) ?_ ?_ ?_
 ·simp only[Int.gcd];congr 1;omega
 ·have hdn:((d.toNat:Nat):Int)=d:=Int.toNat_of_nonneg (by omega);exact sub_same (by simp[hdn])
 rintro⟨a,b⟩ i1;simp only at i1 ⊢;simp only[zP,Nat.reduceEqDiff,reduceIte];refine awp_seq_k fun K2 hK2=>?_;refine aS fun K hK=>?_;simp -dsimp;apply hK;clear hK K;refine awp_cond rfl (fun hc0=>?_) (fun hc0=>?_)
 ·skip
  try simp at hc0
  have hb0:¬b=0:=by omega
  have hm:(a:Int).tmod b=((a % b:Nat):Int):=by rw[Int.tmod_eq_emod_of_nonneg (by omega)];rfl
  refine awp_skip ?_;simp only[zT,reduceIte,Nat.reduceEqDiff];refine hK2 _ _ ?_;refine awp_prune [0,1,4,5,6] ?_;simp only[zP,Nat.reduceEqDiff,reduceIte];refine awp_block ?_;refine awp_draw mixed rfl fun K hK=>?_;simp -dsimp [hm,hb0];refine hK _ _ _ (by decide+kernel) ?_;clear hK K;simp only[zT,reduceIte,Nat.reduceEqDiff];exact⟨(b,a % b),by simp only;rw[gcd_step hb0];exact i1,Nat.mod_lt _ (by omega),sub_same (by simp)⟩
 ·skip
  try simp at hc0
  have hb0:b=0:=by omega
  subst hb0;rw[Nat.gcd_zero_right]at i1;subst i1;have hg0:¬Int.gcd n d=0:=by omega
  refine awp_exit ?_;simp only[zT,reduceIte,Nat.reduceEqDiff];refine hK1 _ _ ?_;refine awp_prune [0,1,4,5] ?_;simp only[zP,Nat.reduceEqDiff,reduceIte];refine awp_sd mixed rfl fun K hK=>?_;simp -dsimp [q1,q2,hg0];refine hK _ _ _ (by decide+kernel) ?_;clear hK K;exact awp_ret (by simp)
theorem c_rF0 (g:Gr) (s:Sta) (p:List Nat) (fs nl:List Int) (d:Int) (hnt:NetOk g s) (hfs:fs=feedL g s (upN p)) (hp:p.length≤1000) {b:Nat} (hb:b<fs.length) (hn:nl.length=p.length) (hd:0<d) (hd1:d≤100000000000000) {x:Int} (hx:nl[p.idxOf (fdI g (at0 fs b)).At.toNat]?=some x) (hxb:-1000000000000000≤x∧x≤1000000000000000):
  PureCall Try.prog 92 [g.av,iL (upN p),iL nl,I d,I (at0 fs b)] (I ((fdI g (at0 fs b)).Volts*d-x)):=by
 have h:=feed_at hnt hfs hb;have h1:=Int.mul_nonneg (show 0≤(fdI g (at0 fs b)).Volts by omega) (show 0≤d by omega);have h2:=Int.mul_le_mul h.2.2.2.2.2.2.2.1 hd1 (by omega) (by omega);have w1:IntKind.i64.wrap ((fdI g (at0 fs b)).Volts*d)=(fdI g (at0 fs b)).Volts*d:=wrap_in (by omega) (by omega);have w2:IntKind.i64.wrap ((fdI g (at0 fs b)).Volts*d-x)=(fdI g (at0 fs b)).Volts*d-x:=wrap_in (by omega) (by omega);have hi:=c_rIndex (upN p) (fdI g (at0 fs b)).At (by rw[upN_len];omega);rw[firstI_idx h.2.2.2.2.1 h.2.2.2.2.2.1]at hi;have hpi:=List.idxOf_lt_length_of_mem h.2.2.2.2.2.1;refine PureCall.of_body Try.func92 rfl (by decide) (by simp[Try.ntmps92]) ?_;simp only[Try.ntmps92,Try.results92];refine aS fun K hK=>?_;simp -dsimp;apply hK;clear hK K;refine awp_sd mixed rfl fun K hK=>?_;simp -dsimp [h.2.1,h.2.2.2.1,w1,w2,hx];refine callK_intro _ (hi) (by simp) ?_;simp -dsimp [h.2.1,h.2.2.2.1,w1,w2,hx];refine hK _ _ _ (by decide+kernel) ?_;clear hK K;exact awp_ret (by simp)
theorem callK_mat1 {P:Program} {m:List Bool} {f:FuncId} {args:List AV} {fl:Bool} {rd rd0:List Nat} {raw:List AV} {H:Nat→Option ARow} {N:Nat} {K:Eff→Prop} {args':List AV} {n:Nat} {F:Nat→Nat→Int}
  (h:MutCall P f args' [] [] (.row 0 0 n) [] ([some (.els 1 (outs 1 n n))]++mrows F n n)) (ha:raw.map (renAV [] 40)=args')
  (hk:K ⟨.row N 0 n,updsFrom N ([some (.els 1 (outs (N+1) n n))]++mrows F n n),rd0⟩):callK P m f args fl rd rd0 raw H N K:=by
 refine callK_mut [] [] (backG [] N (n+1)) h (by simp[nodN]) (congrArg (backG [] N) (by simp<;>omega)) ha rfl rfl rfl ?_;have hM:(mrows F n n).map (Option.map (renRow (backG [] N (n+1))))=mrows F n n:=by
  unfold mrows;rw[List.map_map];exact List.map_congr_left fun i _=>ren_mrow
 have ho:((outs 1 n n).map fun e=>e.map (renAV (backG [] N (n+1)) 3))=outs (N+1) n n:=by
  unfold outs;rw[List.map_map];refine List.map_congr_left fun i hi=>?_;rw[List.mem_range]at hi;show [renAV (backG [] N (n+1)) 3 (.row (i+1) 0 n)]=_;have e:renAV (backG [] N (n+1)) 3 (.row (i+1) 0 n)=match newName (backG [] N (n+1)) (i+1)with|some q=> .row q 0 n|none=> .any:=rfl
  rw[e,newName_back (by omega),show N+(i+1)=i+(N+1)by omega]
 have hr:renAV (backG [] N (n+1)) 3 (.row 0 0 n)= .row N 0 n:=by
  have e0:renAV (backG [] N (n+1)) 3 (.row 0 0 n)=match newName (backG [] N (n+1)) 0 with|some q=> .row q 0 n|none=> .any:=rfl
  rw[e0,newName_back (by omega)];rfl
 have hu:newUps (backG [] N (n+1)) N ([some (.els 1 (outs 1 n n))]++mrows F n n)=updsFrom N ([some (.els 1 (outs (N+1) n n))]++mrows F n n):=by
  rw[newUps_from,List.map_append,hM];simp only[List.map_cons,List.map_nil,Option.map_some,renRow,ho]
 rw[hr,hu];simpa [keptUps,goneUps]using hk
def zro (f:Nat→Nat→Int) (k:Nat):Nat→Nat→Int:=fun i j=>if i=0∧j<k then 0 else f i j
theorem zro_zero (f:Nat→Nat→Int):zro f 0=f:=by funext i j;unfold zro;rw[if_neg (by omega)]
theorem zro_step (f:Nat→Nat→Int) (k:Nat):upd2 (zro f k) 0 k 0=zro f (k+1):=by
 funext i j
 unfold upd2 zro
 by_cases h:i=0
 ·subst h
  by_cases h2:j=k
  ·subst h2;simp
  ·by_cases h3:j<k
   ·simp[h2,h3];omega
   ·simp[h2,h3];intro;omega
 ·simp[h]
theorem zro_rows (W:List Wn) (u:Nat→Int) (p:List Nat) (fs:List Nat) (q:Nat→Nat) (s V:Nat→Int) (i0:Nat) (hi0:p.getD 0 0=i0) (h1:1≤p.length) (hnd:p.Nodup):
  matL (upd2 (zro (Lf W p) p.length) 0 0 1) p.length p.length=eqM ((⟨p,lw W,u,fs,q,s,V⟩:Part).A0 i0) p:=by
 unfold eqM matL;refine List.map_congr_left fun i hi=>List.map_congr_left fun j hj=>?_;rw[List.mem_range]at hi hj;show upd2 (zro (Lf W p) p.length) 0 0 1 i j=if p.getD i 0=i0 then if p.getD j 0=i0 then 1 else 0 else lw W (p.getD i 0) (p.getD j 0);unfold upd2 zro Lf
 by_cases h:i=0
 ·subst h;rw[if_pos hi0]
  by_cases h2:j=0
  ·subst h2;rw[if_pos ⟨rfl,rfl⟩,if_pos hi0]
  ·rw[if_neg (fun e=>h2 e.2),if_pos ⟨rfl,hj⟩,if_neg (fun e=>h2 (getD_inj hnd hj hi (e.trans hi0.symm)))]
 ·rw[if_neg (fun e=>h e.1),if_neg (fun e=>h e.1),if_neg (fun e=>h (getD_inj hnd hi (by omega) (e.trans hi0.symm)))]
theorem c_rFloat (g:Gr) (s:Sta) (p:List Nat) (us:Kvs) (fs cu:List Int) (hfs:fs=feedL g s (upN p)) (hnt:NetOk g s) (hpt:PartOk g s p) (hus:∀x,-40≤igt us x∧igt us x≤40) (hcu:∀k∈p,cu[k]?=some (igt us k)) (hf0:fs≠[]) (i0:Nat) (hi0:p.getD 0 0=i0)
  (hz:Sml0 (Pt g (onW g.Wires s.Wires) us p fs fs.length) i0) (v:List Int) (d:Int) (e2:d=(Pt g (onW g.Wires s.Wires) us p fs fs.length).den0 i0)
  (e1:v=p.map fun k=>(Pt g (onW g.Wires s.Wires) us p fs fs.length).num0 i0 k+shiftL ((Pt g (onW g.Wires s.Wires) us p fs fs.length).V 0*(Pt g (onW g.Wires s.Wires) us p fs fs.length).den0 i0-(Pt g (onW g.Wires s.Wires) us p fs fs.length).num0 i0 ((Pt g (onW g.Wires s.Wires) us p fs fs.length).p 0)) ((List.range fs.length).map fun b=>(Pt g (onW g.Wires s.Wires) us p fs fs.length).V b*(Pt g (onW g.Wires s.Wires) us p fs fs.length).den0 i0-(Pt g (onW g.Wires s.Wires) us p fs fs.length).num0 i0 ((Pt g (onW g.Wires s.Wires) us p fs fs.length).p b))):
  PureCall Try.prog 74 [g.av,s.av,iL (upN p),iL cu,iL fs] (.tup [iL v,I d,Bo true]):=by
 have hpl:=upN_len p;have hb:=grB_bd hnt.gr;have hn10:=hpt.n10;have hml:1≤fs.length:=by cases fs with|nil=>exact absurd rfl hf0|cons a l=>simp
 have hfl:fs.length≤12:=by
  have:=List.length_filter_le (fdOn g s (upN p)) (upI g.Feeds.length);rw[upI_len]at this;rw[hfs];unfold feedL;omega
 have hmt:=m_rMatrix g s p p.length rfl hpt.n1 hpt.n10 hpt.nd hnt.sw hb.2.2.1 hnt.wires hpt.cl;obtain⟨z1,z2,z3⟩:=hz;have hsol:=m_rSolution (eqM ((Pt g (onW g.Wires s.Wires) us p fs fs.length).A0 i0) p) (p.map ((Pt g (onW g.Wires s.Wires) us p fs fs.length).b0 i0)) p.length (matL_sq _ _) hpt.n1 hpt.n10 (by simp);have hv0:(p.map fun k=>wr (num ((Pt g (onW g.Wires s.Wires) us p fs fs.length).A0 i0) ((Pt g (onW g.Wires s.Wires) us p fs fs.length).b0 i0) p k))=p.map fun k=>(Pt g (onW g.Wires s.Wires) us p fs fs.length).num0 i0 k:=List.map_congr_left fun k _=>wr_id (by have:=z1 k;unfold Part.num0 at this;show _≤Cur.num _ _ (Pt g (onW g.Wires s.Wires) us p fs fs.length).ns k;omega) (by have:=z1 k;unfold Part.num0 at this;show Cur.num _ _ (Pt g (onW g.Wires s.Wires) us p fs fs.length).ns k≤_;omega);have hd0:wr (D ((Pt g (onW g.Wires s.Wires) us p fs fs.length).A0 i0) p)=(Pt g (onW g.Wires s.Wires) us p fs fs.length).den0 i0:=wr_id (by unfold Part.den0 at z2;show _≤D _ (Pt g (onW g.Wires s.Wires) us p fs fs.length).ns;omega) (by unfold Part.den0 at z3;show D _ (Pt g (onW g.Wires s.Wires) us p fs fs.length).ns≤_;omega);rw[eqM_sol _ _ _ hpt.nd,eqM_det,hv0,hd0]at hsol;have hbl:=b0_row us p (lw (onW g.Wires s.Wires)) (List.range fs.length) (fun b=>(fdOf g fs b).At.toNat) (fun b=>(fdOf g fs b).Siem) (fun b=>(fdOf g fs b).Volts) i0 hi0 hpt.n1 hpt.nd;obtain⟨bl,hbl2⟩:∃bl,bl=p.map ((Pt g (onW g.Wires s.Wires) us p fs fs.length).b0 i0):=⟨_,rfl⟩;obtain⟨M,hM⟩:∃M,M=eqM ((Pt g (onW g.Wires s.Wires) us p fs fs.length).A0 i0) p:=⟨_,rfl⟩;have hbl3:(rgt us p).set 0 0=bl:=by rw[hbl2];exact hbl
 have hzr:=zro_rows (onW g.Wires s.Wires) (fun x=>igt us x) p (List.range fs.length) (fun b=>(fdOf g fs b).At.toNat) (fun b=>(fdOf g fs b).Siem) (fun b=>(fdOf g fs b).Volts) i0 hi0 hpt.n1 hpt.nd;have hzr2:matL (upd2 (zro (Lf (onW g.Wires s.Wires) p) p.length) 0 0 1) p.length p.length=M:=by rw[hM];exact hzr
 rw[←hbl2,←hM]at hsol;have hzl:∀k x,p[k]?=some x→(p.map fun k=>(Pt g (onW g.Wires s.Wires) us p fs fs.length).num0 i0 k)[k]?=some ((Pt g (onW g.Wires s.Wires) us p fs fs.length).num0 i0 x):=fun k x h=>by rw[List.getElem?_map,h];rfl
 obtain⟨nu,hnu⟩:∃nu,nu=fun k=>(Pt g (onW g.Wires s.Wires) us p fs fs.length).num0 i0 k:=⟨_,rfl⟩;rw[←hnu]at hsol hzl;obtain⟨nl,hnl⟩:∃nl,nl=p.map nu:=⟨_,rfl⟩;rw[←hnl]at hsol hzl;have hfa:=fun b (hb:b<fs.length)=>feed_at hnt hfs hb;obtain⟨d0,hd00⟩:∃d0,d0=(Pt g (onW g.Wires s.Wires) us p fs fs.length).den0 i0:=⟨_,rfl⟩;rw[←hd00]at hsol z2 z3 e2 e1;have hnk:∀k,(Pt g (onW g.Wires s.Wires) us p fs fs.length).num0 i0 k=nu k:=fun k=>by rw[hnu]
 simp only[hnk]at e1 z1 hzl;have hnb:∀k,-1000000000000000≤nu k∧nu k≤1000000000000000:=z1;have hPV:∀(b:Nat),(Pt g (onW g.Wires s.Wires) us p fs fs.length).V b=(fdI g (at0 fs b)).Volts:=fun b=>rfl;have hPp:∀(b:Nat),(Pt g (onW g.Wires s.Wires) us p fs fs.length).p b=(fdI g (at0 fs b)).At.toNat:=fun b=>rfl;simp only[hPV,hPp]at e1;have hnll:nl.length=p.length:=by rw[hnl];simp
 have hzp:=fun b (hb:b<fs.length)=>hzl _ _ (idxOf_get (hfa b hb).2.2.2.2.2.1);have hf0c:=fun b (hb:b<fs.length)=>c_rF0 g s p fs nl d0 hnt hfs (by omega) hb hnll z2 z3 (hzp b hb) (hnb _);have hvd:∀(b:Nat),b<fs.length→ -100000000000000000≤(fdI g (at0 fs b)).Volts*d0∧(fdI g (at0 fs b)).Volts*d0≤100000000000000000:=fun b hb=>by
  have h:=hfa b hb;have h1:=Int.mul_nonneg (show 0≤(fdI g (at0 fs b)).Volts by omega) (show 0≤d0 by omega);have h2:=Int.mul_le_mul h.2.2.2.2.2.2.2.1 z3 (by omega) (by omega);omega
 clear hnk hnu hd00 hbl hzr;have hp0:0<p.length:=by have:=hpt.n1;omega
 have wneg:∀x,IntKind.i64.wrap (-igt us x)=-igt us x:=fun x=>wrap_in (by have:=hus x;omega) (by have:=hus x;omega);obtain⟨n,hn⟩:∃n,n=p.length:=⟨_,rfl⟩;rw[←hn]at hpl hn10 hmt hsol hzr2 hnll hp0;refine PureCall.of_bodyG Try.func74 rfl (by decide) (by simp[Try.ntmps74]) ?_;intro J hJ;simp only[Try.ntmps74,Try.results74];refine gS fun K hK=>?_;simp -dsimp;apply hK;clear hK K;refine gS fun K hK=>?_;simp -dsimp;refine callK_mat1 hmt (by simp) ?_;simp -dsimp;apply hK;clear hK K;refine gS fun K hK=>?_;simp -dsimp;apply hK;clear hK K;refine gwp_seq_k fun K1 hK1=>?_;refine gS fun K hK=>?_;simp -dsimp;apply hK;clear hK K;refine gwp_block ?_;refine gwp_prune [2,3,4,5,13,14,15] (Or.inr (by simp)) ?_;simp only[zP,Nat.reduceEqDiff,reduceIte];refine gwp_loop_l [2,3,4,5,13] (α:=Nat) (fun k=>[(14, .row 3 0 k),(15,I k)]) (fun k=>[some (.els 4 [g.cells]),some (.els 2 [s.cells]),some (.els 1 (outs 4 n n)),some (.els 1 (((rgt us p).take k).map nCell))]++mrows (zro (Lf (onW g.Wires s.Wires) p) k) n n) (fun k=>k≤n) (fun k=>n-k) 0 ?_ ?_ ?_
 ·exact Nat.zero_le _
 ·have hout:∀i,i<n→some (i+3)∉ [some 0,some 1,some 2,some (n+3)]:=fun i hi=>by simp;omega
  have hro:=ren_outs (g:=some 0::some 1::some 2::some (n+3)::(List.range n).map fun i=>some (i+3)) (c:=3) (c':=4) (m:=n) (n:=n) (fun i hi=>newName_cat (gf:=[some 0,some 1,some 2,some (n+3)]) hi (hout i hi));refine gsub ((sub_nil 14 1 (by simp)).trans (sub_cat (F':=[some (.els 4 [g.cells]),some (.els 2 [s.cells]),some (.els 1 (outs 4 n n)),some (.els 1 (((rgt us p).take 0).map nCell))]) [some 0,some 1,some 2,some (n+3)] (zro (Lf (onW g.Wires s.Wires) p) 0) n n 3 (by simp[nodupB]) hout ?_ (by simp) ?_)) (by simp)
  ·intro i hi;show hget (mrows _ n n++_) i=_;rw[hget_mrows hi,zro_zero]
  ·simp[hro]
 rintro k k1;simp only[zP,Nat.reduceEqDiff,reduceIte];refine gwp_seq_k fun K2 hK2=>?_;refine gS fun K hK=>?_;simp -dsimp [hpl];apply hK;clear hK K;refine gwp_cond rfl (fun hc0=>?_) (fun hc0=>?_)
 ·have hkn:k<n:=by simpa [hpl]using hc0
  obtain⟨x,hx⟩:∃x,p[k]?=some x:=⟨_,List.getElem?_eq_getElem (by omega)⟩;have gx:=upN_get hx;have gc:=hcu x (List.mem_of_getElem? hx);have wk:=zW k (by omega);have hrl:min k (rgt us p).length=k:=by simp only[rgt,List.length_map];omega
  have gr:(rgt us p)[k]?=some (-igt us x):=by simp[rgt,hx]
  have f2:Fits (k+1) 9:=fits_of (by omega) (by omega);refine gwp_skip ?_;simp only[zT,reduceIte,Nat.reduceEqDiff];refine hK2 _ _ ?_;refine gwp_prune [2,3,4,5,13,14,15] (Or.inr (by simp)) ?_;simp only[zP,Nat.reduceEqDiff,reduceIte];refine gwp_seq_k fun K3 hK3=>?_;refine gwp_block ?_;refine gS fun K hK=>?_;simp -dsimp [gx,gc,wneg,f2,hrl,Nat.add_assoc];apply hK;clear hK K;refine gR fun K hK=>?_;simp -dsimp [hp0,hkn,outs_get hp0,hget_mrows hp0,mrow,mrow_get hkn,hset_mrows hp0,Nat.add_assoc];apply hK;clear hK K;simp only[zT,reduceIte,Nat.reduceEqDiff];refine hK3 _ _ ?_;refine gwp_prune [2,3,4,5,13,14,15] (Or.inr (by simp)) ?_;simp only[zP,Nat.reduceEqDiff,reduceIte];refine gR fun K hK=>?_;simp -dsimp [wk];apply hK;clear hK K;simp only[zT,reduceIte,Nat.reduceEqDiff];have hout:∀i,i<n→some (i+4)∉ [some 0,some 1,some 2,some (n+4)]:=fun i hi=>by simp;omega
  have hro:=ren_outs (g:=some 0::some 1::some 2::some (n+4)::(List.range n).map fun i=>some (i+4)) (c:=4) (c':=4) (m:=n) (n:=n) (fun i hi=>newName_cat (gf:=[some 0,some 1,some 2,some (n+4)]) hi (hout i hi));refine⟨k+1,by omega,by omega,gsub (sub_cat (F':=[some (.els 4 [g.cells]),some (.els 2 [s.cells]),some (.els 1 (outs 4 n n)),some (.els 1 (((rgt us p).take (k+1)).map nCell))]) [some 0,some 1,some 2,some (n+4)] (zro (Lf (onW g.Wires s.Wires) p) (k+1)) n n 4 (by simp[nodupB]) hout ?_ (by simp) ?_) (by simp)⟩
  ·intro i hi;show hget (mrows _ n n++_) i=_;rw[hget_mrows hi,←zro_step]
  ·simp[hro,List.take_add_one,gr]
 ·have hkn:k=n:=by have hx:¬k<n:=(by simpa [hpl]using hc0);omega
  have hrt:List.take k ((rgt us p).map nCell)=(rgt us p).map nCell:=List.take_of_length_le (by simp[rgt];omega);rw[hrt,hkn];have gr0:(rgt us p)[0]?=some (-igt us (p.getD 0 0)):=by unfold rgt;rw[List.getElem?_map,getD_get (by omega)];rfl
  have htk:List.take n (nl.map nCell)=nl.map nCell:=List.take_of_length_le (by simp;omega);have a0:=(hfa 0 hml).1;have a1:=hf0c 0 hml;simp only[Int.natCast_zero]at a0 a1;have hle:n≤nl.length:=by omega
  obtain⟨xs,hxs⟩:∃xs:List Int,xs=(List.range fs.length).map fun(b:Nat)=>(fdI g (at0 fs b)).Volts*d0-nu (fdI g (at0 fs b)).At.toNat:=⟨_,rfl⟩;obtain⟨x0,hx0⟩:∃x0,x0=(fdI g (at0 fs 0)).Volts*d0-nu (fdI g (at0 fs 0)).At.toNat:=⟨_,rfl⟩;rw[←hxs]at e1;have hx0':(fdI g (at0 fs ((0:Nat):Int))).Volts*d0-nu (fdI g (at0 fs ((0:Nat):Int))).At.toNat=x0:=hx0.symm;have hxg:∀(b:Nat),b<fs.length→xs[b]?=some ((fdI g (at0 fs b)).Volts*d0-nu (fdI g (at0 fs b)).At.toNat):=fun b hb=>by rw[hxs,List.getElem?_map,List.getElem?_range hb];rfl
  have hxb:∀x∈xs,-200000000000000000≤x∧x≤200000000000000000:=fun x hx=>by
   rw[hxs]at hx;obtain⟨b,hb,rfl⟩:=List.mem_map.1 hx;have:=hvd b (List.mem_range.1 hb);have:=hnb (fdI g (at0 fs b)).At.toNat;omega
  have hx0b:-200000000000000000≤x0∧x0≤200000000000000000:=by rw[hx0];have:=hvd 0 hml;have:=hnb (fdI g (at0 fs 0)).At.toNat;simp only[Int.natCast_zero]at*;omega
  have hxl:xs.length=fs.length:=by rw[hxs];simp
  have hs1:shiftL x0 (xs.take 1)=x0:=by rw[shiftL_snoc (hxg 0 hml),hx0'];show maxI x0 x0=x0;unfold maxI;split<;>rfl
  refine gwp_exit ?_;simp only[zT,reduceIte,Nat.reduceEqDiff];refine hK1 _ _ ?_;refine gwp_prune [2,4,5,13,14] (Or.inr (by simp)) ?_;simp only[zP,Nat.reduceEqDiff,reduceIte];refine gS fun K hK=>?_;simp -dsimp [hp0,outs_get hp0,hget_mrows' hp0,mrow,mrow_get hp0,hset_mrows' hp0,gr0,Nat.add_assoc];apply hK;clear hK K;refine gwp_weak (gsub (sub_rf (T':=[(2,iL (upN p)),(4,iL fs),(5, .ptr 0 0 0),(13,mL M),(14,iL bl)]) (H':=[some (.els 4 [g.cells]),some (.els 2 [s.cells])]) [some 0,some 1] rfl ⟨.inr (by simp), .inr (by simp), .inr (by simp), .inr ?_, .inr ?_,trivial⟩ (by simp)) (by simp)) ?_
  ·rw[←hzr2];exact A_rows _ _ _ _ hp0
  ·exact b0_frz _ _ _ _ (rgt us p) bl hbl3 (by rw[←hbl3];simp[rgt];omega) hp0
  ·refine gS fun K hK=>?_;simp -dsimp;refine callK_mut [] [] [none,none,some 0] (hsol) (by decide) rfl (by simp) (by simp) rfl (by simp) ?_;simp -dsimp;apply hK;clear hK K;refine gwp_sd mixed rfl (by decide) rfl rfl fun K hK=>?_;simp -dsimp [a0,htk,hle];refine callK_intro _ (a1) (by simp) ?_;simp -dsimp [a0,htk,hle];refine hK _ _ _ (by decide+kernel) ?_;clear hK K;refine gwp_seq_k fun K4 hK4=>?_;refine gS fun K hK=>?_;simp -dsimp;apply hK;clear hK K;refine gwp_block ?_;refine gwp_prune [2,4,5,16,17,18,19] (Or.inr (by simp)) ?_;simp only[zP,Nat.reduceEqDiff,reduceIte];refine gwp_loop_l [2,4,5,16,17] (α:=Nat) (fun b=>[(18,I (shiftL x0 (xs.take b))),(19,I b)]) (fun b=>[some (.els 4 [g.cells]),some (.els 2 [s.cells]),some (.els 1 (nl.map nCell))]) (fun b=>1≤b∧b≤fs.length) (fun b=>fs.length-b) 1 ?_ ?_ ?_
   ·exact⟨Nat.le_refl _,hml⟩
   ·exact gsub (sub_rb [some 0,some 1,some 2] rfl (by simp[hs1,←hx0]) (by simp)) (by simp)
   rintro b ⟨b0,b1⟩;simp only[zP,Nat.reduceEqDiff,reduceIte];refine gwp_seq_k fun K5 hK5=>?_;refine gS fun K hK=>?_;simp -dsimp;apply hK;clear hK K;refine gwp_cond rfl (fun hc1=>?_) (fun hc1=>?_)
   ·have hbl:b<fs.length:=by simpa using hc1
    have wb:=zW b (by omega);refine gwp_skip ?_;simp only[zT,reduceIte,Nat.reduceEqDiff];refine hK5 _ _ ?_;refine gwp_prune [2,4,5,16,17,18,19] (Or.inr (by simp)) ?_;simp only[zP,Nat.reduceEqDiff,reduceIte];refine gwp_seq_k fun K6 hK6=>?_;refine gwp_block ?_;refine gwp_draw mixed rfl (by decide) rfl rfl fun K hK=>?_;simp -dsimp [(hfa b hbl).1,htk,hle];refine callK_intro _ (hf0c b hbl) (by simp) ?_;simp -dsimp [(hfa b hbl).1,htk,hle];refine hK _ _ _ (by decide+kernel) ?_;clear hK K;simp only[zT,reduceIte,Nat.reduceEqDiff];refine hK6 _ _ ?_;refine gwp_prune [2,4,5,16,17,18,19] (Or.inr (by simp)) ?_;simp only[zP,Nat.reduceEqDiff,reduceIte];refine gR fun K hK=>?_;simp -dsimp [wb];apply hK;clear hK K;simp only[zT,reduceIte,Nat.reduceEqDiff];exact⟨b+1,by omega,by omega,gsub (sub_rb [some 0,some 1,some 2] rfl (by simp[shiftL_snoc (hxg b hbl),maxI]) (by simp)) (by simp)⟩
   ·have hbl:¬b<fs.length:=by simpa using hc1
    have htx:xs.take b=xs:=List.take_of_length_le (by omega);rw[htx];have hsb:=shiftL_bd xs x0 hx0b hxb;generalize hsh:shiftL x0 xs=sh at hsb ⊢;refine gwp_exit ?_;simp only[zT,reduceIte,Nat.reduceEqDiff];refine hK4 _ _ ?_;refine gwp_prune [16,17,18] (Or.inr (by simp)) ?_;simp only[zP,Nat.reduceEqDiff,reduceIte];refine gwp_seq_k fun K7 hK7=>?_;refine gS fun K hK=>?_;simp -dsimp;apply hK;clear hK K;refine gwp_block ?_;refine gwp_prune [16,17,18,20] (Or.inr (by simp)) ?_;simp only[zP,Nat.reduceEqDiff,reduceIte];refine gwp_loop_l [16,17,18] (α:=Nat) (fun i=>[(20,I i)]) (fun i=>[some (.els 4 [g.cells]),some (.els 2 [s.cells]),some (.els 1 ((shl nl sh i).map nCell))]) (fun i=>i≤n) (fun i=>n-i) 0 ?_ ?_ ?_
    ·exact Nat.zero_le _
    ·refine gsub (sub_rb [some 0,some 1,some 2] rfl (by simp) (by simp[shl_zero])) (by simp)
    rintro i i1;simp only[zP,Nat.reduceEqDiff,reduceIte];refine gwp_seq_k fun K8 hK8=>?_;refine gS fun K hK=>?_;simp -dsimp;apply hK;clear hK K;refine gwp_cond rfl (fun hc2=>?_) (fun hc2=>?_)
    ·have hin:i<n:=by simpa using hc2
     have wi:=zW i (by omega);obtain⟨x,hx⟩:∃x,nl[i]?=some x:=⟨_,List.getElem?_eq_getElem (by omega)⟩;have hxn:-1000000000000000≤x∧x≤1000000000000000:=by
      rw[hnl,List.getElem?_map]at hx;obtain⟨y,_,rfl⟩:=Option.map_eq_some_iff.1 hx;exact hnb y
     have gsh:=shl_get (sh:=sh) hx;have wx:IntKind.i64.wrap (x+sh)=x+sh:=wrap_in (by omega) (by omega);have hst:=shl_set (sh:=sh) hx;refine gwp_skip ?_;simp only[zT,reduceIte,Nat.reduceEqDiff];refine hK8 _ _ ?_;refine gwp_prune [16,17,18,20] (Or.inr (by simp)) ?_;simp only[zP,Nat.reduceEqDiff,reduceIte];refine gwp_seq_k fun K9 hK9=>?_;refine gwp_block ?_;refine gR fun K hK=>?_;simp -dsimp [hin,gsh,wx];apply hK;clear hK K;simp only[zT,reduceIte,Nat.reduceEqDiff];refine hK9 _ _ ?_;refine gwp_prune [16,17,18,20] (Or.inr (by simp)) ?_;simp only[zP,Nat.reduceEqDiff,reduceIte];refine gR fun K hK=>?_;simp -dsimp [wi];apply hK;clear hK K;simp only[zT,reduceIte,Nat.reduceEqDiff];exact⟨i+1,by omega,by omega,gsub (sub_rb [some 0,some 1,some 2] rfl (by simp) (by simp[←hst,List.map_set])) (by simp)⟩
    ·have hin0:¬i<n:=by simpa using hc2
     have hin:i=n:=by omega
     refine gwp_exit ?_;simp only[zT,reduceIte,Nat.reduceEqDiff];refine hK7 _ _ ?_;refine gwp_prune [16,17] (Or.inr (by simp)) ?_;simp only[zP,Nat.reduceEqDiff,reduceIte];refine gS fun K hK=>?_;simp -dsimp;apply hK;clear hK K;have hsl:shl nl sh n=v:=by
      rw[shl_all hnll,e1,hnl,List.map_map,hx0',hsh];rfl
     have hvl:v.length=n:=by rw[←hsl,shl_len,hnll]
     rw[hin,hsl];exact gwp_ret (by simp[e2,resP,tupOf,←hvl])
end Go.Cur
end
section
namespace Go.Cur
open Go.AM Go.Proofs
def fitCR (V:Nat→Int) (q:Nat→Nat) (nu:Nat→Int) (de:Int) (a b:Nat):Bool:=decide (nu (q b)<V b*de)==a.testBit b
def fitR (P:Part) (m a:Nat):Bool:=(List.range m).all (fitCR P.V P.p (P.num (bitS a)) (P.den (bitS a)) a)
def maskR (P:Part) (m:Nat):Nat:=((List.range (2^m)).find? fun a=>decide (1≤a)&&fitR P m a).getD 0
theorem fitR_iff {P:Part} {m a:Nat} (hfs:P.fs=List.range m):fitR P m a=true↔Strict P (bitS a):=by
 unfold fitR Strict;rw[hfs,List.all_eq_true];constructor
 ·intro h b hb;have:=h b hb;unfold fitCR at this;rw[beq_iff_eq]at this;exact this.symm
 ·intro h b hb;unfold fitCR;rw[beq_iff_eq];exact(h b hb).symm
theorem maskR_ok {P:Part} (ho:P.Ok) {m:Nat} (hfs:P.fs=List.range m) (hm:m≠0) (hsum:0<sm P.u P.ns):
  1≤maskR P m∧maskR P m<2^m∧fitR P m (maskR P m)=true∧∀a,1≤a→a<maskR P m→fitR P m a=false:=by
 obtain⟨S0,hS0⟩:=exists_fit ho hsum (by rw[hfs];intro e;have:=congrArg List.length e;simp at this;exact hm this);obtain⟨hne,hst⟩:=strict_of_fits ho hsum hS0;generalize strictS P S0=S at hne hst;obtain⟨a,ha,hb⟩:=mask_of S m;obtain⟨b0,hb0,hSb⟩:=hne;rw[hfs,List.mem_range]at hb0;have ha1:1≤a:=by
  rcases Nat.eq_zero_or_pos a with h|h
  ·subst h;have:=hb b0 hb0;rw[hSb]at this;simp at this
  ·exact h
 have hnc:=num_congr (P:=P) (S:=S) (S':=bitS a) fun b hb'=>by rw[hfs,List.mem_range]at hb';exact(hb b hb').symm
 have hfit:fitR P m a=true:=by
  rw[fitR_iff hfs];intro b hb';have h:=hst b hb';rw[hnc.1,hnc.2]at h;rw[hfs,List.mem_range]at hb';rw[show bitS a b=S b from hb b hb'];exact h
 cases hf:(List.range (2^m)).find? (fun a=>decide (1≤a)&&fitR P m a)with
 |none=>
  rw[List.find?_eq_none]at hf;have:=hf a (List.mem_range.2 ha);simp[ha1,hfit]at this
 |some a0=>
  have e:maskR P m=a0:=by unfold maskR;rw[hf];rfl
  rw[List.find?_range_eq_some]at hf;rw[e];obtain⟨h1,h2,h3⟩:=hf;simp only[Bool.and_eq_true,decide_eq_true_eq]at h1;refine⟨h1.1,List.mem_range.1 h2,h1.2,fun a h4 h5=>?_⟩;have:=h3 a h5;simpa [h4]using this
theorem mask_same {P:Part} (ho:P.Ok) {m:Nat} (hfs:P.fs=List.range m) (hm:m≠0) (hsum:0<sm P.u P.ns):
  0<P.den (bitS (maskR P m))∧0<P.den (bitS (mask0 P m))∧∀k∈P.ns,P.num (bitS (maskR P m)) k*P.den (bitS (mask0 P m))=P.num (bitS (mask0 P m)) k*P.den (bitS (maskR P m)):=by
 obtain⟨a1,a2,a3,_⟩:=maskR_ok ho hfs hm hsum;obtain⟨b1,b2,b3,_⟩:=mask0_ok ho hfs hm hsum;have h1:∃b∈P.fs,bitS (maskR P m) b=true:=by obtain⟨b,hb,h⟩:=bit_ex a1 a2;exact⟨b,by rw[hfs];exact List.mem_range.2 hb,h⟩
 have f1:=strict_fits h1 ((fitR_iff hfs).1 a3);have f2:=(fit_iff hfs (bit_ex b1 b2)).1 b3;exact⟨den_pos ho f1.1,den_pos ho f2.1,fun k hk=>fits_one ho f1 f2 k hk⟩
def pvR (g:Gr) (s:Sta) (us:Kvs) (p:List Nat):List Int×Int×Bool:=
 if feedL g s (upN p)=[]then(zerosL p.length,1,noneU us p)
 else if sumU us p<0 then([],0,false)
 else if sumU us p=0 then
  (p.map fun k=>(ptO g s us p).num0 (p.getD 0 0) k+shiftL ((ptO g s us p).V 0*(ptO g s us p).den0 (p.getD 0 0)-(ptO g s us p).num0 (p.getD 0 0) ((ptO g s us p).p 0)) ((List.range (feedL g s (upN p)).length).map fun b=>(ptO g s us p).V b*(ptO g s us p).den0 (p.getD 0 0)-(ptO g s us p).num0 (p.getD 0 0) ((ptO g s us p).p b)),
   (ptO g s us p).den0 (p.getD 0 0),true)
 else(p.map fun k=>(ptO g s us p).num (bitS (maskR (ptO g s us p) (feedL g s (upN p)).length)) k,(ptO g s us p).den (bitS (maskR (ptO g s us p) (feedL g s (upN p)).length)),true)
theorem c_rVolts (g:Gr) (s:Sta) (p:List Nat) (us:Kvs) (fs cu:List Int) (hfs:fs=feedL g s (upN p)) (hnt:NetOk g s) (hp:p∈partL g s) (h5:p.length≤5) (hus:∀x,-40≤igt us x∧igt us x≤40) (hcu:∀k∈p,cu[k]?=some (igt us k)) (v:List Int) (d:Int) (ok:Bool)
  (q0:fs=[]→v=zerosL p.length∧d=1∧ok=noneU us p)
  (q1:fs≠[]→sumU us p<0→v=[]∧d=0∧ok=false)
  (q2:fs≠[]→sumU us p=0→PureCall Try.prog 74 [g.av,s.av,iL (upN p),iL cu,iL fs] (.tup [iL v,I d,Bo true])∧ok=true)
  (q3:fs≠[]→0<sumU us p→ok=true∧∃a0,1≤a0∧a0<2^fs.length∧fitR (Pt g (onW g.Wires s.Wires) us p fs fs.length) fs.length a0=true∧(∀a,1≤a→a<a0→fitR (Pt g (onW g.Wires s.Wires) us p fs fs.length) fs.length a=false)∧
   d=(Pt g (onW g.Wires s.Wires) us p fs fs.length).den (bitS a0)∧v=p.map fun k=>(Pt g (onW g.Wires s.Wires) us p fs fs.length).num (bitS a0) k):
  PureCall Try.prog 51 [g.av,s.av,iL (upN p),iL cu] (.tup [iL v,I d,Bo ok]):=by
 have hpt:=partL_ok hnt hp (by omega);have hpl:=upN_len p;have hb:=grB_bd hnt.gr;have hn10:=hpt.n10;have hfl:=fs_len hnt hfs;have hfd:=c_rFeeders g s (upN p) hnt.sf (by omega) (by omega);rw[←hfs]at hfd;have hmt:=m_rMatrix g s p p.length rfl hpt.n1 hpt.n10 hpt.nd hnt.sw hb.2.2.1 hnt.wires hpt.cl;have hp0:0<p.length:=by have:=hpt.n1;omega
 have wneg:∀x,IntKind.i64.wrap (-igt us x)=-igt us x:=fun x=>wrap_in (by have:=hus x;omega) (by have:=hus x;omega);obtain⟨n,hn⟩:∃n,n=p.length:=⟨_,rfl⟩;rw[←hn]at hpl hn10 hmt hp0;refine PureCall.of_bodyG Try.func51 rfl (by decide) (by simp[Try.ntmps51]) ?_;intro J hJ;simp only[Try.ntmps51,Try.results51];refine gS fun K hK=>?_;simp -dsimp;apply hK;clear hK K;refine gS fun K hK=>?_;simp -dsimp;refine callK_intro _ (hfd) (by simp) ?_;simp -dsimp;apply hK;clear hK K;refine gS fun K hK=>?_;simp -dsimp;apply hK;clear hK K;refine gwp_seq_k fun K1 hK1=>?_;refine gS fun K hK=>?_;simp -dsimp;apply hK;clear hK K;refine gwp_block ?_;refine gwp_prune [2,3,4,5,11,12,13,14] (Or.inr (by simp)) ?_;simp only[zP,Nat.reduceEqDiff,reduceIte];refine gwp_loop_l [2,3,4,5,11] (α:=Nat) (fun k=>[(12,I (sumU us (p.take k))),(13,Bo (noneU us (p.take k))),(14,I k)]) (fun k=>[some (.els 4 [g.cells]),some (.els 2 [s.cells])]) (fun k=>k≤n) (fun k=>n-k) 0 ?_ ?_ ?_
 ·exact Nat.zero_le _
 ·exact gsub (sub_rb [some 0,some 1] rfl (by simp[sumU,noneU,sm]) (by simp)) (by simp)
 rintro k k1;simp only[zP,Nat.reduceEqDiff,reduceIte];refine gwp_seq_k fun K2 hK2=>?_;refine gS fun K hK=>?_;simp -dsimp [hpl];apply hK;clear hK K;refine gwp_cond rfl (fun hc0=>?_) (fun hc0=>?_)
 ·have hkn:k<n:=by simpa using hc0
  obtain⟨x,hx⟩:∃x,p[k]?=some x:=⟨_,List.getElem?_eq_getElem (by omega)⟩;have gx:=upN_get hx;have gc:=hcu x (List.mem_of_getElem? hx);have wk:=zW k (by omega);have hbd:=sumU_bd hus (p.take k);have htl:(p.take k).length=k:=by rw[List.length_take];omega
  rw[htl]at hbd;have ws:IntKind.i64.wrap (sumU us (p.take k)+igt us x)=sumU us (p.take k)+igt us x:=wrap_in (by have:=hus x;omega) (by have:=hus x;omega);refine gwp_skip ?_;simp only[zT,reduceIte,Nat.reduceEqDiff];refine hK2 _ _ ?_;refine gwp_prune [2,3,4,5,11,12,13,14] (Or.inr (by simp)) ?_;simp only[zP,Nat.reduceEqDiff,reduceIte];refine gwp_seq_k fun K3 hK3=>?_;refine gwp_block ?_;refine gS fun K hK=>?_;simp -dsimp [gx,gc,ws];apply hK;clear hK K;refine gR fun K hK=>?_;simp -dsimp;refine idxK_intro ([I x]) (fun _=>by simp[gx]) ?_;simp -dsimp;refine idxK_intro ([I (igt us x)]) (fun _=>by simp[gc]) ?_;simp -dsimp;apply hK;clear hK K;simp only[zT,reduceIte,Nat.reduceEqDiff];refine hK3 _ _ ?_;refine gwp_prune [2,3,4,5,11,12,13,14] (Or.inr (by simp)) ?_;simp only[zP,Nat.reduceEqDiff,reduceIte];refine gR fun K hK=>?_;simp -dsimp [wk];apply hK;clear hK K;simp only[zT,reduceIte,Nat.reduceEqDiff];exact⟨k+1,by omega,by omega,gsub (sub_rb [some 0,some 1] rfl (by simp[sumU_snoc hx,noneU_snoc hx]) (by simp)) (by simp)⟩
 ·have hkp : ¬k<n:=by simpa using hc0
  have htp:p.take k=p:=List.take_of_length_le (by omega);rw[htp];refine gwp_exit ?_;simp only[zT,reduceIte,Nat.reduceEqDiff];refine hK1 _ _ ?_;refine gwp_prune [2,3,4,5,11,12,13] (Or.inr (by simp)) ?_;simp only[zP,Nat.reduceEqDiff,reduceIte];refine gwp_seq_k fun K4 hK4=>?_;refine gS fun K hK=>?_;simp -dsimp;apply hK;clear hK K;refine gwp_cond rfl (fun hc1=>?_) (fun hc1=>?_)
  ·have hf0:fs=[]:=by cases fs with|nil=>rfl|cons a l=>exact absurd hc1 (by simp;omega)
   have f9:Fits n 9:=fits_of (by omega) (by omega);obtain⟨e1,e2,e3⟩:=q0 hf0;refine gS fun K hK=>?_;simp -dsimp [f9,hpl];apply hK;clear hK K;exact gwp_ret (by simp[e1,e2,e3,zerosL,hpl,←hn,resP,tupOf])
  ·have hf0 :fs≠[]:=by rintro rfl;simp at hc1
   have hml:1≤fs.length:=by cases fs with|nil=>exact absurd rfl hf0|cons a l=>simp
   refine gwp_skip ?_;simp only[zT,reduceIte,Nat.reduceEqDiff];refine hK4 _ _ ?_;refine gwp_prune [2,3,4,5,11,12] (Or.inr (by simp)) ?_;simp only[zP,Nat.reduceEqDiff,reduceIte];refine gwp_seq_k fun K5 hK5=>?_;refine gS fun K hK=>?_;simp -dsimp;apply hK;clear hK K;refine gwp_cond rfl (fun hc2=>?_) (fun hc2=>?_)
   ·have hs2:sumU us p<0:=by simpa using hc2
    obtain⟨e1,e2,e3⟩:=q1 hf0 hs2;refine gS fun K hK=>?_;simp -dsimp;apply hK;clear hK K;refine gwp_weak (gsub (sub_nil 8 1 (by simp)) (by simp)) ?_;exact gwp_ret (by simp[e1,e2,e3,resP,tupOf])
   ·refine gwp_skip ?_;simp only[zT,reduceIte,Nat.reduceEqDiff];refine hK5 _ _ ?_;refine gwp_prune [2,3,4,5,11,12] (Or.inr (by simp)) ?_;simp only[zP,Nat.reduceEqDiff,reduceIte];refine gwp_seq_k fun K6 hK6=>?_;refine gS fun K hK=>?_;simp -dsimp;apply hK;clear hK K;refine gwp_cond rfl (fun hc3=>?_) (fun hc3=>?_)
    ·have hs3:sumU us p=0:=by simpa using hc3
     obtain⟨hfc,e3⟩:=q2 hf0 hs3;refine gS fun K hK=>?_;simp -dsimp;refine callK_intro _ (hfc) (by simp) ?_;simp -dsimp;apply hK;clear hK K;exact gwp_ret (by simp[e3,resP,tupOf])
    ·subst hn;have hs2:¬sumU us p<0:=by simpa using hc2
     have hs3:¬sumU us p=0:=by simpa using hc3
     have hsp:0<sumU us p:=by omega
     obtain⟨e3,a0,ha1,ha2,haf,hal,e2,e1⟩:=q3 hf0 hsp;have hsm:=fun a (h2:1≤a) (h3:a<2^fs.length)=>Pt_small (us:=us) hnt hp h5 hfs hus (bitS a) (bit_ex h2 h3);have hfa:=fun b (hb:b<fs.length)=>feed_at hnt hfs hb;have hpi:=fun b (hb:b<fs.length)=>List.idxOf_lt_length_of_mem (hfa b hb).2.2.2.2.2.1;have hm64:fs.length≤IntKind.i64.bits:=Nat.le_trans (show fs.length≤12 by omega) (by decide);have hsh:IntKind.i64.wrap (2^fs.length)=2^fs.length:=by have:=shl1 fs.length (by omega);rw[Int.toNat_natCast,Int.one_mul,Int.natCast_pow]at this;exact this
     have hpow:2^fs.length≤2^12:=Nat.pow_le_pow_right (by omega) hfl;have hix:=fun b (hb:b<fs.length)=>by
      have hi:=c_rIndex (upN p) (fdI g (at0 fs (b:Nat))).At (by omega);rw[firstI_idx (hfa b hb).2.2.2.2.1 (hfa b hb).2.2.2.2.2.1]at hi;exact hi
     refine gwp_skip ?_;simp only[zT,reduceIte,Nat.reduceEqDiff];refine hK6 _ _ ?_;refine gwp_prune [2,3,4,5,11] (Or.inr (by simp)) ?_;simp only[zP,Nat.reduceEqDiff,reduceIte];refine gwp_seq_k fun K7 hK7=>?_;refine gS fun K hK=>?_;simp -dsimp;apply hK;clear hK K;refine gwp_block ?_;refine gwp_prune [2,3,4,5,11,15] (Or.inr (by simp)) ?_;simp only[zP,Nat.reduceEqDiff,reduceIte];refine gwp_loop_l [2,3,4,5,11] (α:=Nat) (fun a=>[(15,I a)]) (fun a=>[some (.els 4 [g.cells]),some (.els 2 [s.cells])]) (fun a=>a≤a0) (fun a=>2^fs.length-a) 0 ?_ ?_ ?_
     ·exact Nat.zero_le _
     ·exact gsub (sub_rb [some 0,some 1] rfl (by simp) (by simp)) (by simp)
     rintro a a1;simp only[zP,Nat.reduceEqDiff,reduceIte];refine gwp_seq_k fun K8 hK8=>?_;refine gS fun K hK=>?_;simp -dsimp [hm64,hsh];apply hK;clear hK K;refine gwp_cond rfl (fun hc4=>?_) (fun hc4=>?_)
     ·have hal2:a<2^fs.length:=by omega
      have wa:=zW a (by omega);refine gwp_skip ?_;simp only[zT,reduceIte,Nat.reduceEqDiff];refine hK8 _ _ ?_;refine gwp_prune [2,3,4,5,11,15] (Or.inr (by simp)) ?_;simp only[zP,Nat.reduceEqDiff,reduceIte];refine gwp_seq_k fun K9 hK9=>?_;refine gwp_block ?_;refine gS fun K hK=>?_;simp -dsimp;refine callK_mat1 hmt (by simp) ?_;simp -dsimp;apply hK;clear hK K;refine gS fun K hK=>?_;simp -dsimp;apply hK;clear hK K;refine gwp_seq_k fun K10 hK10=>?_;refine gS fun K hK=>?_;simp -dsimp;apply hK;clear hK K;refine gwp_block ?_;refine gwp_prune [2,3,4,5,11,15,16,17,18] (Or.inr (by simp)) ?_;simp only[zP,Nat.reduceEqDiff,reduceIte];refine gwp_loop_l [2,3,4,5,11,15,16] (α:=Nat) (fun k=>[(17, .row 3 0 k),(18,I k)]) (fun k=>[some (.els 4 [g.cells]),some (.els 2 [s.cells]),some (.els 1 (outs 4 p.length p.length)),some (.els 1 (((rgt us p).take k).map nCell))]++mrows (Lf (onW g.Wires s.Wires) p) p.length p.length) (fun k=>k≤p.length) (fun k=>p.length-k) 0 ?_ ?_ ?_
      ·exact Nat.zero_le _
      ·have hout:∀i,i<p.length→some (i+3)∉ [some 0,some 1,some 2,some (p.length+3)]:=fun i hi=>by simp;omega
       have hro:=ren_outs (g:=some 0::some 1::some 2::some (p.length+3)::(List.range p.length).map fun i=>some (i+3)) (c:=3) (c':=4) (m:=p.length) (n:=p.length) (fun i hi=>newName_cat (gf:=[some 0,some 1,some 2,some (p.length+3)]) hi (hout i hi));refine gsub ((sub_nil 17 1 (by simp)).trans (sub_cat (F':=[some (.els 4 [g.cells]),some (.els 2 [s.cells]),some (.els 1 (outs 4 p.length p.length)),some (.els 1 (((rgt us p).take 0).map nCell))]) [some 0,some 1,some 2,some (p.length+3)] (Lf (onW g.Wires s.Wires) p) p.length p.length 3 (by simp[nodupB]) hout ?_ (by simp) ?_)) (by simp)
       ·intro i hi;show hget (mrows _ p.length p.length++_) i=_;rw[hget_mrows hi]
       ·simp[hro]
      rintro k k1;simp only[zP,Nat.reduceEqDiff,reduceIte];refine gwp_seq_k fun K11 hK11=>?_;refine gS fun K hK=>?_;simp -dsimp [hpl];apply hK;clear hK K;refine gwp_cond rfl (fun hc5=>?_) (fun hc5=>?_)
      ·have hkn:k<p.length:=by simpa [hpl]using hc5
       obtain⟨x,hx⟩:∃x,p[k]?=some x:=⟨_,List.getElem?_eq_getElem (by omega)⟩;have gx:=upN_get hx;have gc:=hcu x (List.mem_of_getElem? hx);have wk:=zW k (by omega);have hrl:min k (rgt us p).length=k:=by simp only[rgt,List.length_map];omega
       have gr:(rgt us p)[k]?=some (-igt us x):=by simp[rgt,hx]
       have f2:Fits (k+1) 9:=fits_of (by omega) (by omega);refine gwp_skip ?_;simp only[zT,reduceIte,Nat.reduceEqDiff];refine hK11 _ _ ?_;refine gwp_prune [2,3,4,5,11,15,16,17,18] (Or.inr (by simp)) ?_;simp only[zP,Nat.reduceEqDiff,reduceIte];refine gwp_seq_k fun K12 hK12=>?_;refine gwp_block ?_;refine gR fun K hK=>?_;simp -dsimp [gx,gc,wneg,f2,hrl,Nat.add_assoc];apply hK;clear hK K;simp only[zT,reduceIte,Nat.reduceEqDiff];refine hK12 _ _ ?_;refine gwp_prune [2,3,4,5,11,15,16,17,18] (Or.inr (by simp)) ?_;simp only[zP,Nat.reduceEqDiff,reduceIte];refine gR fun K hK=>?_;simp -dsimp [wk];apply hK;clear hK K;simp only[zT,reduceIte,Nat.reduceEqDiff];have hout:∀i,i<p.length→some (i+4)∉ [some 0,some 1,some 2,some (p.length+4)]:=fun i hi=>by simp;omega
       have hro:=ren_outs (g:=some 0::some 1::some 2::some (p.length+4)::(List.range p.length).map fun i=>some (i+4)) (c:=4) (c':=4) (m:=p.length) (n:=p.length) (fun i hi=>newName_cat (gf:=[some 0,some 1,some 2,some (p.length+4)]) hi (hout i hi));refine⟨k+1,by omega,by omega,gsub (sub_cat (F':=[some (.els 4 [g.cells]),some (.els 2 [s.cells]),some (.els 1 (outs 4 p.length p.length)),some (.els 1 (((rgt us p).take (k+1)).map nCell))]) [some 0,some 1,some 2,some (p.length+4)] (Lf (onW g.Wires s.Wires) p) p.length p.length 4 (by simp[nodupB]) hout ?_ (by simp) ?_) (by simp)⟩
       ·intro i hi;show hget (mrows _ p.length p.length++_) i=_;rw[hget_mrows hi]
       ·simp[hro,List.take_add_one,gr]
      ·have hkn:k=p.length:=by have hx:¬k<p.length:=(by simpa [hpl]using hc5);omega
       have hrt:List.take k ((rgt us p).map nCell)=(rgt us p).map nCell:=List.take_of_length_le (by simp[rgt];omega);rw[hrt,hkn];refine gwp_exit ?_;simp only[zT,reduceIte,Nat.reduceEqDiff];refine hK10 _ _ ?_;refine gwp_prune [2,3,4,5,11,15,16,17] (Or.inr (by simp)) ?_;simp only[zP,Nat.reduceEqDiff,reduceIte];refine gwp_seq_k fun K13 hK13=>?_;refine gS fun K hK=>?_;simp -dsimp;apply hK;clear hK K;refine gwp_block ?_;refine gwp_prune [2,3,4,5,11,15,16,17,19] (Or.inr (by simp)) ?_;simp only[zP,Nat.reduceEqDiff,reduceIte];refine gwp_loop_l [2,3,4,5,11,15,16,17] (α:=Nat) (fun t=>[(19,I t)]) (fun t=>[some (.els 4 [g.cells]),some (.els 2 [s.cells]),some (.els 1 (outs 4 p.length p.length)),some (.els 1 ((RfL g (onW g.Wires s.Wires) us p fs t a).map nCell))]++mrows (Af g (onW g.Wires s.Wires) us p fs t a) p.length p.length) (fun t=>t≤fs.length) (fun t=>fs.length-t) 0 ?_ ?_ ?_
       ·exact Nat.zero_le _
       ·rw[Af_zero,Rf_zero];exact gsub (sub_same (by simp)) (by simp)
       rintro t t1;simp only[zP,Nat.reduceEqDiff,reduceIte];refine gwp_seq_k fun K14 hK14=>?_;refine gS fun K hK=>?_;simp -dsimp [Nat.add_assoc];apply hK;clear hK K;refine gwp_cond rfl (fun hc6=>?_) (fun hc6=>?_)
       ·have htl:t<fs.length:=by simpa using hc6
        have wt:=zW t (by omega);have hbit:bits .and .i64 ((a:Int)/2^t) 1=if a.testBit t then 1 else 0:=by have:=shr_bit a t (by omega);rwa [Int.toNat_natCast]at this
        have ht64:t≤IntKind.i64.bits:=Nat.le_trans (show t≤12 by omega) (by decide);refine gwp_skip ?_;simp only[zT,reduceIte,Nat.reduceEqDiff];refine hK14 _ _ ?_;refine gwp_prune [2,3,4,5,11,15,16,17,19] (Or.inr (by simp)) ?_;simp only[zP,Nat.reduceEqDiff,reduceIte];refine gwp_seq_k fun K15 hK15=>?_;refine gwp_block ?_;refine gwp_sd mixed rfl (by decide) rfl rfl fun K hK=>?_;simp -dsimp [(hfa t htl).1,(hfa t htl).2.1,(hfa t htl).2.2.2.1,Nat.add_assoc];refine hK _ _ _ (by exact draw_pairs [(0,2),(1,2),(0,3),(1,3),(2,3),(0,4),(1,4),(0,5),(1,5),(0,8),(1,8),(2,8),(3,8),(4,8),(5,8),(6,8),(7,8)] (by decide+kernel) (by decide+kernel) (by simp[confl]<;>omega)) ?_;clear hK K;refine gS fun K hK=>?_;simp -dsimp [hbit,ht64];apply hK;clear hK K;refine gwp_cond rfl (fun hc7=>?_) (fun hc7=>?_)
        ·have hbt:a.testBit t=true:=by cases h:a.testBit t with|true=>rfl|false=>rw[h]at hc7;simp at hc7
         obtain⟨k,hk⟩:∃k,k=p.idxOf (fdI g (at0 fs t)).At.toNat:=⟨_,rfl⟩;have hkl:k<p.length:=by rw[hk];exact hpi t htl
         have hkl1:k≤p.length+1:=by omega
         have hkg:p[k]?=some (fdI g (at0 fs t)).At.toNat:=by rw[hk];exact idxOf_get (hfa t htl).2.2.2.2.2.1
         have hat:p.getD k 0=(fdOf g fs t).At.toNat:=by rw[getD_get hkl]at hkg;exact Option.some.inj hkg
         have hAe:=Af_on g (onW g.Wires s.Wires) us p fs hpt.nd hbt hkl hat;have hRe:=Rf_on g (onW g.Wires s.Wires) us p fs hpt.nd hbt hkl hat;have hfdo:fdOf g fs t=fdI g (at0 fs t):=rfl;rw[hfdo]at hAe hRe;have hab:(Af g (onW g.Wires s.Wires) us p fs t a k k).natAbs≤400:=by
          have hb1:=at_bd (P:=Pt g (onW g.Wires s.Wires) us p fs t) (S:=bitS a) (c:=(Pt g (onW g.Wires s.Wires) us p fs t).s) (C:=4) (i:=p.getD k 0) (by omega) (fun b hb=>by
           have:=hfa b (by have:=List.mem_range.1 hb;omega);show 0≤(fdI g (at0 fs b)).Siem∧(fdI g (at0 fs b)).Siem≤4;omega)
          have hb2:(Pt g (onW g.Wires s.Wires) us p fs t).fs.length=t:=List.length_range;rw[hb2]at hb1;have hb3:(lw (onW g.Wires s.Wires) (p.getD k 0) (p.getD k 0)).natAbs≤320:=Nat.le_trans (lw_abs fun x hx=>by
           obtain⟨w',hw',e⟩:=onW_mem hx;have:=hnt.wires w' hw';simp only[wrB,Bool.and_eq_true,inr_iff]at this;rw[e];simp only;omega) (by have:=onW_len g.Wires s.Wires;omega)
          unfold Af Part.A;rw[if_pos rfl];show(lw _ _ _+_).natAbs≤400;omega
         have hrb:(Rf g (onW g.Wires s.Wires) us p fs t a k).natAbs≤50000:=by
          have hb1:=at_bd (P:=Pt g (onW g.Wires s.Wires) us p fs t) (S:=bitS a) (c:=fun b=>(Pt g (onW g.Wires s.Wires) us p fs t).s b*(Pt g (onW g.Wires s.Wires) us p fs t).V b) (C:=4000) (i:=p.getD k 0) (by omega) (fun b hb=>by
           have h:=hfa b (by have:=List.mem_range.1 hb;omega);show 0≤(fdI g (at0 fs b)).Siem*(fdI g (at0 fs b)).Volts∧(fdI g (at0 fs b)).Siem*(fdI g (at0 fs b)).Volts≤4000;exact⟨Int.mul_nonneg (by omega) (by omega),Int.mul_le_mul h.2.2.2.2.2.2.2.2.2 h.2.2.2.2.2.2.2.1 (by omega) (by omega)⟩)
          have hb2:(Pt g (onW g.Wires s.Wires) us p fs t).fs.length=t:=List.length_range;rw[hb2]at hb1;have hb3:=hus (p.getD k 0);unfold Rf Part.b;show(-igt us _+_).natAbs≤50000;omega
         have hsv:0≤(fdI g (at0 fs t)).Siem*(fdI g (at0 fs t)).Volts∧(fdI g (at0 fs t)).Siem*(fdI g (at0 fs t)).Volts≤4000:=by
          have h:=hfa t htl;exact⟨Int.mul_nonneg (by omega) (by omega),Int.mul_le_mul h.2.2.2.2.2.2.2.2.2 h.2.2.2.2.2.2.2.1 (by omega) (by omega)⟩
         have w1:IntKind.i64.wrap (Af g (onW g.Wires s.Wires) us p fs t a k k+(fdI g (at0 fs t)).Siem)=Af g (onW g.Wires s.Wires) us p fs t a k k+(fdI g (at0 fs t)).Siem:=wrap_in (by have:=hfa t htl;omega) (by have:=hfa t htl;omega);have w2:IntKind.i64.wrap ((fdI g (at0 fs t)).Siem*(fdI g (at0 fs t)).Volts)=(fdI g (at0 fs t)).Siem*(fdI g (at0 fs t)).Volts:=wrap_in (by omega) (by omega);have w3:IntKind.i64.wrap (Rf g (onW g.Wires s.Wires) us p fs t a k+(fdI g (at0 fs t)).Siem*(fdI g (at0 fs t)).Volts)=Rf g (onW g.Wires s.Wires) us p fs t a k+(fdI g (at0 fs t)).Siem*(fdI g (at0 fs t)).Volts:=wrap_in (by omega) (by omega);have grk:=RfL_get g (onW g.Wires s.Wires) us p fs (t:=t) (a:=a) hkl;have hwk:=hix t htl;rw[←hk]at hwk;generalize Af g (onW g.Wires s.Wires) us p fs t a=f at w1 hAe ⊢;generalize Rf g (onW g.Wires s.Wires) us p fs t a k=rk at w3 grk hRe;generalize RfL g (onW g.Wires s.Wires) us p fs t a=rl at grk hRe ⊢;refine gS fun K hK=>?_;simp -dsimp [Nat.add_assoc];refine callK_intro _ (hwk) (by simp) ?_;simp -dsimp [Nat.add_assoc];apply hK;clear hK K;refine gwp_sd mixed rfl (by decide) rfl rfl fun K hK=>?_;simp -dsimp [hkl1,Nat.add_assoc,outs_get hkl,hkl,hget_mrows hkl,mrow,mrow_get hkl,hset_mrows hkl,w1];refine hK _ _ _ (by exact draw_pairs [(0,1),(0,4),(1,4),(2,4),(3,4),(0,5),(1,5),(2,5),(3,5),(4,5),(0,6),(1,6),(2,6),(3,6),(4,6),(5,6),(0,7),(1,7),(2,7),(3,7),(4,7),(0,8),(1,8),(2,8),(3,8),(4,8),(0,9),(1,9),(2,9),(3,9),(4,9),(5,9),(6,9),(7,9),(8,9),(0,10),(1,10),(2,10),(3,10),(4,10),(0,11),(1,11),(2,11),(3,11),(4,11),(0,12),(1,12),(2,12),(3,12),(4,12),(5,12),(6,12),(7,12),(8,12),(9,12),(10,12),(11,12),(0,13),(1,13),(2,13),(3,13),(4,13),(5,13),(6,13),(7,13),(8,13),(9,13),(10,13),(11,13),(0,14),(1,14),(2,14),(3,14),(4,14)] (by decide+kernel) (by decide+kernel) (by simp[confl]<;>omega)) ?_;clear hK K;refine gwp_draw mixed rfl (by decide) rfl rfl fun K hK=>?_;simp -dsimp [hkl1,Nat.add_assoc,grk,hkl,w2,w3];refine hK _ _ _ (by exact draw_pairs [(0,1),(0,2),(1,2),(0,3),(1,3),(2,3),(0,4),(1,4),(0,5),(1,5),(0,6),(1,6),(2,6),(3,6),(4,6),(5,6),(0,7),(1,7),(2,7),(3,7),(4,7),(5,7),(0,8),(1,8),(2,8),(3,8),(4,8),(5,8),(6,8),(7,8),(0,9),(1,9),(2,9),(3,9),(4,9),(5,9),(6,9),(7,9),(0,10),(1,10),(2,10),(3,10),(4,10),(5,10),(0,11),(1,11)] (by decide+kernel) (by decide+kernel) (by simp[confl]<;>omega)) ?_;clear hK K;simp only[zT,reduceIte,Nat.reduceEqDiff];refine hK15 _ _ ?_;refine gwp_prune [2,3,4,5,11,15,16,17,19] (Or.inr (by simp)) ?_;simp only[zP,Nat.reduceEqDiff,reduceIte];refine gR fun K hK=>?_;simp -dsimp [wt];apply hK;clear hK K;simp only[zT,reduceIte,Nat.reduceEqDiff];refine⟨t+1,by omega,by omega,gsub (sub_cat (F':=[some (.els 4 [g.cells]),some (.els 2 [s.cells]),some (.els 1 (outs 4 p.length p.length)),some (.els 1 ((RfL g (onW g.Wires s.Wires) us p fs (t+1) a).map nCell))]) [some 0,some 1,some 2,some 3] (Af g (onW g.Wires s.Wires) us p fs (t+1) a) p.length p.length 4 (by simp[nodupB]) (fun i hi=>by simp) ?_ (by simp) ?_) (by simp)⟩
         ·intro i hi;show hget (mrows _ p.length p.length++_) i=_;rw[hget_mrows hi];rw[←hget_mrows' (m:=p.length) hi,←hget_mrows' (m:=p.length) hi,mrows_congr hAe]
         ·have hro:=ren_outs (g:=some 0::some 1::some 2::some 3::(List.range p.length).map fun i=>some (i+4)) (c:=4) (c':=4) (m:=p.length) (n:=p.length) (fun i hi=>newName_cat (gf:=[some 0,some 1,some 2,some 3]) hi (by simp));rw[←hRe,List.map_set];simp[hro]
        ·refine gwp_skip ?_;simp only[zT,reduceIte,Nat.reduceEqDiff];refine hK15 _ _ ?_;refine gwp_prune [2,3,4,5,11,15,16,17,19] (Or.inr (by simp)) ?_;simp only[zP,Nat.reduceEqDiff,reduceIte];refine gR fun K hK=>?_;simp -dsimp [wt];apply hK;clear hK K;simp only[zT,reduceIte,Nat.reduceEqDiff];have hbt:a.testBit t=false:=by cases h:a.testBit t with|false=>rfl|true=>rw[h]at hc7;simp at hc7
         refine⟨t+1,by omega,by omega,?_⟩;rw[Af_off _ _ _ _ _ hbt,Rf_off _ _ _ _ _ hbt];refine gsub (sub_cat (F':=[some (.els 4 [g.cells]),some (.els 2 [s.cells]),some (.els 1 (outs 4 p.length p.length)),some (.els 1 ((RfL g (onW g.Wires s.Wires) us p fs t a).map nCell))]) [some 0,some 1,some 2,some 3] (Af g (onW g.Wires s.Wires) us p fs t a) p.length p.length 4 (by simp[nodupB]) (fun i hi=>by simp) ?_ (by simp) ?_) (by simp)
         ·intro i hi;show hget (mrows _ p.length p.length++_) i=_;rw[hget_mrows hi]
         ·have hro:=ren_outs (g:=some 0::some 1::some 2::some 3::(List.range p.length).map fun i=>some (i+4)) (c:=4) (c':=4) (m:=p.length) (n:=p.length) (fun i hi=>newName_cat (gf:=[some 0,some 1,some 2,some 3]) hi (by simp));simp[hro]
       ·have htl:¬t<fs.length:=by simpa using hc6
        have hte:t=fs.length:=by omega
        rw[hte];have hsol:=m_rSolution (eqM ((Pt g (onW g.Wires s.Wires) us p fs fs.length).A (bitS a)) p) (p.map ((Pt g (onW g.Wires s.Wires) us p fs fs.length).b (bitS a))) p.length (matL_sq _ _) hpt.n1 hpt.n10 (by simp);rw[eqM_sol _ _ _ hpt.nd,eqM_det,←RfL_eq]at hsol;have hd00:a=0→wr (D ((Pt g (onW g.Wires s.Wires) us p fs fs.length).A (bitS a)) p)=0:=by
         rintro rfl;have:=den_none (P:=Pt g (onW g.Wires s.Wires) us p fs fs.length) (S:=bitS 0) (Pt_ok hnt hp hfs) (by show p≠[];intro e;rw[e]at hp0;simp at hp0) (fun b hb=>by unfold bitS;simp);have e:D ((Pt g (onW g.Wires s.Wires) us p fs fs.length).A (bitS 0)) p=0:=this;rw[e];rfl
        have hfit:=fun(h:1≤a)=>hsm a h hal2;have hv0:1≤a→(p.map fun k=>wr (Cur.num ((Pt g (onW g.Wires s.Wires) us p fs fs.length).A (bitS a)) ((Pt g (onW g.Wires s.Wires) us p fs fs.length).b (bitS a)) p k))=p.map fun k=>(Pt g (onW g.Wires s.Wires) us p fs fs.length).num (bitS a) k:=fun h=>List.map_congr_left fun k _=>wr_id (by have:=(hfit h).1 k;unfold Part.num at this;show _≤Cur.num _ _ (Pt g (onW g.Wires s.Wires) us p fs fs.length).ns k;omega) (by have:=(hfit h).1 k;unfold Part.num at this;show Cur.num _ _ (Pt g (onW g.Wires s.Wires) us p fs fs.length).ns k≤_;omega);have hd0:1≤a→wr (D ((Pt g (onW g.Wires s.Wires) us p fs fs.length).A (bitS a)) p)=(Pt g (onW g.Wires s.Wires) us p fs fs.length).den (bitS a):=fun h=>wr_id (by have:=(hfit h).2.1;unfold Part.den at this;show _≤D _ (Pt g (onW g.Wires s.Wires) us p fs fs.length).ns;omega) (by have:=(hfit h).2.2;unfold Part.den at this;show D _ (Pt g (onW g.Wires s.Wires) us p fs fs.length).ns≤_;omega);obtain⟨nlw,hnlw⟩:∃l,l=p.map fun k=>wr (Cur.num ((Pt g (onW g.Wires s.Wires) us p fs fs.length).A (bitS a)) ((Pt g (onW g.Wires s.Wires) us p fs fs.length).b (bitS a)) p k):=⟨_,rfl⟩;obtain⟨dw,hdw⟩:∃x,x=wr (D ((Pt g (onW g.Wires s.Wires) us p fs fs.length).A (bitS a)) p):=⟨_,rfl⟩;rw[←hnlw,←hdw]at hsol;rw[←hdw]at hd00 hd0;rw[←hnlw]at hv0;obtain⟨M,hM⟩:∃M,M=eqM ((Pt g (onW g.Wires s.Wires) us p fs fs.length).A (bitS a)) p:=⟨_,rfl⟩;rw[←hM]at hsol;refine gwp_exit ?_;simp only[zT,reduceIte,Nat.reduceEqDiff];refine hK13 _ _ ?_;refine gwp_prune [2,3,4,5,11,15,16,17] (Or.inr (by simp)) ?_;simp only[zP,Nat.reduceEqDiff,reduceIte];refine gwp_weak (gsub (sub_rf (T':=[(2,iL (upN p)),(3,iL cu),(4, .ptr 0 0 0),(5, .ptr 1 0 0),(11,iL fs),(15,I a),(16,mL M),(17,iL (RfL g (onW g.Wires s.Wires) us p fs fs.length a))]) (H':=[some (.els 4 [g.cells]),some (.els 2 [s.cells])]) [some 0,some 1] rfl ⟨.inr (by simp), .inr (by simp), .inr (by simp), .inr (by simp), .inr (by simp), .inr (by simp), .inr ?_, .inr ?_,trivial⟩ (by simp)) (by simp)) ?_
        ·rw[hM];exact A_rows _ _ _ _ hpt.n1
        ·exact b_frz _ _ _ _ _ (RfL_len _ _ _ _ _ _ _) hpt.n1
        ·refine gS fun K hK=>?_;simp -dsimp;refine callK_mut [] [] [none,none,some 0] (hsol) (by decide) rfl (by simp) (by simp) rfl (by simp) ?_;simp -dsimp;apply hK;clear hK K;refine gwp_seq_k fun K16 hK16=>?_;refine gS fun K hK=>?_;simp -dsimp;apply hK;clear hK K;refine gwp_cond rfl (fun hc8=>?_) (fun hc8=>?_)
         ·refine gwp_exit ?_;simp only[zT,reduceIte,Nat.reduceEqDiff];refine hK9 _ _ ?_;refine gwp_prune [2,3,4,5,11,15] (Or.inr (by simp)) ?_;simp only[zP,Nat.reduceEqDiff,reduceIte];refine gR fun K hK=>?_;simp -dsimp [wa];apply hK;clear hK K;simp only[zT,reduceIte,Nat.reduceEqDiff];have hdw0:dw≤0:=by simpa using hc8
          have ha0:a=0:=by
           refine Decidable.byContradiction fun h=>?_;have h1:=hd0 (by omega);have h2:=(hfit (by omega)).2.1;omega
          exact⟨a+1,by omega,by omega,gsub (sub_rb [some 0,some 1] rfl (by simp) (by simp)) (by simp)⟩
         ·have hdw0:0<dw:=by have:=(by simpa using hc8:¬dw≤0);omega
          have ha0:1≤a:=by
           refine Nat.pos_of_ne_zero fun h=>?_;have:=hd00 h;omega
          have hv1:=hv0 ha0;have hd1:=hd0 ha0;obtain⟨z1,z2,z3⟩:=hfit ha0;have hfit:=show fitR (Pt g (onW g.Wires s.Wires) us p fs fs.length) fs.length a=(List.range fs.length).all (fitCR (Pt g (onW g.Wires s.Wires) us p fs fs.length).V (Pt g (onW g.Wires s.Wires) us p fs fs.length).p ((Pt g (onW g.Wires s.Wires) us p fs fs.length).num (bitS a)) ((Pt g (onW g.Wires s.Wires) us p fs fs.length).den (bitS a)) a)from rfl;have hzl:∀k x,p[k]?=some x→nlw[k]?=some ((Pt g (onW g.Wires s.Wires) us p fs fs.length).num (bitS a) x):=fun k x h=>by rw[hv1,List.getElem?_map,h];rfl
          have hnle:∀a',a'=a→(p.map fun k=>(Pt g (onW g.Wires s.Wires) us p fs fs.length).num (bitS a') k)=nlw∧(Pt g (onW g.Wires s.Wires) us p fs fs.length).den (bitS a')=dw:=by rintro a' rfl;exact⟨hv1.symm,hd1.symm⟩
          have hnll:nlw.length=p.length:=by rw[hv1];simp
          rw[←hd1]at z3 hfit;obtain⟨nu,hnu⟩:∃nu,nu=(Pt g (onW g.Wires s.Wires) us p fs fs.length).num (bitS a):=⟨_,rfl⟩;rw[←hnu]at z1 hzl hfit;have hVe:(Pt g (onW g.Wires s.Wires) us p fs fs.length).V=fun(b:Nat)=>(fdI g (at0 fs b)).Volts:=rfl;have hpe:(Pt g (onW g.Wires s.Wires) us p fs fs.length).p=fun(b:Nat)=>(fdI g (at0 fs b)).At.toNat:=rfl;rw[hVe,hpe]at hfit;clear hnu hVe hpe hv1 hd1 hnlw hdw hv0 hd0 hd00;refine gwp_skip ?_;simp only[zT,reduceIte,Nat.reduceEqDiff];refine hK16 _ _ ?_;refine gwp_prune [2,3,4,5,11,15,22,23] (Or.inr (by simp)) ?_;simp only[zP,Nat.reduceEqDiff,reduceIte];refine gS fun K hK=>?_;simp -dsimp;apply hK;clear hK K;refine gwp_seq_k fun K17 hK17=>?_;refine gS fun K hK=>?_;simp -dsimp;apply hK;clear hK K;refine gwp_block ?_;refine gwp_prune [2,3,4,5,11,15,22,23,24,25] (Or.inr (by simp)) ?_;simp only[zP,Nat.reduceEqDiff,reduceIte];refine gwp_loop_l [2,3,4,5,11,15,22,23] (α:=Nat) (fun b=>[(24,Bo ((List.range b).all (fitCR (fun(b:Nat)=>(fdI g (at0 fs b)).Volts) (fun(b:Nat)=>(fdI g (at0 fs b)).At.toNat) nu dw a))),(25,I b)]) (fun b=>[some (.els 4 [g.cells]),some (.els 2 [s.cells]),some (.els 1 (nlw.map nCell))]) (fun b=>b≤fs.length) (fun b=>fs.length-b) 0 ?_ ?_ ?_
          ·exact Nat.zero_le _
          ·exact gsub (sub_rb [some 0,some 1,some 2] rfl (by simp) (by simp)) (by simp)
          rintro b b1;simp only[zP,Nat.reduceEqDiff,reduceIte];refine gwp_seq_k fun K18 hK18=>?_;refine gS fun K hK=>?_;simp -dsimp;apply hK;clear hK K;refine gwp_cond rfl (fun hc9=>?_) (fun hc9=>?_)
          ·have hbl:b<fs.length:=by simpa using hc9
           have wb:=zW b (by omega);have hbit:bits .and .i64 ((a:Int)/2^b) 1=if a.testBit b then 1 else 0:=by have:=shr_bit a b (by omega);rwa [Int.toNat_natCast]at this
           have hb64:b≤IntKind.i64.bits:=Nat.le_trans (show b≤12 by omega) (by decide);have hvd:-100000000000000000≤(fdI g (at0 fs b)).Volts*dw∧(fdI g (at0 fs b)).Volts*dw≤100000000000000000:=by
            have h:=hfa b hbl;have h1:=Int.mul_nonneg (show 0≤(fdI g (at0 fs b)).Volts by omega) (show 0≤dw by omega);have h2:=Int.mul_le_mul h.2.2.2.2.2.2.2.1 z3 (by omega) (by omega);omega
           have w1:IntKind.i64.wrap ((fdI g (at0 fs b)).Volts*dw)=(fdI g (at0 fs b)).Volts*dw:=wrap_in (by omega) (by omega);have hzp:=hzl _ _ (idxOf_get (hfa b hbl).2.2.2.2.2.1);have hif:((if a.testBit b=true then(1:Int)else 0)==1)=a.testBit b:=by cases a.testBit b<;>rfl
           refine gwp_skip ?_;simp only[zT,reduceIte,Nat.reduceEqDiff];refine hK18 _ _ ?_;refine gwp_prune [2,3,4,5,11,15,22,23,24,25] (Or.inr (by simp)) ?_;simp only[zP,Nat.reduceEqDiff,reduceIte];refine gwp_seq_k fun K19 hK19=>?_;refine gwp_block ?_;refine gwp_sd mixed rfl (by decide) rfl rfl fun K hK=>?_;simp -dsimp [(hfa b hbl).1,(hfa b hbl).2.1,(hfa b hbl).2.2.2.1];refine hK _ _ _ (by decide+kernel) ?_;clear hK K;refine gwp_draw mixed rfl (by decide) rfl rfl fun K hK=>?_;simp -dsimp [hbit,hb64,w1,hzp,hpi b hbl,hif];refine callK_may _ (fun hm=>hix b hbl) (by simp) ?_;simp -dsimp [hbit,hb64,w1,hzp,hpi b hbl,hif];refine⟨fun w=>(eq_bool _ _ _ _ _ w und_bool kt_bool).1,_,fun w=>(eq_bool _ (.tmp 0) (.tmp 0) _ _ w und_bool kt_bool).2,?_⟩;simp -dsimp;refine hK _ _ _ (by decide+kernel) ?_;clear hK K;simp only[zT,reduceIte,Nat.reduceEqDiff];refine hK19 _ _ ?_;refine gwp_prune [2,3,4,5,11,15,22,23,24,25] (Or.inr (by simp)) ?_;simp only[zP,Nat.reduceEqDiff,reduceIte];refine gR fun K hK=>?_;simp -dsimp [wb];apply hK;clear hK K;simp only[zT,reduceIte,Nat.reduceEqDiff];refine⟨b+1,by omega,by omega,gsub (sub_rb [some 0,some 1,some 2] rfl ?_ (by simp)) (by simp)⟩;rw[all_succ];generalize (List.range b).all (fitCR (fun(b:Nat)=>(fdI g (at0 fs b)).Volts) (fun(b:Nat)=>(fdI g (at0 fs b)).At.toNat) nu dw a)=q;unfold fitCR
           cases q<;>simp
          ·have hbl:¬b<fs.length:=by simpa using hc9
           have hbe:b=fs.length:=by omega
           rw[hbe,←hfit];refine gwp_exit ?_;simp only[zT,reduceIte,Nat.reduceEqDiff];refine hK17 _ _ ?_;refine gwp_prune [2,3,4,5,11,15,22,23,24] (Or.inr (by simp)) ?_;simp only[zP,Nat.reduceEqDiff,reduceIte];refine gS fun K hK=>?_;simp -dsimp;apply hK;clear hK K;refine gwp_cond rfl (fun hc10=>?_) (fun hc10=>?_)
           ·refine gS fun K hK=>?_;simp -dsimp;apply hK;clear hK K;have hae:a0=a:=by
             rcases Nat.lt_or_ge a a0 with h|h
             ·have:=hal a (by omega) h;rw[this]at hc10;cases hc10
             ·omega
            obtain⟨g1,g2⟩:=hnle a0 hae;have htk:List.take p.length (nlw.map nCell)=nlw.map nCell:=List.take_of_length_le (by simp;omega);exact gwp_ret (by simp[e1,e2,e3,g1,g2,hnll,htk,resP,tupOf])
           ·refine gwp_skip ?_;simp only[zT,reduceIte,Nat.reduceEqDiff];refine hK9 _ _ ?_;refine gwp_prune [2,3,4,5,11,15] (Or.inr (by simp)) ?_;simp only[zP,Nat.reduceEqDiff,reduceIte];refine gR fun K hK=>?_;simp -dsimp [wa];apply hK;clear hK K;simp only[zT,reduceIte,Nat.reduceEqDiff];have hae:a0≠a:=by
             rintro rfl;rw[haf]at hc10;cases hc10
            exact⟨a+1,by omega,by omega,gsub (sub_rb [some 0,some 1] rfl (by simp) (by simp)) (by simp)⟩
     ·exfalso;have h:((a:Nat):Int)<2^fs.length:=by have:=Int.ofNat_lt.2 (show a<2^fs.length by omega);rwa [Int.natCast_pow]at this
      exact absurd h (of_decide_eq_false hc4)
end Go.Cur
end
section
namespace Go.Cur
open Go.AM Go.Proofs
def exG (lim:Int):Gr:=⟨3,[⟨0,1,2,false⟩,⟨1,2,1,true⟩],[⟨0,600,2,lim⟩,⟨2,600,1,30⟩],500⟩
def exS (b:Bool):Sta:=⟨[true,true],[true,b]⟩
def exL:List Ld:=[⟨1,40,0⟩]
theorem ex_fine:fineB (exG 100) (exS false) exL=true∧fineB (exG 100) (exS true) exL=true∧fineB (exG 39) (exS false) exL=true∧fineB (exG 39) (exS true) exL=true:=by decide+kernel
theorem ex_long (lim:Int) (b:Bool):longB (exG lim) (exS b)=false:=by
 show longB (exG 0) (exS b)=false
 cases b<;>decide+kernel
theorem ex_len (lim:Int) (b:Bool) (fe:List Bool):∀p∈partL (exG lim) ⟨fe,[true,b]⟩,p.length≤5:=by
 show∀p∈partL (exG 0) ⟨[],[true,b]⟩,p.length≤5
 cases b<;>decide+kernel
theorem ex_v1:okS (exG 100) (exS false) (tkK exL (allS exL))=true∧vlA 3 (vfS (exG 100) (exS false) (tkK exL (allS exL)))=[⟨580,1⟩,⟨560,1⟩,⟨600,1⟩]∧flA (exG 100) (exS false) (vfS (exG 100) (exS false) (tkK exL (allS exL)))=[⟨40,1⟩,⟨0,1⟩]:=by decide+kernel
theorem ex_v2:okS (exG 100) (exS true) (tkK exL (allS exL))=true∧vlA 3 (vfS (exG 100) (exS true) (tkK exL (allS exL)))=[⟨1760,3⟩,⟨1720,3⟩,⟨1760,3⟩]:=by decide+kernel
theorem ex_z1:settleS (exG 39) [true,false] exL [true,true]=⟨[false],[false,true],[⟨4,0,⟨40,1⟩⟩,⟨1,0,⟨0,1⟩⟩]⟩:=by decide+kernel
theorem ex_off:offL [true,false] 2=[1]:=by decide+kernel
def exR (c:List Int):Bool:=rlB (exG 39) (exS false) c exL
theorem ex_rel:relF exR [1]=(true,some [1]):=by decide+kernel
end Go.Cur
end
section
namespace Go.Cur
open Go.AM Go.Proofs
def fewB (g:Gr) (s:Sta) (n:Nat):Bool:=decide (g.Wires.length≤100)&&(decide (g.Feeds.length≤20)&&(decide (s.Feeds.length≤20)&&(decide (s.Wires.length≤100)&&(decide (n≤50)&&(decide (g.Nodes≤12)||decide (40<g.Nodes))))))
theorem c_few (g:Gr) (s:Sta) (l:List Ld):PureCall Try.prog 14 [g.av,s.av,lL l] (Bo (fewB g s l.length)):=by
 refine PureCall.of_body Try.func14 rfl (by decide) (by simp[Try.ntmps14]) ?_;simp only[Try.ntmps14,Try.results14];refine aS fun K hK=>?_;simp -dsimp;apply hK;clear hK K;refine aS fun K hK=>?_;simp -dsimp;apply hK;clear hK K;have e:∀n m:Nat,decide ((n:Int)≤m)=decide (n≤m):=fun n m=>decide_eq_decide.2 (by omega);exact awp_ret (by simp[fewB,←e,Bool.and_assoc])
theorem small_long (g:Gr) (s:Sta):smallB (partL g s)= !longB g s:=by
 unfold smallB longB;rw[List.not_any_eq_all_not]
 congr 1
 funext p
 by_cases h:p.length≤10
 ·simp[h]
 ·simp[h];omega
def refE (g:Gr) (s:Sta) (l:List Ld):Int:=if fineB g s l=true then(if longB g s=true then 3 else 0)else 2
theorem c_refused (g:Gr) (s:Sta) (l:List Ld) (hw0:g.Wires.length≤100000) (hf0:g.Feeds.length≤100000) (hl0:l.length≤100000):PureCall Try.prog 16 [g.av,s.av,lL l] (I (refE g s l)):=by
 have hfn:=c_rFine g s l hw0 hf0 hl0;unfold refE;refine PureCall.of_body Try.func16 rfl (by decide) (by simp[Try.ntmps16]) ?_;simp only[Try.ntmps16,Try.results16];refine aS fun K hK=>?_;simp -dsimp;apply hK;clear hK K;refine awp_seq_k fun K1 hK1=>?_;refine aS fun K hK=>?_;simp -dsimp;refine callK_intro _ (hfn) (by simp) ?_;simp -dsimp;apply hK;clear hK K;refine awp_cond rfl (fun hc0=>?_) (fun hc0=>?_)
 ·refine aS fun K hK=>?_;simp -dsimp;apply hK;clear hK K;have hf:fineB g s l=false:=by simpa using hc0
  exact awp_ret (by simp[hf])
 ·have hf:fineB g s l=true:=by simpa using hc0
  have hnt:=fine_net hf;have hbd:=grB_bd hnt.gr;have hpl:=partL_len g s;have hsm:=c_rSmall (partL g s) (by omega);rw[small_long]at hsm;refine awp_skip ?_;simp only[zT,reduceIte,Nat.reduceEqDiff];refine hK1 _ _ ?_;refine awp_prune [3,4] ?_;simp only[zP,Nat.reduceEqDiff,reduceIte];refine awp_seq_k fun K2 hK2=>?_;refine aS fun K hK=>?_;simp -dsimp;refine callK_intro _ (c_rParts g s hnt) (by simp) ?_;simp -dsimp;refine callK_intro _ (hsm) (by simp) ?_;simp -dsimp;apply hK;clear hK K;refine awp_cond rfl (fun hc1=>?_) (fun hc1=>?_)
  ·refine aS fun K hK=>?_;simp -dsimp;apply hK;clear hK K;have h:longB g s=true:=by simpa using hc1
   exact awp_ret (by simp[hf,h])
  ·refine awp_skip ?_;simp only[zT,reduceIte,Nat.reduceEqDiff];refine hK2 _ _ ?_;refine awp_prune [] ?_;simp only[zP,Nat.reduceEqDiff,reduceIte];refine aS fun K hK=>?_;simp -dsimp;apply hK;clear hK K;have h:longB g s=false:=by simpa using hc1
   exact awp_ret (by simp[hf,h])
def litP (g:Gr) (s:Sta) (p:List Nat):Bool:= !((decide (5<p.length)&&decide (p.length≤10))||decide (5<(feedL g s (upN p)).length))
def litB (g:Gr) (s:Sta):Bool:=(partL g s).all (litP g s)
theorem c_little (g:Gr) (s:Sta) (hnt:NetOk g s):PureCall Try.prog 17 [g.av,s.av] (Bo (litB g s)):=by
 have hbd:=grB_bd hnt.gr;have hpl:=partL_len g s;have hlen:∀p∈partL g s,p.length≤40:=fun p hp=>by
  obtain⟨i,hi,rfl⟩:=partL_head hp;unfold cp;have:=List.length_filter_le (fun k=>decide (nm (netE g s) g.Nodes.toNat k=i)) (List.range g.Nodes.toNat);rw[List.length_range]at this;omega
 unfold litB;have hps:=c_rParts g s hnt;generalize partL g s=ps at hpl hlen hps ⊢;refine PureCall.of_body Try.func17 rfl (by decide) (by simp[Try.ntmps17]) ?_;simp only[Try.ntmps17,Try.results17];refine aS fun K hK=>?_;simp -dsimp;apply hK;clear hK K;refine aS fun K hK=>?_;simp -dsimp;refine callK_intro _ (hps) (by simp) ?_;simp -dsimp;apply hK;clear hK K;refine awp_seq_k fun K1 hK1=>?_;refine aS fun K hK=>?_;simp -dsimp;apply hK;clear hK K;refine awp_block ?_;refine awp_prune [2,3,5,6] ?_;simp only[zP,Nat.reduceEqDiff,reduceIte];refine awp_loop_l [2,3,5] (α:=Nat) (fun k=>[(6,I k)]) (fun k=>[some (.els 4 [g.cells]),some (.els 2 [s.cells])]) (fun k=>k≤ps.length∧(ps.take k).all (litP g s)=true) (fun k=>ps.length-k) 0 ?_ ?_ ?_
 ·exact⟨Nat.zero_le _,rfl⟩
 ·exact sub_rb [some 0,some 1] rfl (by simp) (by simp)
 rintro k ⟨k1,k2⟩;simp only[zP,Nat.reduceEqDiff,reduceIte];refine awp_seq_k fun K2 hK2=>?_;refine aS fun K hK=>?_;simp -dsimp;apply hK;clear hK K;refine awp_cond rfl (fun hc0=>?_) (fun hc0=>?_)
 ·have hkl:k<ps.length:=by simpa using hc0
  have wk:=zW k (by omega);obtain⟨p,hp⟩:∃p,ps[k]?=some p:=⟨_,List.getElem?_eq_getElem hkl⟩;have hul:=upN_len p;have hp40:=hlen p (List.mem_of_getElem? hp);have hfd:=c_rFeeders g s (upN p) hnt.sf (by omega) (by omega);have hlt:litP g s p= !((decide (5<((upN p).length:Int))&&decide (((upN p).length:Int)≤10))||decide (5<((feedL g s (upN p)).length:Int))):=by
   unfold litP;rw[hul];have e1:decide (5<p.length)=decide ((5:Int)<(p.length:Int)):=decide_eq_decide.2 (by omega);have e2:decide (p.length≤10)=decide ((p.length:Int)≤10):=decide_eq_decide.2 (by omega);have e3:decide (5<(feedL g s (upN p)).length)=decide ((5:Int)<((feedL g s (upN p)).length:Int)):=decide_eq_decide.2 (by omega);rw[e1,e2,e3]
  refine awp_skip ?_;simp only[zT,reduceIte,Nat.reduceEqDiff];refine hK2 _ _ ?_;refine awp_prune [2,3,5,6] ?_;simp only[zP,Nat.reduceEqDiff,reduceIte];refine awp_seq_k fun K3 hK3=>?_;refine awp_block ?_;refine awp_sd mixed rfl fun K hK=>?_;simp -dsimp [hp,pAV];refine idxK_intro ([iL (upN p)]) (fun _=>by simp[hp,pAV]) ?_;simp -dsimp [hp,pAV];refine idxK_intro ([iL (upN p)]) (fun _=>by simp[hp,pAV]) ?_;simp -dsimp [hp,pAV];refine callK_may _ (fun hm=>hfd) (by simp) ?_;simp -dsimp [hp,pAV];refine hK _ _ _ (by decide+kernel) ?_;clear hK K;refine awp_cond rfl (fun hc1=>?_) (fun hc1=>?_)
  ·refine aS fun K hK=>?_;simp -dsimp;apply hK;clear hK K;have hf:litP g s p=false:=by rw[hlt,hc1];rfl
   have hall:ps.all (litP g s)=false:=by rw[List.all_eq_false];exact⟨p,List.mem_of_getElem? hp,by simp[hf]⟩
   exact awp_ret (by simp[hall])
  ·refine awp_skip ?_;simp only[zT,reduceIte,Nat.reduceEqDiff];refine hK3 _ _ ?_;refine awp_prune [2,3,5,6] ?_;simp only[zP,Nat.reduceEqDiff,reduceIte];refine aR fun K hK=>?_;simp -dsimp [wk];apply hK;clear hK K;simp only[zT,reduceIte,Nat.reduceEqDiff];have ht:litP g s p=true:=by rw[hlt,hc1];rfl
   exact⟨k+1,⟨by omega,by rw[List.take_add_one,hp,List.all_append,k2];simp[ht]⟩,by omega,sub_rb [some 0,some 1] rfl (by simp) (by simp)⟩
 ·have hke:¬k<ps.length:=by simpa using hc0
  rw[List.take_of_length_le (by omega)]at k2;refine awp_exit ?_;simp only[zT,reduceIte,Nat.reduceEqDiff];refine hK1 _ _ ?_;refine awp_prune [] ?_;simp only[zP,Nat.reduceEqDiff,reduceIte];refine aS fun K hK=>?_;simp -dsimp;apply hK;clear hK K;exact awp_ret (by simp[k2])
theorem ex_set (c:List Int) (hc:∀x∈c,x∈[(1:Int)]):SetOk (exG 39) (onAll [true,false] c) exL:=by
 have e:onAll [true,false] c=[true,false]∨onAll [true,false] c=[true,true]:=by
  have gen:∀(c:List Int) (b:Bool),(∀x∈c,x∈[(1:Int)])→onAll [true,b] c=[true,false]∨onAll [true,b] c=[true,true]:=by
   intro c
   induction c with
   |nil=>intro b _;cases b<;>simp[onAll]
   |cons x c ih=>
    intro b h;have hx:x=1:=by simpa using h x (by simp)
    have:=ih true fun y hy=>h y (by simp[hy]);unfold onAll at this ⊢;rw[List.foldl_cons,hx];exact this
  exact gen c false hc
 have ld:=fine_ld ex_fine.2.2.1;have h1:∀b,SetOk (exG 39) [true,b] exL:=fun b=>⟨by decide+kernel,rfl,ld,by decide,ex_len 39 b []⟩
 rcases e with e|e<;>rw[e]<;>exact h1 _
theorem c_ex3:∃vs fs,PureCall Try.prog 27 [(exG 39).av,(exS false).av,lL exL] (.tup [.agg [fL vs,fL fs,bL [false,true],bL [true,false],bL [false],cL [⟨4,0,⟨40,1⟩⟩,⟨1,0,⟨0,1⟩⟩]],I 0]):=
 ⟨_,_,c_Settle_ta (exG 39) (exS false) exL ex_fine.2.2.1 (ex_long 39 false) (ex_set [] (by simp)) (by simp[exS]) _ ex_z1⟩
theorem c_ex4:PureCall Try.prog 35 [(exG 39).av,(exS false).av,lL exL] (.tup [iL [1],I 0]):=by
 refine c_Relief_t (exG 39) (exS false) exL (by decide) ex_fine.2.2.1 [1] ex_off.symm exR (fun _ c hc hcl=>?_) _ (fun h=>by simp at h) (fun _ _=>by rw[ex_rel];rfl) (fun _ h=>by rw[ex_rel]at h;cases h);exact c_rel (exG 39) (exS false) c exL (fine_net ex_fine.2.2.1) (fun w hw=>by have:=hc w hw;simp at this;subst this;decide) (ex_set c hc) (by omega)
abbrev exW:AV:= .lst 4 [[I 0,I 1,I 2,Bo false],[I 1,I 2,I 1,Bo true]]
abbrev exSA:List AV:=[.lst 1 [[Bo true],[Bo true]], .lst 1 [[Bo true],[Bo false]]]
abbrev exF (lim:Int):Option ARow:=some (.els 4 [[I 0,I 600,I 2,I lim],[I 2,I 600,I 1,I 30]])
abbrev exLA:AV:= .lst 3 [[I 1,I 40,I 0]]
theorem m_Example:MutCall Try.prog 46 [] [] [] (.tup [.agg [I 3,exW, .row 0 0 2,I 500], .agg exSA,exLA]) [] [exF 100,some (.els 4 [[I 3,exW, .row 0 0 2,I 500]]),some (.els 2 [exSA])]:=by
 refine MutCall.of_bodyG [] Try.func46 rfl (by decide) (by simp[Try.ntmps46]) rfl rfl ?_;intro J hJ;simp only[Try.ntmps46,Try.results46];refine gS fun K hK=>?_;simp -dsimp;apply hK;clear hK K;refine gwp_flag (by decide) ?_;refine gS fun K hK=>?_;simp -dsimp;apply hK;clear hK K;refine gS fun K hK=>?_;simp -dsimp;apply hK;clear hK K;refine gwp_weak (gsub (sub_rf (T':=[(0, .ptr 0 0 0),(1, .ptr 1 0 0),(2,exLA)]) (H':=[some (.els 4 [[I 3,exW, .row 2 0 2,I 500]]),some (.els 2 [exSA]),exF 100]) [some 0,some 1,some 3] rfl ⟨.inr (by simp), .inr (by simp), .inr (by simp),trivial⟩ (by simp)) (by simp)) ?_;exact gwp_ret ⟨[some 2,some 0,some 1],rfl,by simp,by simp,by simp,by simp[resP,tupOf]⟩
theorem m_Solve (g:Gr) (s:Sta) (l:List Ld) (hl:l.length≤1000) (hf:fineB g s l=true) (hlo:longB g s=false) (hz:∀p∈partL g s,p.length≤5) (ho:okS g s (tkK l (allS l))=true) (vs fs:List Fr) (hvs:vlA g.Nodes.toNat (vfS g s (tkK l (allS l)))=vs) (hfs:flA g s (vfS g s (tkK l (allS l)))=fs):
  MutCall Try.prog 18 [g.av,s.av,lL l] [] [] (.tup [.row 0 0 g.Nodes.toNat, .row 1 0 g.Feeds.length,I 0]) [] [some (.els 2 (vs.map Fr.cells)),some (.els 2 (fs.map Fr.cells))]:=by
 have h:=m_SolveV g s l hl hf hlo (fun p hp=>by have:=hz p hp;omega) (vfS g s (tkK l (allS l))) fun p hp=>by
  unfold okS at ho;rw[List.all_eq_true]at ho;exact⟨_,_,vpart (fine_net hf) hp (Or.inl (hz p hp)) (tkK_int _ _) (tk_bd (fine_ld hf) _) (ho p hp)⟩
 rw[hvs,hfs]at h;exact h
theorem c_known:PureCall Try.prog 15 [] (Bo true):=by
 have h1:=m_Solve (exG 100) (exS false) exL (by decide) ex_fine.1 (ex_long _ _) (ex_len 100 false _) ex_v1.1 _ _ ex_v1.2.1 ex_v1.2.2;obtain⟨fs2,hfs2⟩:∃fs2,flA (exG 100) (exS true) (vfS (exG 100) (exS true) (tkK exL (allS exL)))=fs2:=⟨_,rfl⟩;have h2:=m_Solve (exG 100) (exS true) exL (by decide) ex_fine.2.1 (ex_long _ _) (ex_len 100 true _) ex_v2.1 _ _ ex_v2.2 hfs2;obtain⟨vs3,fs3,h3⟩:=c_ex3;have h4:=c_ex4;have g1:=(c_rSame [⟨580,1⟩,⟨560,1⟩,⟨600,1⟩] [⟨580,1⟩,⟨560,1⟩,⟨600,1⟩] (by simp)).wk (args:=[fL [⟨580,1⟩,⟨560,1⟩,⟨600,1⟩], .full 2 [[I 580,I 1],[I 560,I 1],[I 600,I 1]]]) (by rfl);have g2:=(c_rSame [⟨40,1⟩,⟨0,1⟩] [⟨40,1⟩,⟨0,1⟩] (by simp)).wk (args:=[fL [⟨40,1⟩,⟨0,1⟩], .full 2 [[I 40,I 1],[I 0,I 1]]]) (by rfl);have g3:=(c_rSame [⟨1760,3⟩,⟨1720,3⟩,⟨1760,3⟩] [⟨1760,3⟩,⟨1720,3⟩,⟨1760,3⟩] (by simp)).wk (args:=[fL [⟨1760,3⟩,⟨1720,3⟩,⟨1760,3⟩], .full 2 [[I 1760,I 3],[I 1720,I 3],[I 1760,I 3]]]) (by rfl);have g4:=(c_rEqual [1] [1] (by simp)).wk (args:=[iL [1], .full 1 [[I 1]]]) (by rfl);have hm:=m_Example;simp only[exG,exS,exL,Gr.av,Sta.av,Gr.cells,Sta.cells,List.map_cons,List.map_nil,Wr.cells,Fd.cells,Ld.cells,Fr.cells,bCell,Cu.cells,nCell]at h1 h2 h3 h4 g1 g2 g3 g4;refine PureCall.of_bodyG Try.func15 rfl (by decide) (by simp[Try.ntmps15]) ?_;intro J hJ;simp only[Try.ntmps15,Try.results15];refine gS fun K hK=>?_;simp -dsimp;apply hK;clear hK K;refine gS fun K hK=>?_;simp -dsimp;refine callK_mut [] [] [some 0,some 1,some 2] (hm) (by decide) rfl (by simp) (by simp) rfl (by simp) ?_;simp -dsimp;apply hK;clear hK K;refine gwp_peekN [4,5,6] [1,2,3] [(1, .iptr [I 3,exW, .lst 4 [[I 0,I 600,I 2,I 100],[I 2,I 600,I 1,I 30]],I 500]),(2, .iptr exSA),(3,exLA)] (⟨.inr (by simp), .inr (by simp), .inr (by simp),trivial⟩) (by decide) (fun T' H'=>Go.AM.look T' 4= .row 0 0 3∧Go.AM.look T' 5= .row 1 0 2∧Go.AM.look T' 6=I 0∧H'=[some (.els 2 [[I 580,I 1],[I 560,I 1],[I 600,I 1]]),some (.els 2 [[I 40,I 1],[I 0,I 1]])]) ?_ ?_
 ·intro J1 hJ1;refine gR fun K hK=>?_;simp -dsimp;refine callK_mut [] [] [some 0,some 1] (h1) (by decide) rfl (by simp) (by simp) rfl (by simp) ?_;simp -dsimp;apply hK;clear hK K;exact⟨rfl,rfl,by simp⟩
 ·intro T' H' hR;obtain⟨hR,hR5,hR6,rfl⟩:=hR;refine⟨by simp,?_⟩;simp only[List.map_cons,List.map_nil,List.cons_append,List.nil_append,List.length_cons,List.length_nil,Nat.reduceAdd,Nat.zero_add,Option.map_some,upAV,upRow,Go.AM.look,Nat.reduceEqDiff,reduceIte,hR,hR5,hR6];refine gwp_flag (by decide) ?_;refine gS fun K hK=>?_;simp -dsimp;apply hK;clear hK K;refine gwp_peekN [8,10] [1,2,3,4,5,6] [(1, .iptr [I 3,exW, .lst 4 [[I 0,I 600,I 2,I 100],[I 2,I 600,I 1,I 30]],I 500]),(7, .iptr [.lst 1 [[Bo true],[Bo true]], .lst 1 [[Bo true],[Bo true]]]),(3,exLA)] (⟨.inr (by simp), .inr (by simp), .inr (by simp),trivial⟩) (by decide) (fun T' H'=>Go.AM.look T' 8= .row 0 0 3∧Go.AM.look T' 10=I 0∧H'=[some (.els 2 [[I 1760,I 3],[I 1720,I 3],[I 1760,I 3]]),some (.els 2 (fs2.map Fr.cells))]) ?_ ?_
  ·intro J1 hJ1;refine gR fun K hK=>?_;simp -dsimp;refine callK_mut [] [] [some 0,some 1] (h2) (by decide) rfl (by simp) (by simp) rfl (by simp) ?_;simp -dsimp;apply hK;clear hK K;exact⟨rfl,rfl,by simp⟩
  ·intro T' H' hR;obtain⟨hR,hR5,rfl⟩:=hR;refine⟨by simp,?_⟩;simp only[List.map_cons,List.map_nil,List.cons_append,List.nil_append,List.length_cons,List.length_nil,Nat.reduceAdd,Nat.zero_add,Option.map_some,upAV,upRow,Go.AM.look,Nat.reduceEqDiff,reduceIte,hR,hR5];refine gS fun K hK=>?_;simp -dsimp;apply hK;clear hK K;refine gwp_weak (gsub (sub_rf (T':=[(1, .ptr 0 0 0),(2, .ptr 1 0 0),(3,exLA),(4,fL [⟨580,1⟩,⟨560,1⟩,⟨600,1⟩]),(5,fL [⟨40,1⟩,⟨0,1⟩]),(6,I 0),(8,fL [⟨1760,3⟩,⟨1720,3⟩,⟨1760,3⟩]),(10,I 0)]) (H':=[some (.els 4 [[I 3,exW, .lst 4 [[I 0,I 600,I 2,I 39],[I 2,I 600,I 1,I 30]],I 500]]),some (.els 2 [exSA])]) [some 3,some 4] rfl ⟨.inr (by simp), .inr (by simp), .inr (by simp), .inr (by simp), .inr (by simp), .inr (by simp), .inr (by simp), .inr (by simp),trivial⟩ (by simp)) (by simp)) ?_
   ·refine gS fun K hK=>?_;simp -dsimp;refine callK_intro _ (h3) (by simp) ?_;simp -dsimp;apply hK;clear hK K;refine gS fun K hK=>?_;simp -dsimp;refine callK_intro _ (h4) (by simp) ?_;simp -dsimp;apply hK;clear hK K;refine gwp_seq_k fun K1 hK1=>?_;refine gS fun K hK=>?_;simp -dsimp;apply hK;clear hK K;refine gwp_cond rfl (fun hc0=>?_) (fun hc0=>?_)
    ·simp at hc0
    ·refine gwp_skip ?_;simp only[zT,reduceIte,Nat.reduceEqDiff];refine hK1 _ _ ?_;refine gwp_prune [4,5,8,11,13] (Or.inr (by simp)) ?_;simp only[zP,Nat.reduceEqDiff,reduceIte];refine gS fun K hK=>?_;simp -dsimp;refine callK_intro _ (g1) (by simp) ?_;simp -dsimp;refine callK_may _ (fun hm=>g2) (by simp) ?_;simp -dsimp;refine callK_may _ (fun hm=>g3) (by simp) ?_;simp -dsimp;refine idxK_intro ([I 4,I 0,I 40,I 1]) (fun _=>rfl) ?_;simp -dsimp;refine idxK_intro ([I 1,I 0,I 0,I 1]) (fun _=>rfl) ?_;simp -dsimp;refine callK_may _ (fun hm=>g4) (by simp) ?_;simp -dsimp;apply hK;clear hK K;exact gwp_ret (by simp[resP,tupOf])
end Go.Cur
end
section
namespace Go.Cur
open Go.AM Go.Proofs
theorem few_spec {g:Gr} {s:Sta} {n:Nat} (h:fewB g s n=true):g.Wires.length≤100∧g.Feeds.length≤20∧s.Feeds.length≤20∧s.Wires.length≤100∧n≤50∧(g.Nodes≤12∨40<g.Nodes):=by
 simpa [fewB]using h
theorem few_12 {g:Gr} {s:Sta} {n:Nat} (h:fewB g s n=true) (hg:grB g=true):Few12 g s:=fun p hp=>by
 have h1:=few_spec h;have h2:=grB_bd hg;obtain⟨i,hi,rfl⟩:=partL_head hp;unfold cp;have:=List.length_filter_le (fun k=>decide (nm (netE g s) g.Nodes.toNat k=i)) (List.range g.Nodes.toNat);rw[List.length_range]at this;omega
end Go.Cur
end
section
namespace Go.Cur
open Go.AM Go.Proofs
theorem red_mul {m d:Int} (hd:0<d):red (m*d) d=⟨m,1⟩:=by
 unfold red;have e:Int.gcd (m*d) d=d.natAbs:=by
  rw[Int.gcd_eq_natAbs_gcd_natAbs,Int.natAbs_mul];exact Nat.gcd_mul_left_left _ _
 rw[e,Int.natAbs_of_nonneg (Int.le_of_lt hd),Int.mul_ediv_cancel _ (by omega),Int.ediv_self (by omega)]
end Go.Cur
end
section
namespace Go.Cur
open Go.AM Go.Proofs
section
variable {g:Gr} {s:Sta} {p:List Nat} {us us':Kvs}
theorem pvol_tight (hnt:NetOk g s) (hp:p∈partL g s) (h5:p.length≤5) (hus:∀x,-40≤igt us x∧igt us x≤40) (hok:(pvol g s us p).2.2=true):
  0<(pvol g s us p).2.1∧(pvol g s us p).2.1≤2000000000∧∀x∈(pvol g s us p).1,x.natAbs≤7000000000000:=by
 unfold pvol at hok ⊢
 by_cases h:feedL g s (upN p)=[]
 ·rw[if_pos h];refine⟨show(0:Int)<1 by decide,show(1:Int)≤2000000000 by decide,fun x hx=>?_⟩;have:x=0:=(List.mem_replicate.1 hx).2;omega
 ·rw [if_neg h]at hok ⊢
  by_cases h1:sumU us p<0
  ·rw[if_pos h1]at hok;cases hok
  ·rw [if_neg h1]at hok ⊢
   by_cases h2:sumU us p=0
   ·rw[if_pos h2];obtain⟨z1,z2,z3⟩:=Pt_small0T (us:=us) hnt hp h5 rfl hus (p.getD 0 0) rfl;change ∀k,((ptO g s us p).num0 (p.getD 0 0) k).natAbs≤_ at z1;change 0<(ptO g s us p).den0 (p.getD 0 0)at z2;change (ptO g s us p).den0 (p.getD 0 0)≤_ at z3;refine⟨z2,by simp only;omega,fun x hx=>?_⟩;obtain⟨k,_,rfl⟩:=List.mem_map.1 hx;have key:∀b,b<(feedL g s (upN p)).length→ -20000000000≤(ptO g s us p).V b*(ptO g s us p).den0 (p.getD 0 0)-(ptO g s us p).num0 (p.getD 0 0) ((ptO g s us p).p b)∧(ptO g s us p).V b*(ptO g s us p).den0 (p.getD 0 0)-(ptO g s us p).num0 (p.getD 0 0) ((ptO g s us p).p b)≤20000000000:=by
     intro b hb;have hf:=feed_at hnt rfl hb;have h3:=z1 ((ptO g s us p).p b);have h4:0≤(ptO g s us p).V b∧(ptO g s us p).V b≤1000:=by
      show 0≤(fdI g _).Volts∧(fdI g _).Volts≤1000;omega
     have h5:=Int.mul_nonneg h4.1 (Int.le_of_lt z2);have h6:=Int.mul_le_mul h4.2 z3 (Int.le_of_lt z2) (by omega);omega
    have hpos:0<(feedL g s (upN p)).length:=List.length_pos_iff.2 h;have h3:=shiftL_bd (B:=20000000000) ((List.range (feedL g s (upN p)).length).map fun b=>(ptO g s us p).V b*(ptO g s us p).den0 (p.getD 0 0)-(ptO g s us p).num0 (p.getD 0 0) ((ptO g s us p).p b)) _ (key 0 hpos) fun x hx=>by
     obtain⟨b,hb,rfl⟩:=List.mem_map.1 hx;exact key b (List.mem_range.1 hb)
    have h4:=z1 k;omega
   ·rw[if_neg h2];obtain⟨k1,k2,k3,k4⟩:=mask0_ok (P:=ptO g s us p) (Pt_ok hnt hp rfl) (m:=(feedL g s (upN p)).length) rfl (by intro e;exact h (List.length_eq_zero_iff.1 e)) (by rw[sumU_pt];omega);obtain⟨z1,z2,z3⟩:=Pt_smallT (us:=us) hnt hp h5 rfl hus _ (bit_ex k1 k2);refine⟨z2,z3,fun x hx=>?_⟩;obtain⟨k,_,rfl⟩:=List.mem_map.1 hx;exact z1 k
end
end Go.Cur
end
section
namespace Go.Cur
open Go.AM Go.Proofs
theorem red_scale {n d k:Int} (hk:0<k):red (n*k) (d*k)=red n d:=by
 unfold red;have e:((Int.gcd (n*k) (d*k):Nat):Int)=(Int.gcd n d:Int)*k:=by
  rw[Int.gcd_mul_right,Int.natCast_mul,Int.natAbs_of_nonneg (Int.le_of_lt hk)]
 rw[e,Int.mul_ediv_mul_of_pos_left _ _ hk,Int.mul_ediv_mul_of_pos_left _ _ hk]
theorem red_eq {a d b e:Int} (hd:0<d) (he:0<e) (h:a*e=b*d):red a d=red b e:=by
 rw[←red_scale he,h,Int.mul_comm d e,red_scale hd]
theorem red_zero {d:Int} (hd:0<d):red 0 d=⟨0,1⟩:=by
 have:=red_mul (m:=0) hd
 rwa [Int.zero_mul]at this
section
variable {g:Gr} {s:Sta} {us:Kvs} {p:List Nat}
theorem pvR_flag:(pvR g s us p).2.2=(pvol g s us p).2.2:=by
 unfold pvR pvol
 split
 ·rfl
 ·split
  ·rfl
  ·split<;>rfl
theorem pvR_ok (hnt:NetOk g s) (hp:p∈partL g s) (h5:p.length≤5) (hus:∀x,-40≤igt us x∧igt us x≤40) (hok:(pvol g s us p).2.2=true):
  (pvR g s us p).1.length=p.length∧0<(pvR g s us p).2.1∧(pvR g s us p).2.1≤2000000000∧(∀x∈(pvR g s us p).1,x.natAbs≤7000000000000)∧∀i,i<p.length→red (at0 (pvR g s us p).1 (i:Nat)) (pvR g s us p).2.1=red (at0 (pvol g s us p).1 (i:Nat)) (pvol g s us p).2.1:=by
 by_cases h:feedL g s (upN p)=[]
 ·have e:pvR g s us p=pvol g s us p:=by unfold pvR pvol;rw[if_pos h,if_pos h]
  obtain⟨t1,t2,t3⟩:=pvol_tight hnt hp h5 hus hok;rw[e];refine⟨?_,t1,t2,t3,fun i _=>rfl⟩;unfold pvol;rw[if_pos h];simp[zerosL]
 ·by_cases h1:sumU us p<0
  ·unfold pvol at hok;rw[if_neg h,if_pos h1]at hok;cases hok
  ·by_cases h2:sumU us p=0
   ·have e:pvR g s us p=pvol g s us p:=by unfold pvR pvol;rw[if_neg h,if_neg h,if_neg h1,if_neg h1,if_pos h2,if_pos h2]
    obtain⟨t1,t2,t3⟩:=pvol_tight hnt hp h5 hus hok;rw[e];refine⟨?_,t1,t2,t3,fun i _=>rfl⟩;unfold pvol;rw[if_neg h,if_neg h1,if_pos h2];simp
   ·have hsum:0<sm (ptO g s us p).u (ptO g s us p).ns:=by rw[sumU_pt];omega
    have hm:(feedL g s (upN p)).length≠0:=by intro e;exact h (List.length_eq_zero_iff.1 e)
    have ho:(ptO g s us p).Ok:=Pt_ok hnt hp rfl;obtain⟨k1,k2,k3,k4⟩:=maskR_ok (P:=ptO g s us p) ho (m:=(feedL g s (upN p)).length) rfl hm hsum;obtain⟨d1,d2,hs⟩:=mask_same (P:=ptO g s us p) ho (m:=(feedL g s (upN p)).length) rfl hm hsum;obtain⟨z1,z2,z3⟩:=Pt_smallT (us:=us) hnt hp h5 rfl hus _ (bit_ex k1 k2);have e1:pvR g s us p=(p.map fun k=>(ptO g s us p).num (bitS (maskR (ptO g s us p) (feedL g s (upN p)).length)) k,(ptO g s us p).den (bitS (maskR (ptO g s us p) (feedL g s (upN p)).length)),true):=by
     unfold pvR;rw[if_neg h,if_neg h1,if_neg h2]
    have e2:pvol g s us p=(p.map fun k=>(ptO g s us p).num (bitS (mask0 (ptO g s us p) (feedL g s (upN p)).length)) k,(ptO g s us p).den (bitS (mask0 (ptO g s us p) (feedL g s (upN p)).length)),true):=by
     unfold pvol;rw[if_neg h,if_neg h1,if_neg h2]
    rw[e1,e2];refine⟨by simp,z2,z3,fun x hx=>?_,fun i hi=>?_⟩
    ·obtain⟨k,_,rfl⟩:=List.mem_map.1 hx;exact z1 k
    ·have g1:∀f:Nat→Int,at0 (p.map f) (i:Nat)=f (p.getD i 0):=fun f=>at0_of (by rw[List.getElem?_map,getD_get hi];rfl);simp only[g1];exact red_eq d1 d2 (hs _ (getD_mem hi))
end
theorem ffR {g:Gr} {s:Sta} {vf:Nat→Fr} {f:Nat} {x d:Int} (hd:0<d) (hv:vf (fdI g (f:Int)).At.toNat=red x d) (hs:0<(fdI g (f:Int)).Siem) (hon:bAt s.Feeds f=true):
  red (if 0<(fdI g (f:Int)).Siem*((fdI g (f:Int)).Volts*d-x)then(fdI g (f:Int)).Siem*((fdI g (f:Int)).Volts*d-x)else 0) d=ffF g s vf f:=by
 unfold ffF;simp only[hv];obtain⟨a,b,G,hG,e,ha,hb⟩:=gcd_dvd (n:=x) hd;have er:red x d=⟨a,b⟩:=by
  unfold red;rw[e];have e1:x/G=a:=by rw[ha];exact Int.mul_ediv_cancel_left _ (by omega)
  have e2:d/G=b:=by rw[hb];exact Int.mul_ediv_cancel_left _ (by omega)
  rw[e1,e2]
 have hdd:(fdI g (f:Int)).Siem*((fdI g (f:Int)).Volts*d-x)=(fdI g (f:Int)).Siem*((fdI g (f:Int)).Volts*b-a)*G:=by
  rw[ha,hb,Int.mul_assoc]
  congr 1
  rw[Int.sub_mul,Int.mul_assoc,Int.mul_comm b G,Int.mul_comm a G]
 rw[er,hdd];simp only;generalize (fdI g (f:Int)).Volts*b-a=D;generalize (fdI g (f:Int)).Siem=S at hs
 by_cases h:0<D
 ·have h1:0<S*D:=Int.mul_pos hs h;have h2:0<S*D*G:=Int.mul_pos h1 hG;rw[if_pos h2,if_pos ⟨hon,h⟩,hb,Int.mul_comm G b,red_scale hG]
 ·have h1:S*D≤0:=Int.mul_nonpos_of_nonneg_of_nonpos (Int.le_of_lt hs) (by omega);have h2:S*D*G≤0:=Int.mul_nonpos_of_nonpos_of_nonneg h1 (Int.le_of_lt hG);rw[if_neg (by omega),if_neg (fun h3=>h h3.2),red_zero hd]
def flR (g:Gr) (s:Sta) (vf:Nat→Fr) (done:List Nat) (fs:List Int):List Fr:=(List.range g.Feeds.length).map fun(f:Nat)=>if (fdI g (f:Int)).At.toNat∈done∨(f:Int)∈fs then ffF g s vf f else⟨0,1⟩
section
variable {g:Gr} {s:Sta} {vf:Nat→Fr} {done:List Nat} {fs:List Int}
theorem flR_len:(flR g s vf done fs).length=g.Feeds.length:=by simp[flR]
theorem flR_get {i:Nat} (h:i<g.Feeds.length):(flR g s vf done fs)[i]?=some (if (fdI g (i:Int)).At.toNat∈done∨(i:Int)∈fs then ffF g s vf i else⟨0,1⟩):=by
 unfold flR;rw[List.getElem?_map,List.getElem?_range h];rfl
theorem flR_set {k:Nat}:(flR g s vf done fs).set k (ffF g s vf k)=flR g s vf done (fs++[(k:Int)]):=by
 refine List.ext_getElem? fun i=>?_
 by_cases hi:i<g.Feeds.length
 ·rw [flR_get hi]
  by_cases h:i=k
  ·subst h;rw[List.getElem?_set_self (by rw[flR_len];exact hi),if_pos (Or.inr (by simp))]
  ·rw[List.getElem?_set_ne (fun e=>h e.symm),flR_get hi];have:((i:Int)∈fs++[(k:Int)])↔(i:Int)∈fs:=by
    rw[List.mem_append,List.mem_singleton];constructor
    ·rintro(h1|h1)
     ·exact h1
     ·omega
    ·exact Or.inl
   simp only[this]
 ·rw[List.getElem?_eq_none (by rw[List.length_set,flR_len];omega),List.getElem?_eq_none (by rw[flR_len];omega)]
theorem ffF_off {i:Nat} (h:bAt s.Feeds i=false):ffF g s vf i=⟨0,1⟩:=by
 unfold ffF;simp only;rw[if_neg (by simp[h])]
theorem flR_part (hnt:NetOk g s) {p:List Nat}:flR g s vf done (feedL g s (upN p))=flR g s vf (done++p) []:=by
 unfold flR;refine List.map_congr_left fun i hi=>?_;rw[List.mem_range]at hi;have hg:g.Feeds[i]?=some (fdI g (i:Int)):=by have:=fdI_get (g:=g) (i:=(i:Int)) (by omega) (by omega);rwa [Int.toNat_natCast]at this
 have hb:=hnt.feeds _ (List.mem_of_getElem? hg);have hm:(i:Int)∈feedL g s (upN p)↔bAt s.Feeds i=true∧(fdI g (i:Int)).At.toNat∈p:=by
  unfold feedL;rw[List.mem_filter,upI_mem];unfold fdOn;rw[Int.toNat_natCast,Bool.and_eq_true,decide_eq_true_eq,upN_mem];constructor
  ·rintro⟨_,h1,_,h2⟩;exact⟨h1,h2⟩
  ·rintro⟨h1,h2⟩;exact⟨⟨by omega,by omega⟩,h1,hb.1,h2⟩
 by_cases h1:(fdI g (i:Int)).At.toNat∈done
 ·rw[if_pos (Or.inl h1),if_pos (Or.inl (List.mem_append_left _ h1))]
 ·by_cases h2:(fdI g (i:Int)).At.toNat∈p
  ·rw[if_pos (Or.inl (List.mem_append_right _ h2))]
   cases h3:bAt s.Feeds i with
   |true=>rw[if_pos (Or.inr (hm.2 ⟨h3,h2⟩))]
   |false=>rw[ffF_off h3];split<;>rfl
  ·rw[if_neg (by rw[hm];rintro(h|h);exact h1 h;exact h2 h.2),if_neg (by rintro(h|h);exact(List.mem_append.1 h).elim h1 h2;simp at h)]
theorem flR_all (h:∀i,i<g.Feeds.length→(fdI g (i:Int)).At.toNat∈done):flR g s vf done []=flA g s vf:=by
 unfold flR flA;exact List.map_congr_left fun i hi=>if_pos (Or.inl (h i (List.mem_range.1 hi)))
end
def fl0 (m i:Nat):List Fr:=(List.range m).map fun j=>if j<i then⟨0,1⟩else⟨0,0⟩
theorem fl0_len (m i:Nat):(fl0 m i).length=m:=by simp[fl0]
theorem fl0_get {m i j:Nat} (h:j<m):(fl0 m i)[j]?=some (if j<i then⟨0,1⟩else⟨0,0⟩):=by
 unfold fl0;rw[List.getElem?_map,List.getElem?_range h];rfl
theorem fl0_set {m k:Nat}:(fl0 m k).set k ⟨0,1⟩=fl0 m (k+1):=by
 refine List.ext_getElem? fun i=>?_
 by_cases hi:i<m
 ·rw[fl0_get hi]
  by_cases h:k=i
  ·subst h;rw[List.getElem?_set_self (by rw[fl0_len];exact hi),if_pos (by omega)]
  ·rw[List.getElem?_set_ne h,fl0_get hi]
   by_cases h2:i<k
   ·rw[if_pos h2,if_pos (by omega)]
   ·rw[if_neg h2,if_neg (by omega)]
 ·rw[List.getElem?_eq_none (by rw[List.length_set,fl0_len];omega),List.getElem?_eq_none (by rw[fl0_len];omega)]
theorem fl0_zero (m:Nat):fl0 m 0=List.replicate m ⟨0,0⟩:=by
 refine List.ext_getElem? fun i=>?_
 by_cases hi:i<m
 ·rw[fl0_get hi,if_neg (by omega),List.getElem?_replicate,if_pos hi]
 ·rw[List.getElem?_eq_none (by rw[fl0_len];omega),List.getElem?_eq_none (by simp;omega)]
theorem fl0_all {g:Gr} {s:Sta} {vf:Nat→Fr}:fl0 g.Feeds.length g.Feeds.length=flR g s vf [] []:=by
 unfold fl0 flR;refine List.map_congr_left fun i hi=>?_;rw[if_pos (List.mem_range.1 hi),if_neg (by simp)]
theorem c_pvR (g:Gr) (s:Sta) (p:List Nat) (us:Kvs) (cu:List Int) (hnt:NetOk g s) (hp:p∈partL g s) (h5:p.length≤5) (hus:∀x,-40≤igt us x∧igt us x≤40) (hcu:∀k∈p,cu[k]?=some (igt us k)):
  PureCall Try.prog 51 [g.av,s.av,iL (upN p),iL cu] (.tup [iL (pvR g s us p).1,I (pvR g s us p).2.1,Bo (pvR g s us p).2.2]):=by
 refine c_rVolts g s p us (feedL g s (upN p)) cu rfl hnt hp h5 hus hcu _ _ _ ?_ ?_ ?_ ?_
 ·intro h;unfold pvR;rw[if_pos h];exact⟨rfl,rfl,rfl⟩
 ·intro h h1;unfold pvR;rw[if_neg h,if_pos h1];exact⟨rfl,rfl,rfl⟩
 ·intro h h1;have hr:=c_rFloat g s p us (feedL g s (upN p)) cu rfl hnt (partL_ok hnt hp (by omega)) hus hcu h (p.getD 0 0) rfl (Pt_small0 hnt hp (Or.inl h5) rfl hus _ rfl) _ _ rfl rfl;unfold pvR;rw[if_neg h,if_neg (by omega),if_pos h1];exact⟨hr,rfl⟩
 ·intro h h1;obtain⟨k1,k2,k3,k4⟩:=maskR_ok (P:=ptO g s us p) (Pt_ok hnt hp rfl) (m:=(feedL g s (upN p)).length) rfl (by intro e;exact h (List.length_eq_zero_iff.1 e)) (by rw[sumU_pt];exact h1);unfold pvR;rw[if_neg h,if_neg (by omega),if_neg (by omega)];exact⟨rfl,_,k1,k2,k3,k4,rfl,rfl⟩
theorem c_rSolve (g:Gr) (s:Sta) (l:List Ld) (sv:List Bool) (hnt:NetOk g s) (hl:l.length≤1000) (hsl:sv.length=l.length) (ld:LdOk g l) (h5:∀p∈partL g s,p.length≤5):
  PureCall Try.prog 19 [g.av,s.av,lL l,bL sv] (if okS g s (tkK l sv)=true then .tup [fL (vlA g.Nodes.toNat (vfS g s (tkK l sv))),fL (flA g s (vfS g s (tkK l sv))),Bo true]else .tup [.v (.slice none 0 0), .v (.slice none 0 0),Bo false]):=by
 have hbd:=grB_bd hnt.gr;have hus:=tk_bd ld sv;obtain⟨N,hnn⟩:∃N:Nat,g.Nodes.toNat=N:=⟨g.Nodes.toNat,rfl⟩;have hn0:0≤g.Nodes:=by omega
 have hnN:g.Nodes=(N:Int):=by omega
 rw[hnn];have hcr:=c_rCurrents g l sv N hnN (by omega) hl hsl (fun y hy=>by have:=ld.at_ y hy;omega);have hcv:=fun p (hp:p∈partL g s)=>c_pvR g s p (tkK l sv) (curL N l sv) hnt hp (h5 p hp) hus (fun k hk=>by rw[curL_get (by have:=partL_lt hp hk;omega),tkK_get]);have hcov:=fun k=>partL_all (k:=k) hnt;have hlt:=fun p (hp:p∈partL g s) k (hk:k∈p)=>partL_lt hp hk;rw[hnn]at hcov hlt;have hpo:=fun p (hp:p∈partL g s)=>pvR_ok (us:=tkK l sv) hnt hp (h5 p hp) hus;have hfl:∀p,(pvR g s (tkK l sv) p).2.2=(pvol g s (tkK l sv) p).2.2:=fun p=>pvR_flag;have hvf:∀p∈partL g s,(pvol g s (tkK l sv) p).2.2=true→∀i k,p[i]?=some k→vfS g s (tkK l sv) k=red (at0 (pvR g s (tkK l sv) p).1 (i:Nat)) (pvR g s (tkK l sv) p).2.1:=fun p hp hok i k hk=>by
  obtain⟨hi,e⟩:=List.getElem?_eq_some_iff.1 hk;rw[(hpo p hp hok).2.2.2.2 i hi];have hnd:p.Nodup:=by obtain⟨_,_,e⟩:=partL_head hp;rw[e];exact cp_nodup
  have hix:p.idxOf k=i:=by rw[←e];exact List.Nodup.idxOf_getElem hnd i hi
  unfold vfS;rw[←partOf_eq hp (List.mem_of_getElem? hk),hix]
 have hpl:=partL_len g s;have hrp:=c_rParts g s hnt;have hokS:okS g s (tkK l sv)=(partL g s).all fun p=>(pvR g s (tkK l sv) p).2.2:=by unfold okS;congr 1;funext p;exact(hfl p).symm
 rw[hokS];generalize vfS g s (tkK l sv)=vf at hvf ⊢;generalize tkK l sv=us at hcv hpo hfl hvf ⊢;generalize curL N l sv=cu at hcr hcv;have hps:∀p∈partL g s,p∈partL g s:=fun _ h=>h;obtain⟨L,hL⟩:∃L,L=partL g s:=⟨_,rfl⟩;rw[←hL]at hcv hcov hlt hpo hvf hpl hrp ⊢;have f0:Fits N 17:=fits_of (by omega) (by omega);have f1:Fits g.Feeds.length 17:=fits_of (by omega) (by omega);refine PureCall.of_body Try.func19 rfl (by decide) (by simp[Try.ntmps19]) ?_;simp only[Try.ntmps19,Try.results19];refine aS fun K hK=>?_;simp -dsimp;apply hK;clear hK K;refine awp_sd mixed rfl fun K hK=>?_;simp -dsimp [hn0,hnn,f0,f1];refine hK _ _ _ (by decide+kernel) ?_;clear hK K;refine awp_seq_k fun K1 hK1=>?_;refine aS fun K hK=>?_;simp -dsimp;apply hK;clear hK K;refine awp_block ?_;refine awp_prune [2,3,4,5,11,12,13] ?_;simp only[zP,Nat.reduceEqDiff,reduceIte];refine awp_loop_l [2,3,4,5,11,12] (α:=Nat) (fun i=>[(13,I i)]) (fun i=>[some (.els 4 [g.cells]),some (.els 2 [s.cells]),some (.els 2 ((vlF N vf []).map Fr.cells)),some (.els 2 ((fl0 g.Feeds.length i).map Fr.cells))]) (fun i=>i≤g.Feeds.length) (fun i=>g.Feeds.length-i) 0 ?_ ?_ ?_
 ·exact Nat.zero_le _
 ·exact sub_rb [some 0,some 1,some 2,some 3] rfl (by simp) (by simp[vlF_nil,fl0_zero])
 rintro i i1;simp only[zP,Nat.reduceEqDiff,reduceIte];refine awp_seq_k fun K2 hK2=>?_;refine aS fun K hK=>?_;simp -dsimp;apply hK;clear hK K;refine awp_cond rfl (fun hc0=>?_) (fun hc0=>?_)
 ·have hil:i<g.Feeds.length:=by simpa using hc0
  have wi:=zW i (by omega);have hst:=fl0_set (m:=g.Feeds.length) (k:=i);have gfl:=fl0_get (i:=i) hil;have hfll:=fl0_len g.Feeds.length i;generalize fl0 g.Feeds.length i=FL at hst gfl hfll ⊢;refine awp_skip ?_;simp only[zT,reduceIte,Nat.reduceEqDiff];refine hK2 _ _ ?_;refine awp_prune [2,3,4,5,11,12,13] ?_;simp only[zP,Nat.reduceEqDiff,reduceIte];refine awp_seq_k fun K3 hK3=>?_;refine awp_block ?_;refine aR fun K hK=>?_;simp -dsimp [hil,hfll,gfl];apply hK;clear hK K;simp only[zT,reduceIte,Nat.reduceEqDiff];refine hK3 _ _ ?_;refine awp_prune [2,3,4,5,11,12,13] ?_;simp only[zP,Nat.reduceEqDiff,reduceIte];refine aR fun K hK=>?_;simp -dsimp [wi];apply hK;clear hK K;simp only[zT,reduceIte,Nat.reduceEqDiff];exact⟨i+1,by omega,by omega,sub_rb [some 0,some 1,some 2,some 3] rfl (by simp) (by simp[←hst,List.map_set])⟩
 ·have hie:i=g.Feeds.length:=by have hx:¬i<g.Feeds.length:=(by simpa using hc0);omega
  rw[hie,fl0_all (s:=s) (vf:=vf)];refine awp_exit ?_;simp only[zT,reduceIte,Nat.reduceEqDiff];refine hK1 _ _ ?_;refine awp_prune [2,3,4,5,11,12] ?_;simp only[zP,Nat.reduceEqDiff,reduceIte];refine aS fun K hK=>?_;simp -dsimp;refine callK_intro _ (hrp) (by simp) ?_;simp -dsimp;apply hK;clear hK K;refine awp_seq_k fun K4 hK4=>?_;refine aS fun K hK=>?_;simp -dsimp;apply hK;clear hK K;refine awp_block ?_;refine awp_prune [2,3,4,5,11,12,14,15] ?_;simp only[zP,Nat.reduceEqDiff,reduceIte];refine awp_loop_l [2,3,4,5,11,12,14] (α:=Nat) (fun k=>[(15,I k)]) (fun k=>[some (.els 4 [g.cells]),some (.els 2 [s.cells]),some (.els 2 ((vlF N vf (L.take k).flatten).map Fr.cells)),some (.els 2 ((flR g s vf (L.take k).flatten []).map Fr.cells))]) (fun k=>k≤L.length∧((L.take k).all fun p=>(pvR g s us p).2.2)=true) (fun k=>L.length-k) 0 ?_ ?_ ?_
  ·exact⟨Nat.zero_le _,rfl⟩
  ·exact sub_rb [some 0,some 1,some 2,some 3] rfl (by simp) (by simp)
  rintro k ⟨k1,k2⟩;simp only[zP,Nat.reduceEqDiff,reduceIte];refine awp_seq_k fun K5 hK5=>?_;refine aS fun K hK=>?_;simp -dsimp;apply hK;clear hK K;refine awp_cond rfl (fun hc1=>?_) (fun hc1=>?_)
  ·have hkl:k<L.length:=by simpa using hc1
   have wk:=zW k (by omega);obtain⟨p,hp⟩:∃p,L[k]?=some p:=⟨_,List.getElem?_eq_getElem hkl⟩;have hpm:=List.mem_of_getElem? hp;have hul:=upN_len p;have hcvp:=hcv p hpm;have hp5:=h5 p (hps p (hL▸hpm));have hfl2:(L.take (k+1)).flatten=(L.take k).flatten++p:=by rw[List.take_add_one,hp,List.flatten_append];simp
   refine awp_skip ?_;simp only[zT,reduceIte,Nat.reduceEqDiff];refine hK5 _ _ ?_;refine awp_prune [2,3,4,5,11,12,14,15] ?_;simp only[zP,Nat.reduceEqDiff,reduceIte];refine awp_seq_k fun K6 hK6=>?_;refine awp_block ?_;refine awp_sd mixed rfl fun K hK=>?_;simp -dsimp [hp,pAV];refine callK_intro _ (hcr) (by simp) ?_;simp -dsimp [hp,pAV];refine callK_intro _ (hcvp) (by simp) ?_;simp -dsimp [hp,pAV];refine hK _ _ _ (by decide+kernel) ?_;clear hK K;refine awp_seq_k fun K7 hK7=>?_;refine aS fun K hK=>?_;simp -dsimp;apply hK;clear hK K;refine awp_cond rfl (fun hc2=>?_) (fun hc2=>?_)
   ·refine aS fun K hK=>?_;simp -dsimp;apply hK;clear hK K;have hf:(pvR g s us p).2.2=false:=by simpa using hc2
    have hall:(L.all fun p=>(pvR g s us p).2.2)=false:=by rw[List.all_eq_false];exact⟨p,hpm,by simp[hf]⟩
    exact awp_ret (by simp[hall])
   ·have hok:(pvR g s us p).2.2=true:=by simpa using hc2
    obtain⟨hvl,hd0,hd1,hvb,hve⟩:=hpo p hpm (by rw[←hfl];exact hok);have hvk:=hvf p hpm (by rw[←hfl];exact hok);obtain⟨v,hv⟩:∃v,v=(pvR g s us p).1:=⟨_,rfl⟩;obtain⟨d,hd⟩:∃d,d=(pvR g s us p).2.1:=⟨_,rfl⟩;rw[←hv]at hvl hvb hvk ⊢;rw[←hd]at hd0 hd1 hvk ⊢;refine awp_skip ?_;simp only[zT,reduceIte,Nat.reduceEqDiff];refine hK7 _ _ ?_;refine awp_prune [2,3,4,5,11,12,14,15,16,17] ?_;simp only[zP,Nat.reduceEqDiff,reduceIte];refine awp_seq_k fun K8 hK8=>?_;refine aS fun K hK=>?_;simp -dsimp;apply hK;clear hK K;refine awp_block ?_;refine awp_prune [2,3,4,5,11,12,14,15,16,17,19] ?_;simp only[zP,Nat.reduceEqDiff,reduceIte];refine awp_loop_l [2,3,4,5,11,12,14,15,16,17] (α:=Nat) (fun i=>[(19,I i)]) (fun i=>[some (.els 4 [g.cells]),some (.els 2 [s.cells]),some (.els 2 ((vlF N vf ((L.take k).flatten++p.take i)).map Fr.cells)),some (.els 2 ((flR g s vf (L.take k).flatten []).map Fr.cells))]) (fun i=>i≤p.length) (fun i=>p.length-i) 0 ?_ ?_ ?_
    ·exact Nat.zero_le _
    ·exact sub_rb [some 0,some 1,some 2,some 3] rfl (by simp) (by simp)
    rintro i i1;simp only[zP,Nat.reduceEqDiff,reduceIte];refine awp_seq_k fun K9 hK9=>?_;refine aS fun K hK=>?_;simp -dsimp [hvl];apply hK;clear hK K;refine awp_cond rfl (fun hc3=>?_) (fun hc3=>?_)
    ·have hil:i<p.length:=by simpa [hvl]using hc3
     obtain⟨x,hx⟩:∃x,p[i]?=some x:=⟨_,List.getElem?_eq_getElem hil⟩;have gk:=upN_get hx;have gv:=at0_nat (l:=v) (k:=i) (by omega);have hkN:=hlt p hpm x (List.mem_of_getElem? hx);have wi:=zW i (by omega);have hnb:=hvb _ (List.mem_of_getElem? gv);have hfr:=c_rFrac (at0 v (i:Nat)) d hd0 (by omega) (by omega) (by omega);have hfk:=hvk i x hx;rw[←hfk]at hfr;have hvls:=vlF_len N vf ((L.take k).flatten++p.take i);have gvl:=vlF_get (vf:=vf) (done:=(L.take k).flatten++p.take i) hkN;have hst:=vlF_set (n:=N) (vf:=vf) (done:=(L.take k).flatten++p.take i) (k:=x);have hpt:p.take (i+1)=p.take i++[x]:=by rw[List.take_add_one,hx];rfl
     rw[List.append_assoc,←hpt]at hst;generalize vlF N vf ((L.take k).flatten++p.take i)=VL at hvls gvl hst ⊢;refine awp_skip ?_;simp only[zT,reduceIte,Nat.reduceEqDiff];refine hK9 _ _ ?_;refine awp_prune [2,3,4,5,11,12,14,15,16,17,19] ?_;simp only[zP,Nat.reduceEqDiff,reduceIte];refine awp_seq_k fun K10 hK10=>?_;refine awp_block ?_;refine awp_draw mixed rfl fun K hK=>?_;simp -dsimp [hp,pAV,gk,gv,hkN,hvls,gvl];refine callK_intro _ (hfr) (by simp) ?_;simp -dsimp [hp,pAV,gk,gv,hkN,hvls,gvl];refine hK _ _ _ (by decide+kernel) ?_;clear hK K;simp only[zT,reduceIte,Nat.reduceEqDiff];refine hK10 _ _ ?_;refine awp_prune [2,3,4,5,11,12,14,15,16,17,19] ?_;simp only[zP,Nat.reduceEqDiff,reduceIte];refine aR fun K hK=>?_;simp -dsimp [wi];apply hK;clear hK K;simp only[zT,reduceIte,Nat.reduceEqDiff];exact⟨i+1,by omega,by omega,sub_rb [some 0,some 1,some 2,some 3] rfl (by simp) (by simp[←hst,List.map_set])⟩
    ·have hil:¬i<p.length:=by simpa [hvl]using hc3
     have hpt:p.take i=p:=List.take_of_length_le (by omega);rw[hpt,←hfl2];have hfd:=c_rFeeders g s (upN p) hnt.sf (by have:=h5 p (hps p (hL▸hpm));omega) (by omega);have hfa:=fun b (hb:b<(feedL g s (upN p)).length)=>feed_at hnt (p:=p) rfl hb;have hpr:=flR_part (vf:=vf) (done:=(L.take k).flatten) hnt (p:=p);have hF12:=fs_len hnt (p:=p) rfl;have hfm:=fun f (hf:f∈feedL g s (upN p))=>feedL_mem hf;generalize feedL g s (upN p)=F at hfd hfa hpr hF12 hfm;refine awp_exit ?_;simp only[zT,reduceIte,Nat.reduceEqDiff];refine hK8 _ _ ?_;refine awp_prune [2,3,4,5,11,12,14,15,16,17] ?_;simp only[zP,Nat.reduceEqDiff,reduceIte];refine awp_sd mixed rfl fun K hK=>?_;simp -dsimp [hp,pAV];refine callK_intro _ (hfd) (by simp) ?_;simp -dsimp [hp,pAV];refine hK _ _ _ (by decide+kernel) ?_;clear hK K;refine aS fun K hK=>?_;simp -dsimp;apply hK;clear hK K;refine awp_block ?_;refine awp_prune [2,3,4,5,11,12,14,15,16,17,20,21] ?_;simp only[zP,Nat.reduceEqDiff,reduceIte];refine awp_loop_l [2,3,4,5,11,12,14,15,16,17,20] (α:=Nat) (fun i=>[(21,I i)]) (fun i=>[some (.els 4 [g.cells]),some (.els 2 [s.cells]),some (.els 2 ((vlF N vf (L.take (k+1)).flatten).map Fr.cells)),some (.els 2 ((flR g s vf (L.take k).flatten (F.take i)).map Fr.cells))]) (fun i=>i≤F.length) (fun i=>F.length-i) 0 ?_ ?_ ?_
     ·exact Nat.zero_le _
     ·exact sub_rb [some 0,some 1,some 2,some 3] rfl (by simp) (by simp)
     rintro b b1;simp only[zP,Nat.reduceEqDiff,reduceIte];refine awp_seq_k fun K11 hK11=>?_;refine aS fun K hK=>?_;simp -dsimp;apply hK;clear hK K;refine awp_cond rfl (fun hc4=>?_) (fun hc4=>?_)
     ·have hbl:b<F.length:=by simpa using hc4
      have wb:=zW b (by omega);obtain⟨a1,a2,a3,a4,a5,a6,a7,a8,a9,a10⟩:=hfa b hbl;obtain⟨f,hf⟩:∃f:Nat,at0 F (b:Nat)=f:=⟨(at0 F (b:Nat)).toNat,by omega⟩;rw[hf]at a1 a2 a3 a4 a5 a6 a7 a8 a9 a10;rw[Int.toNat_natCast]at a4;have hfn:f<g.Feeds.length:=by omega
      have hix:=c_rIndex (upN p) (fdI g (f:Int)).At (by have:=h5 p (hps p (hL▸hpm));omega);rw[firstI_idx a5 a6]at hix;have hxg:=idxOf_get a6;have hxl:p.idxOf (fdI g (f:Int)).At.toNat<v.length:=by rw[hvl];exact List.idxOf_lt_length_of_mem a6
      have gv:=at0_nat hxl;have hvx:=hvk _ _ hxg;have hxb:=hvb _ (List.mem_of_getElem? gv);generalize p.idxOf (fdI g (f:Int)).At.toNat=ix at hix hxg hxl gv hvx hxb;generalize at0 v (ix:Nat)=x at gv hvx hxb;have hvd:0≤(fdI g (f:Int)).Volts*d∧(fdI g (f:Int)).Volts*d≤2000000000000:=⟨Int.mul_nonneg (by omega) (by omega),Int.le_trans (Int.mul_le_mul a8 hd1 (by omega) (by omega)) (by omega)⟩;have hon:bAt s.Feeds f=true:=by have:=(hfm _ (List.mem_of_getElem? a1)).2.2.2;rwa [Int.toNat_natCast]at this
      have hff:=ffR (g:=g) (s:=s) (vf:=vf) (f:=f) hd0 hvx (by omega) hon;have w1:IntKind.i64.wrap ((fdI g (f:Int)).Volts*d)=(fdI g (f:Int)).Volts*d:=wrap_in (by omega) (by omega);have w2:IntKind.i64.wrap ((fdI g (f:Int)).Volts*d-x)=(fdI g (f:Int)).Volts*d-x:=wrap_in (by omega) (by omega);have hsd:(fdI g (f:Int)).Siem*((fdI g (f:Int)).Volts*d-x)≤40000000000000∧-40000000000000≤(fdI g (f:Int)).Siem*((fdI g (f:Int)).Volts*d-x):=by
       rcases(by omega:(fdI g (f:Int)).Siem=1∨(fdI g (f:Int)).Siem=2∨(fdI g (f:Int)).Siem=3∨(fdI g (f:Int)).Siem=4)with h|h|h|h<;>rw[h]<;>omega
      have w3:IntKind.i64.wrap ((fdI g (f:Int)).Siem*((fdI g (f:Int)).Volts*d-x))=(fdI g (f:Int)).Siem*((fdI g (f:Int)).Volts*d-x):=wrap_in (by omega) (by omega);have hfr:=c_rFrac (if 0<(fdI g (f:Int)).Siem*((fdI g (f:Int)).Volts*d-x)then(fdI g (f:Int)).Siem*((fdI g (f:Int)).Volts*d-x)else 0) d hd0 (by split<;>omega) (by split<;>omega) (by omega);rw[hff]at hfr;have hsl:=flR_len (g:=g) (s:=s) (vf:=vf) (done:=(L.take k).flatten) (fs:=F.take b);have gfl:=flR_get (g:=g) (s:=s) (vf:=vf) (done:=(L.take k).flatten) (fs:=F.take b) hfn;have hst:=flR_set (g:=g) (s:=s) (vf:=vf) (done:=(L.take k).flatten) (fs:=F.take b) (k:=f);have hFt:F.take (b+1)=F.take b++[(f:Int)]:=by rw[List.take_add_one,a1];rfl
      rw[←hFt]at hst;generalize flR g s vf (L.take k).flatten (F.take b)=FL at hsl gfl hst ⊢;refine awp_skip ?_;simp only[zT,reduceIte,Nat.reduceEqDiff];refine hK11 _ _ ?_;refine awp_prune [2,3,4,5,11,12,14,15,16,17,20,21] ?_;simp only[zP,Nat.reduceEqDiff,reduceIte];refine awp_seq_k fun K12 hK12=>?_;refine awp_block ?_;refine awp_sd mixed rfl fun K hK=>?_;simp -dsimp [a1,a4];refine hK _ _ _ (by decide+kernel) ?_;clear hK K;refine awp_draw mixed rfl fun K hK=>?_;simp -dsimp [a1,hp,pAV,gv,w1,w2,w3,hfn,hsl,gfl];refine callK_intro _ (hix) (by simp) ?_;simp -dsimp [a1,hp,pAV,gv,w1,w2,w3,hfn,hsl,gfl];refine callK_intro _ (hfr) (by simp) ?_;simp -dsimp [a1,hp,pAV,gv,w1,w2,w3,hfn,hsl,gfl];refine hK _ _ _ (by decide+kernel) ?_;clear hK K;simp only[zT,reduceIte,Nat.reduceEqDiff];refine hK12 _ _ ?_;refine awp_prune [2,3,4,5,11,12,14,15,16,17,20,21] ?_;simp only[zP,Nat.reduceEqDiff,reduceIte];refine aR fun K hK=>?_;simp -dsimp [wb];apply hK;clear hK K;simp only[zT,reduceIte,Nat.reduceEqDiff];exact⟨b+1,by omega,by omega,sub_rb [some 0,some 1,some 2,some 3] rfl (by simp) (by simp[←hst,List.map_set])⟩
     ·have hbe:¬b<F.length:=by simpa using hc4
      rw[show F.take b=F from List.take_of_length_le (by omega),hpr,←hfl2];refine awp_exit ?_;simp only[zT,reduceIte,Nat.reduceEqDiff];refine hK6 _ _ ?_;refine awp_prune [2,3,4,5,11,12,14,15] ?_;simp only[zP,Nat.reduceEqDiff,reduceIte];refine aR fun K hK=>?_;simp -dsimp [wk];apply hK;clear hK K;simp only[zT,reduceIte,Nat.reduceEqDiff];exact⟨k+1,⟨by omega,by rw[take_all' hp,k2,hok];rfl⟩,by omega,sub_rb [some 0,some 1,some 2,some 3] rfl (by simp) (by simp)⟩
  ·have hkl:¬k<L.length:=by simpa using hc1
   rw[List.take_of_length_le (by omega)]at k2 ⊢;have hva:vlF N vf L.flatten=vlA N vf:=vlF_all fun k hk=>hcov k hk;have hfa:flR g s vf L.flatten []=flA g s vf:=flR_all fun i hi=>by
    have hg:g.Feeds[i]?=some (fdI g (i:Int)):=by have:=fdI_get (g:=g) (i:=(i:Int)) (by omega) (by omega);rwa [Int.toNat_natCast]at this
    have hb:=hnt.feeds _ (List.mem_of_getElem? hg);exact hcov _ (by omega)
   have hvN:(vlA N vf).length=N:=by simp[vlA]
   have hfN:(flA g s vf).length=g.Feeds.length:=by simp[flA]
   have htv:List.take N ((vlA N vf).map Fr.cells)=(vlA N vf).map Fr.cells:=List.take_of_length_le (by simp;omega);have htf:List.take g.Feeds.length ((flA g s vf).map Fr.cells)=(flA g s vf).map Fr.cells:=List.take_of_length_le (by simp;omega);rw[hva,hfa];refine awp_exit ?_;simp only[zT,reduceIte,Nat.reduceEqDiff];refine hK4 _ _ ?_;refine awp_prune [11,12] ?_;simp only[zP,Nat.reduceEqDiff,reduceIte];refine aS fun K hK=>?_;simp -dsimp;apply hK;clear hK K;exact awp_ret (by simp[k2,hvN,hfN,htv,htf])
end Go.Cur
end
section
namespace Go.Cur
open Go.AM Go.Proofs
theorem ref_cases (g:Gr) (s:Sta) (l:List Ld):(fineB g s l=false∧refE g s l=2)∨(fineB g s l=true∧longB g s=true∧refE g s l=3)∨(fineB g s l=true∧longB g s=false∧refE g s l=0):=by
 unfold refE
 cases fineB g s l<;>cases longB g s<;>simp
theorem lit_p5 {g:Gr} {s:Sta} (hl:litB g s=true) (hlo:longB g s=false):∀p∈partL g s,p.length≤5:=fun p hp=>by
 unfold litB at hl;rw[List.all_eq_true]at hl;unfold longB at hlo;rw[List.any_eq_false]at hlo;have h1:=hl p hp;have h2:=hlo p hp;simp[litP]at h1 h2;omega
theorem c_CurrentSolves (g:Gr) (s:Sta) (l:List Ld):PureCall Try.prog 3 [g.av,s.av,lL l] (Bo true):=by
 have hk:=c_known;have hfw:=c_few g s l;refine PureCall.of_body Try.func3 rfl (by decide) (by simp[Try.ntmps3]) ?_;simp only[Try.ntmps3,Try.results3];refine aS fun K hK=>?_;simp -dsimp;apply hK;clear hK K;refine awp_seq_k fun K1 hK1=>?_;refine aS fun K hK=>?_;simp -dsimp;refine callK_intro _ (hfw) (by simp) ?_;simp -dsimp;apply hK;clear hK K;refine awp_cond rfl (fun hc0=>?_) (fun hc0=>?_)
 ·refine aS fun K hK=>?_;simp -dsimp;refine callK_intro _ (hk) (by simp) ?_;simp -dsimp;apply hK;clear hK K;exact awp_ret (by simp)
 ·have hfew:fewB g s l.length=true:=by simpa using hc0
  have hsp:=few_spec hfew;have hrf:=c_refused g s l (by omega) (by omega) (by omega);have hlt:refE g s l≠2→PureCall Try.prog 17 [g.av,s.av] (Bo (litB g s)):=fun h=>c_little g s (fine_net (by rcases ref_cases g s l with h1|h1|h1;exact absurd h1.2 h;exact h1.1;exact h1.1));generalize hRE:refE g s l=re at hrf hlt;refine awp_skip ?_;simp only[zT,reduceIte,Nat.reduceEqDiff];refine hK1 _ _ ?_;refine awp_prune [2,3,4] ?_;simp only[zP,Nat.reduceEqDiff,reduceIte];refine aS fun K hK=>?_;simp -dsimp;refine callK_intro _ (hrf) (by simp) ?_;simp -dsimp;apply hK;clear hK K;refine awp_seq_k fun K2 hK2=>?_;refine aS fun K hK=>?_;simp -dsimp;refine callK_may _ (fun hm=>hlt (by simpa using hm)) (by simp) ?_;simp -dsimp;apply hK;clear hK K;refine awp_cond rfl (fun hc1=>?_) (fun hc1=>?_)
  ·refine aS fun K hK=>?_;simp -dsimp;refine callK_intro _ (hk) (by simp) ?_;simp -dsimp;apply hK;clear hK K;exact awp_ret (by simp)
  ·have hli:re=2∨litB g s=true:=by
    by_cases h:re=2
    ·exact Or.inl h
    ·right;simp[h]at hc1;exact hc1
   have h5:fineB g s l=true→longB g s=false→∀p∈partL g s,p.length≤5:=fun h1 h2=>by
    refine lit_p5 (hli.resolve_left fun h=>?_) h2;rw[←hRE]at h;unfold refE at h;rw[if_pos h1]at h
    split at h<;>omega
   refine awp_skip ?_;simp only[zT,reduceIte,Nat.reduceEqDiff];refine hK2 _ _ ?_;refine awp_prune [2,3,4,7] ?_;simp only[zP,Nat.reduceEqDiff,reduceIte];have hsv:=c_Solve g s l (by omega) (fun h=>few_12 hfew (fine_net h).gr) (fun h1 h2 p hp=>Or.inl (h5 h1 h2 p hp));unfold solveA at hsv
   rcases ref_cases g s l with⟨hfi,hre⟩|⟨hfi,hlo,hre⟩|⟨hfi,hlo,hre⟩
   all_goals rw[hRE]at hre
   all_goals subst hre
   rw[if_neg (by rw[hfi];decide)]at hsv
   rotate_left
   rw[if_pos hfi,if_pos hlo]at hsv
   rotate_left
   have hnt:=fine_net hfi;have h5':=h5 hfi hlo;have hrs:=c_rSolve g s l (allS l) hnt (by omega) (by simp) (fine_ld hfi) h5';have hAl:=c_rAll l.length (by omega);have hbd:=grB_bd hnt.gr;rw[if_pos hfi,if_neg (by rw[hlo];decide)]at hsv
   cases hok:okS g s (tkK l (allS l))
   rw[if_neg (by rw[hok];decide)]at hsv hrs
   rotate_left
   rw[if_pos hok]at hsv hrs;have g1:=c_rSame (vlA g.Nodes.toNat (vfS g s (tkK l (allS l)))) (vlA g.Nodes.toNat (vfS g s (tkK l (allS l)))) (by simp[vlA];omega);have g2:=c_rSame (flA g s (vfS g s (tkK l (allS l)))) (flA g s (vfS g s (tkK l (allS l)))) (by simp[flA];omega);generalize vlA g.Nodes.toNat (vfS g s (tkK l (allS l)))=VS at hsv hrs g1;generalize flA g s (vfS g s (tkK l (allS l)))=FS at hsv hrs g2
   rotate_left
   all_goals try (change PureCall _ _ [_,_,_,bL (List.replicate l.length true)] _ at hrs)
   all_goals try (generalize List.replicate l.length true=al at hrs hAl)
   all_goals have w00:IntKind.i64.wrap 0=0:=wrap_in (by decide) (by decide)
   ·refine aS fun K hK=>?_;simp -dsimp;refine callK_intro _ (hsv) (by simp) ?_;simp -dsimp;apply hK;clear hK K;refine awp_seq_k fun K3 hK3=>?_;refine aS fun K hK=>?_;simp -dsimp;apply hK;clear hK K;refine awp_cond rfl (fun hc2=>?_) (fun hc2=>?_)
    ·refine aS fun K hK=>?_;simp -dsimp [w00];refine callK_may _ (fun hm=>hk) (by simp) ?_;simp -dsimp [w00];apply hK;clear hK K;exact awp_ret (by simp)
    ·simp at hc2
   ·refine aS fun K hK=>?_;simp -dsimp;refine callK_intro _ (hsv) (by simp) ?_;simp -dsimp;apply hK;clear hK K;refine awp_seq_k fun K4 hK4=>?_;refine aS fun K hK=>?_;simp -dsimp;apply hK;clear hK K;refine awp_cond rfl (fun hc2=>?_) (fun hc2=>?_)
    ·refine aS fun K hK=>?_;simp -dsimp [w00];refine callK_may _ (fun hm=>hk) (by simp) ?_;simp -dsimp [w00];apply hK;clear hK K;exact awp_ret (by simp)
    ·simp at hc2
   ·refine aS fun K hK=>?_;simp -dsimp;refine callK_intro _ (hsv) (by simp) ?_;simp -dsimp;apply hK;clear hK K;refine awp_seq_k fun K5 hK5=>?_;refine aS fun K hK=>?_;simp -dsimp;apply hK;clear hK K;refine awp_cond rfl (fun hc2=>?_) (fun hc2=>?_)
    ·simp at hc2
    ·refine awp_skip ?_;simp only[zT,reduceIte,Nat.reduceEqDiff];refine hK5 _ _ ?_;refine awp_prune [2,3,4,8,9,10] ?_;simp only[zP,Nat.reduceEqDiff,reduceIte];refine awp_sd mixed rfl fun K hK=>?_;simp -dsimp;refine callK_intro _ (hAl) (by simp) ?_;simp -dsimp;refine callK_intro _ (hrs) (by simp) ?_;simp -dsimp;refine hK _ _ _ (by decide+kernel) ?_;clear hK K;refine awp_seq_k fun K6 hK6=>?_;refine aS fun K hK=>?_;simp -dsimp;apply hK;clear hK K;refine awp_cond rfl (fun hc3=>?_) (fun hc3=>?_)
     ·refine aS fun K hK=>?_;simp -dsimp [w00];refine callK_may _ (fun hm=>hk) (by simp) ?_;simp -dsimp [w00];apply hK;clear hK K;exact awp_ret (by simp)
     ·simp at hc3
   ·refine aS fun K hK=>?_;simp -dsimp;refine callK_intro _ (hsv) (by simp) ?_;simp -dsimp;apply hK;clear hK K;refine awp_seq_k fun K7 hK7=>?_;refine aS fun K hK=>?_;simp -dsimp;apply hK;clear hK K;refine awp_cond rfl (fun hc2=>?_) (fun hc2=>?_)
    ·simp at hc2
    ·refine awp_skip ?_;simp only[zT,reduceIte,Nat.reduceEqDiff];refine hK7 _ _ ?_;refine awp_prune [2,3,4,8,9,10] ?_;simp only[zP,Nat.reduceEqDiff,reduceIte];refine awp_sd mixed rfl fun K hK=>?_;simp -dsimp;refine callK_intro _ (hAl) (by simp) ?_;simp -dsimp;refine callK_intro _ (hrs) (by simp) ?_;simp -dsimp;refine hK _ _ _ (by decide+kernel) ?_;clear hK K;refine awp_seq_k fun K8 hK8=>?_;refine aS fun K hK=>?_;simp -dsimp;apply hK;clear hK K;refine awp_cond rfl (fun hc3=>?_) (fun hc3=>?_)
     ·simp at hc3
     ·refine awp_skip ?_;simp only[zT,reduceIte,Nat.reduceEqDiff];refine hK8 _ _ ?_;refine awp_prune [8,9,10,11,12] ?_;simp only[zP,Nat.reduceEqDiff,reduceIte];refine aS fun K hK=>?_;simp -dsimp;refine callK_may _ (fun hm=>g1) (by simp) ?_;simp -dsimp;refine callK_may _ (fun hm=>g2) (by simp) ?_;simp -dsimp;refine callK_may _ (fun hm=>hk) (by simp) ?_;simp -dsimp;apply hK;clear hK K;exact awp_ret (by simp)
end Go.Cur
end
section
namespace Go.Tram
open Go.AM Go.Proofs
def RC (w:World) (avs:List AV) (cs:List Value):Prop:=avs.length=cs.length∧∀(i:Nat) c x,avs[i]?=some c→cs[i]?=some x→RepP w (fun _=>False) c x∧isCell x=true
theorem RC.one {w:World} {a:AV} {x:Value} (h:RepP w (fun _=>False) a x) (hc:isCell x=true):RC w [a] [x]:=by
 refine⟨rfl,fun i c y h1 h2=>?_⟩
 cases i with
 |zero=>simp at h1 h2;subst h1 h2;exact⟨h,hc⟩
 |succ i=>simp at h1
theorem RC.app {w:World} {a b:List AV} {x y:List Value} (h:RC w a x) (k:RC w b y):RC w (a++b) (x++y):=by
 refine⟨by simp[h.1,k.1],fun i c u h1 h2=>?_⟩
 by_cases hi:i<a.length
 ·rw[List.getElem?_append_left hi]at h1;rw[List.getElem?_append_left (by rw[←h.1];exact hi)]at h2;exact h.2 i c u h1 h2
 ·rw[List.getElem?_append_right (by omega)]at h1;rw[List.getElem?_append_right (by rw[←h.1];omega),←h.1]at h2;exact k.2 _ c u h1 h2
def layB:List (Nat×Nat×TypeId)→Nat→Nat→Bool
 |[],o,n=>o==n
 |(off,sz,_)::r,o,n=>off==o&&layB r (o+sz) n
theorem layB_le:∀(fs:List (Nat×Nat×TypeId)) (o n:Nat),layB fs o n=true→o≤n
 |[],o,n,h=>by simp[layB]at h;omega
 |(off,sz,t)::r,o,n,h=>by
  simp only[layB,Bool.and_eq_true]at h;have:=layB_le r _ _ h.2;omega
theorem layB_off:∀(fs:List (Nat×Nat×TypeId)) (o n:Nat),layB fs o n=true→∀f∈fs,o≤f.1
 |[],o,n,h,f,hf=>by cases hf
 |(off,sz,t)::r,o,n,h,f,hf=>by
  simp only[layB,Bool.and_eq_true,beq_iff_eq]at h
  rcases List.mem_cons.1 hf with rfl|hf
  ·simp only[];omega
  ·have:=layB_off r _ _ h.2 f hf;omega
theorem assemble {w:World} {Q:(Nat×Nat×TypeId)→List AV→Prop}:∀(fs:List (Nat×Nat×TypeId)) (o N:Nat) (cs:List Value),layB fs o N=true→cs.length=N→
  (∀f∈fs,∃a,RC w a ((cs.drop f.1).take f.2.1)∧Q f a)→∃avs,RC w avs (cs.drop o)∧∀f∈fs,Q f ((avs.drop (f.1-o)).take f.2.1)
 |[],o,N,cs,h,hl,_=>by
  simp only[layB,beq_iff_eq]at h;refine⟨[],⟨by simp;omega,fun i c x h1=>by simp at h1⟩,fun f hf=>by cases hf⟩
 |(off,sz,t)::r,o,N,cs,h,hl,hq=>by
  simp only[layB,Bool.and_eq_true,beq_iff_eq]at h;obtain⟨rfl,h2⟩:=h;have hle:=layB_le r _ _ h2;obtain⟨a,ha,hqa⟩:=hq _ (List.mem_cons_self ..);obtain⟨b,hb,hqb⟩:=assemble r (off+sz) N cs h2 hl (fun f hf=>hq f (List.mem_cons_of_mem _ hf));have hal:a.length=sz:=by rw[ha.1];simp;omega
  have hsplit:cs.drop off=(cs.drop off).take sz++cs.drop (off+sz):=by rw[←List.drop_drop,List.take_append_drop]
  refine⟨a++b,by rw[hsplit];exact ha.app hb,fun f hf=>?_⟩
  rcases List.mem_cons.1 hf with rfl|hf
  ·simp only[Nat.sub_self,List.drop_zero];rw[List.take_append_of_le_length (by omega),List.take_of_length_le (by omega)];exact hqa
  ·have ho:=layB_off r _ _ h2 f hf;have:=hqb f hf;rw[List.drop_append,List.drop_eq_nil_of_le (by omega),List.nil_append,hal,show f.1-off-sz=f.1-(off+sz)by omega];exact this
section
variable {P:Program}
def goodB (P:Program):Nat→TypeId→Bool
 |0,_=>false
 | n+1,t=>match ktOf P t with
  |some _=>true
  |none=>match tdOf P t with
   | .slice e=>decide ((tdOf P e).size≠0)&&goodB P n e
   | .agg z fs=>layB fs 0 z.length&&fs.all fun f=>goodB P n f.2.2
   |_=>false
def Shaped (P:Program):Nat→TypeId→List AV→Prop
 |0,_,_=>False
 | n+1,t,avs=>match ktOf P t with
  |some (.i k)=>∃m,avs=[.v (.int k m)]∧(Lit.int k m).wf=true
  |some .b=>∃b,avs=[.v (.bool b)]
  |none=>match tdOf P t with
   | .slice e=>∃els,avs=[.lst (tdOf P e).size els]∧els.length≤maxLen∧∀el∈els,Shaped P n e el
   | .agg z fs=>avs.length=z.length∧∀f∈fs,Shaped P n f.2.2 ((avs.drop f.1).take f.2.1)
   |_=>False
theorem cellsOf_td (w:World) {e:TypeId} (h:tdOf P e≠ .bad):P.cellsOf e=(tdOf P e).size:=by
 obtain⟨i,h1,h2,_⟩:=td_size (P:=P) (w:=w) h;simp[Program.cellsOf,h1,h2]
theorem elems_of {w:World} {R:List AV→List Value→Prop} {g:Nat→Option (List Value)}:∀n,(∀i,i<n→∃cs,g i=some cs∧∃a,R a cs)→
  ∃(els:List (List AV)) (css:List (List Value)),els.length=n∧css.length=n∧∀(i:Nat) a cs,els[i]?=some a→css[i]?=some cs→g i=some cs∧R a cs
 |0,_=>⟨[],[],rfl,rfl,fun i a cs h=>by simp at h⟩
 | n+1,h=>by
  obtain⟨els,css,h1,h2,h3⟩:=elems_of (w:=w) (R:=R) (g:=g) n (fun i hi=>h i (by omega));obtain⟨cs,hg,a,ha⟩:=h n (by omega);refine⟨els++[a],css++[cs],by simp[h1],by simp[h2],fun i b ds k1 k2=>?_⟩
  by_cases hi:i<n
  ·rw[List.getElem?_append_left (by omega)]at k1 k2;exact h3 i b ds k1 k2
  ·have hn:i=n:=by
    have:=(List.getElem?_eq_some_iff.1 k1).1;simp[h1]at this;omega
   subst hn;rw[List.getElem?_append_right (by omega)]at k1 k2;simp[h1,h2]at k1 k2;subst k1 k2;exact⟨hg,ha⟩
theorem trod_rc {H:Type} {enc:TypeId×Value→H} {w:World} {spare:Nat→Bool} {held:Bool}:∀(n:Nat) (fuel:Nat) (t:TypeId) (cs:List Value) (x:DataW H×List MemPlace),goodB P n t=true→
  DataW.trod enc P w 0 spare held fuel t cs=some x→∃avs,RC w avs cs∧Shaped P n t avs:=by
 intro n
 induction n with
 |zero=>intro fuel t cs x h;simp[goodB]at h
 | succ n ih=>
  intro fuel t cs x hg h;unfold goodB at hg;unfold Shaped
  cases hk:ktOf P t with
  | some kt=>
   have hu:=(ktOf_cell hk).2.2.2
   cases kt with
   |i k=>
    obtain⟨m,rfl,rfl,hw⟩:=DataW.trod_int hu h;exact⟨[.v (.int k m)],RC.one (.v _) rfl,m,rfl,hw⟩
   |b=>
    obtain⟨b,rfl,rfl⟩:=DataW.trod_bool hu h;exact⟨[.v (.bool b)],RC.one (.v _) rfl,b,rfl⟩
  | none=>
   rw[hk]at hg;simp only at hg ⊢
   cases ht:tdOf P t with
   |cell z=>rw[ht]at hg;simp at hg
   |arr z m e=>rw[ht]at hg;simp at hg
   |bad=>rw[ht]at hg;simp at hg
   | slice e=>
    rw[ht]at hg;simp only[Bool.and_eq_true,decide_eq_true_eq]at hg ⊢;obtain⟨hsz,hge⟩:=hg;have hne:tdOf P e≠ .bad:=by intro hb;rw[hb]at hsz;exact hsz rfl
    have hc:=cellsOf_td w hne;obtain⟨info,h1,h2,_⟩:=tdOf_slice ht
    rcases DataW.trod_slice h2 h with⟨rfl,rfl⟩|⟨a,len,cap,elems,rest,n',rfl,rfl,rfl,hb,hl,hcap,hel,hall,_⟩
    ·exact⟨[.lst (tdOf P e).size []],RC.one (.lstNil _ _ _) rfl,[],rfl,by simp,by simp⟩
    ·rw [hc]at hall;obtain⟨els,css,e1,e2,e3⟩:=elems_of (w:=w) (R:=fun a cs=>RC w a cs∧Shaped P n e a) (g:=fun i=>w.cells? 0 (a.add (i*(tdOf P e).size)) (tdOf P e).size) len (fun i hi=>by
      have h3:=hall i hi;obtain⟨y,hy⟩:∃y,elems[i]?=some y:=⟨_,List.getElem?_eq_getElem (by omega)⟩;rw[hy,Option.bind_eq_some_iff]at h3;obtain⟨cs,q1,q2⟩:=h3;obtain⟨av,r1,r2⟩:=ih _ _ _ _ hge q2;exact⟨cs,q1,av,r1,r2⟩)
     refine⟨[.lst (tdOf P e).size els],?_,els,rfl,by omega,?_⟩
     ·refine RC.one ?_ rfl
      by_cases hlen:len=0
      ·have:els=[]:=List.eq_nil_of_length_eq_zero (by omega);subst this;subst hlen;exact .lstNil _ _ _
      ·have hcell:∀(i j:Nat) cs,css[i]?=some cs→j<(tdOf P e).size→w.cell? ((a.add (i*(tdOf P e).size)).add j)=cs[j]?∧cs.length=(tdOf P e).size:=by
        intro i j cs hi hj;have hil:=(List.getElem?_eq_some_iff.1 hi).1;obtain⟨av,hav⟩:∃av,els[i]?=some av:=⟨_,List.getElem?_eq_getElem (by omega)⟩;have:=World.cells?_some (e3 i av cs hav hi).1;exact⟨this.2.2 j hj,this.2.1⟩
       have hspot:a.spot=none:=by
        obtain⟨cs,hcs⟩:∃cs,css[0]?=some cs:=⟨_,List.getElem?_eq_getElem (by omega)⟩;obtain⟨k1,k2⟩:=hcell 0 0 cs hcs (by omega);rw[List.getElem?_eq_getElem (by omega)]at k1;have ha:(a.add (0*(tdOf P e).size)).add 0=a:=by simp[Addr.add]
        rw[ha]at k1;exact World.cell?_spot k1
       obtain⟨b,off,sp⟩:=a;simp only at hspot;subst hspot;have hcl:∀c∈css,c.length=(tdOf P e).size:=by
        intro c hc';obtain⟨i,hi⟩:=List.getElem?_of_mem hc';exact(hcell i 0 c hi (by omega)).2
       have hell:∀c∈els,c.length=(tdOf P e).size:=by
        intro c hc';obtain⟨i,hi⟩:=List.getElem?_of_mem hc';have hil:=(List.getElem?_eq_some_iff.1 hi).1;obtain⟨cs,hcs⟩:∃cs,css[i]?=some cs:=⟨_,List.getElem?_eq_getElem (by omega)⟩;rw[(e3 i c cs hi hcs).2.1.1];exact hcl cs (List.mem_of_getElem? hcs)
       have key:∀(i:Nat) (x:Value),css.flatten[i]?=some x→∃q j cs,i=q*(tdOf P e).size+j∧j<(tdOf P e).size∧css[q]?=some cs∧cs[j]?=some x:=by
        intro i x hx;have hil:=(List.getElem?_eq_some_iff.1 hx).1;rw[length_flatten hcl]at hil;have hq:i/ (tdOf P e).size<css.length:=by rw[Nat.div_lt_iff_lt_mul (by omega)];exact hil
        have hj:=Nat.mod_lt i (show(tdOf P e).size>0 by omega);have hme:i=i/ (tdOf P e).size*(tdOf P e).size+i % (tdOf P e).size:=by rw[Nat.mul_comm];exact(Nat.div_add_mod i _).symm
        obtain⟨cs,hcs⟩:∃cs,css[i/ (tdOf P e).size]?=some cs:=⟨_,List.getElem?_eq_getElem hq⟩;refine⟨_,_,cs,hme,hj,hcs,?_⟩;have:=flatten_get hcl hcs (i % (tdOf P e).size) hj;rw[←hme]at this;rw[←this];exact hx
       have hre:els.length=len:=e1;rw[←hre];have hblk:b<w.heap.size:=by
        obtain⟨cs,hcs⟩:∃cs,css[0]?=some cs:=⟨_,List.getElem?_eq_getElem (by omega)⟩;obtain⟨k1,k2⟩:=hcell 0 0 cs hcs (by omega);rw[List.getElem?_eq_getElem (by omega)]at k1;simp only[Nat.zero_mul,Addr.add_lit,Nat.add_zero]at k1
        rcases Nat.lt_or_ge b w.heap.size with hlt|hge
        ·exact hlt
        ·simp[World.cell?,Array.getElem?_eq_none hge]at k1
       refine RepP.lst _ els b off cap css.flatten (fun h=>h) hblk (by omega) hell (by rw[length_flatten hell,length_flatten hcl,e1,e2]) ?_ ?_
       ·intro i x hx;obtain⟨q,j,cs,rfl,hj,hcs,hxj⟩:=key i x hx;obtain⟨k1,_⟩:=hcell q j cs hcs hj;rw[Addr.add_lit,Addr.add_lit,hxj]at k1;obtain⟨av,hav⟩:∃av,els[q]?=some av:=⟨_,List.getElem?_eq_getElem (by have:=(List.getElem?_eq_some_iff.1 hcs).1;omega)⟩;have hr:=(e3 q av cs hav hcs).2.1;obtain⟨c,hc'⟩:∃c,av[j]?=some c:=⟨_,List.getElem?_eq_getElem (by rw[hr.1];exact(List.getElem?_eq_some_iff.1 hxj).1)⟩;refine⟨?_,(hr.2 j c x hc' hxj).2⟩;rw[←Nat.add_assoc];exact k1
       ·intro i c x hc' hx;obtain⟨q,j,cs,rfl,hj,hcs,hxj⟩:=key i x hx;obtain⟨av,hav⟩:∃av,els[q]?=some av:=⟨_,List.getElem?_eq_getElem (by have:=(List.getElem?_eq_some_iff.1 hcs).1;omega)⟩;rw[flatten_get hell hav j hj]at hc';exact((e3 q av cs hav hcs).2.1.2 j c x hc' hxj).1
     ·intro el hel';obtain⟨i,hi⟩:=List.getElem?_of_mem hel';have hil:=(List.getElem?_eq_some_iff.1 hi).1;obtain⟨cs,hcs⟩:∃cs,css[i]?=some cs:=⟨_,List.getElem?_eq_getElem (by omega)⟩;exact(e3 i el cs hi hcs).2.2
   | agg z fs=>
    rw[ht]at hg;simp only[Bool.and_eq_true]at hg ⊢;obtain⟨hlay,hgf⟩:=hg;obtain⟨info,fa,h1,h2,h3,h4,hfs,_,hall⟩:=tdOf_agg ht;obtain⟨xs,n',rfl,rfl,hl,hxl,hf⟩:=DataW.trod_struct h2 h;have hcl:cs.length=z.length:=by rw[hl];simp[Program.cellsOf,h1,h4]
    obtain⟨avs,hr,hq⟩:=assemble (w:=w) (Q:=fun f a=>Shaped P n f.2.2 a) fs 0 z.length cs hlay hcl (fun f hff=>by
     have hff':=hff;rw[hfs,List.mem_map]at hff';obtain⟨fd,hfd,rfl⟩:=hff';obtain⟨i,hi⟩:=List.getElem?_of_mem hfd;have hia:fa[i]?=some fd:=by simpa using hi
     have htr:=hf i fd hia;have hil:i<xs.length:=by rw[hxl];exact(Array.getElem?_eq_some_iff.1 hia).1
     rw[List.getElem?_eq_getElem hil]at htr;exact ih _ _ _ _ (List.all_eq_true.1 hgf _ hff) htr)
    rw[List.drop_zero]at hr;refine⟨avs,hr,by rw[hr.1,hcl],fun f hff=>?_⟩;have:=hq f hff
    rwa [Nat.sub_zero]at this
end
end Go.Tram
end
section
namespace Go.Cur
open Go.AM Go.Proofs Go.Tram
section
variable {P:Program}
theorem shaped_slice {n:Nat} {t e:TypeId} {avs:List AV} (hk:ktOf P t=none) (ht:tdOf P t= .slice e) (h:Shaped P (n+1) t avs):∃els,avs=[.lst (tdOf P e).size els]∧els.length≤maxLen∧∀el∈els,Shaped P n e el:=by
 simp only[Shaped,hk,ht]at h;exact h
theorem shaped_agg {n:Nat} {t:TypeId} {z:List Value} {fs:List (Nat×Nat×TypeId)} {avs:List AV} (hk:ktOf P t=none) (ht:tdOf P t= .agg z fs) (h:Shaped P (n+1) t avs):avs.length=z.length∧∀f∈fs,Shaped P n f.2.2 ((avs.drop f.1).take f.2.1):=by
 simp only[Shaped,hk,ht]at h;exact h
theorem shaped_int {n:Nat} {t:TypeId} {k:IntKind} {avs:List AV} (hk:ktOf P t=some (.i k)) (h:Shaped P (n+1) t avs):∃m,avs=[.v (.int k m)]∧(Lit.int k m).wf=true:=by
 simp only[Shaped,hk]at h;exact h
theorem shaped_bool {n:Nat} {t:TypeId} {avs:List AV} (hk:ktOf P t=some .b) (h:Shaped P (n+1) t avs):∃b,avs=[.v (.bool b)]:=by
 simp only[Shaped,hk]at h;exact h
end
theorem list_of {α:Type} {c:α→List AV} {R:α→Prop}:∀{els:List (List AV)},(∀el∈els,∃a,el=c a∧R a)→∃l:List α,els=l.map c∧∀a∈l,R a
 |[],_=>⟨[],rfl,by simp⟩
 |e::els,h=>by
  obtain⟨a,rfl,ha⟩:=h e (List.mem_cons_self ..);obtain⟨l,rfl,hl⟩:=list_of (els:=els) (c:=c) (R:=R) (fun el hel=>h el (List.mem_cons_of_mem _ hel));refine⟨a::l,rfl,fun b hb=>?_⟩
  rcases List.mem_cons.1 hb with rfl|hb
  ·exact ha
  ·exact hl b hb
theorem und_bool2:(Try.prog).underlying 4=some .bool:=by kernel_rfl
theorem k_int:ktOf Try.prog 3=some (.i .i64):=by kernel_rfl
theorem k_bool:ktOf Try.prog 4=some .b:=by kernel_rfl
def I64 (n:Int):Prop:=-9223372036854775808≤n∧n≤9223372036854775807
theorem wf_i64 {m:Int} (h:(Lit.int .i64 m).wf=true):I64 m:=by
 simpa [Lit.wf,IntKind.min,IntKind.max,IntKind.signed,IntKind.bits,I64]using h
theorem sh_int {n:Nat} {avs:List AV} (h:Shaped Try.prog (n+1) 3 avs):∃m,avs=[I m]∧I64 m:=by
 obtain⟨m,h1,h2⟩:=shaped_int k_int h;exact⟨m,h1,wf_i64 h2⟩
theorem list2 {α:Type} {l:List α} (h:l.length=2):∃a b,l=[a,b]:=by match l,h with|[a,b],_=>exact⟨a,b,rfl⟩
theorem list3 {α:Type} {l:List α} (h:l.length=3):∃a b c,l=[a,b,c]:=by match l,h with|[a,b,c],_=>exact⟨a,b,c,rfl⟩
theorem list4 {α:Type} {l:List α} (h:l.length=4):∃a b c d,l=[a,b,c,d]:=by match l,h with|[a,b,c,d],_=>exact⟨a,b,c,d,rfl⟩
theorem sh_bl {n:Nat} {avs:List AV} (h:Shaped Try.prog (n+1) 4 avs):∃b,avs=bCell b:=shaped_bool k_bool h
theorem sh_bools {n:Nat} {avs:List AV} (h:Shaped Try.prog (n+2) 26 avs):∃l:List Bool,avs=[bL l]∧l.length≤maxLen:=by
 obtain⟨els,hl,hb,he⟩:=shaped_slice (by kernel_rfl) td26 h;obtain⟨l,rfl,hR⟩:=list_of (c:=bCell) (R:=fun _=>True) (fun el hel=>by obtain⟨b,h⟩:=sh_bl (he el hel);exact⟨b,h,trivial⟩);simp at hl hb;exact⟨l,hl,hb⟩
theorem sh_wire {n:Nat} {avs:List AV} (h:Shaped Try.prog (n+2) 54 avs):∃s:Wr,avs=s.cells:=by
 obtain⟨h1,h2⟩:=shaped_agg (by kernel_rfl) td54 h;obtain⟨a,b,c,d,rfl⟩:=list4 h1;obtain⟨x,hx,_⟩:=sh_int (h2 (0,1,3) (by simp));obtain⟨y,hy,_⟩:=sh_int (h2 (1,1,3) (by simp));obtain⟨z,hz,_⟩:=sh_int (h2 (2,1,3) (by simp));obtain⟨u,hu⟩:=sh_bl (h2 (3,1,4) (by simp));simp at hx hy hz hu;subst hx hy hz hu;exact⟨⟨x,y,z,u⟩,rfl⟩
theorem sh_feed {n:Nat} {avs:List AV} (h:Shaped Try.prog (n+2) 52 avs):∃s:Fd,avs=s.cells:=by
 obtain⟨h1,h2⟩:=shaped_agg (by kernel_rfl) td52 h;obtain⟨a,b,c,d,rfl⟩:=list4 h1;obtain⟨x,hx,_⟩:=sh_int (h2 (0,1,3) (by simp));obtain⟨y,hy,_⟩:=sh_int (h2 (1,1,3) (by simp));obtain⟨z,hz,_⟩:=sh_int (h2 (2,1,3) (by simp));obtain⟨u,hu,_⟩:=sh_int (h2 (3,1,3) (by simp));simp at hx hy hz hu;subst hx hy hz hu;exact⟨⟨x,y,z,u⟩,rfl⟩
theorem sh_load {n:Nat} {avs:List AV} (h:Shaped Try.prog (n+2) 66 avs):∃s:Ld,avs=s.cells∧I64 s.Units:=by
 obtain⟨h1,h2⟩:=shaped_agg (by kernel_rfl) td66 h;obtain⟨a,b,c,rfl⟩:=list3 h1;obtain⟨x,hx,_⟩:=sh_int (h2 (0,1,3) (by simp));obtain⟨y,hy,iy⟩:=sh_int (h2 (1,1,3) (by simp));obtain⟨z,hz,_⟩:=sh_int (h2 (2,1,3) (by simp));simp at hx hy hz;subst hx hy hz;exact⟨⟨x,y,z⟩,rfl,iy⟩
theorem sh_grid {n:Nat} {avs:List AV} (h:Shaped Try.prog (n+4) 25 avs):∃g:Gr,avs=g.cells∧g.Wires.length≤maxLen∧g.Feeds.length≤maxLen:=by
 obtain⟨h1,h2⟩:=shaped_agg (by kernel_rfl) td25 h;obtain⟨a,b,c,d,rfl⟩:=list4 h1;obtain⟨x,hx,_⟩:=sh_int (h2 (0,1,3) (by simp));obtain⟨e1,hl1,b1,he1⟩:=shaped_slice (by kernel_rfl) td22 (h2 (1,1,22) (by simp));obtain⟨l1,rfl,_⟩:=list_of (c:=Wr.cells) (R:=fun _=>True) (fun el hel=>by obtain⟨b,h⟩:=sh_wire (he1 el hel);exact⟨b,h,trivial⟩);obtain⟨e2,hl2,b2,he2⟩:=shaped_slice (by kernel_rfl) td23 (h2 (2,1,23) (by simp));obtain⟨l2,rfl,_⟩:=list_of (c:=Fd.cells) (R:=fun _=>True) (fun el hel=>by obtain⟨b,h⟩:=sh_feed (he2 el hel);exact⟨b,h,trivial⟩);obtain⟨y,hy,_⟩:=sh_int (h2 (3,1,3) (by simp));simp at hx hl1 hl2 hy;subst hx hl1 hl2 hy;rw[List.length_map]at b1 b2;exact⟨⟨x,l1,l2,y⟩,by simp,b1,b2⟩
theorem sh_state {n:Nat} {avs:List AV} (h:Shaped Try.prog (n+4) 28 avs):∃s:Sta,avs=s.cells∧s.Feeds.length≤maxLen∧s.Wires.length≤maxLen:=by
 obtain⟨h1,h2⟩:=shaped_agg (by kernel_rfl) td28 h;obtain⟨a,b,rfl⟩:=list2 h1;obtain⟨l1,hl1,b1⟩:=sh_bools (h2 (0,1,26) (by simp));obtain⟨l2,hl2,b2⟩:=sh_bools (h2 (1,1,26) (by simp));simp at hl1 hl2;subst hl1 hl2;exact⟨⟨l1,l2⟩,by simp,b1,b2⟩
theorem sh_loads {n:Nat} {avs:List AV} (h:Shaped Try.prog (n+3) 29 avs):∃l:List Ld,avs=[lL l]∧l.length≤maxLen∧∀x∈l,I64 x.Units:=by
 obtain⟨els,hl,hb,he⟩:=shaped_slice (by kernel_rfl) td29 h;obtain⟨l,rfl,hR⟩:=list_of (c:=Ld.cells) (R:=fun x=>I64 x.Units) (fun el hel=>sh_load (he el hel));rw[List.length_map]at hb;exact⟨l,hl,hb,hR⟩
open Go.WideShapes in
theorem arg_agg {H:Type} {enc:TypeId×Value→H} {W:World} {base n:Nat} {t:TypeId} {v:Value} {d:DataW H} {p:List MemPlace} {z:List Value} {fs:List (Nat×Nat×TypeId)} (hg:goodB Try.prog n t=true) (ht:tdOf Try.prog t= .agg z fs)
  (hv:Value.okWide Try.prog W .any base t v) (h:DataW.Trod enc Try.prog W 0 (fun _=>true) true t v d p):∃avs,RepP W (fun _=>False) (.agg avs) v∧Shaped Try.prog n t avs:=by
 obtain⟨fuel,h⟩:=h;obtain⟨avs,hr,hs⟩:=trod_rc n fuel t _ _ hg h;obtain⟨info,fa,h1,h2,_⟩:=tdOf_agg ht;obtain⟨cs,rfl,_⟩:=okWide_struct h2 hv;refine⟨avs,?_,hs⟩;have:=RepP.agg (w:=W) (S:=fun _=>False) avs cs.toList hr.1 (fun x hx=>by
  obtain⟨i,hi⟩:=List.getElem?_of_mem hx;have hil:=(List.getElem?_eq_some_iff.1 hi).1;obtain⟨c,hc⟩:∃c,avs[i]?=some c:=⟨_,List.getElem?_eq_getElem (by rw[hr.1];exact hil)⟩;exact(hr.2 i c x hc hi).2) (fun i c x h1 h2=>(hr.2 i c x h1 h2).1)
 simpa using this
open Go.WideShapes in
theorem arg_slice {H:Type} {enc:TypeId×Value→H} {W:World} {base n:Nat} {t e:TypeId} {v:Value} {d:DataW H} {p:List MemPlace} (hg:goodB Try.prog n t=true) (ht:tdOf Try.prog t= .slice e)
  (hv:Value.okWide Try.prog W .any base t v) (h:DataW.Trod enc Try.prog W 0 (fun _=>true) true t v d p):∃av,RepP W (fun _=>False) av v∧Shaped Try.prog n t [av]:=by
 obtain⟨fuel,h⟩:=h;obtain⟨avs,hr,hs⟩:=trod_rc n fuel t _ _ hg h;obtain⟨info,h1,h2,_⟩:=tdOf_slice ht;obtain⟨a,len,cap,rfl⟩:=okWide_slice h2 hv;have hl:avs.length=1:=by rw[hr.1];rfl
 match avs,hl,hr,hs with
 |[av],_,hr,hs=>exact⟨av,(hr.2 0 av _ rfl rfl).1,hs⟩
theorem laid:laidOutB Try.prog=true:=by kernel_rfl
theorem mapped:mapsRowed Try.prog=true:=by kernel_rfl
theorem kids:Kids Try.prog (· <Try.prog.types.size):=kids_rows laid mapped
theorem full:∀t e,t<Try.prog.types.size→Try.prog.underlying t=some (.slice e)→0<Try.prog.cellsOf e:=slices_full_of Try.prog (by kernel_rfl)
theorem ext_cell {w w':World} (h:Ext (fun _=>False) w w') {a:Addr} (ha:a.block<w.heap.size):w'.cell? a=w.cell? a:=cell_of_block (h.block _ ha (fun k=>k))
theorem post_ext {H:Type} {enc:TypeId×Value→H} {f:Func} {s:ChangeSpec} {fresh handsOn again:Bool} {W W':World} {args:Array Value} {v:Value} {ds:List (DataW H)} {before:List MemPlace}
  (hvars:s.vars=[]) (hres:(s.fn H ds).results=[.lit (.bool true)]) (hargs:(s.fn H ds).args=ds) (hvs:(s.fn H ds).vars=[]) (hf:f.resultTypes= #[4]) (hts:∀t∈f.params.toList,t<Try.prog.types.size)
  (hW:DataW.Whole enc Try.prog f.params.toList s.vars false W args.toList ds [] before) (hext:Ext (fun _=>False) W W') (hv:v= .bool true):
  s.post enc Try.prog f false fresh handsOn again W args v W':=by
 subst hv;have hlt:=hW.lt;have hW':=hW;obtain⟨p,q,hA,hV,hpq,hz,hn⟩:=hW;rw[hvars]at hV;obtain⟨_,rfl⟩:=Go.ChangeShapes.trodVars_none hV;rw[List.append_nil]at hpq;subst hpq;have carry:∀(ts:List TypeId) (vs:List Value) (ds:List (DataW H)) (ps:List MemPlace),DataW.TrodAll enc Try.prog W 0 (fun _=>true) true ts vs ds ps→(∀x∈ps,x.block<W.heap.size)→DataW.TrodAll enc Try.prog W' 0 (fun _=>true) true ts vs ds ps:=by
  intro ts
  induction ts with
  |nil=>intro vs ds ps h _;match vs,ds,h with|[],[],h=>exact h
  | cons t ts ih=>
   intro vs ds ps h hl
   match vs,ds,h with
   |v::vs,d::ds,⟨p1,q1,⟨n,h1⟩,h2,he⟩=>
    subst he;refine⟨p1,q1,⟨n,DataW.trod_carry n _ _ _ h1 (fun x hx=>?_)⟩,ih vs ds q1 h2 (fun x hx=>hl x (List.mem_append_right _ hx)),rfl⟩;have hb:=hl x (List.mem_append_left _ hx)
    cases x with
    |cell b off=>exact ext_cell hext hb
    |map b=>exact hext.block b hb (fun k=>k)
 have hA':=carry _ _ _ _ hA hlt;have hag:∀sp:Nat→Bool,(∀x∈before,sp x.block=true)→DataW.TrodAll enc Try.prog W' 0 sp true f.params.toList args.toList (s.fn H (ds++[])).args before:=by
  intro sp hs;rw[List.append_nil,hargs];exact hA'.respare kids full hts hs
 have hr:∀(b:Nat) (sp:Nat→Bool) (hd:Bool),DataW.TrodAll enc Try.prog W' b sp hd f.resultTypes.toList ((Value.bool true).resultList f.resultTypes.size) (s.fn H (ds++[])).results []:=by
  intro b sp hd;rw[List.append_nil,hres,hf];exact Go.ChangeShapes.trodAll_mk1 (Go.RowKit.shut_bool und_bool2 _)
 have hkept:W.keptBut W' (· ∈before):=by
  refine⟨hext.os,hext.output,fun i hi=>?_⟩;rw[hext.block i hi (fun k=>k)]
  cases hb:W.heap[i]? with
  |none=>trivial
  |some o=>cases o<;>simp
 have hv0:∀sp:Nat→Bool,DataW.TrodVars enc Try.prog W' sp s.vars (s.fn H (ds++[])).vars []:=by
  intro sp;rw[hvars,List.append_nil,hvs]
  rfl
 have hold:∀x∈before,(fun b=>decide (b<W.heap.size)) x.block=true:=fun x hx=>by simpa using hlt x hx
 refine⟨ds,[],before,[],before,[],hW',hr _ _ _,hag _ hold,hv0 _,World.keptBut_mono (fun x hx=>⟨hx,Or.inr (Or.inl hx)⟩) hkept,fun _=>?_⟩;refine⟨Go.RowKit.ok_one hf rfl (Go.RowKit.okWide_bool_mk und_bool2 _),_,_,([]++before)++[],⟨[]++before,[],Go.ChangeShapes.trodAll_append (hag _ (fun _ _=>rfl)) (hr _ _ _),hv0 _,rfl,?_,?_⟩,?_⟩
 ·intro b off hp;have hp':MemPlace.cell b off∈before:=by simpa using hp
  have hb:=hlt _ hp';have:W'.frozen? ⟨b,off,none⟩=W.frozen? ⟨b,off,none⟩:=by unfold World.frozen?;rw[hext.block b hb (fun k=>k)]
  rw[this];exact hz b off hp'
 ·intro ha;cases ha
 ·intro x hx _;simpa using hx
theorem law_calls {P : Program} {f : FuncId} {fn : Func} {c : Code} {avs : List AV} {vs : List Value} {W : World} (hf : P.funcs[f]? = some fn) (hb : fn.body = some c) (hname : (fn.name == "runtime.NumGoroutine") = false)
  (h:PureCall P f avs (Bo true)) (hl:avs.length=vs.length) (hr:∀(i:Nat) c x,avs[i]?=some c→vs[i]?=some x→RepP W (fun _=>False) c x):
  Calls P f vs.toArray W fun e W'=>e= .returned (.bool true)∧Ext (fun _=>False) W W':=by
 have hn' : ¬ fn.name = "runtime.NumGoroutine" := by simpa using hname
 rcases h with⟨_,h2⟩|h2
 ·refine(h2 (fun _=>False) W vs (fun b k=>k.elim) hl hr).mono fun e W' ⟨v,q1,q2,q3⟩=>?_
  cases q2
  exact⟨q1,q3⟩
 ·exfalso;obtain⟨v,q1,_⟩:=h2 (fun _=>False) W vs hl hr;have:(callFunc f vs.toArray).run P W= .ok (.enter f vs.toArray) W:=by simp[callFunc,hf,hn',hb]
  rw[this]at q1
  cases q1
theorem rep_nil {W:World}:∀(i:Nat) c x,([]:List AV)[i]?=some c→([]:List Value)[i]?=some x→RepP W (fun _=>False) c x:=fun i c x h=>by simp at h
theorem rep_cons {W:World} {a:AV} {v:Value} {xs:List AV} {vs:List Value} (h:RepP W (fun _=>False) a v) (k:∀(i:Nat) c x,xs[i]?=some c→vs[i]?=some x→RepP W (fun _=>False) c x):
  ∀(i:Nat) c x,(a::xs)[i]?=some c→(v::vs)[i]?=some x→RepP W (fun _=>False) c x:=fun i c x h1 h2=>by
 cases i with
 |zero=>simp at h1 h2;subst h1 h2;exact h
 |succ i=>exact k i c x (by simpa using h1) (by simpa using h2)
end Go.Cur
end
