import Derived.Test.YtonfebmohoopgaaK5
set_option maxRecDepth 100000
set_option maxHeartbeats 8000000
set_option linter.unusedVariables false
set_option linter.unusedSimpArgs false
section
namespace Go
section
variable {P:Program} {b:Frame} {a:Act} {k:List Item} {cs:List Frame} {w:World}
theorem stepR_scope {c:Code}:step P (lone (b.atR a (.code (.scope c)::k)) cs w)= .next (lone (b.atR a (.code c:: .inScope c::k)) cs w):=
 step_lone_go (by simp[stepG,stepG.exec,Frame.atR])
theorem stepR_inScope {c:Code}:step P (lone (b.atR a (.inScope c::k)) cs w)= .next (lone (b.atR a k) cs w):=
 step_lone_go (by simp[stepG,stepG.exec,Frame.atR])
theorem wpIn_scope_straight {F:Fence} {n:Nat} {Q:Exit→Act→World→Prop} {c:Code} (h:c.wpIn F n P (Exit.noGoto Q) a w):(Code.scope c).wpIn F n P Q a w:=by
 intro b k cs hro hb hr;have h0:(lone (b.atR a (.code (.scope c)::k)) cs w).fenced P F:=fenced_calm hb hr rfl;obtain⟨e,a₁,w₁,hq,harr⟩:=h b (.inScope c::k) cs hro hb hr
 cases e with
 |normal=>exact⟨.normal,a₁,w₁,hq, .head h0 stepR_scope (StepsIn.trans harr (.one (fenced_calm hb hr rfl) stepR_inScope))⟩
 | exit id'=>
  have hx:exitTo id' (.inScope c::k)=exitTo id' k:=by simp[exitTo]
  exact⟨.exit id',a₁,w₁,hq,fun k' hk=> .head h0 stepR_scope (harr.1 k' (by rw[hx];exact hk)),
   fun hr' hk=>let ⟨k₁,h1,h2⟩:=harr.2 hr' (by rw[hx];exact hk);⟨k₁,h1, .head h0 stepR_scope h2⟩⟩
 |goto l=>exact hq.elim
 |ret=>exact⟨_,a₁,w₁,hq, .of_steps (.one h0 stepR_scope) harr⟩
 |panic ch=>exact⟨_,a₁,w₁,hq, .of_steps (.one h0 stepR_scope) harr⟩
 |outgrown=>exact⟨_,a₁,w₁,hq, .of_steps (.one h0 stepR_scope) harr⟩
end
end Go
namespace Go.AM
theorem gwp_scope {P:Program} {ro:Option Nat} {J:Jt} {nt:Nat} {kp:List Nat} {c:Code} {T:Tm} {H:Hp} {Q:Exit→Tm→Hp→Prop} (h:GWp P ro J nt kp c T H (noGotoA Q)):GWp P ro J nt kp (.scope c) T H Q:=by
 intro hJ kv a w hs;refine wpIn_scope_straight (wpIn_mono (h hJ kv a w hs) ?_);rintro e a' w' ⟨T',H',q,s⟩
 cases e with
 |goto l=>exact q.elim
 |normal=>exact⟨T',H',q,s⟩
 |exit id=>exact⟨T',H',q,s⟩
 |ret=>exact⟨T',H',q,s⟩
 |panic c=>exact⟨T',H',q,s⟩
 |outgrown=>exact⟨T',H',q,s⟩
theorem gwp_sl {P:Program} {ro:Option Nat} {J:Jt} {nt l:Nat} {kp:List Nat} {c:Code} {T:Tm} {H:Hp} {Q:Exit→Tm→Hp→Prop} (h:GWp P ro J nt kp c T H Q):GWp P ro J nt kp (.seq (.label l) c) T H Q:=by
 intro hJ kv a w hs;exact wpIn_seq (wpIn_label (h hJ kv a w hs))
end Go.AM
namespace Go.Cur
open Go.AM Go.Proofs
theorem w_deada (x:Value) (g:Gr) (wi:List Bool) (l:List Ld) (z:SS) (vs fs:List Fr) (h:SetOk g wi l) (hz:ZOk g wi l z):
  MutCall Try.prog 42 [.ptr 0 0 0] [hSa (.fptr x 1 0 0) l z.sv.length vs fs z.cuts.length,hNa g z.fe wi] [some (.els 1 (z.sv.map bCell)),some (.els 1 (z.fe.map bCell)),some (.els 4 (z.cuts.map Cu.cells))]
   (Bo (rDead g wi l z).isSome) [hSa (.fptr x 1 0 0) l ((rDead g wi l z).getD z).sv.length vs fs ((rDead g wi l z).getD z).cuts.length,hNa g ((rDead g wi l z).getD z).fe wi] [some (.els 1 (((rDead g wi l z).getD z).sv.map bCell)),some (.els 1 (((rDead g wi l z).getD z).fe.map bCell)),some (.els 4 (((rDead g wi l z).getD z).cuts.map Cu.cells))]:=by
 obtain⟨sv,fe,cuts⟩:=z;have hfe:((rDead g wi l ⟨sv,fe,cuts⟩).getD ⟨sv,fe,cuts⟩).fe=fe:=by
  unfold rDead
  cases (List.range l.length).find? (deadB g ⟨fe,wi⟩ l sv)<;>rfl
 rw[hfe];have hcu:=hz.cu;simp only at hcu;exact m_deada x g fe wi l sv vs fs cuts (by have:=h.ll;omega) hz.sv (by omega) h.ld.at_ (h.net hz) (h.few _) _ _ _
  (fun i hi hd hj=>by
   have e:(List.range l.length).find? (deadB g ⟨fe,wi⟩ l sv)=some i:=List.find?_range_eq_some.2 ⟨hd,List.mem_range.2 hi,fun j hj'=>by rw[hj j hj'];rfl⟩;unfold rDead;simp only[e];exact⟨rfl,rfl,rfl⟩)
  (fun hj=>by
   have e:(List.range l.length).find? (deadB g ⟨fe,wi⟩ l sv)=none:=List.find?_eq_none.2 fun x hx=>by rw[hj x (List.mem_range.1 hx)];simp
   unfold rDead;simp only[e];exact⟨rfl,rfl,rfl⟩)
theorem w_reta (x:Value) (g:Gr) (wi:List Bool) (l:List Ld) (z:SS) (vs fs:List Fr) (h:SetOk g wi l) (hz:ZOk g wi l z):
  MutCall Try.prog 43 [.ptr 0 0 0] [hSa (.fptr x 1 0 0) l z.sv.length vs fs z.cuts.length,hNa g z.fe wi] [some (.els 1 (z.sv.map bCell)),some (.els 1 (z.fe.map bCell)),some (.els 4 (z.cuts.map Cu.cells))]
   (Bo (rRet g wi l z).isSome) [hSa (.fptr x 1 0 0) l ((rRet g wi l z).getD z).sv.length vs fs ((rRet g wi l z).getD z).cuts.length,hNa g ((rRet g wi l z).getD z).fe wi] [some (.els 1 (((rRet g wi l z).getD z).sv.map bCell)),some (.els 1 (((rRet g wi l z).getD z).fe.map bCell)),some (.els 4 (((rRet g wi l z).getD z).cuts.map Cu.cells))]:=by
 obtain⟨sv,fe,cuts⟩:=z;have hfe:((rRet g wi l ⟨sv,fe,cuts⟩).getD ⟨sv,fe,cuts⟩).fe=fe:=by
  unfold rRet
  split<;>rfl
 rw [hfe];have hcu:=hz.cu;simp only at hcu;exact m_returneda x g fe wi l sv vs fs cuts (by have:=h.ll;omega) hz.sv (by omega) h.ld.at_ (h.net hz) (h.few _) (tk_bd h.ld _) _ _ _
  (fun i hi=>by
   have e:iRet g wi l ⟨sv,fe,cuts⟩=(i:Int):=hi;have e2:rRet g wi l ⟨sv,fe,cuts⟩=some ⟨sv.set i false,fe,cuts++[(⟨2,i,⟨(ldA l i).Units,1⟩⟩:Cu)]⟩:=by
    unfold rRet;rw[e,if_pos (by omega),Int.toNat_natCast]
   rw[e2];exact⟨rfl,rfl,rfl⟩)
  (fun hi=>by
   have e:iRet g wi l ⟨sv,fe,cuts⟩<0:=hi;have e2:rRet g wi l ⟨sv,fe,cuts⟩=none:=by
    unfold rRet;rw[if_neg (by omega)]
   rw[e2];exact⟨rfl,rfl,rfl⟩)
theorem w_lowa (x:Value) (g:Gr) (wi:List Bool) (l:List Ld) (z:SS) (vs fs:List Fr) (h:SetOk g wi l) (hz:ZOk g wi l z) (h1:rDead g wi l z=none) (h2:rRet g wi l z=none):
  MutCall Try.prog 44 [.ptr 0 0 0] [hSa (.fptr x 1 0 0) l z.sv.length vs fs z.cuts.length,hNa g z.fe wi] [some (.els 1 (z.sv.map bCell)),some (.els 1 (z.fe.map bCell)),some (.els 4 (z.cuts.map Cu.cells))]
   (Bo (rLow g wi l z).isSome) [hSa (.fptr x 1 0 0) l ((rLow g wi l z).getD z).sv.length (vlA g.Nodes.toNat (vfZ g wi l z)) (flA g ⟨z.fe,wi⟩ (vfZ g wi l z)) ((rLow g wi l z).getD z).cuts.length,hNa g ((rLow g wi l z).getD z).fe wi] [some (.els 1 (((rLow g wi l z).getD z).sv.map bCell)),some (.els 1 (((rLow g wi l z).getD z).fe.map bCell)),some (.els 4 (((rLow g wi l z).getD z).cuts.map Cu.cells))]:=by
 obtain⟨sv,fe,cuts⟩:=z;have hfe:((rLow g wi l ⟨sv,fe,cuts⟩).getD ⟨sv,fe,cuts⟩).fe=fe:=by
  unfold rLow
  split<;>rfl
 rw [hfe];have hcu:=hz.cu;simp only at hcu;have hv:=vpZ h hz h1 h2;exact m_lowa x g fe wi l sv vs fs cuts (by have:=h.ll;omega) hz.sv (by omega) h.ld.at_ (h.net hz) (h.few _) (vfZ g wi l ⟨sv,fe,cuts⟩) hv (fun k hk=>by have:=vp_bd (h.net hz) hv hk;omega) _ _ _
  (fun i hi=>by
   have e:iLow g wi l ⟨sv,fe,cuts⟩=(i:Int):=hi;have e2:rLow g wi l ⟨sv,fe,cuts⟩=some ⟨sv.set i false,fe,cuts++[(⟨3,i,vfZ g wi l ⟨sv,fe,cuts⟩ (ldA l i).At.toNat⟩:Cu)]⟩:=by
    unfold rLow;rw[e,if_pos (by omega),Int.toNat_natCast]
   rw[e2];exact⟨rfl,rfl,rfl⟩)
  (fun hi=>by
   have e:iLow g wi l ⟨sv,fe,cuts⟩<0:=hi;have e2:rLow g wi l ⟨sv,fe,cuts⟩=none:=by
    unfold rLow;rw[if_neg (by omega)]
   rw[e2];exact⟨rfl,rfl,rfl⟩)
theorem w_deadb (x:Value) (g:Gr) (wi:List Bool) (l:List Ld) (z:SS) (vs fs:List Fr) (h:SetOk g wi l) (hz:ZOk g wi l z) (hb:z.fe=[]):
  MutCall Try.prog 42 [.ptr 0 0 0] [hSb (.fptr x 1 0 0) l z.sv.length vs fs z.cuts.length,hNb g z.fe wi] [some (.els 1 (z.sv.map bCell)),some (.els 4 (z.cuts.map Cu.cells))]
   (Bo (rDead g wi l z).isSome) [hSb (.fptr x 1 0 0) l ((rDead g wi l z).getD z).sv.length vs fs ((rDead g wi l z).getD z).cuts.length,hNb g ((rDead g wi l z).getD z).fe wi] [some (.els 1 (((rDead g wi l z).getD z).sv.map bCell)),some (.els 4 (((rDead g wi l z).getD z).cuts.map Cu.cells))]:=by
 obtain⟨sv,fe,cuts⟩:=z;subst hb;have hfe:((rDead g wi l ⟨sv,[],cuts⟩).getD ⟨sv,[],cuts⟩).fe=[]:=by
  unfold rDead
  cases (List.range l.length).find? (deadB g ⟨[],wi⟩ l sv)<;>rfl
 rw[hfe];have hcu:=hz.cu;simp only at hcu;exact m_deadb x g [] wi l sv vs fs cuts (by have:=h.ll;omega) hz.sv (by omega) h.ld.at_ (h.net hz) (h.few _) _ _ _
  (fun i hi hd hj=>by
   have e:(List.range l.length).find? (deadB g ⟨[],wi⟩ l sv)=some i:=List.find?_range_eq_some.2 ⟨hd,List.mem_range.2 hi,fun j hj'=>by rw[hj j hj'];rfl⟩;unfold rDead;simp only[e];exact⟨rfl,rfl,rfl⟩)
  (fun hj=>by
   have e:(List.range l.length).find? (deadB g ⟨[],wi⟩ l sv)=none:=List.find?_eq_none.2 fun x hx=>by rw[hj x (List.mem_range.1 hx)];simp
   unfold rDead;simp only[e];exact⟨rfl,rfl,rfl⟩)
theorem w_retb (x:Value) (g:Gr) (wi:List Bool) (l:List Ld) (z:SS) (vs fs:List Fr) (h:SetOk g wi l) (hz:ZOk g wi l z) (hb:z.fe=[]):
  MutCall Try.prog 43 [.ptr 0 0 0] [hSb (.fptr x 1 0 0) l z.sv.length vs fs z.cuts.length,hNb g z.fe wi] [some (.els 1 (z.sv.map bCell)),some (.els 4 (z.cuts.map Cu.cells))]
   (Bo (rRet g wi l z).isSome) [hSb (.fptr x 1 0 0) l ((rRet g wi l z).getD z).sv.length vs fs ((rRet g wi l z).getD z).cuts.length,hNb g ((rRet g wi l z).getD z).fe wi] [some (.els 1 (((rRet g wi l z).getD z).sv.map bCell)),some (.els 4 (((rRet g wi l z).getD z).cuts.map Cu.cells))]:=by
 obtain⟨sv,fe,cuts⟩:=z;subst hb;have hfe:((rRet g wi l ⟨sv,[],cuts⟩).getD ⟨sv,[],cuts⟩).fe=[]:=by
  unfold rRet
  split<;>rfl
 rw [hfe];have hcu:=hz.cu;simp only at hcu;exact m_returnedb x g [] wi l sv vs fs cuts (by have:=h.ll;omega) hz.sv (by omega) h.ld.at_ (h.net hz) (h.few _) (tk_bd h.ld _) _ _ _
  (fun i hi=>by
   have e:iRet g wi l ⟨sv,[],cuts⟩=(i:Int):=hi;have e2:rRet g wi l ⟨sv,[],cuts⟩=some ⟨sv.set i false,[],cuts++[(⟨2,i,⟨(ldA l i).Units,1⟩⟩:Cu)]⟩:=by
    unfold rRet;rw[e,if_pos (by omega),Int.toNat_natCast]
   rw[e2];exact⟨rfl,rfl,rfl⟩)
  (fun hi=>by
   have e:iRet g wi l ⟨sv,[],cuts⟩<0:=hi;have e2:rRet g wi l ⟨sv,[],cuts⟩=none:=by
    unfold rRet;rw[if_neg (by omega)]
   rw[e2];exact⟨rfl,rfl,rfl⟩)
theorem w_lowb (x:Value) (g:Gr) (wi:List Bool) (l:List Ld) (z:SS) (vs fs:List Fr) (h:SetOk g wi l) (hz:ZOk g wi l z) (hb:z.fe=[]) (h1:rDead g wi l z=none) (h2:rRet g wi l z=none):
  MutCall Try.prog 44 [.ptr 0 0 0] [hSb (.fptr x 1 0 0) l z.sv.length vs fs z.cuts.length,hNb g z.fe wi] [some (.els 1 (z.sv.map bCell)),some (.els 4 (z.cuts.map Cu.cells))]
   (Bo (rLow g wi l z).isSome) [hSb (.fptr x 1 0 0) l ((rLow g wi l z).getD z).sv.length (vlA g.Nodes.toNat (vfZ g wi l z)) (flA g ⟨z.fe,wi⟩ (vfZ g wi l z)) ((rLow g wi l z).getD z).cuts.length,hNb g ((rLow g wi l z).getD z).fe wi] [some (.els 1 (((rLow g wi l z).getD z).sv.map bCell)),some (.els 4 (((rLow g wi l z).getD z).cuts.map Cu.cells))]:=by
 obtain⟨sv,fe,cuts⟩:=z;subst hb;have hfe:((rLow g wi l ⟨sv,[],cuts⟩).getD ⟨sv,[],cuts⟩).fe=[]:=by
  unfold rLow
  split<;>rfl
 rw [hfe];have hcu:=hz.cu;simp only at hcu;have hv:=vpZ h hz h1 h2;exact m_lowb x g [] wi l sv vs fs cuts (by have:=h.ll;omega) hz.sv (by omega) h.ld.at_ (h.net hz) (h.few _) (vfZ g wi l ⟨sv,[],cuts⟩) hv (fun k hk=>by have:=vp_bd (h.net hz) hv hk;omega) _ _ _
  (fun i hi=>by
   have e:iLow g wi l ⟨sv,[],cuts⟩=(i:Int):=hi;have e2:rLow g wi l ⟨sv,[],cuts⟩=some ⟨sv.set i false,[],cuts++[(⟨3,i,vfZ g wi l ⟨sv,[],cuts⟩ (ldA l i).At.toNat⟩:Cu)]⟩:=by
    unfold rLow;rw[e,if_pos (by omega),Int.toNat_natCast]
   rw[e2];exact⟨rfl,rfl,rfl⟩)
  (fun hi=>by
   have e:iLow g wi l ⟨sv,[],cuts⟩<0:=hi;have e2:rLow g wi l ⟨sv,[],cuts⟩=none:=by
    unfold rLow;rw[if_neg (by omega)]
   rw[e2];exact⟨rfl,rfl,rfl⟩)
theorem w_tripa (x:Value) (g:Gr) (wi:List Bool) (l:List Ld) (z:SS) (h:SetOk g wi l) (hz:ZOk g wi l z) (h1:rDead g wi l z=none) (h2:rRet g wi l z=none):
  MutCall Try.prog 45 [.ptr 0 0 0] [hSa (.fptr x 1 0 0) l z.sv.length (vlA g.Nodes.toNat (vfZ g wi l z)) (flA g ⟨z.fe,wi⟩ (vfZ g wi l z)) z.cuts.length,hNa g z.fe wi] [some (.els 1 (z.sv.map bCell)),some (.els 1 (z.fe.map bCell)),some (.els 4 (z.cuts.map Cu.cells))]
   (Bo (rTrip g wi l z).isSome) [hSa (.fptr x 1 0 0) l ((rTrip g wi l z).getD z).sv.length (vlA g.Nodes.toNat (vfZ g wi l z)) (flA g ⟨z.fe,wi⟩ (vfZ g wi l z)) ((rTrip g wi l z).getD z).cuts.length,hNa g ((rTrip g wi l z).getD z).fe wi] [some (.els 1 (((rTrip g wi l z).getD z).sv.map bCell)),some (.els 1 (((rTrip g wi l z).getD z).fe.map bCell)),some (.els 4 (((rTrip g wi l z).getD z).cuts.map Cu.cells))]:=by
 obtain⟨sv,fe,cuts⟩:=z;have hsv:((rTrip g wi l ⟨sv,fe,cuts⟩).getD ⟨sv,fe,cuts⟩).sv=sv:=by
  unfold rTrip
  split<;>rfl
 rw [hsv];have hcu:=hz.cu;simp only at hcu;have hv:=vpZ h hz h1 h2;exact m_tripa x g fe wi l sv _ _ cuts (by omega) (by have:=(grB_bd h.gr).2.2.2.1;omega) hz.fe (tr_ok (h.net hz) hv) _ _ _
  (fun i hi=>by
   have e:iTrip g wi l ⟨sv,fe,cuts⟩=(i:Int):=hi;have e2:rTrip g wi l ⟨sv,fe,cuts⟩=some ⟨sv,fe.set i false,cuts++[(⟨4,i,frA (flA g ⟨fe,wi⟩ (vfZ g wi l ⟨sv,fe,cuts⟩)) i⟩:Cu)]⟩:=by
    unfold rTrip;rw[e,if_pos (by omega),Int.toNat_natCast]
   rw[e2];exact⟨rfl,rfl,rfl⟩)
  (fun hi=>by
   have e:iTrip g wi l ⟨sv,fe,cuts⟩<0:=hi;have e2:rTrip g wi l ⟨sv,fe,cuts⟩=none:=by
    unfold rTrip;rw[if_neg (by omega)]
   rw[e2];exact⟨rfl,rfl,rfl⟩)
theorem w_tripb (x:Value) (g:Gr) (wi:List Bool) (l:List Ld) (z:SS) (h:SetOk g wi l) (hz:ZOk g wi l z) (hb:z.fe=[]):
  MutCall Try.prog 45 [.ptr 0 0 0] [hSb (.fptr x 1 0 0) l z.sv.length (vlA g.Nodes.toNat (vfZ g wi l z)) (flA g ⟨z.fe,wi⟩ (vfZ g wi l z)) z.cuts.length,hNb g z.fe wi] [some (.els 1 (z.sv.map bCell)),some (.els 4 (z.cuts.map Cu.cells))]
   (Bo (rTrip g wi l z).isSome) [hSb (.fptr x 1 0 0) l ((rTrip g wi l z).getD z).sv.length (vlA g.Nodes.toNat (vfZ g wi l z)) (flA g ⟨z.fe,wi⟩ (vfZ g wi l z)) ((rTrip g wi l z).getD z).cuts.length,hNb g ((rTrip g wi l z).getD z).fe wi] [some (.els 1 (((rTrip g wi l z).getD z).sv.map bCell)),some (.els 4 (((rTrip g wi l z).getD z).cuts.map Cu.cells))]:=by
 have hg:g.Feeds=[]:=by
  have:=hz.fe;rw[hb]at this;exact List.length_eq_zero_iff.1 this.symm
 have e:rTrip g wi l z=none:=by
  unfold rTrip iTrip;rw[hg]
  rfl
 rw[e];exact m_tripb x g z.fe wi l z.sv _ _ z.cuts hg
def svK (n k:Nat):List Bool:=List.replicate k true++List.replicate (n-k) false
theorem svK_set {n k:Nat} (h:k<n):(svK n k).set k true=svK n (k+1):=by
 unfold svK;rw[List.set_append_right _ _ (by simp),List.length_replicate,Nat.sub_self,show n-k=(n-(k+1))+1 by omega,List.replicate_succ,List.set_cons_zero,List.replicate_succ',List.append_assoc];rfl
theorem svK_len {n k:Nat} (h:k≤n):(svK n k).length=n:=by simp[svK];omega
theorem svK_all (n:Nat):svK n n=List.replicate n true:=by simp[svK]
theorem svK_zero (n:Nat):svK n 0=List.replicate n false:=by simp[svK]
def z0 (l:List Ld) (fe:List Bool):SS:=⟨List.replicate l.length true,fe,[]⟩
theorem z0_ok {g:Gr} {wi:List Bool} {l:List Ld} (h:SetOk g wi l) {fe:List Bool} (hfe:fe.length=g.Feeds.length):ZOk g wi l (z0 l fe):=by
 refine⟨by simp[z0],hfe,?_⟩;have h1:=cnt_len (List.replicate l.length true);have h2:=cnt_len fe;have h3:=(grB_bd h.gr).2.2.2.1;have h4:=h.ll;rw[List.length_replicate]at h1;unfold cntZ z0;simp only[List.length_nil];omega
def settleS (g:Gr) (wi:List Bool) (l:List Ld) (fe:List Bool):SS:=settleN g wi l (cntZ (z0 l fe)) (z0 l fe)
abbrev hMa (g:Gr) (fe wi:List Bool):Option ARow:=some (.els 6 [[I g.Nodes, .lst 4 (g.Wires.map Wr.cells), .lst 4 (g.Feeds.map Fd.cells),I g.Least, .row 1 0 fe.length,bL wi]])
abbrev hTa (x:AV) (l:List Ld) (z:SS) (vs fs:List Fr):Option ARow:=some (.els 6 [[x,lL l, .row 2 0 z.sv.length,fL vs,fL fs, .row 4 0 z.cuts.length]])
theorem m_settlea (g:Gr) (wi:List Bool) (l:List Ld) (fe:List Bool) (h:SetOk g wi l) (hfl:fe.length=g.Feeds.length) (Z:SS) (hZ:settleS g wi l fe=Z):
  MutCall Try.prog 24 [.ptr 0 0 0,lL l] [hMa g fe wi] [some (.els 1 (fe.map bCell))] (.ptr 3 0 0) [hMa g Z.fe wi]
   [some (.els 1 (Z.fe.map bCell)),some (.els 1 (Z.sv.map bCell)),hTa (.ptr 0 0 0) l Z (vlA g.Nodes.toNat (vfZ g wi l Z)) (flA g ⟨Z.fe,wi⟩ (vfZ g wi l Z)),some (.els 4 (Z.cuts.map Cu.cells))]:=by
 have hll:=h.ll;have f0:Fits l.length 2:=fits_of (by omega) (by omega);have hz0:=z0_ok h hfl;refine MutCall.of_bodyG [0] Try.func24 rfl (by decide) (by simp[Try.ntmps24]) rfl rfl ?_;intro J hJ;simp only[Try.ntmps24,Try.results24];refine gS fun K hK=>?_;simp -dsimp;apply hK;clear hK K;refine gwp_scope ?_;refine gS fun K hK=>?_;simp -dsimp [f0];apply hK;clear hK K;refine gwp_seq_k fun K1 hK1=>?_;refine gS fun K hK=>?_;simp -dsimp;apply hK;clear hK K;refine gwp_block ?_;refine gwp_prune [0,5,21,22] (Or.inr (by simp)) ?_;simp only[zP,Nat.reduceEqDiff,reduceIte];refine gwp_loop_l [0,5,21] (α:=Nat) (fun k=>[(22,I k)]) (fun k=>[hMa g fe wi,some (.els 1 (fe.map bCell)),some (.els 1 ((svK l.length k).map bCell)),some (.els 6 [[.ptr 0 0 0,lL l, .row 2 0 l.length, .v (.slice none 0 0), .v (.slice none 0 0), .v (.slice none 0 0)]])]) (fun k=>k≤l.length) (fun k=>l.length-k) 0 ?_ ?_ ?_
 ·exact Nat.zero_le _
 ·exact gsub (sub_rb [some 0,some 1,some 2,some 3] rfl (by simp) (by simp[svK_zero,bCell])) (by simp)
 rintro k k1;simp only[zP,Nat.reduceEqDiff,reduceIte];refine gS fun K hK=>?_;simp -dsimp;apply hK;clear hK K;refine gwp_seq_k fun K2 hK2=>?_;refine gwp_cond rfl (fun hc0=>?_) (fun hc0=>?_)
 ·have hkl:k<l.length:=by simpa using hc0
  have wk:=zW k (by omega);have hsl:=svK_len (n:=l.length) (k:=k) k1;have hst:=svK_set hkl;refine gwp_skip ?_;simp only[zT,reduceIte,Nat.reduceEqDiff];refine hK2 _ _ ?_;refine gwp_prune [0,5,21,22] (Or.inr (by simp)) ?_;simp only[zP,Nat.reduceEqDiff,reduceIte];refine gwp_seq_k fun K3 hK3=>?_;refine gwp_block ?_;refine gS fun K hK=>?_;simp -dsimp;apply hK;clear hK K;refine gR fun K hK=>?_;simp -dsimp [hkl,hsl];apply hK;clear hK K;simp only[zT,reduceIte,Nat.reduceEqDiff];refine hK3 _ _ ?_;refine gwp_prune [0,5,21,22] (Or.inr (by simp)) ?_;simp only[zP,Nat.reduceEqDiff,reduceIte];refine gR fun K hK=>?_;simp -dsimp [wk];apply hK;clear hK K;simp only[zT,reduceIte,Nat.reduceEqDiff];exact⟨k+1,by omega,by omega,gsub (sub_rb [some 0,some 1,some 2,some 3] rfl (by simp) (by simp[←hst,List.map_set,bCell])) (by simp)⟩
 ·have hke:k=l.length:=by have hn:¬k<l.length:=(by simpa using hc0);omega
  subst hke;refine gwp_exit ?_;simp only[zT,reduceIte,Nat.reduceEqDiff];refine hK1 _ _ ?_;refine gwp_prune [0,5] (Or.inr (by simp)) ?_;simp only[zP,Nat.reduceEqDiff,reduceIte];rw[svK_all];refine gwp_weak (gsub (((sub_nilc 3 0 3 2 (sz0:=6) rfl rfl rfl).trans (sub_nilc 3 0 4 2 (sz0:=6) rfl rfl rfl)).trans (sub_nilc 3 0 5 4 (sz0:=6) rfl rfl rfl)) (by simp)) ?_;refine gwp_weak (gsub (sub_rf (T':=[(0, .ptr 0 0 0),(5, .ptr 3 0 0)]) (H':=[hMa g (z0 l fe).fe wi,some (.els 1 ((z0 l fe).fe.map bCell)),some (.els 1 ((z0 l fe).sv.map bCell)),hTa (.ptr 0 0 0) l (z0 l fe) [] [],some (.els 4 ((z0 l fe).cuts.map Cu.cells))]) [some 0,some 1,some 2,some 3,some 6] rfl ⟨.inr (by simp), .inr (by simp),trivial⟩ (by simp[z0])) (by simp)) ?_;refine gwp_fix 3 0 rfl rfl fun x=>?_;simp only[hset,List.set_cons_zero]
  ·refine gwp_flag (by decide) ?_;refine gS fun K hK=>?_;simp -dsimp;apply hK;clear hK K;refine gwp_sl ?_;refine gwp_block ?_;refine gwp_prune [0,5,7] (Or.inr (by simp)) ?_;simp only[zP,Nat.reduceEqDiff,reduceIte];refine gwp_loop_l [0,5,7] (α:=SS×List Fr×List Fr) (fun a=>[]) (fun a=>[hMa g a.1.fe wi,some (.els 1 (a.1.fe.map bCell)),some (.els 1 (a.1.sv.map bCell)),hTa (.fptr x 0 0 0) l a.1 a.2.1 a.2.2,some (.els 4 (a.1.cuts.map Cu.cells)),some (.els 1 [[.bnd 42 [.ptr 3 0 0]],[.bnd 43 [.ptr 3 0 0]],[.bnd 44 [.ptr 3 0 0]],[.bnd 45 [.ptr 3 0 0]]])]) (fun a=>ZOk g wi l a.1∧settleN g wi l (cntZ a.1) a.1=Z) (fun a=>cntZ a.1) (z0 l fe,[],[]) ?_ ?_ ?_
   ·exact⟨hz0,hZ⟩
   ·exact gsub (sub_same (by simp)) (by simp)
   rintro⟨z,vs,fs⟩ ⟨hz,hN⟩;simp only at hz hN ⊢;obtain⟨vK,hvK⟩:∃vK:Nat→List Fr,vK=fun k=>if k≤2 then vs else vlA g.Nodes.toNat (vfZ g wi l z):=⟨_,rfl⟩;obtain⟨fK,hfK⟩:∃fK:Nat→List Fr,fK=fun k=>if k≤2 then fs else flA g ⟨z.fe,wi⟩ (vfZ g wi l z):=⟨_,rfl⟩;have v0:vK 0=vs:=by rw[hvK];rfl
   have v1:vK 1=vs:=by rw[hvK];rfl
   have v2:vK 2=vs:=by rw[hvK];rfl
   have v3:vK 3=vlA g.Nodes.toNat (vfZ g wi l z):=by rw[hvK];rfl
   have v4:vK 4=vlA g.Nodes.toNat (vfZ g wi l z):=by rw[hvK];rfl
   have g0:fK 0=fs:=by rw[hfK];rfl
   have g1:fK 1=fs:=by rw[hfK];rfl
   have g2:fK 2=fs:=by rw[hfK];rfl
   have g3:fK 3=flA g ⟨z.fe,wi⟩ (vfZ g wi l z):=by rw[hfK];rfl
   have g4:fK 4=flA g ⟨z.fe,wi⟩ (vfZ g wi l z):=by rw[hfK];rfl
   simp only[zP,Nat.reduceEqDiff,reduceIte];refine gwp_block ?_;refine gwp_seq_k fun K4 hK4=>?_;refine gS fun K hK=>?_;simp -dsimp;apply hK;clear hK K;refine gwp_block ?_;refine gwp_prune [0,5,7,41,42,43] (Or.inr (by simp)) ?_;simp only[zP,Nat.reduceEqDiff,reduceIte];refine gwp_loop_l [0,5,7,41,42] (α:=Nat) (fun k=>[(43,I k)]) (fun k=>[hMa g z.fe wi,some (.els 1 (z.fe.map bCell)),some (.els 1 (z.sv.map bCell)),hTa (.fptr x 0 0 0) l z (vK k) (fK k),some (.els 4 (z.cuts.map Cu.cells)),some (.els 1 [[.bnd 42 [.ptr 3 0 0]],[.bnd 43 [.ptr 3 0 0]],[.bnd 44 [.ptr 3 0 0]],[.bnd 45 [.ptr 3 0 0]]])]) (fun k=>k≤4∧(1≤k→rDead g wi l z=none)∧(2≤k→rRet g wi l z=none)∧(3≤k→rLow g wi l z=none)∧(4≤k→rTrip g wi l z=none)) (fun k=>4-k) 0 ?_ ?_ ?_
   ·exact⟨by omega,fun h=>by omega,fun h=>by omega,fun h=>by omega,fun h=>by omega⟩
   ·exact gsub (sub_rb [some 0,some 1,some 2,some 3,some 4,some 5] rfl (by simp) (by simp[v0,g0])) (by simp)
   rintro k ⟨k1,k2,k3,k4,k5⟩
   rcases(by omega:k=0∨k=1∨k=2∨k=3∨k=4)with rfl|rfl|rfl|rfl|rfl
   ·simp only[zP,Nat.reduceEqDiff,reduceIte];refine gS fun K hK=>?_;simp -dsimp;apply hK;clear hK K;refine gwp_seq_k fun K5 hK5=>?_;refine gwp_cond rfl (fun hc1=>?_) (fun hc1=>?_)
    ·rw[v0,g0];refine gwp_skip ?_;simp only[zT,reduceIte,Nat.reduceEqDiff];refine hK5 _ _ ?_;refine gwp_prune [0,5,7,41,42,43] (Or.inr (by simp)) ?_;simp only[zP,Nat.reduceEqDiff,reduceIte];refine gwp_seq_k fun K6 hK6=>?_;refine gwp_block ?_;refine gS fun K hK=>?_;simp -dsimp;apply hK;clear hK K;refine gS fun K hK=>?_;simp -dsimp;refine callK_mut [3,0] [2,1,4] [some 1,none,none,some 0,none,none,some 2,some 3,some 4] (w_deada x g wi l z vs fs h hz) (by decide) rfl (by simp) (by simp) rfl (by simp) ?_;simp -dsimp;apply hK;clear hK K;refine gwp_cond rfl (fun hc2=>?_) (fun hc2=>?_)
     ·obtain⟨z1,hz1⟩:=Option.isSome_iff_exists.1 hc2;have hst:stepZ g wi l z=some z1:=by unfold stepZ;rw[hz1];rfl
      rw[hz1];simp only[Option.getD_some];refine gwp_exit ?_;simp only[zT,reduceIte,Nat.reduceEqDiff];obtain⟨s1,s2,s3⟩:=step_ok h hz hst;exact⟨(z1,vs,fs),⟨s1,by rw[←hN,←s2,settle_step hst]⟩,by simp only;omega,gsub (sub_rb [some 0,some 7,some 6,some 3,some 8,some 5] rfl (by simp) (by simp)) (by simp)⟩
     ·have hn:rDead g wi l z=none:=by simpa using hc2
      rw[hn];simp only[Option.getD_none];refine gwp_skip ?_;simp only[zT,reduceIte,Nat.reduceEqDiff];refine hK6 _ _ ?_;refine gwp_prune [0,5,7,41,42,43] (Or.inr (by simp)) ?_;simp only[zP,Nat.reduceEqDiff,reduceIte];refine gR fun K hK=>?_;simp -dsimp;apply hK;clear hK K;simp only[zT,reduceIte,Nat.reduceEqDiff];have wk:IntKind.i64.wrap 1=1:=by decide
      exact⟨1,⟨by omega,fun _=>hn,fun h=>by omega,fun h=>by omega,fun h=>by omega⟩,by omega,gsub (sub_rb [some 0,some 7,some 6,some 3,some 8,some 5] rfl (by simp[wk]) (by simp[v1,g1])) (by simp)⟩
    ·simp at hc1
   ·simp only[zP,Nat.reduceEqDiff,reduceIte];refine gS fun K hK=>?_;simp -dsimp;apply hK;clear hK K;refine gwp_seq_k fun K7 hK7=>?_;refine gwp_cond rfl (fun hc1=>?_) (fun hc1=>?_)
    ·rw[v1,g1];refine gwp_skip ?_;simp only[zT,reduceIte,Nat.reduceEqDiff];refine hK7 _ _ ?_;refine gwp_prune [0,5,7,41,42,43] (Or.inr (by simp)) ?_;simp only[zP,Nat.reduceEqDiff,reduceIte];refine gwp_seq_k fun K8 hK8=>?_;refine gwp_block ?_;refine gS fun K hK=>?_;simp -dsimp;apply hK;clear hK K;refine gS fun K hK=>?_;simp -dsimp;refine callK_mut [3,0] [2,1,4] [some 1,none,none,some 0,none,none,some 2,some 3,some 4] (w_reta x g wi l z vs fs h hz) (by decide) rfl (by simp) (by simp) rfl (by simp) ?_;simp -dsimp;apply hK;clear hK K;refine gwp_cond rfl (fun hc2=>?_) (fun hc2=>?_)
     ·obtain⟨z1,hz1⟩:=Option.isSome_iff_exists.1 hc2;have hst:stepZ g wi l z=some z1:=by unfold stepZ;rw[k2 (by omega),hz1];rfl
      rw[hz1];simp only[Option.getD_some];refine gwp_exit ?_;simp only[zT,reduceIte,Nat.reduceEqDiff];obtain⟨s1,s2,s3⟩:=step_ok h hz hst;exact⟨(z1,vs,fs),⟨s1,by rw[←hN,←s2,settle_step hst]⟩,by simp only;omega,gsub (sub_rb [some 0,some 7,some 6,some 3,some 8,some 5] rfl (by simp) (by simp)) (by simp)⟩
     ·have hn:rRet g wi l z=none:=by simpa using hc2
      rw[hn];simp only[Option.getD_none];refine gwp_skip ?_;simp only[zT,reduceIte,Nat.reduceEqDiff];refine hK8 _ _ ?_;refine gwp_prune [0,5,7,41,42,43] (Or.inr (by simp)) ?_;simp only[zP,Nat.reduceEqDiff,reduceIte];refine gR fun K hK=>?_;simp -dsimp;apply hK;clear hK K;simp only[zT,reduceIte,Nat.reduceEqDiff];have wk:IntKind.i64.wrap 2=2:=by decide
      exact⟨2,⟨by omega,fun _=>k2 (by omega),fun _=>hn,fun h=>by omega,fun h=>by omega⟩,by omega,gsub (sub_rb [some 0,some 7,some 6,some 3,some 8,some 5] rfl (by simp[wk]) (by simp[v2,g2])) (by simp)⟩
    ·simp at hc1
   ·simp only[zP,Nat.reduceEqDiff,reduceIte];refine gS fun K hK=>?_;simp -dsimp;apply hK;clear hK K;refine gwp_seq_k fun K9 hK9=>?_;refine gwp_cond rfl (fun hc1=>?_) (fun hc1=>?_)
    ·rw[v2,g2];refine gwp_skip ?_;simp only[zT,reduceIte,Nat.reduceEqDiff];refine hK9 _ _ ?_;refine gwp_prune [0,5,7,41,42,43] (Or.inr (by simp)) ?_;simp only[zP,Nat.reduceEqDiff,reduceIte];refine gwp_seq_k fun K10 hK10=>?_;refine gwp_block ?_;refine gS fun K hK=>?_;simp -dsimp;apply hK;clear hK K;refine gS fun K hK=>?_;simp -dsimp;refine callK_mut [3,0] [2,1,4] [some 1,none,none,some 0,none,none,some 2,some 3,some 4] (w_lowa x g wi l z vs fs h hz (k2 (by omega)) (k3 (by omega))) (by decide) rfl (by simp) (by simp) rfl (by simp) ?_;simp -dsimp;apply hK;clear hK K;refine gwp_cond rfl (fun hc2=>?_) (fun hc2=>?_)
     ·obtain⟨z1,hz1⟩:=Option.isSome_iff_exists.1 hc2;have hst:stepZ g wi l z=some z1:=by unfold stepZ;rw[k2 (by omega),k3 (by omega),hz1];rfl
      rw[hz1];simp only[Option.getD_some];refine gwp_exit ?_;simp only[zT,reduceIte,Nat.reduceEqDiff];obtain⟨s1,s2,s3⟩:=step_ok h hz hst;exact⟨(z1,vlA g.Nodes.toNat (vfZ g wi l z),flA g ⟨z.fe,wi⟩ (vfZ g wi l z)),⟨s1,by rw[←hN,←s2,settle_step hst]⟩,by simp only;omega,gsub (sub_rb [some 0,some 7,some 6,some 3,some 8,some 5] rfl (by simp) (by simp)) (by simp)⟩
     ·have hn:rLow g wi l z=none:=by simpa using hc2
      rw[hn];simp only[Option.getD_none];refine gwp_skip ?_;simp only[zT,reduceIte,Nat.reduceEqDiff];refine hK10 _ _ ?_;refine gwp_prune [0,5,7,41,42,43] (Or.inr (by simp)) ?_;simp only[zP,Nat.reduceEqDiff,reduceIte];refine gR fun K hK=>?_;simp -dsimp;apply hK;clear hK K;simp only[zT,reduceIte,Nat.reduceEqDiff];have wk:IntKind.i64.wrap 3=3:=by decide
      exact⟨3,⟨by omega,fun _=>k2 (by omega),fun _=>k3 (by omega),fun _=>hn,fun h=>by omega⟩,by omega,gsub (sub_rb [some 0,some 7,some 6,some 3,some 8,some 5] rfl (by simp[wk]) (by simp[v3,g3])) (by simp)⟩
    ·simp at hc1
   ·simp only[zP,Nat.reduceEqDiff,reduceIte];refine gS fun K hK=>?_;simp -dsimp;apply hK;clear hK K;refine gwp_seq_k fun K11 hK11=>?_;refine gwp_cond rfl (fun hc1=>?_) (fun hc1=>?_)
    ·rw[v3,g3];refine gwp_skip ?_;simp only[zT,reduceIte,Nat.reduceEqDiff];refine hK11 _ _ ?_;refine gwp_prune [0,5,7,41,42,43] (Or.inr (by simp)) ?_;simp only[zP,Nat.reduceEqDiff,reduceIte];refine gwp_seq_k fun K12 hK12=>?_;refine gwp_block ?_;refine gS fun K hK=>?_;simp -dsimp;apply hK;clear hK K;refine gS fun K hK=>?_;simp -dsimp;refine callK_mut [3,0] [2,1,4] [some 1,none,none,some 0,none,none,some 2,some 3,some 4] (w_tripa x g wi l z h hz (k2 (by omega)) (k3 (by omega))) (by decide) rfl (by simp) (by simp) rfl (by simp) ?_;simp -dsimp;apply hK;clear hK K;refine gwp_cond rfl (fun hc2=>?_) (fun hc2=>?_)
     ·obtain⟨z1,hz1⟩:=Option.isSome_iff_exists.1 hc2;have hst:stepZ g wi l z=some z1:=by unfold stepZ;rw[k2 (by omega),k3 (by omega),k4 (by omega),hz1];rfl
      rw[hz1];simp only[Option.getD_some];refine gwp_exit ?_;simp only[zT,reduceIte,Nat.reduceEqDiff];obtain⟨s1,s2,s3⟩:=step_ok h hz hst;exact⟨(z1,vlA g.Nodes.toNat (vfZ g wi l z),flA g ⟨z.fe,wi⟩ (vfZ g wi l z)),⟨s1,by rw[←hN,←s2,settle_step hst]⟩,by simp only;omega,gsub (sub_rb [some 0,some 7,some 6,some 3,some 8,some 5] rfl (by simp) (by simp)) (by simp)⟩
     ·have hn:rTrip g wi l z=none:=by simpa using hc2
      rw[hn];simp only[Option.getD_none];refine gwp_skip ?_;simp only[zT,reduceIte,Nat.reduceEqDiff];refine hK12 _ _ ?_;refine gwp_prune [0,5,7,41,42,43] (Or.inr (by simp)) ?_;simp only[zP,Nat.reduceEqDiff,reduceIte];refine gR fun K hK=>?_;simp -dsimp;apply hK;clear hK K;simp only[zT,reduceIte,Nat.reduceEqDiff];have wk:IntKind.i64.wrap 4=4:=by decide
      exact⟨4,⟨by omega,fun _=>k2 (by omega),fun _=>k3 (by omega),fun _=>k4 (by omega),fun _=>hn⟩,by omega,gsub (sub_rb [some 0,some 7,some 6,some 3,some 8,some 5] rfl (by simp[wk]) (by simp[v4,g4])) (by simp)⟩
    ·simp at hc1
   ·simp only[zP,Nat.reduceEqDiff,reduceIte];refine gS fun K hK=>?_;simp -dsimp;apply hK;clear hK K;refine gwp_seq_k fun K13 hK13=>?_;refine gwp_cond rfl (fun hc1=>?_) (fun hc1=>?_)
    ·simp at hc1
    ·rw[v4,g4];have hst:stepZ g wi l z=none:=by unfold stepZ;rw[k2 (by omega),k3 (by omega),k4 (by omega),k5 (by omega)];rfl
     rw[settle_stop hst]at hN;subst hN;refine gwp_exit ?_;simp only[zT,reduceIte,Nat.reduceEqDiff];refine hK4 _ _ ?_;refine gwp_prune [0,5] (Or.inr (by simp)) ?_;simp only[zP,Nat.reduceEqDiff,reduceIte];refine gS fun K hK=>?_;simp -dsimp;apply hK;clear hK K;refine gwp_weak (gsub (sub_unfix 3 0 rfl rfl) (by simp)) ?_;simp only[hset,List.set_cons_zero];exact gwp_ret ⟨[some 0,some 1,some 2,some 3,some 4],rfl,by simp,by simp,by simp,by simp[resP,tupOf]⟩
abbrev hMb (g:Gr) (fe wi:List Bool):Option ARow:=some (.els 6 [[I g.Nodes, .lst 4 (g.Wires.map Wr.cells), .lst 4 (g.Feeds.map Fd.cells),I g.Least,bL [],bL wi]])
abbrev hTb (x:AV) (l:List Ld) (z:SS) (vs fs:List Fr):Option ARow:=some (.els 6 [[x,lL l, .row 1 0 z.sv.length,fL vs,fL fs, .row 3 0 z.cuts.length]])
theorem m_settleb (g:Gr) (wi:List Bool) (l:List Ld) (fe:List Bool) (h:SetOk g wi l) (hfl:fe.length=g.Feeds.length) (hb:fe=[]) (Z:SS) (hZ:settleS g wi l fe=Z):
  MutCall Try.prog 24 [.ptr 0 0 0,lL l] [hMb g fe wi] [] (.ptr 2 0 0) [hMb g Z.fe wi]
   [some (.els 1 (Z.sv.map bCell)),hTb (.ptr 0 0 0) l Z (vlA g.Nodes.toNat (vfZ g wi l Z)) (flA g ⟨Z.fe,wi⟩ (vfZ g wi l Z)),some (.els 4 (Z.cuts.map Cu.cells))]:=by
 have hll:=h.ll;have f0:Fits l.length 2:=fits_of (by omega) (by omega);have hz0:=z0_ok h hfl;refine MutCall.of_bodyG [0] Try.func24 rfl (by decide) (by simp[Try.ntmps24]) rfl rfl ?_;intro J hJ;simp only[Try.ntmps24,Try.results24];refine gS fun K hK=>?_;simp -dsimp;apply hK;clear hK K;refine gwp_scope ?_;refine gS fun K hK=>?_;simp -dsimp [f0];apply hK;clear hK K;refine gwp_seq_k fun K1 hK1=>?_;refine gS fun K hK=>?_;simp -dsimp;apply hK;clear hK K;refine gwp_block ?_;refine gwp_prune [0,5,21,22] (Or.inr (by simp)) ?_;simp only[zP,Nat.reduceEqDiff,reduceIte];refine gwp_loop_l [0,5,21] (α:=Nat) (fun k=>[(22,I k)]) (fun k=>[hMb g fe wi,some (.els 1 ((svK l.length k).map bCell)),some (.els 6 [[.ptr 0 0 0,lL l, .row 1 0 l.length, .v (.slice none 0 0), .v (.slice none 0 0), .v (.slice none 0 0)]])]) (fun k=>k≤l.length) (fun k=>l.length-k) 0 ?_ ?_ ?_
 ·exact Nat.zero_le _
 ·exact gsub (sub_rb [some 0,some 1,some 2] rfl (by simp) (by simp[svK_zero,bCell])) (by simp)
 rintro k k1;simp only[zP,Nat.reduceEqDiff,reduceIte];refine gS fun K hK=>?_;simp -dsimp;apply hK;clear hK K;refine gwp_seq_k fun K2 hK2=>?_;refine gwp_cond rfl (fun hc0=>?_) (fun hc0=>?_)
 ·have hkl:k<l.length:=by simpa using hc0
  have wk:=zW k (by omega);have hsl:=svK_len (n:=l.length) (k:=k) k1;have hst:=svK_set hkl;refine gwp_skip ?_;simp only[zT,reduceIte,Nat.reduceEqDiff];refine hK2 _ _ ?_;refine gwp_prune [0,5,21,22] (Or.inr (by simp)) ?_;simp only[zP,Nat.reduceEqDiff,reduceIte];refine gwp_seq_k fun K3 hK3=>?_;refine gwp_block ?_;refine gS fun K hK=>?_;simp -dsimp;apply hK;clear hK K;refine gR fun K hK=>?_;simp -dsimp [hkl,hsl];apply hK;clear hK K;simp only[zT,reduceIte,Nat.reduceEqDiff];refine hK3 _ _ ?_;refine gwp_prune [0,5,21,22] (Or.inr (by simp)) ?_;simp only[zP,Nat.reduceEqDiff,reduceIte];refine gR fun K hK=>?_;simp -dsimp [wk];apply hK;clear hK K;simp only[zT,reduceIte,Nat.reduceEqDiff];exact⟨k+1,by omega,by omega,gsub (sub_rb [some 0,some 1,some 2] rfl (by simp) (by simp[←hst,List.map_set,bCell])) (by simp)⟩
 ·have hke:k=l.length:=by have hn:¬k<l.length:=(by simpa using hc0);omega
  subst hke;refine gwp_exit ?_;simp only[zT,reduceIte,Nat.reduceEqDiff];refine hK1 _ _ ?_;refine gwp_prune [0,5] (Or.inr (by simp)) ?_;simp only[zP,Nat.reduceEqDiff,reduceIte];rw[svK_all];refine gwp_weak (gsub (((sub_nilc 2 0 3 2 (sz0:=6) rfl rfl rfl).trans (sub_nilc 2 0 4 2 (sz0:=6) rfl rfl rfl)).trans (sub_nilc 2 0 5 4 (sz0:=6) rfl rfl rfl)) (by simp)) ?_;refine gwp_weak (gsub (sub_rf (T':=[(0, .ptr 0 0 0),(5, .ptr 2 0 0)]) (H':=[hMb g (z0 l fe).fe wi,some (.els 1 ((z0 l fe).sv.map bCell)),hTb (.ptr 0 0 0) l (z0 l fe) [] [],some (.els 4 ((z0 l fe).cuts.map Cu.cells))]) [some 0,some 1,some 2,some 5] rfl ⟨.inr (by simp), .inr (by simp),trivial⟩ (by simp[z0])) (by simp)) ?_;refine gwp_fix 2 0 rfl rfl fun x=>?_;simp only[hset,List.set_cons_zero]
  ·refine gwp_flag (by decide) ?_;refine gS fun K hK=>?_;simp -dsimp;apply hK;clear hK K;refine gwp_sl ?_;refine gwp_block ?_;refine gwp_prune [0,5,7] (Or.inr (by simp)) ?_;simp only[zP,Nat.reduceEqDiff,reduceIte];refine gwp_loop_l [0,5,7] (α:=SS×List Fr×List Fr) (fun a=>[]) (fun a=>[hMb g a.1.fe wi,some (.els 1 (a.1.sv.map bCell)),hTb (.fptr x 0 0 0) l a.1 a.2.1 a.2.2,some (.els 4 (a.1.cuts.map Cu.cells)),some (.els 1 [[.bnd 42 [.ptr 2 0 0]],[.bnd 43 [.ptr 2 0 0]],[.bnd 44 [.ptr 2 0 0]],[.bnd 45 [.ptr 2 0 0]]])]) (fun a=>ZOk g wi l a.1∧settleN g wi l (cntZ a.1) a.1=Z∧a.1.fe=[]) (fun a=>cntZ a.1) (z0 l fe,[],[]) ?_ ?_ ?_
   ·exact⟨hz0,hZ,hb⟩
   ·exact gsub (sub_same (by simp)) (by simp)
   rintro⟨z,vs,fs⟩ ⟨hz,hN,hb⟩;simp only at hz hN hb ⊢;obtain⟨vK,hvK⟩:∃vK:Nat→List Fr,vK=fun k=>if k≤2 then vs else vlA g.Nodes.toNat (vfZ g wi l z):=⟨_,rfl⟩;obtain⟨fK,hfK⟩:∃fK:Nat→List Fr,fK=fun k=>if k≤2 then fs else flA g ⟨z.fe,wi⟩ (vfZ g wi l z):=⟨_,rfl⟩;have v0:vK 0=vs:=by rw[hvK];rfl
   have v1:vK 1=vs:=by rw[hvK];rfl
   have v2:vK 2=vs:=by rw[hvK];rfl
   have v3:vK 3=vlA g.Nodes.toNat (vfZ g wi l z):=by rw[hvK];rfl
   have v4:vK 4=vlA g.Nodes.toNat (vfZ g wi l z):=by rw[hvK];rfl
   have g0:fK 0=fs:=by rw[hfK];rfl
   have g1:fK 1=fs:=by rw[hfK];rfl
   have g2:fK 2=fs:=by rw[hfK];rfl
   have g3:fK 3=flA g ⟨z.fe,wi⟩ (vfZ g wi l z):=by rw[hfK];rfl
   have g4:fK 4=flA g ⟨z.fe,wi⟩ (vfZ g wi l z):=by rw[hfK];rfl
   simp only[zP,Nat.reduceEqDiff,reduceIte];refine gwp_block ?_;refine gwp_seq_k fun K4 hK4=>?_;refine gS fun K hK=>?_;simp -dsimp;apply hK;clear hK K;refine gwp_block ?_;refine gwp_prune [0,5,7,41,42,43] (Or.inr (by simp)) ?_;simp only[zP,Nat.reduceEqDiff,reduceIte];refine gwp_loop_l [0,5,7,41,42] (α:=Nat) (fun k=>[(43,I k)]) (fun k=>[hMb g z.fe wi,some (.els 1 (z.sv.map bCell)),hTb (.fptr x 0 0 0) l z (vK k) (fK k),some (.els 4 (z.cuts.map Cu.cells)),some (.els 1 [[.bnd 42 [.ptr 2 0 0]],[.bnd 43 [.ptr 2 0 0]],[.bnd 44 [.ptr 2 0 0]],[.bnd 45 [.ptr 2 0 0]]])]) (fun k=>k≤4∧(1≤k→rDead g wi l z=none)∧(2≤k→rRet g wi l z=none)∧(3≤k→rLow g wi l z=none)∧(4≤k→rTrip g wi l z=none)) (fun k=>4-k) 0 ?_ ?_ ?_
   ·exact⟨by omega,fun h=>by omega,fun h=>by omega,fun h=>by omega,fun h=>by omega⟩
   ·exact gsub (sub_rb [some 0,some 1,some 2,some 3,some 4] rfl (by simp) (by simp[v0,g0])) (by simp)
   rintro k ⟨k1,k2,k3,k4,k5⟩
   rcases(by omega:k=0∨k=1∨k=2∨k=3∨k=4)with rfl|rfl|rfl|rfl|rfl
   ·simp only[zP,Nat.reduceEqDiff,reduceIte];refine gS fun K hK=>?_;simp -dsimp;apply hK;clear hK K;refine gwp_seq_k fun K5 hK5=>?_;refine gwp_cond rfl (fun hc1=>?_) (fun hc1=>?_)
    ·rw[v0,g0];refine gwp_skip ?_;simp only[zT,reduceIte,Nat.reduceEqDiff];refine hK5 _ _ ?_;refine gwp_prune [0,5,7,41,42,43] (Or.inr (by simp)) ?_;simp only[zP,Nat.reduceEqDiff,reduceIte];refine gwp_seq_k fun K6 hK6=>?_;refine gwp_block ?_;refine gS fun K hK=>?_;simp -dsimp;apply hK;clear hK K;refine gS fun K hK=>?_;simp -dsimp;refine callK_mut [2,0] [1,3] [some 1,none,some 0,none,none,some 2,some 3] (w_deadb x g wi l z vs fs h hz hb) (by decide) rfl (by simp) (by simp) rfl (by simp) ?_;simp -dsimp;apply hK;clear hK K;refine gwp_cond rfl (fun hc2=>?_) (fun hc2=>?_)
     ·obtain⟨z1,hz1⟩:=Option.isSome_iff_exists.1 hc2;have hst:stepZ g wi l z=some z1:=by unfold stepZ;rw[hz1];rfl
      rw[hz1];simp only[Option.getD_some];refine gwp_exit ?_;simp only[zT,reduceIte,Nat.reduceEqDiff];obtain⟨s1,s2,s3⟩:=step_ok h hz hst;exact⟨(z1,vs,fs),⟨s1,by rw[←hN,←s2,settle_step hst],List.length_eq_zero_iff.1 (by rw[s1.fe,←hz.fe,hb];rfl)⟩,by simp only;omega,gsub (sub_rb [some 0,some 5,some 2,some 6,some 4] rfl (by simp) (by simp)) (by simp)⟩
     ·have hn:rDead g wi l z=none:=by simpa using hc2
      rw[hn];simp only[Option.getD_none];refine gwp_skip ?_;simp only[zT,reduceIte,Nat.reduceEqDiff];refine hK6 _ _ ?_;refine gwp_prune [0,5,7,41,42,43] (Or.inr (by simp)) ?_;simp only[zP,Nat.reduceEqDiff,reduceIte];refine gR fun K hK=>?_;simp -dsimp;apply hK;clear hK K;simp only[zT,reduceIte,Nat.reduceEqDiff];have wk:IntKind.i64.wrap 1=1:=by decide
      exact⟨1,⟨by omega,fun _=>hn,fun h=>by omega,fun h=>by omega,fun h=>by omega⟩,by omega,gsub (sub_rb [some 0,some 5,some 2,some 6,some 4] rfl (by simp[wk]) (by simp[v1,g1])) (by simp)⟩
    ·simp at hc1
   ·simp only[zP,Nat.reduceEqDiff,reduceIte];refine gS fun K hK=>?_;simp -dsimp;apply hK;clear hK K;refine gwp_seq_k fun K7 hK7=>?_;refine gwp_cond rfl (fun hc1=>?_) (fun hc1=>?_)
    ·rw[v1,g1];refine gwp_skip ?_;simp only[zT,reduceIte,Nat.reduceEqDiff];refine hK7 _ _ ?_;refine gwp_prune [0,5,7,41,42,43] (Or.inr (by simp)) ?_;simp only[zP,Nat.reduceEqDiff,reduceIte];refine gwp_seq_k fun K8 hK8=>?_;refine gwp_block ?_;refine gS fun K hK=>?_;simp -dsimp;apply hK;clear hK K;refine gS fun K hK=>?_;simp -dsimp;refine callK_mut [2,0] [1,3] [some 1,none,some 0,none,none,some 2,some 3] (w_retb x g wi l z vs fs h hz hb) (by decide) rfl (by simp) (by simp) rfl (by simp) ?_;simp -dsimp;apply hK;clear hK K;refine gwp_cond rfl (fun hc2=>?_) (fun hc2=>?_)
     ·obtain⟨z1,hz1⟩:=Option.isSome_iff_exists.1 hc2;have hst:stepZ g wi l z=some z1:=by unfold stepZ;rw[k2 (by omega),hz1];rfl
      rw[hz1];simp only[Option.getD_some];refine gwp_exit ?_;simp only[zT,reduceIte,Nat.reduceEqDiff];obtain⟨s1,s2,s3⟩:=step_ok h hz hst;exact⟨(z1,vs,fs),⟨s1,by rw[←hN,←s2,settle_step hst],List.length_eq_zero_iff.1 (by rw[s1.fe,←hz.fe,hb];rfl)⟩,by simp only;omega,gsub (sub_rb [some 0,some 5,some 2,some 6,some 4] rfl (by simp) (by simp)) (by simp)⟩
     ·have hn:rRet g wi l z=none:=by simpa using hc2
      rw[hn];simp only[Option.getD_none];refine gwp_skip ?_;simp only[zT,reduceIte,Nat.reduceEqDiff];refine hK8 _ _ ?_;refine gwp_prune [0,5,7,41,42,43] (Or.inr (by simp)) ?_;simp only[zP,Nat.reduceEqDiff,reduceIte];refine gR fun K hK=>?_;simp -dsimp;apply hK;clear hK K;simp only[zT,reduceIte,Nat.reduceEqDiff];have wk:IntKind.i64.wrap 2=2:=by decide
      exact⟨2,⟨by omega,fun _=>k2 (by omega),fun _=>hn,fun h=>by omega,fun h=>by omega⟩,by omega,gsub (sub_rb [some 0,some 5,some 2,some 6,some 4] rfl (by simp[wk]) (by simp[v2,g2])) (by simp)⟩
    ·simp at hc1
   ·simp only[zP,Nat.reduceEqDiff,reduceIte];refine gS fun K hK=>?_;simp -dsimp;apply hK;clear hK K;refine gwp_seq_k fun K9 hK9=>?_;refine gwp_cond rfl (fun hc1=>?_) (fun hc1=>?_)
    ·rw[v2,g2];refine gwp_skip ?_;simp only[zT,reduceIte,Nat.reduceEqDiff];refine hK9 _ _ ?_;refine gwp_prune [0,5,7,41,42,43] (Or.inr (by simp)) ?_;simp only[zP,Nat.reduceEqDiff,reduceIte];refine gwp_seq_k fun K10 hK10=>?_;refine gwp_block ?_;refine gS fun K hK=>?_;simp -dsimp;apply hK;clear hK K;refine gS fun K hK=>?_;simp -dsimp;refine callK_mut [2,0] [1,3] [some 1,none,some 0,none,none,some 2,some 3] (w_lowb x g wi l z vs fs h hz hb (k2 (by omega)) (k3 (by omega))) (by decide) rfl (by simp) (by simp) rfl (by simp) ?_;simp -dsimp;apply hK;clear hK K;refine gwp_cond rfl (fun hc2=>?_) (fun hc2=>?_)
     ·obtain⟨z1,hz1⟩:=Option.isSome_iff_exists.1 hc2;have hst:stepZ g wi l z=some z1:=by unfold stepZ;rw[k2 (by omega),k3 (by omega),hz1];rfl
      rw[hz1];simp only[Option.getD_some];refine gwp_exit ?_;simp only[zT,reduceIte,Nat.reduceEqDiff];obtain⟨s1,s2,s3⟩:=step_ok h hz hst;exact⟨(z1,vlA g.Nodes.toNat (vfZ g wi l z),flA g ⟨z.fe,wi⟩ (vfZ g wi l z)),⟨s1,by rw[←hN,←s2,settle_step hst],List.length_eq_zero_iff.1 (by rw[s1.fe,←hz.fe,hb];rfl)⟩,by simp only;omega,gsub (sub_rb [some 0,some 5,some 2,some 6,some 4] rfl (by simp) (by simp)) (by simp)⟩
     ·have hn:rLow g wi l z=none:=by simpa using hc2
      rw[hn];simp only[Option.getD_none];refine gwp_skip ?_;simp only[zT,reduceIte,Nat.reduceEqDiff];refine hK10 _ _ ?_;refine gwp_prune [0,5,7,41,42,43] (Or.inr (by simp)) ?_;simp only[zP,Nat.reduceEqDiff,reduceIte];refine gR fun K hK=>?_;simp -dsimp;apply hK;clear hK K;simp only[zT,reduceIte,Nat.reduceEqDiff];have wk:IntKind.i64.wrap 3=3:=by decide
      exact⟨3,⟨by omega,fun _=>k2 (by omega),fun _=>k3 (by omega),fun _=>hn,fun h=>by omega⟩,by omega,gsub (sub_rb [some 0,some 5,some 2,some 6,some 4] rfl (by simp[wk]) (by simp[v3,g3])) (by simp)⟩
    ·simp at hc1
   ·simp only[zP,Nat.reduceEqDiff,reduceIte];refine gS fun K hK=>?_;simp -dsimp;apply hK;clear hK K;refine gwp_seq_k fun K11 hK11=>?_;refine gwp_cond rfl (fun hc1=>?_) (fun hc1=>?_)
    ·rw[v3,g3];refine gwp_skip ?_;simp only[zT,reduceIte,Nat.reduceEqDiff];refine hK11 _ _ ?_;refine gwp_prune [0,5,7,41,42,43] (Or.inr (by simp)) ?_;simp only[zP,Nat.reduceEqDiff,reduceIte];refine gwp_seq_k fun K12 hK12=>?_;refine gwp_block ?_;refine gS fun K hK=>?_;simp -dsimp;apply hK;clear hK K;refine gS fun K hK=>?_;simp -dsimp;refine callK_mut [2,0] [1,3] [some 1,none,some 0,none,none,some 2,some 3] (w_tripb x g wi l z h hz hb) (by decide) rfl (by simp) (by simp) rfl (by simp) ?_;simp -dsimp;apply hK;clear hK K;refine gwp_cond rfl (fun hc2=>?_) (fun hc2=>?_)
     ·obtain⟨z1,hz1⟩:=Option.isSome_iff_exists.1 hc2;have hst:stepZ g wi l z=some z1:=by unfold stepZ;rw[k2 (by omega),k3 (by omega),k4 (by omega),hz1];rfl
      rw[hz1];simp only[Option.getD_some];refine gwp_exit ?_;simp only[zT,reduceIte,Nat.reduceEqDiff];obtain⟨s1,s2,s3⟩:=step_ok h hz hst;exact⟨(z1,vlA g.Nodes.toNat (vfZ g wi l z),flA g ⟨z.fe,wi⟩ (vfZ g wi l z)),⟨s1,by rw[←hN,←s2,settle_step hst],List.length_eq_zero_iff.1 (by rw[s1.fe,←hz.fe,hb];rfl)⟩,by simp only;omega,gsub (sub_rb [some 0,some 5,some 2,some 6,some 4] rfl (by simp) (by simp)) (by simp)⟩
     ·have hn:rTrip g wi l z=none:=by simpa using hc2
      rw[hn];simp only[Option.getD_none];refine gwp_skip ?_;simp only[zT,reduceIte,Nat.reduceEqDiff];refine hK12 _ _ ?_;refine gwp_prune [0,5,7,41,42,43] (Or.inr (by simp)) ?_;simp only[zP,Nat.reduceEqDiff,reduceIte];refine gR fun K hK=>?_;simp -dsimp;apply hK;clear hK K;simp only[zT,reduceIte,Nat.reduceEqDiff];have wk:IntKind.i64.wrap 4=4:=by decide
      exact⟨4,⟨by omega,fun _=>k2 (by omega),fun _=>k3 (by omega),fun _=>k4 (by omega),fun _=>hn⟩,by omega,gsub (sub_rb [some 0,some 5,some 2,some 6,some 4] rfl (by simp[wk]) (by simp[v4,g4])) (by simp)⟩
    ·simp at hc1
   ·simp only[zP,Nat.reduceEqDiff,reduceIte];refine gS fun K hK=>?_;simp -dsimp;apply hK;clear hK K;refine gwp_seq_k fun K13 hK13=>?_;refine gwp_cond rfl (fun hc1=>?_) (fun hc1=>?_)
    ·simp at hc1
    ·rw[v4,g4];have hst:stepZ g wi l z=none:=by unfold stepZ;rw[k2 (by omega),k3 (by omega),k4 (by omega),k5 (by omega)];rfl
     rw[settle_stop hst]at hN;subst hN;refine gwp_exit ?_;simp only[zT,reduceIte,Nat.reduceEqDiff];refine hK4 _ _ ?_;refine gwp_prune [0,5] (Or.inr (by simp)) ?_;simp only[zP,Nat.reduceEqDiff,reduceIte];refine gS fun K hK=>?_;simp -dsimp;apply hK;clear hK K;refine gwp_weak (gsub (sub_unfix 2 0 rfl rfl) (by simp)) ?_;simp only[hset,List.set_cons_zero];exact gwp_ret ⟨[some 0,some 1,some 2,some 3],rfl,by simp,by simp,by simp,by simp[resP,tupOf]⟩
end Go.Cur
end
section
namespace Go.Cur
open Go.AM Go.Proofs
def stlS (g:Gr) (wi:List Bool) (l:List Ld) (Z:SS):Stl:=⟨vlA g.Nodes.toNat (vfZ g wi l Z),flA g ⟨Z.fe,wi⟩ (vfZ g wi l Z),⟨Z.fe,wi⟩,Z.sv,Z.cuts⟩
theorem settle_ok {g:Gr} {wi:List Bool} {l:List Ld} (h:SetOk g wi l):∀{n:Nat} {z:SS},ZOk g wi l z→ZOk g wi l (settleN g wi l n z)
 |0,z,hz=>hz
 |n+1,z,hz=>by
  cases hs:stepZ g wi l z with
  |none=>rw[settle_stop hs];exact hz
  |some z'=>rw[settle_step hs];exact settle_ok h (step_ok h hz hs).1
theorem settle_end {g:Gr} {wi:List Bool} {l:List Ld} (h:SetOk g wi l):∀{n:Nat} {z:SS},ZOk g wi l z→cntZ z≤n→stepZ g wi l (settleN g wi l n z)=none
 |0,z,hz,hn=>by
  cases hs:stepZ g wi l z with
  |none=>exact hs
  |some z'=>have:=(step_ok h hz hs).2.1;omega
 | n+1,z,hz,hn=>by
  cases hs:stepZ g wi l z with
  |none=>rw[settle_stop hs];exact hs
  |some z'=>
   rw[settle_step hs];have:=step_ok h hz hs;exact settle_end h this.1 (by omega)
theorem m_begina (g:Gr) (s:Sta) (l:List Ld) (hl:l.length≤1000) (hfine:fineB g s l=true) (hne:s.Feeds≠[]):MutCall Try.prog 22 [g.av,s.av,lL l] [] [] (.tup [.ptr 0 0 0,Bo true]) [] [hMa g s.Feeds s.Wires,some (.els 1 (s.Feeds.map bCell))]:=by
 have hfine0:=hfine;simp only[fineB,stB,Bool.and_eq_true,decide_eq_true_eq]at hfine0;have hgo:grB g=true∧s.Feeds.length=g.Feeds.length∧s.Wires.length=g.Wires.length:=⟨hfine0.1.1,hfine0.1.2.1.1,hfine0.1.2.1.2⟩;have hfl1:s.Feeds.length≤1000:=by have:=(grB_bd hgo.1).2.2.2.1;omega
 refine MutCall.of_bodyG [] Try.func22 rfl (by decide) (by simp[Try.ntmps22]) rfl rfl ?_;intro J hJ;simp only[Try.ntmps22,Try.results22];refine gS fun K hK=>?_;simp -dsimp;apply hK;clear hK K;refine gwp_seq_k fun K1 hK1=>?_;refine gS fun K hK=>?_;simp -dsimp [okE];refine callK_intro _ (c_Check g) (by simp) ?_;simp -dsimp [okE];apply hK;clear hK K;refine gwp_cond rfl (fun hc0=>?_) (fun hc0=>?_)
 ·exfalso;simp[hgo.1,hgo.2.1,hgo.2.2]at hc0
 ·have hb:=grB_bd hgo.1;refine gwp_skip ?_;simp only[zT,reduceIte,Nat.reduceEqDiff];refine hK1 _ _ ?_;refine gwp_prune [2,3,4] (Or.inr (by simp)) ?_;simp only[zP,Nat.reduceEqDiff,reduceIte];refine gwp_seq_k fun K2 hK2=>?_;refine gS fun K hK=>?_;simp -dsimp;apply hK;clear hK K;refine gwp_block ?_;refine gwp_prune [2,3,4,35,36,37] (Or.inr (by simp)) ?_;simp only[zP,Nat.reduceEqDiff,reduceIte];refine gwp_loop_l [2,3,4,35,36] (α:=Nat) (fun k=>[(37,I k)]) (fun k=>[some (.els 4 [g.cells]),some (.els 2 [s.cells])]) (fun k=>k≤g.Wires.length∧swTo g s k=true) (fun k=>g.Wires.length-k) 0 ?_ ?_ ?_
  ·exact⟨Nat.zero_le _,rfl⟩
  ·exact gsub (sub_same (by simp)) (by simp)
  rintro k ⟨k1,k2⟩;simp only[zP,Nat.reduceEqDiff,reduceIte];refine gS fun K hK=>?_;simp -dsimp;apply hK;clear hK K;refine gwp_seq_k fun K3 hK3=>?_;refine gwp_cond rfl (fun hc1=>?_) (fun hc1=>?_)
  ·skip
   try simp at hc1
   obtain⟨w,hw⟩:∃w,g.Wires[k]?=some w:=⟨_,List.getElem?_eq_getElem hc1⟩;have wk:=zW k (by omega);have gb:=bAt_get (l:=s.Wires) (k:=k) (by omega);refine gwp_skip ?_;simp only[zT,reduceIte,Nat.reduceEqDiff];refine hK3 _ _ ?_;refine gwp_prune [2,3,4,35,36,37] (Or.inr (by simp)) ?_;simp only[zP,Nat.reduceEqDiff,reduceIte];refine gwp_seq_k fun K4 hK4=>?_;refine gwp_block ?_;refine gS fun K hK=>?_;simp -dsimp [hw];apply hK;clear hK K;refine gS fun K hK=>?_;simp -dsimp [gb,hgo.2.2];refine idxK_intro (bCell (bAt s.Wires k)) (fun _=>by simp[gb]) ?_;simp -dsimp [gb,hgo.2.2];apply hK;clear hK K;refine gwp_cond rfl (fun hc2=>?_) (fun hc2=>?_)
   ·exfalso;have hfl:(w.Sw||bAt s.Wires k)=false:=by cases hw1:w.Sw<;>cases hb1:bAt s.Wires k<;>simp[hw1,hb1]at hc2 ⊢
    rw[fine_w hw hfl]at hfine;cases hfine
   ·refine gwp_skip ?_;simp only[zT,reduceIte,Nat.reduceEqDiff];refine hK4 _ _ ?_;refine gwp_prune [2,3,4,35,36,37] (Or.inr (by simp)) ?_;simp only[zP,Nat.reduceEqDiff,reduceIte];refine gR fun K hK=>?_;simp -dsimp [wk];apply hK;clear hK K;simp only[zT,reduceIte,Nat.reduceEqDiff];refine⟨k+1,⟨by omega,?_⟩,by omega,gsub (sub_rb [some 0,some 1] rfl (by simp) (by simp)) (by simp)⟩;simp only[swTo,k2,hw,Bool.true_and]
    cases hw1:w.Sw<;>cases hb1:bAt s.Wires k<;>simp[hw1,hb1]at hc2 ⊢
  ·skip
   try simp at hc1
   have hke:k=g.Wires.length:=by omega
   subst hke;refine gwp_exit ?_;simp only[zT,reduceIte,Nat.reduceEqDiff];refine hK2 _ _ ?_;refine gwp_prune [2,3,4] (Or.inr (by simp)) ?_;simp only[zP,Nat.reduceEqDiff,reduceIte];refine gS fun K hK=>?_;simp -dsimp;apply hK;clear hK K;refine gwp_seq_k fun K5 hK5=>?_;refine gS fun K hK=>?_;simp -dsimp;apply hK;clear hK K;refine gwp_block ?_;refine gwp_prune [3,4,10,55,56,57] (Or.inr (by simp)) ?_;simp only[zP,Nat.reduceEqDiff,reduceIte];refine gwp_loop_l [3,4,10,55,56] (α:=Nat) (fun k=>[(57,I k)]) (fun k=>[some (.els 4 [g.cells]),some (.els 2 [s.cells]),some (.map false [.i .i64] (lkv (l.take k)))]) (fun k=>k≤l.length∧ldTo g l k=true) (fun k=>l.length-k) 0 ?_ ?_ ?_
   ·exact⟨Nat.zero_le _,rfl⟩
   ·exact gsub (sub_rb [some 0,some 1,some 2] rfl (by simp) (by simp[lkv])) (by simp)
   rintro i ⟨i1,i2⟩;simp only[zP,Nat.reduceEqDiff,reduceIte];refine gS fun K hK=>?_;simp -dsimp;apply hK;clear hK K;refine gwp_seq_k fun K6 hK6=>?_;refine gwp_cond rfl (fun hc3=>?_) (fun hc3=>?_)
   ·skip
    try simp at hc3
    obtain⟨f,hf⟩:∃f,l[i]?=some f:=⟨_,List.getElem?_eq_getElem hc3⟩;have wi:=zW i (by omega);have wn:IntKind.i64.wrap (g.Nodes-1)=g.Nodes-1:=wrap_in (by omega) (by omega);refine gwp_skip ?_;simp only[zT,reduceIte,Nat.reduceEqDiff];refine hK6 _ _ ?_;refine gwp_prune [3,4,10,55,56,57] (Or.inr (by simp)) ?_;simp only[zP,Nat.reduceEqDiff,reduceIte];refine gwp_seq_k fun K7 hK7=>?_;refine gwp_block ?_;refine gS fun K hK=>?_;simp -dsimp [hf];apply hK;clear hK K;refine gwp_seq_k fun K8 hK8=>?_;refine gS fun K hK=>?_;simp -dsimp [wn,lkv_look];refine callK_intro _ (c_within _ _ _) (by simp) ?_;simp -dsimp [wn,lkv_look];refine callK_may _ (fun hm=>c_within f.Units (-40) 40) (by simp) ?_;simp -dsimp [wn,lkv_look];refine callK_may _ (fun hm=>c_within f.Rank 0 100) (by simp) ?_;simp -dsimp [wn,lkv_look];refine valK_intro (_) (fun hm=>rfl) ?_;simp -dsimp [wn,lkv_look];apply hK;clear hK K;refine gwp_cond rfl (fun hc4=>?_) (fun hc4=>?_)
    ·have hfd:ldB g (l.take i) f= !(!inr f.At 0 (g.Nodes-1)|| !inr f.Units (-40) 40|| !inr f.Rank 0 100||((l.take i).any fun x=>decide (x.At=f.At))):=by
      simp only[ldB]
      cases inr f.At 0 (g.Nodes-1)<;>cases inr f.Units (-40) 40<;>cases inr f.Rank 0 100<;>cases ((l.take i).any fun x=>decide (x.At=f.At))<;>rfl
     exfalso;rw[fine_l hf (by rw[hfd,hc4];rfl)]at hfine;cases hfine
    ·have hfd:ldB g (l.take i) f= !(!inr f.At 0 (g.Nodes-1)|| !inr f.Units (-40) 40|| !inr f.Rank 0 100||((l.take i).any fun x=>decide (x.At=f.At))):=by
      simp only[ldB]
      cases inr f.At 0 (g.Nodes-1)<;>cases inr f.Units (-40) 40<;>cases inr f.Rank 0 100<;>cases ((l.take i).any fun x=>decide (x.At=f.At))<;>rfl
     have hany:((l.take i).any fun x=>decide (x.At=f.At))=false:=by
      cases h:((l.take i).any fun x=>decide (x.At=f.At))with
      |false=>rfl
      |true=>rw[h]at hc4;simp at hc4
     refine gwp_skip ?_;simp only[zT,reduceIte,Nat.reduceEqDiff];refine hK8 _ _ ?_;refine gwp_prune [3,4,10,12,55,56,57] (Or.inr (by simp)) ?_;simp only[zP,Nat.reduceEqDiff,reduceIte];refine gR fun K hK=>?_;simp -dsimp [lkv_snoc _ _ hany];apply hK;clear hK K;simp only[zT,reduceIte,Nat.reduceEqDiff];refine hK7 _ _ ?_;refine gwp_prune [3,4,10,55,56,57] (Or.inr (by simp)) ?_;simp only[zP,Nat.reduceEqDiff,reduceIte];refine gR fun K hK=>?_;simp -dsimp [wi];apply hK;clear hK K;simp only[zT,reduceIte,Nat.reduceEqDiff];refine⟨i+1,⟨by omega,?_⟩,by omega,gsub (sub_rb [some 0,some 1,some 2] rfl (by simp) (by simp[List.take_add_one,hf])) (by simp)⟩;simp only[ldTo,i2,hf,hfd,hc4];rfl
   ·skip
    try simp at hc3
    refine gwp_exit ?_;simp only[zT,reduceIte,Nat.reduceEqDiff];refine hK5 _ _ ?_;refine gwp_prune [3,4] (Or.inr (by simp)) ?_;simp only[zP,Nat.reduceEqDiff,reduceIte];refine gwp_sd mixed rfl (by decide) rfl rfl fun K hK=>?_;simp -dsimp;refine callK_own (o_Cl s.Feeds hne hfl1) ?_;simp -dsimp;refine callK_intro _ (c_Clone_Bool s.Wires (by omega)) (by simp) ?_;simp -dsimp;refine hK _ _ _ (by decide+kernel) ?_;clear hK K;exact gwp_ret ⟨[some 4,some 3],rfl,by simp,by simp[hne],by simp,by simp[resP,tupOf]⟩
theorem c_Settle_ta (g:Gr) (s:Sta) (l:List Ld) (hf:fineB g s l=true) (hlo:longB g s=false) (h:SetOk g s.Wires l) (hne:s.Feeds≠[]) (Z:SS) (hZ:settleS g s.Wires l s.Feeds=Z):
  PureCall Try.prog 10 [g.av,s.av,lL l] (.tup [.agg (stlS g s.Wires l Z).cells,I 0]):=by
 have hll:=h.ll;have hnt:=fine_net hf;have hb:=m_begina g s l (by omega) hf hne;have hlg:=c_long g s hnt (h.few _);rw[hlo]at hlg;have hst:=m_settlea g s.Wires l s.Feeds h hnt.sf Z hZ;refine PureCall.of_bodyG Try.func10 rfl (by decide) (by simp[Try.ntmps10]) ?_;intro J hJ;simp only[Try.ntmps10,Try.results10];refine gS fun K hK=>?_;simp -dsimp;apply hK;clear hK K;refine gS fun K hK=>?_;simp -dsimp;refine callK_mut [] [] [none,none,none,some 0,some 1] (hb) (by decide) rfl (by simp) (by simp) rfl (by simp) ?_;simp -dsimp;apply hK;clear hK K;refine gwp_seq_k fun K1 hK1=>?_;refine gwp_block ?_;refine gS fun K hK=>?_;simp -dsimp;apply hK;clear hK K;refine gwp_cond rfl (fun hc0=>?_) (fun hc0=>?_)
 ·simp at hc0
 ·refine gS fun K hK=>?_;simp -dsimp;refine callK_intro _ (hlg) (by simp) ?_;simp -dsimp;apply hK;clear hK K;refine gwp_cond rfl (fun hc1=>?_) (fun hc1=>?_)
  ·simp at hc1
  ·refine gwp_skip ?_;simp only[zT,reduceIte,Nat.reduceEqDiff];refine hK1 _ _ ?_;refine gwp_prune [2,6,8] (Or.inr (by simp)) ?_;simp only[zP,Nat.reduceEqDiff,reduceIte];refine gS fun K hK=>?_;simp -dsimp;refine callK_mut [3] [4] [none,none,none,some 0,none,some 1,some 2,some 3,some 4] (hst) (by decide) rfl (by simp) (by simp) rfl (by simp) ?_;simp -dsimp;apply hK;clear hK K;refine gwp_sd mixed rfl (by decide) rfl rfl fun K hK=>?_;simp -dsimp;refine hK _ _ _ (by decide+kernel) ?_;clear hK K;exact gwp_ret (by simp[stlS,resP,tupOf])
theorem m_beginb (g:Gr) (s:Sta) (l:List Ld) (hl:l.length≤1000) (hfine:fineB g s l=true) (hne:s.Feeds=[]):MutCall Try.prog 22 [g.av,s.av,lL l] [] [] (.tup [.ptr 0 0 0,Bo true]) [] [hMb g s.Feeds s.Wires]:=by
 have hfine0:=hfine;simp only[fineB,stB,Bool.and_eq_true,decide_eq_true_eq]at hfine0;have hgo:grB g=true∧s.Feeds.length=g.Feeds.length∧s.Wires.length=g.Wires.length:=⟨hfine0.1.1,hfine0.1.2.1.1,hfine0.1.2.1.2⟩;have hfl1:s.Feeds.length≤1000:=by have:=(grB_bd hgo.1).2.2.2.1;omega
 refine MutCall.of_bodyG [] Try.func22 rfl (by decide) (by simp[Try.ntmps22]) rfl rfl ?_;intro J hJ;simp only[Try.ntmps22,Try.results22];refine gS fun K hK=>?_;simp -dsimp;apply hK;clear hK K;refine gwp_seq_k fun K1 hK1=>?_;refine gS fun K hK=>?_;simp -dsimp [okE];refine callK_intro _ (c_Check g) (by simp) ?_;simp -dsimp [okE];apply hK;clear hK K;refine gwp_cond rfl (fun hc0=>?_) (fun hc0=>?_)
 ·exfalso;simp[hgo.1,hgo.2.1,hgo.2.2]at hc0
 ·have hb:=grB_bd hgo.1;refine gwp_skip ?_;simp only[zT,reduceIte,Nat.reduceEqDiff];refine hK1 _ _ ?_;refine gwp_prune [2,3,4] (Or.inr (by simp)) ?_;simp only[zP,Nat.reduceEqDiff,reduceIte];refine gwp_seq_k fun K2 hK2=>?_;refine gS fun K hK=>?_;simp -dsimp;apply hK;clear hK K;refine gwp_block ?_;refine gwp_prune [2,3,4,35,36,37] (Or.inr (by simp)) ?_;simp only[zP,Nat.reduceEqDiff,reduceIte];refine gwp_loop_l [2,3,4,35,36] (α:=Nat) (fun k=>[(37,I k)]) (fun k=>[some (.els 4 [g.cells]),some (.els 2 [s.cells])]) (fun k=>k≤g.Wires.length∧swTo g s k=true) (fun k=>g.Wires.length-k) 0 ?_ ?_ ?_
  ·exact⟨Nat.zero_le _,rfl⟩
  ·exact gsub (sub_same (by simp)) (by simp)
  rintro k ⟨k1,k2⟩;simp only[zP,Nat.reduceEqDiff,reduceIte];refine gS fun K hK=>?_;simp -dsimp;apply hK;clear hK K;refine gwp_seq_k fun K3 hK3=>?_;refine gwp_cond rfl (fun hc1=>?_) (fun hc1=>?_)
  ·skip
   try simp at hc1
   obtain⟨w,hw⟩:∃w,g.Wires[k]?=some w:=⟨_,List.getElem?_eq_getElem hc1⟩;have wk:=zW k (by omega);have gb:=bAt_get (l:=s.Wires) (k:=k) (by omega);refine gwp_skip ?_;simp only[zT,reduceIte,Nat.reduceEqDiff];refine hK3 _ _ ?_;refine gwp_prune [2,3,4,35,36,37] (Or.inr (by simp)) ?_;simp only[zP,Nat.reduceEqDiff,reduceIte];refine gwp_seq_k fun K4 hK4=>?_;refine gwp_block ?_;refine gS fun K hK=>?_;simp -dsimp [hw];apply hK;clear hK K;refine gS fun K hK=>?_;simp -dsimp [gb,hgo.2.2];refine idxK_intro (bCell (bAt s.Wires k)) (fun _=>by simp[gb]) ?_;simp -dsimp [gb,hgo.2.2];apply hK;clear hK K;refine gwp_cond rfl (fun hc2=>?_) (fun hc2=>?_)
   ·exfalso;have hfl:(w.Sw||bAt s.Wires k)=false:=by cases hw1:w.Sw<;>cases hb1:bAt s.Wires k<;>simp[hw1,hb1]at hc2 ⊢
    rw[fine_w hw hfl]at hfine;cases hfine
   ·refine gwp_skip ?_;simp only[zT,reduceIte,Nat.reduceEqDiff];refine hK4 _ _ ?_;refine gwp_prune [2,3,4,35,36,37] (Or.inr (by simp)) ?_;simp only[zP,Nat.reduceEqDiff,reduceIte];refine gR fun K hK=>?_;simp -dsimp [wk];apply hK;clear hK K;simp only[zT,reduceIte,Nat.reduceEqDiff];refine⟨k+1,⟨by omega,?_⟩,by omega,gsub (sub_rb [some 0,some 1] rfl (by simp) (by simp)) (by simp)⟩;simp only[swTo,k2,hw,Bool.true_and]
    cases hw1:w.Sw<;>cases hb1:bAt s.Wires k<;>simp[hw1,hb1]at hc2 ⊢
  ·skip
   try simp at hc1
   have hke:k=g.Wires.length:=by omega
   subst hke;refine gwp_exit ?_;simp only[zT,reduceIte,Nat.reduceEqDiff];refine hK2 _ _ ?_;refine gwp_prune [2,3,4] (Or.inr (by simp)) ?_;simp only[zP,Nat.reduceEqDiff,reduceIte];refine gS fun K hK=>?_;simp -dsimp;apply hK;clear hK K;refine gwp_seq_k fun K5 hK5=>?_;refine gS fun K hK=>?_;simp -dsimp;apply hK;clear hK K;refine gwp_block ?_;refine gwp_prune [3,4,10,55,56,57] (Or.inr (by simp)) ?_;simp only[zP,Nat.reduceEqDiff,reduceIte];refine gwp_loop_l [3,4,10,55,56] (α:=Nat) (fun k=>[(57,I k)]) (fun k=>[some (.els 4 [g.cells]),some (.els 2 [s.cells]),some (.map false [.i .i64] (lkv (l.take k)))]) (fun k=>k≤l.length∧ldTo g l k=true) (fun k=>l.length-k) 0 ?_ ?_ ?_
   ·exact⟨Nat.zero_le _,rfl⟩
   ·exact gsub (sub_rb [some 0,some 1,some 2] rfl (by simp) (by simp[lkv])) (by simp)
   rintro i ⟨i1,i2⟩;simp only[zP,Nat.reduceEqDiff,reduceIte];refine gS fun K hK=>?_;simp -dsimp;apply hK;clear hK K;refine gwp_seq_k fun K6 hK6=>?_;refine gwp_cond rfl (fun hc3=>?_) (fun hc3=>?_)
   ·skip
    try simp at hc3
    obtain⟨f,hf⟩:∃f,l[i]?=some f:=⟨_,List.getElem?_eq_getElem hc3⟩;have wi:=zW i (by omega);have wn:IntKind.i64.wrap (g.Nodes-1)=g.Nodes-1:=wrap_in (by omega) (by omega);refine gwp_skip ?_;simp only[zT,reduceIte,Nat.reduceEqDiff];refine hK6 _ _ ?_;refine gwp_prune [3,4,10,55,56,57] (Or.inr (by simp)) ?_;simp only[zP,Nat.reduceEqDiff,reduceIte];refine gwp_seq_k fun K7 hK7=>?_;refine gwp_block ?_;refine gS fun K hK=>?_;simp -dsimp [hf];apply hK;clear hK K;refine gwp_seq_k fun K8 hK8=>?_;refine gS fun K hK=>?_;simp -dsimp [wn,lkv_look];refine callK_intro _ (c_within _ _ _) (by simp) ?_;simp -dsimp [wn,lkv_look];refine callK_may _ (fun hm=>c_within f.Units (-40) 40) (by simp) ?_;simp -dsimp [wn,lkv_look];refine callK_may _ (fun hm=>c_within f.Rank 0 100) (by simp) ?_;simp -dsimp [wn,lkv_look];refine valK_intro (_) (fun hm=>rfl) ?_;simp -dsimp [wn,lkv_look];apply hK;clear hK K;refine gwp_cond rfl (fun hc4=>?_) (fun hc4=>?_)
    ·have hfd:ldB g (l.take i) f= !(!inr f.At 0 (g.Nodes-1)|| !inr f.Units (-40) 40|| !inr f.Rank 0 100||((l.take i).any fun x=>decide (x.At=f.At))):=by
      simp only[ldB]
      cases inr f.At 0 (g.Nodes-1)<;>cases inr f.Units (-40) 40<;>cases inr f.Rank 0 100<;>cases ((l.take i).any fun x=>decide (x.At=f.At))<;>rfl
     exfalso;rw[fine_l hf (by rw[hfd,hc4];rfl)]at hfine;cases hfine
    ·have hfd:ldB g (l.take i) f= !(!inr f.At 0 (g.Nodes-1)|| !inr f.Units (-40) 40|| !inr f.Rank 0 100||((l.take i).any fun x=>decide (x.At=f.At))):=by
      simp only[ldB]
      cases inr f.At 0 (g.Nodes-1)<;>cases inr f.Units (-40) 40<;>cases inr f.Rank 0 100<;>cases ((l.take i).any fun x=>decide (x.At=f.At))<;>rfl
     have hany:((l.take i).any fun x=>decide (x.At=f.At))=false:=by
      cases h:((l.take i).any fun x=>decide (x.At=f.At))with
      |false=>rfl
      |true=>rw[h]at hc4;simp at hc4
     refine gwp_skip ?_;simp only[zT,reduceIte,Nat.reduceEqDiff];refine hK8 _ _ ?_;refine gwp_prune [3,4,10,12,55,56,57] (Or.inr (by simp)) ?_;simp only[zP,Nat.reduceEqDiff,reduceIte];refine gR fun K hK=>?_;simp -dsimp [lkv_snoc _ _ hany];apply hK;clear hK K;simp only[zT,reduceIte,Nat.reduceEqDiff];refine hK7 _ _ ?_;refine gwp_prune [3,4,10,55,56,57] (Or.inr (by simp)) ?_;simp only[zP,Nat.reduceEqDiff,reduceIte];refine gR fun K hK=>?_;simp -dsimp [wi];apply hK;clear hK K;simp only[zT,reduceIte,Nat.reduceEqDiff];refine⟨i+1,⟨by omega,?_⟩,by omega,gsub (sub_rb [some 0,some 1,some 2] rfl (by simp) (by simp[List.take_add_one,hf])) (by simp)⟩;simp only[ldTo,i2,hf,hfd,hc4];rfl
   ·skip
    try simp at hc3
    refine gwp_exit ?_;simp only[zT,reduceIte,Nat.reduceEqDiff];refine hK5 _ _ ?_;refine gwp_prune [3,4] (Or.inr (by simp)) ?_;simp only[zP,Nat.reduceEqDiff,reduceIte];refine gwp_sd mixed rfl (by decide) rfl rfl fun K hK=>?_;simp -dsimp;refine callK_intro _ (c_Clone_Bool s.Feeds (by omega)) (by simp) ?_;simp -dsimp;refine callK_intro _ (c_Clone_Bool s.Wires (by omega)) (by simp) ?_;simp -dsimp;refine hK _ _ _ (by decide+kernel) ?_;clear hK K;exact gwp_ret ⟨[some 3],rfl,by simp,by simp[hne],by simp,by simp[resP,tupOf]⟩
theorem c_Settle_tb (g:Gr) (s:Sta) (l:List Ld) (hf:fineB g s l=true) (hlo:longB g s=false) (h:SetOk g s.Wires l) (hne:s.Feeds=[]) (Z:SS) (hZ:settleS g s.Wires l s.Feeds=Z):
  PureCall Try.prog 10 [g.av,s.av,lL l] (.tup [.agg (stlS g s.Wires l Z).cells,I 0]):=by
 have hll:=h.ll;have hnt:=fine_net hf;have hb:=m_beginb g s l (by omega) hf hne;have hlg:=c_long g s hnt (h.few _);rw[hlo]at hlg;change PureCall _ _ [.iptr [I g.Nodes, .lst 4 (g.Wires.map Wr.cells), .lst 4 (g.Feeds.map Fd.cells),I g.Least,bL s.Feeds,bL s.Wires]] _ at hlg;rw[hne]at hlg;have hst:=m_settleb g s.Wires l s.Feeds h hnt.sf hne Z hZ;have hzf:Z.fe=[]:=by
  have:=(settle_ok h (n:=cntZ (z0 l s.Feeds)) (z0_ok h (fe:=s.Feeds) hnt.sf)).fe;have e:(settleN g s.Wires l (cntZ (z0 l s.Feeds)) (z0 l s.Feeds))=Z:=hZ;rw[e,←hnt.sf,hne]at this;exact List.length_eq_zero_iff.1 this
 refine PureCall.of_bodyG Try.func10 rfl (by decide) (by simp[Try.ntmps10]) ?_;intro J hJ;simp only[Try.ntmps10,Try.results10];refine gS fun K hK=>?_;simp -dsimp;apply hK;clear hK K;refine gS fun K hK=>?_;simp -dsimp;refine callK_mut [] [] [none,none,none,some 0] (hb) (by decide) rfl (by simp) (by simp) rfl (by simp) ?_;simp -dsimp;apply hK;clear hK K;refine gwp_seq_k fun K1 hK1=>?_;refine gwp_block ?_;refine gS fun K hK=>?_;simp -dsimp;apply hK;clear hK K;refine gwp_cond rfl (fun hc0=>?_) (fun hc0=>?_)
 ·simp at hc0
 ·refine gS fun K hK=>?_;simp -dsimp;refine callK_intro _ (hlg) (by simp) ?_;simp -dsimp;apply hK;clear hK K;refine gwp_cond rfl (fun hc1=>?_) (fun hc1=>?_)
  ·simp at hc1
  ·refine gwp_skip ?_;simp only[zT,reduceIte,Nat.reduceEqDiff];refine hK1 _ _ ?_;refine gwp_prune [2,6,8] (Or.inr (by simp)) ?_;simp only[zP,Nat.reduceEqDiff,reduceIte];refine gS fun K hK=>?_;simp -dsimp;refine callK_mut [3] [] [none,none,none,some 0,some 1,some 2,some 3] (hst) (by decide) rfl (by simp) (by simp) rfl (by simp) ?_;simp -dsimp;apply hK;clear hK K;refine gwp_sd mixed rfl (by decide) rfl rfl fun K hK=>?_;simp -dsimp;refine hK _ _ _ (by decide+kernel) ?_;clear hK K;exact gwp_ret (by simp[stlS,hzf,resP,tupOf])
end Go.Cur
end
section
namespace Go.Cur
open Go.AM Go.Proofs
theorem cur_snoc {l:List Ld} {sv:List Bool} {k:Nat} {f:Ld} {b:Bool} (hl:l[k]?=some f) (hs:sv[k]?=some b) (x:Int):cur (l.take (k+1)) (sv.take (k+1)) x=curS x (cur (l.take k) (sv.take k) x) (f,b):=by
 have hk:=(List.getElem?_eq_some_iff.1 hl).1;have hk2:=(List.getElem?_eq_some_iff.1 hs).1;unfold cur;rw[List.take_add_one,List.take_add_one,hl,hs,List.zip_append (by simp;omega)];simp
theorem rowz (n:Nat) (f:Nat→Int) (h:∀k,f k=0):List.replicate n [AV.v (Value.int .i64 0)]=((List.range n).map f).map nCell:=by
 refine List.ext_getElem? fun i=>?_
 by_cases hi:i<n
 ·rw[List.getElem?_replicate,if_pos hi,List.getElem?_map,List.getElem?_map,List.getElem?_range hi];simp[h]
 ·rw[List.getElem?_eq_none (by simp;omega),List.getElem?_eq_none (by simp;omega)]
end Go.Cur
end
section
namespace Go.Cur
open Go.AM Go.Proofs
def cntA:List Int→Int→Int
 |[],_=>0
 |a::l,x=>(if a=x then 1 else 0)+cntA l x
theorem cntA_nn (x:Int):∀l,0≤cntA l x∧cntA l x≤l.length
 |[]=>by simp[cntA]
 |a::l=>by
  have:=cntA_nn x l;simp only[cntA,List.length_cons]
  split<;>omega
theorem cntA_append (x:Int):∀(a b:List Int),cntA (a++b) x=cntA a x+cntA b x
 |[],b=>by simp[cntA]
 |w::a,b=>by simp only[List.cons_append,cntA,cntA_append x a b];omega
theorem cntA_zero {x:Int}:∀{l:List Int},cntA l x=0↔x∉l
 |[]=>by simp[cntA]
 |a::l=>by
  have h1:=cntA_zero (x:=x) (l:=l);have h2:=cntA_nn x l;simp only[cntA,List.mem_cons,not_or]
  by_cases h:a=x
  ·simp[h];omega
  ·rw[if_neg h,←h1];exact⟨fun e=>⟨fun k=>h k.symm,by omega⟩,fun e=>by omega⟩
theorem cntA_take {x:Int} {l:List Int} (k:Nat):cntA (l.take k) x≤cntA l x:=by
 have h:=cntA_append x (l.take k) (l.drop k);rw[List.take_append_drop]at h;have:=cntA_nn x (l.drop k);omega
theorem deg_take_le (x:Int) (l:List Wr) (k:Nat):deg (l.take k) x≤deg l x:=by
 have h:=deg_append x (l.take k) (l.drop k);rw[List.take_append_drop]at h;have:=deg_nn x (l.drop k);omega
def fdR (g:Gr) (f:Fd):Bool:=inr f.At 0 (g.Nodes-1)&&inr f.Volts 1 1000&&inr f.Siem 1 4&&inr f.Limit 0 2000
def fAt (l:List Fd):List Int:=l.map fun f=>f.At
theorem any_at {l:List Fd} {x:Int}:(l.any fun f=>decide (f.At=x))=decide (x∈fAt l):=by
 unfold fAt;rw[Bool.eq_iff_iff];simp
@[simp] theorem fAt_nil:fAt []=[]:=rfl
theorem fAt_snoc {l:List Fd} {k:Nat} {f:Fd} (h:l[k]?=some f):fAt (l.take (k+1))=fAt (l.take k)++[f.At]:=by
 unfold fAt;rw[List.take_add_one,h];simp
theorem fAt_take (l:List Fd) (k:Nat):fAt (l.take k)=(fAt l).take k:=by unfold fAt;rw[List.map_take]
theorem fd_cnt {g:Gr}:∀{k:Nat},k≤g.Feeds.length→fdTo g k=true→∀x,cntA (fAt (g.Feeds.take k)) x≤1
 |0,_,_,x=>by simp[cntA]
 |k+1,hk,h,x=>by
  simp only[fdTo,Bool.and_eq_true]at h;have ih:=fd_cnt (k:=k) (by omega) h.1 x;obtain⟨f,hf⟩:∃f,g.Feeds[k]?=some f:=⟨_,List.getElem?_eq_getElem (by omega)⟩;have h2:=h.2;rw[hf]at h2;simp only[fdB,Bool.and_eq_true,any_at,Bool.not_eq_true',decide_eq_false_iff_not]at h2;have e:=fAt_snoc hf;rw[e,cntA_append];simp only[cntA]
  by_cases hx:f.At=x
  ·have:=cntA_zero.2 h2.2;rw[hx]at this;rw[this,if_pos hx];omega
  ·rw[if_neg hx];omega
theorem grB_cnt {g:Gr} (h:grB g=true) (x:Int):cntA (fAt g.Feeds) x≤1:=by
 simp only[grB,Bool.and_eq_true]at h;have:=fd_cnt (Nat.le_refl _) h.2 x
 rwa [List.take_length]at this
theorem grB_of {g:Gr} (h1:grH g=true) (h2:∀(k:Nat) w,g.Wires[k]?=some w→wrB g w=true) (h3:∀(k:Nat) f,g.Feeds[k]?=some f→fdR g f=true) (h4:∀k:Nat,(k:Int)<g.Nodes→deg g.Wires k≤3∧cntA (fAt g.Feeds) k≤1):grB g=true:=by
 have a:∀k,k≤g.Wires.length→wrTo g k=true:=by
  intro k
  induction k with
  |zero=>intro _;rfl
  |succ k ih=>
   intro hk;obtain⟨w,hw⟩:∃w,g.Wires[k]?=some w:=⟨_,List.getElem?_eq_getElem (by omega)⟩;have hwb:=h2 k w hw;have hwb2:=hwb;simp only[wrB,Bool.and_eq_true,inr_iff]at hwb2;simp only[wrTo,ih (by omega),hw,hwb,wrD,Bool.true_and,Bool.and_eq_true,decide_eq_true_eq];have e1:=h4 w.A.toNat (by omega);have e2:=h4 w.B.toNat (by omega);rw[Int.toNat_of_nonneg (by omega)]at e1 e2;exact⟨Int.le_trans (deg_take_le _ _ _) e1.1,Int.le_trans (deg_take_le _ _ _) e2.1⟩
 have b:∀k,k≤g.Feeds.length→fdTo g k=true:=by
  intro k
  induction k with
  |zero=>intro _;rfl
  | succ k ih=>
   intro hk;obtain⟨f,hf⟩:∃f,g.Feeds[k]?=some f:=⟨_,List.getElem?_eq_getElem (by omega)⟩;have hfb:=h3 k f hf;have hfb2:=hfb;simp only[fdR,Bool.and_eq_true,inr_iff]at hfb2;have hany:((g.Feeds.take k).any fun x=>decide (x.At=f.At))=false:=by
    rw[any_at,decide_eq_false_iff_not,←cntA_zero];have e1:=(h4 f.At.toNat (by omega)).2;rw[Int.toNat_of_nonneg (by omega)]at e1;have e2:=fAt_snoc hf;have e3:=cntA_take (x:=f.At) (l:=fAt g.Feeds) (k+1);rw[←fAt_take,e2,cntA_append]at e3;simp only[cntA,if_true]at e3;have:=cntA_nn f.At (fAt (g.Feeds.take k));omega
   simp only[fdTo,ih (by omega),hf,fdB,hany,Bool.true_and,Bool.not_false,Bool.and_true];exact hfb
 simp only[grB,h1,a _ (Nat.le_refl _),b _ (Nat.le_refl _),Bool.and_self]
def degR (n:Nat) (l:List Wr):List Int:=(List.range n).map fun(k:Nat)=>deg l k
theorem degR_get {n:Nat} {l:List Wr} {k:Nat} (h:k<n):(degR n l)[k]?=some (deg l k):=by
 unfold degR;rw[List.getElem?_map,List.getElem?_range h];rfl
theorem degR_len (n:Nat) (l:List Wr):(degR n l).length=n:=by simp[degR]
theorem degR_set {n:Nat} {l:List Wr} {k a b:Nat} {w:Wr} (hw:l[k]?=some w) (ha:w.A=a) (hb:w.B=b) (hab:a≠b):((degR n (l.take k)).set a (deg (l.take k) a+1)).set b (deg (l.take k) b+1)=degR n (l.take (k+1)):=by
 have e:l.take (k+1)=l.take k++[w]:=by rw[List.take_add_one,hw];rfl
 refine List.ext_getElem? fun i=>?_
 by_cases hi:i<n
 ·rw[degR_get hi,e,deg_append];simp only[deg,ha,hb]
  by_cases h1:i=b
  ·subst h1;rw[List.getElem?_set_self (by simp[degR];omega),if_neg (by omega),if_pos rfl]
   all_goals exact congrArg some (by omega)
  ·rw[List.getElem?_set_ne (fun e=>h1 e.symm)]
   by_cases h2:i=a
   ·subst h2;rw[List.getElem?_set_self (by simp[degR];omega),if_pos rfl,if_neg (by omega)]
    all_goals exact congrArg some (by omega)
   ·rw[List.getElem?_set_ne (fun e=>h2 e.symm),degR_get hi,if_neg (by omega),if_neg (by omega)]
    all_goals exact congrArg some (by omega)
 ·rw[List.getElem?_eq_none (by simp[degR];omega),List.getElem?_eq_none (by simp[degR];omega)]
def cntR (n:Nat) (l:List Int):List Int:=(List.range n).map fun(k:Nat)=>cntA l k
theorem cntR_get {n:Nat} {l:List Int} {k:Nat} (h:k<n):(cntR n l)[k]?=some (cntA l k):=by
 unfold cntR;rw[List.getElem?_map,List.getElem?_range h];rfl
theorem cntR_len (n:Nat) (l:List Int):(cntR n l).length=n:=by simp[cntR]
theorem cntR_set {n:Nat} {l:List Int} {a:Nat}:(cntR n l).set a (cntA l a+1)=cntR n (l++[(a:Int)]):=by
 refine List.ext_getElem? fun i=>?_
 by_cases hi:i<n
 ·rw[cntR_get hi,cntA_append];simp only[cntA]
  by_cases h2:i=a
  ·subst h2;rw[List.getElem?_set_self (by simp[cntR];omega),if_pos rfl]
   all_goals exact congrArg some (by omega)
  ·rw[List.getElem?_set_ne (fun e=>h2 e.symm),cntR_get hi,if_neg (by omega)]
   all_goals exact congrArg some (by omega)
 ·rw[List.getElem?_eq_none (by simp[cntR];omega),List.getElem?_eq_none (by simp[cntR];omega)]
theorem c_rGrid (g:Gr) (hw0:g.Wires.length≤100000) (hf0:g.Feeds.length≤100000):PureCall Try.prog 4 [g.av] (Bo (grB g)):=by
 refine PureCall.of_body Try.func4 rfl (by decide) (by simp[Try.ntmps4]) ?_;simp only[Try.ntmps4,Try.results4];refine aS fun K hK=>?_;simp -dsimp;apply hK;clear hK K;refine awp_seq_k fun K1 hK1=>?_;refine aS fun K hK=>?_;simp -dsimp;refine callK_intro _ (c_rin g.Nodes 1 40) (by simp) ?_;simp -dsimp;refine callK_may _ (fun hm=>c_rin g.Least 0 1000) (by simp) ?_;simp -dsimp;apply hK;clear hK K;refine awp_cond rfl (fun hc0=>?_) (fun hc0=>?_)
 ·refine aS fun K hK=>?_;simp -dsimp;apply hK;clear hK K;have hf:grH g=false:=by
   cases hh:grH g with
   |false=>rfl
   |true=>
    simp only[grH,Bool.and_eq_true,decide_eq_true_eq]at hh;have h1:(g.Wires.length:Int)≤80:=by omega
    have h2:(g.Feeds.length:Int)≤12:=by omega
    simp[hh.1.1.1,hh.2]at hc0;omega
  exact awp_ret (by simp[grB,hf])
 ·have hH:grH g=true:=by
   simp at hc0;simp only[grH,hc0.1.1.1,hc0.2,Bool.and_eq_true,decide_eq_true_eq,and_true,true_and];omega
  have hN:=hH;simp only[grH,Bool.and_eq_true,decide_eq_true_eq,inr_iff]at hN;obtain⟨n,hn⟩:∃n:Nat,g.Nodes=n:=⟨g.Nodes.toNat,by omega⟩;have f0:Fits n 9:=fits_of (by omega) (by omega);have wn:IntKind.i64.wrap ((n:Int)-1)=(n:Int)-1:=wrap_in (by omega) (by omega);have hz1:List.replicate n [AV.v (Value.int .i64 0)]=(degR n []).map nCell:=rowz n _ fun k=>rfl;have hz2:(cntR n []).map nCell=(degR n []).map nCell:=rfl;refine awp_skip ?_;simp only[zT,reduceIte,Nat.reduceEqDiff];refine hK1 _ _ ?_;refine awp_prune [1] ?_;simp only[zP,Nat.reduceEqDiff,reduceIte];refine awp_sd mixed rfl fun K hK=>?_;simp -dsimp [hn,f0];refine hK _ _ _ (by decide+kernel) ?_;clear hK K;refine awp_seq_k fun K2 hK2=>?_;refine aS fun K hK=>?_;simp -dsimp;apply hK;clear hK K;refine awp_block ?_;refine awp_prune [1,3,4,5] ?_;simp only[zP,Nat.reduceEqDiff,reduceIte];refine awp_loop_l [1,3,4] (α:=Nat) (fun k=>[(5,I k)]) (fun k=>[some (.els 4 [g.cells]),some (.els 1 ((degR n (g.Wires.take k)).map nCell)),some (.els 1 ((cntR n []).map nCell))]) (fun k=>k≤g.Wires.length∧∀i w,i<k→g.Wires[i]?=some w→wrB g w=true) (fun k=>g.Wires.length-k) 0 ?_ ?_ ?_
  ·exact⟨Nat.zero_le _,fun i w h=>by omega⟩
  ·exact sub_rb [some 0,some 1,some 2] rfl (by simp) (by simp[hn,hz1,hz2])
  rintro k ⟨k1,k2⟩;simp only[zP,Nat.reduceEqDiff,reduceIte];refine awp_seq_k fun K3 hK3=>?_;refine aS fun K hK=>?_;simp -dsimp;apply hK;clear hK K;refine awp_cond rfl (fun hc1=>?_) (fun hc1=>?_)
  ·have hkl:k<g.Wires.length:=by simpa using hc1
   obtain⟨w,hw⟩:∃w,g.Wires[k]?=some w:=⟨_,List.getElem?_eq_getElem hkl⟩;have wk:=zW k (by omega);refine awp_skip ?_;simp only[zT,reduceIte,Nat.reduceEqDiff];refine hK3 _ _ ?_;refine awp_prune [1,3,4,5] ?_;simp only[zP,Nat.reduceEqDiff,reduceIte];refine awp_seq_k fun K4 hK4=>?_;refine awp_block ?_;refine aS fun K hK=>?_;simp -dsimp [hw];apply hK;clear hK K;refine awp_seq_k fun K5 hK5=>?_;refine aS fun K hK=>?_;simp -dsimp [hn,wn];refine callK_intro _ (c_rin _ _ _) (by simp) ?_;simp -dsimp [hn,wn];refine callK_may _ (fun hm=>c_rin w.B 0 ((n:Int)-1)) (by simp) ?_;simp -dsimp [hn,wn];refine callK_may _ (fun hm=>c_rin w.Siem 1 4) (by simp) ?_;simp -dsimp [hn,wn];apply hK;clear hK K;refine awp_cond rfl (fun hc2=>?_) (fun hc2=>?_)
   ·have hwr:wrB g w= !(!inr w.A 0 ((n:Int)-1)|| !inr w.B 0 ((n:Int)-1)||w.A==w.B|| !inr w.Siem 1 4):=by
     simp only[wrB,beq_d,hn]
     cases inr w.A 0 ((n:Int)-1)<;>cases inr w.B 0 ((n:Int)-1)<;>cases decide (w.A=w.B)<;>cases inr w.Siem 1 4<;>rfl
    refine aS fun K hK=>?_;simp -dsimp;apply hK;clear hK K;have hwf:wrB g w=false:=by rw[hwr,hc2];rfl
    exact awp_ret (by simp[grB_w hw (by rw[hwf];rfl)])
   ·have hwr:wrB g w= !(!inr w.A 0 ((n:Int)-1)|| !inr w.B 0 ((n:Int)-1)||w.A==w.B|| !inr w.Siem 1 4):=by
     simp only[wrB,beq_d,hn]
     cases inr w.A 0 ((n:Int)-1)<;>cases inr w.B 0 ((n:Int)-1)<;>cases decide (w.A=w.B)<;>cases inr w.Siem 1 4<;>rfl
    have hwo:wrB g w=true:=by rw[hwr,hc2];rfl
    have hwb:=hwo;simp only[wrB,Bool.and_eq_true,inr_iff,Bool.not_eq_true',decide_eq_false_iff_not,hn]at hwb;obtain⟨a,ha⟩:∃a:Nat,w.A=a:=⟨w.A.toNat,by omega⟩;obtain⟨b,hb⟩:∃b:Nat,w.B=b:=⟨w.B.toNat,by omega⟩;have han:a<n:=by omega
    have hbn:b<n:=by omega
    have hab:a≠b:=by omega
    have hst:=degR_set (n:=n) hw ha hb hab;have ga:=degR_get (l:=g.Wires.take k) han;have gb:=degR_get (l:=g.Wires.take k) hbn;have hd:=fun x=>deg_nn x (g.Wires.take k);have hlt:(g.Wires.take k).length≤k:=by rw[List.length_take];omega
    have hdl:=degR_len n (g.Wires.take k);have wa:IntKind.i64.wrap (deg (g.Wires.take k) a+1)=deg (g.Wires.take k) a+1:=by have:=hd a;exact wrap_in (by omega) (by omega)
    have wb:IntKind.i64.wrap (deg (g.Wires.take k) b+1)=deg (g.Wires.take k) b+1:=by have:=hd b;exact wrap_in (by omega) (by omega)
    generalize degR n (g.Wires.take k)=dr at hst ga gb hdl ⊢;have hal:a<dr.length:=by omega
    have hbl:b<dr.length:=by omega
    have hga:dr[a]=deg (g.Wires.take k) a:=Option.some.inj (by rw[←List.getElem?_eq_getElem hal];exact ga);have hgb:dr[b]=deg (g.Wires.take k) b:=Option.some.inj (by rw[←List.getElem?_eq_getElem hbl];exact gb);refine awp_skip ?_;simp only[zT,reduceIte,Nat.reduceEqDiff];refine hK5 _ _ ?_;refine awp_prune [1,3,4,5,6] ?_;simp only[zP,Nat.reduceEqDiff,reduceIte];refine aS fun K hK=>?_;simp -dsimp [ha,hal,han,hga,wa];apply hK;clear hK K;refine aR fun K hK=>?_;simp -dsimp [hb,hbl,hbn,hgb,wb,hab];apply hK;clear hK K;simp only[zT,reduceIte,Nat.reduceEqDiff];refine hK4 _ _ ?_;refine awp_prune [1,3,4,5] ?_;simp only[zP,Nat.reduceEqDiff,reduceIte];refine aR fun K hK=>?_;simp -dsimp [wk];apply hK;clear hK K;simp only[zT,reduceIte,Nat.reduceEqDiff];refine⟨k+1,⟨by omega,fun i w' hi hw'=>?_⟩,by omega,sub_rb [some 0,some 1,some 2] rfl (by simp) (by simp[←hst,List.map_set,nCell,hn])⟩
    rcases Nat.lt_succ_iff_lt_or_eq.1 hi with h|h
    ·exact k2 i w' h hw'
    ·subst h;rw[hw]at hw';rw[←Option.some.inj hw'];exact hwo
  ·have hke:k=g.Wires.length:=by have hx:¬k<g.Wires.length:=(by simpa using hc1);omega
   subst hke;rw[List.take_of_length_le (Nat.le_refl _)];refine awp_exit ?_;simp only[zT,reduceIte,Nat.reduceEqDiff];refine hK2 _ _ ?_;refine awp_prune [1,3,4] ?_;simp only[zP,Nat.reduceEqDiff,reduceIte];refine awp_seq_k fun K6 hK6=>?_;refine aS fun K hK=>?_;simp -dsimp;apply hK;clear hK K;refine awp_block ?_;refine awp_prune [1,3,4,7] ?_;simp only[zP,Nat.reduceEqDiff,reduceIte];refine awp_loop_l [1,3,4] (α:=Nat) (fun k=>[(7,I k)]) (fun k=>[some (.els 4 [g.cells]),some (.els 1 ((degR n g.Wires).map nCell)),some (.els 1 ((cntR n (fAt (g.Feeds.take k))).map nCell))]) (fun k=>k≤g.Feeds.length∧∀i f,i<k→g.Feeds[i]?=some f→fdR g f=true) (fun k=>g.Feeds.length-k) 0 ?_ ?_ ?_
   ·exact⟨Nat.zero_le _,fun i w h=>by omega⟩
   ·exact sub_rb [some 0,some 1,some 2] rfl (by simp) (by simp)
   rintro i ⟨i1,i2⟩;simp only[zP,Nat.reduceEqDiff,reduceIte];refine awp_seq_k fun K7 hK7=>?_;refine aS fun K hK=>?_;simp -dsimp;apply hK;clear hK K;refine awp_cond rfl (fun hc3=>?_) (fun hc3=>?_)
   ·have hil:i<g.Feeds.length:=by simpa using hc3
    obtain⟨f,hf⟩:∃f,g.Feeds[i]?=some f:=⟨_,List.getElem?_eq_getElem hil⟩;have wi:=zW i (by omega);refine awp_skip ?_;simp only[zT,reduceIte,Nat.reduceEqDiff];refine hK7 _ _ ?_;refine awp_prune [1,3,4,7] ?_;simp only[zP,Nat.reduceEqDiff,reduceIte];refine awp_seq_k fun K8 hK8=>?_;refine awp_block ?_;refine aS fun K hK=>?_;simp -dsimp [hf];apply hK;clear hK K;refine awp_seq_k fun K9 hK9=>?_;refine aS fun K hK=>?_;simp -dsimp [hn,wn];refine callK_intro _ (c_rin _ _ _) (by simp) ?_;simp -dsimp [hn,wn];refine callK_may _ (fun hm=>c_rin f.Volts 1 1000) (by simp) ?_;simp -dsimp [hn,wn];refine callK_may _ (fun hm=>c_rin f.Siem 1 4) (by simp) ?_;simp -dsimp [hn,wn];refine callK_may _ (fun hm=>c_rin f.Limit 0 2000) (by simp) ?_;simp -dsimp [hn,wn];apply hK;clear hK K;refine awp_cond rfl (fun hc4=>?_) (fun hc4=>?_)
    ·have hfd:fdR g f= !(!inr f.At 0 ((n:Int)-1)|| !inr f.Volts 1 1000|| !inr f.Siem 1 4|| !inr f.Limit 0 2000):=by
      simp only[fdR,hn]
      cases inr f.At 0 ((n:Int)-1)<;>cases inr f.Volts 1 1000<;>cases inr f.Siem 1 4<;>cases inr f.Limit 0 2000<;>rfl
     refine aS fun K hK=>?_;simp -dsimp;apply hK;clear hK K;have hff:fdR g f=false:=by rw[hfd,hc4];rfl
     have hfb:fdB g (g.Feeds.take i) f=false:=by
      have:fdB g (g.Feeds.take i) f=(fdR g f&& !((g.Feeds.take i).any fun x=>decide (x.At=f.At))):=rfl;rw[this,hff];rfl
     exact awp_ret (by simp[grB_f hf hfb])
    ·have hfd:fdR g f= !(!inr f.At 0 ((n:Int)-1)|| !inr f.Volts 1 1000|| !inr f.Siem 1 4|| !inr f.Limit 0 2000):=by
      simp only[fdR,hn]
      cases inr f.At 0 ((n:Int)-1)<;>cases inr f.Volts 1 1000<;>cases inr f.Siem 1 4<;>cases inr f.Limit 0 2000<;>rfl
     have hfo:fdR g f=true:=by rw[hfd,hc4];rfl
     have hfb:=hfo;simp only[fdR,Bool.and_eq_true,inr_iff,hn]at hfb;obtain⟨a,ha⟩:∃a:Nat,f.At=a:=⟨f.At.toNat,by omega⟩;have han:a<n:=by omega
     have hst:=cntR_set (n:=n) (l:=fAt (g.Feeds.take i)) (a:=a);have e2:fAt (g.Feeds.take (i+1))=fAt (g.Feeds.take i)++[(a:Int)]:=by rw[fAt_snoc hf,ha]
     rw[←e2]at hst;have ga:=cntR_get (l:=fAt (g.Feeds.take i)) han;have hd:=cntA_nn (a:Int) (fAt (g.Feeds.take i));have hlt:(fAt (g.Feeds.take i)).length≤i:=by unfold fAt;rw[List.length_map,List.length_take];omega
     have hdl:=cntR_len n (fAt (g.Feeds.take i));have wa:IntKind.i64.wrap (cntA (fAt (g.Feeds.take i)) a+1)=cntA (fAt (g.Feeds.take i)) a+1:=wrap_in (by omega) (by omega);generalize cntA (fAt (g.Feeds.take i)) a=ca at hst ga wa;generalize cntR n (fAt (g.Feeds.take i))=cr at hst ga hdl ⊢;have hal:a<cr.length:=by omega
     have hga:cr[a]=ca:=Option.some.inj (by rw[←List.getElem?_eq_getElem hal];exact ga);refine awp_skip ?_;simp only[zT,reduceIte,Nat.reduceEqDiff];refine hK9 _ _ ?_;refine awp_prune [1,3,4,7,8] ?_;simp only[zP,Nat.reduceEqDiff,reduceIte];refine aR fun K hK=>?_;simp -dsimp [ha,hal,han,hga,wa];apply hK;clear hK K;simp only[zT,reduceIte,Nat.reduceEqDiff];refine hK8 _ _ ?_;refine awp_prune [1,3,4,7] ?_;simp only[zP,Nat.reduceEqDiff,reduceIte];refine aR fun K hK=>?_;simp -dsimp [wi];apply hK;clear hK K;simp only[zT,reduceIte,Nat.reduceEqDiff];refine⟨i+1,⟨by omega,fun j w' hj hw'=>?_⟩,by omega,sub_rb [some 0,some 1,some 2] rfl (by simp) (by simp[←hst,List.map_set,nCell,hn])⟩
     rcases Nat.lt_succ_iff_lt_or_eq.1 hj with h|h
     ·exact i2 j w' h hw'
     ·subst h;rw[hf]at hw';rw[←Option.some.inj hw'];exact hfo
   ·have hie:i=g.Feeds.length:=by have hx:¬i<g.Feeds.length:=(by simpa using hc3);omega
    subst hie;rw[List.take_of_length_le (Nat.le_refl _)];refine awp_exit ?_;simp only[zT,reduceIte,Nat.reduceEqDiff];refine hK6 _ _ ?_;refine awp_prune [1,3,4] ?_;simp only[zP,Nat.reduceEqDiff,reduceIte];refine awp_seq_k fun K10 hK10=>?_;refine aS fun K hK=>?_;simp -dsimp;apply hK;clear hK K;refine awp_block ?_;refine awp_prune [1,3,4,9] ?_;simp only[zP,Nat.reduceEqDiff,reduceIte];refine awp_loop_l [1,3,4] (α:=Nat) (fun k=>[(9,I k)]) (fun k=>[some (.els 4 [g.cells]),some (.els 1 ((degR n g.Wires).map nCell)),some (.els 1 ((cntR n (fAt g.Feeds)).map nCell))]) (fun k=>k≤n∧∀j:Nat,j<k→deg g.Wires j≤3∧cntA (fAt g.Feeds) j≤1) (fun k=>n-k) 0 ?_ ?_ ?_
    ·exact⟨Nat.zero_le _,fun i h=>by omega⟩
    ·exact sub_rb [some 0,some 1,some 2] rfl (by simp) (by simp)
    rintro j ⟨j1,j2⟩;simp only[zP,Nat.reduceEqDiff,reduceIte];refine awp_seq_k fun K11 hK11=>?_;refine aS fun K hK=>?_;simp -dsimp [hn];apply hK;clear hK K;refine awp_cond rfl (fun hc5=>?_) (fun hc5=>?_)
    ·have hjn:j<n:=by simpa using hc5
     have wj:=zW j (by omega);have ga:=degR_get (l:=g.Wires) hjn;have gb:=cntR_get (l:=fAt g.Feeds) hjn;have hdl:=degR_len n g.Wires;have hcl:=cntR_len n (fAt g.Feeds);have hal:j<(degR n g.Wires).length:=by omega
     have hbl:j<(cntR n (fAt g.Feeds)).length:=by omega
     have hga:(degR n g.Wires)[j]=deg g.Wires j:=Option.some.inj (by rw[←List.getElem?_eq_getElem hal];exact ga);have hgb:(cntR n (fAt g.Feeds))[j]=cntA (fAt g.Feeds) j:=Option.some.inj (by rw[←List.getElem?_eq_getElem hbl];exact gb);refine awp_skip ?_;simp only[zT,reduceIte,Nat.reduceEqDiff];refine hK11 _ _ ?_;refine awp_prune [1,3,4,9] ?_;simp only[zP,Nat.reduceEqDiff,reduceIte];refine awp_seq_k fun K12 hK12=>?_;refine awp_block ?_;refine aS fun K hK=>?_;simp -dsimp [hal,hbl,hjn,hga,hgb];apply hK;clear hK K;refine awp_cond rfl (fun hc6=>?_) (fun hc6=>?_)
     ·refine aS fun K hK=>?_;simp -dsimp;apply hK;clear hK K;have hf:grB g=false:=by
       cases h:grB g with
       |false=>rfl
       |true=>
        have h1:=deg_le h (j:Int);have h2:=grB_cnt h (j:Int);simp at hc6;omega
      exact awp_ret (by simp[hf])
     ·refine awp_skip ?_;simp only[zT,reduceIte,Nat.reduceEqDiff];refine hK12 _ _ ?_;refine awp_prune [1,3,4,9] ?_;simp only[zP,Nat.reduceEqDiff,reduceIte];refine aR fun K hK=>?_;simp -dsimp [wj];apply hK;clear hK K;simp only[zT,reduceIte,Nat.reduceEqDiff];refine⟨j+1,⟨by omega,fun q hq=>?_⟩,by omega,sub_rb [some 0,some 1,some 2] rfl (by simp) (by simp[hn])⟩
      rcases Nat.lt_succ_iff_lt_or_eq.1 hq with h|h
      ·exact j2 q h
      ·subst h;simp at hc6;omega
    ·have hje:¬j<n:=by simpa using hc5
     refine awp_exit ?_;simp only[zT,reduceIte,Nat.reduceEqDiff];refine hK10 _ _ ?_;refine awp_prune [] ?_;simp only[zP,Nat.reduceEqDiff,reduceIte];refine aS fun K hK=>?_;simp -dsimp;apply hK;clear hK K;have ht:grB g=true:=grB_of hH (fun k w hw=>k2 k w (List.getElem?_eq_some_iff.1 hw).1 hw) (fun k f hf=>i2 k f (List.getElem?_eq_some_iff.1 hf).1 hf) (fun k hk=>j2 k (by omega));exact awp_ret (by simp[ht])
theorem c_rState (g:Gr) (s:Sta) (hw0:g.Wires.length≤100000):PureCall Try.prog 5 [g.av,s.av] (Bo (stB g s)):=by
 refine PureCall.of_body Try.func5 rfl (by decide) (by simp[Try.ntmps5]) ?_;simp only[Try.ntmps5,Try.results5];refine aS fun K hK=>?_;simp -dsimp;apply hK;clear hK K;refine awp_seq_k fun K1 hK1=>?_;refine aS fun K hK=>?_;simp -dsimp;apply hK;clear hK K;refine awp_cond rfl (fun hc0=>?_) (fun hc0=>?_)
 ·refine aS fun K hK=>?_;simp -dsimp;apply hK;clear hK K;have hf:stB g s=false:=by
   cases hh:stB g s with
   |false=>rfl
   |true=>
    simp only[stB,Bool.and_eq_true,decide_eq_true_eq]at hh;simp[hh.1.1,hh.1.2]at hc0
  exact awp_ret (by simp[hf])
 ·have hl:s.Feeds.length=g.Feeds.length∧s.Wires.length=g.Wires.length:=by simp at hc0;omega
  refine awp_skip ?_;simp only[zT,reduceIte,Nat.reduceEqDiff];refine hK1 _ _ ?_;refine awp_prune [2,3] ?_;simp only[zP,Nat.reduceEqDiff,reduceIte];refine awp_seq_k fun K2 hK2=>?_;refine aS fun K hK=>?_;simp -dsimp;apply hK;clear hK K;refine awp_block ?_;refine awp_prune [2,3,5] ?_;simp only[zP,Nat.reduceEqDiff,reduceIte];refine awp_loop_l [2,3] (α:=Nat) (fun k=>[(5,I k)]) (fun k=>[some (.els 4 [g.cells]),some (.els 2 [s.cells])]) (fun k=>k≤g.Wires.length∧swTo g s k=true) (fun k=>g.Wires.length-k) 0 ?_ ?_ ?_
  ·exact⟨Nat.zero_le _,rfl⟩
  ·exact sub_rb [some 0,some 1] rfl (by simp) (by simp)
  rintro k ⟨k1,k2⟩;simp only[zP,Nat.reduceEqDiff,reduceIte];refine awp_seq_k fun K3 hK3=>?_;refine aS fun K hK=>?_;simp -dsimp;apply hK;clear hK K;refine awp_cond rfl (fun hc1=>?_) (fun hc1=>?_)
  ·have hkl:k<g.Wires.length:=by simpa using hc1
   obtain⟨w,hw⟩:∃w,g.Wires[k]?=some w:=⟨_,List.getElem?_eq_getElem hkl⟩;have wk:=zW k (by omega);have gb:=bAt_get (l:=s.Wires) (k:=k) (by omega);refine awp_skip ?_;simp only[zT,reduceIte,Nat.reduceEqDiff];refine hK3 _ _ ?_;refine awp_prune [2,3,5] ?_;simp only[zP,Nat.reduceEqDiff,reduceIte];refine awp_seq_k fun K4 hK4=>?_;refine awp_block ?_;refine aS fun K hK=>?_;simp -dsimp [hw,gb,hl.2];refine idxK_intro (bCell (bAt s.Wires k)) (fun _=>by simp[gb]) ?_;simp -dsimp [hw,gb,hl.2];apply hK;clear hK K;refine awp_cond rfl (fun hc2=>?_) (fun hc2=>?_)
   ·refine aS fun K hK=>?_;simp -dsimp;apply hK;clear hK K;have hfl:(w.Sw||bAt s.Wires k)=false:=by cases hw1:w.Sw<;>cases hb1:bAt s.Wires k<;>simp[hw1,hb1]at hc2 ⊢
    have h1:swTo g s (k+1)=false:=by simp only[swTo,hw,hfl,Bool.and_false]
    have h2:=swTo_ff h1 (g.Wires.length-(k+1));rw[show k+1+(g.Wires.length-(k+1))=g.Wires.length by omega]at h2;exact awp_ret (by simp[stB,h2])
   ·refine awp_skip ?_;simp only[zT,reduceIte,Nat.reduceEqDiff];refine hK4 _ _ ?_;refine awp_prune [2,3,5] ?_;simp only[zP,Nat.reduceEqDiff,reduceIte];refine aR fun K hK=>?_;simp -dsimp [wk];apply hK;clear hK K;simp only[zT,reduceIte,Nat.reduceEqDiff];refine⟨k+1,⟨by omega,?_⟩,by omega,sub_rb [some 0,some 1] rfl (by simp) (by simp)⟩;simp only[swTo,k2,hw,Bool.true_and]
    cases hw1:w.Sw<;>cases hb1:bAt s.Wires k<;>simp[hw1,hb1]at hc2 ⊢
  ·have hke:k=g.Wires.length:=by have hx:¬k<g.Wires.length:=(by simpa using hc1);omega
   subst hke;refine awp_exit ?_;simp only[zT,reduceIte,Nat.reduceEqDiff];refine hK2 _ _ ?_;refine awp_prune [] ?_;simp only[zP,Nat.reduceEqDiff,reduceIte];refine aS fun K hK=>?_;simp -dsimp;apply hK;clear hK K;exact awp_ret (by simp[stB,hl.1,hl.2,k2])
def lAt (l:List Ld):List Int:=l.map fun f=>f.At
@[simp] theorem lAt_nil:lAt []=[]:=rfl
theorem any_lat {l:List Ld} {x:Int}:(l.any fun f=>decide (f.At=x))=decide (x∈lAt l):=by
 unfold lAt;rw[Bool.eq_iff_iff];simp
theorem c_rLoads (g:Gr) (l:List Ld) (n:Nat) (hn:g.Nodes=n) (hn1:0<n) (hn0:n≤1000) (hl0:l.length≤100000):PureCall Try.prog 9 [g.av,lL l] (Bo (ldTo g l l.length)):=by
 have f0:Fits n 9:=fits_of (by omega) (by omega);have wn:IntKind.i64.wrap ((n:Int)-1)=(n:Int)-1:=wrap_in (by omega) (by omega);have hz:List.replicate n [AV.v (Value.int .i64 0)]=(cntR n []).map nCell:=rowz n _ fun k=>rfl;refine PureCall.of_body Try.func9 rfl (by decide) (by simp[Try.ntmps9]) ?_;simp only[Try.ntmps9,Try.results9];refine aS fun K hK=>?_;simp -dsimp;apply hK;clear hK K;refine aS fun K hK=>?_;simp -dsimp [hn,f0];apply hK;clear hK K;refine awp_seq_k fun K1 hK1=>?_;refine aS fun K hK=>?_;simp -dsimp;apply hK;clear hK K;refine awp_block ?_;refine awp_prune [1,2,5,6] ?_;simp only[zP,Nat.reduceEqDiff,reduceIte];refine awp_loop_l [1,2,5] (α:=Nat) (fun k=>[(6,I k)]) (fun k=>[some (.els 4 [g.cells]),some (.els 1 ((cntR n (lAt (l.take k))).map nCell))]) (fun k=>k≤l.length∧ldTo g l k=true) (fun k=>l.length-k) 0 ?_ ?_ ?_
 ·exact⟨Nat.zero_le _,rfl⟩
 ·exact sub_rb [some 0,some 1] rfl (by simp) (by simp[hn,hz])
 rintro k ⟨k1,k2⟩;simp only[zP,Nat.reduceEqDiff,reduceIte];refine awp_seq_k fun K2 hK2=>?_;refine aS fun K hK=>?_;simp -dsimp;apply hK;clear hK K;refine awp_cond rfl (fun hc0=>?_) (fun hc0=>?_)
 ·have hkl:k<l.length:=by simpa using hc0
  have wk:=zW k (by omega);obtain⟨f,hf⟩:∃f,l[k]?=some f:=⟨_,List.getElem?_eq_getElem hkl⟩;have hfd:ldB g (l.take k) f= !(!inr f.At 0 ((n:Int)-1)|| !inr f.Units (-40) 40|| !inr f.Rank 0 100|| !decide (cntA (lAt (l.take k)) f.At=0)):=by
   have e:((l.take k).any fun x=>decide (x.At=f.At))= !decide (cntA (lAt (l.take k)) f.At=0):=by
    rw[any_lat,←decide_not];exact decide_eq_decide.2 (by rw[cntA_zero,Decidable.not_not])
   simp only[ldB,hn,e]
   cases inr f.At 0 ((n:Int)-1)<;>cases inr f.Units (-40) 40<;>cases inr f.Rank 0 100<;>cases decide (cntA (lAt (l.take k)) f.At=0)<;>rfl
  have hcn:=cntA_nn f.At (lAt (l.take k));have hlt:(lAt (l.take k)).length≤k:=by unfold lAt;rw[List.length_map,List.length_take];omega
  have hcl:=cntR_len n (lAt (l.take k));have hn0l:0<(cntR n (lAt (l.take k))).length:=by omega
  have hend:ldB g (l.take k) f=false→ldTo g l l.length=false:=fun h=>by
   have h1:ldTo g l (k+1)=false:=by simp only[ldTo,hf,h,Bool.and_false]
   have h2:=ldTo_ff h1 (l.length-(k+1))
   rwa [show k+1+(l.length-(k+1))=l.length by omega]at h2
  refine awp_skip ?_;simp only[zT,reduceIte,Nat.reduceEqDiff];refine hK2 _ _ ?_;refine awp_prune [1,2,5,6] ?_;simp only[zP,Nat.reduceEqDiff,reduceIte];refine awp_seq_k fun K3 hK3=>?_;refine awp_block ?_;refine awp_seq_k fun K4 hK4=>?_;have hcase:inr f.At 0 ((n:Int)-1)=true→0≤f.At∧f.At.toNat<n:=fun h=>by rw[inr_iff]at h;omega
  obtain⟨iA,hiA⟩:∃iA,iA=inr f.At 0 ((n:Int)-1):=⟨_,rfl⟩
  cases iA
  all_goals have hin:=hiA.symm
  rotate_left
  obtain⟨hA0,hat⟩:=hcase hin;have hal:f.At.toNat<(cntR n (lAt (l.take k))).length:=by omega
  have hga:(cntR n (lAt (l.take k)))[f.At.toNat]=cntA (lAt (l.take k)) f.At:=Option.some.inj (by rw[←List.getElem?_eq_getElem hal,cntR_get hat,Int.toNat_of_nonneg hA0])
  rotate_left
  ·refine awp_sd mixed rfl fun K hK=>?_;simp -dsimp [hf,hn,wn,hin,hn0l,hn1];refine callK_intro _ (c_rin _ _ _) (by simp) ?_;simp -dsimp [hf,hn,wn,hin,hn0l,hn1];refine idxK_intro ((⟨0,0,0⟩:Ld).cells) (fun hm=>by simp[hin]at hm) ?_;simp -dsimp [hf,hn,wn,hin,hn0l,hn1];refine callK_may _ (fun hm=>c_rin 0 (-40) 40) (by simp) ?_;simp -dsimp [hf,hn,wn,hin,hn0l,hn1];refine idxK_intro ((⟨0,0,0⟩:Ld).cells) (fun hm=>by simp[hin]at hm) ?_;simp -dsimp [hf,hn,wn,hin,hn0l,hn1];refine callK_may _ (fun hm=>c_rin 0 0 100) (by simp) ?_;simp -dsimp [hf,hn,wn,hin,hn0l,hn1];refine idxK_intro ((⟨0,0,0⟩:Ld).cells) (fun hm=>by simp[hin]at hm) ?_;simp -dsimp [hf,hn,wn,hin,hn0l,hn1];refine hK _ _ _ (by decide+kernel) ?_;clear hK K;refine awp_cond rfl (fun hc1=>?_) (fun hc1=>?_)
   ·refine aS fun K hK=>?_;simp -dsimp;apply hK;clear hK K;exact awp_ret (by simp[hend (by rw[hfd,hin];rfl)])
   ·simp[hin]at hc1
  ·refine awp_sd mixed rfl fun K hK=>?_;simp -dsimp [hf,hn,wn,hin,hA0,hat,hal,hga];refine callK_intro _ (c_rin _ _ _) (by simp) ?_;simp -dsimp [hf,hn,wn,hin,hA0,hat,hal,hga];refine idxK_intro f.cells (fun _=>by simp[hf]) ?_;simp -dsimp [hf,hn,wn,hin,hA0,hat,hal,hga];refine callK_may _ (fun hm=>c_rin f.Units (-40) 40) (by simp) ?_;simp -dsimp [hf,hn,wn,hin,hA0,hat,hal,hga];refine idxK_intro f.cells (fun _=>by simp[hf]) ?_;simp -dsimp [hf,hn,wn,hin,hA0,hat,hal,hga];refine callK_may _ (fun hm=>c_rin f.Rank 0 100) (by simp) ?_;simp -dsimp [hf,hn,wn,hin,hA0,hat,hal,hga];refine idxK_intro f.cells (fun _=>by simp[hf]) ?_;simp -dsimp [hf,hn,wn,hin,hA0,hat,hal,hga];refine hK _ _ _ (by decide+kernel) ?_;clear hK K;refine awp_cond rfl (fun hc1=>?_) (fun hc1=>?_)
   ·refine aS fun K hK=>?_;simp -dsimp;apply hK;clear hK K;have hlf:ldB g (l.take k) f=false:=by
     rw[hfd,hin]
     cases h1:inr f.Units (-40) 40<;>cases h2:inr f.Rank 0 100<;>simp[h1,h2]at hc1 ⊢
     omega
    exact awp_ret (by simp[hend hlf])
   ·have hlt2:ldB g (l.take k) f=true:=by
     rw[hfd,hin]
     cases h1:inr f.Units (-40) 40<;>cases h2:inr f.Rank 0 100<;>simp[h1,h2]at hc1 ⊢
     omega
    have hst:=cntR_set (n:=n) (l:=lAt (l.take k)) (a:=f.At.toNat);rw[Int.toNat_of_nonneg hA0]at hst;have hsn:lAt (l.take (k+1))=lAt (l.take k)++[f.At]:=by unfold lAt;rw[List.take_add_one,hf];simp
    rw[←hsn]at hst;have wa:IntKind.i64.wrap (cntA (lAt (l.take k)) f.At+1)=cntA (lAt (l.take k)) f.At+1:=wrap_in (by omega) (by omega);refine awp_skip ?_;simp only[zT,reduceIte,Nat.reduceEqDiff];refine hK4 _ _ ?_;refine awp_prune [1,2,5,6] ?_;simp only[zP,Nat.reduceEqDiff,reduceIte];refine aR fun K hK=>?_;simp -dsimp [hf,hA0,hat,hal,hga,wa];apply hK;clear hK K;simp only[zT,reduceIte,Nat.reduceEqDiff];refine hK3 _ _ ?_;refine awp_prune [1,2,5,6] ?_;simp only[zP,Nat.reduceEqDiff,reduceIte];refine aR fun K hK=>?_;simp -dsimp [wk];apply hK;clear hK K;simp only[zT,reduceIte,Nat.reduceEqDiff];refine⟨k+1,⟨by omega,?_⟩,by omega,sub_rb [some 0,some 1] rfl (by simp) (by simp[←hst,List.map_set,nCell,hn])⟩;simp only[ldTo,k2,hf,hlt2,Bool.and_self]
 ·have hke:k=l.length:=by have hx:¬k<l.length:=(by simpa using hc0);omega
  subst hke;refine awp_exit ?_;simp only[zT,reduceIte,Nat.reduceEqDiff];refine hK1 _ _ ?_;refine awp_prune [] ?_;simp only[zP,Nat.reduceEqDiff,reduceIte];refine aS fun K hK=>?_;simp -dsimp;apply hK;clear hK K;exact awp_ret (by simp[k2])
end Go.Cur
end
section
namespace Go.Cur
open Go.AM Go.Proofs
theorem trL_none {g:Gr} {fs:List Fr}:∀{n:Nat},(trL g fs n).1<0→∀i,i<n→(ovr g fs i).Num≤0
 |0,_,i,hi=>by omega
 | n+1,h,i,hi=>by
  rw[trL_succ]at h;unfold trS at h
  split at h
  ·simp only at h;omega
  ·rename_i hc
   rcases Nat.lt_succ_iff_lt_or_eq.1 hi with h1|rfl
   ·exact trL_none h i h1
   ·refine Int.not_lt.1 fun hp=>hc ⟨hp,Or.inl h⟩
theorem leL_neg {l:List Ld} {sv:List Bool} {q:Ld→Bool} {n:Nat} (h:∀i,i<n→bAt sv i=true→q (ldA l i)=false):leL l sv q n<0:=by
 refine Int.not_le.1 fun h0=>?_;obtain⟨h1,h2⟩:=leL_some h0;have h3:=leL_bd l sv q n;rw[h _ (by omega) h1]at h2
 cases h2
def srv (l:List Ld) (sv:List Bool):List Ld:=(l.zip sv).filterMap fun p=>if p.2=true then some p.1 else none
theorem srv_mem {l:List Ld} {sv:List Bool} {y:Ld}:y∈srv l sv↔∃i:Nat,l[i]?=some y∧sv[i]?=some true:=by
 unfold srv;rw[List.mem_filterMap];constructor
 ·rintro⟨q,hq,h⟩
  split at h
  ·rename_i hs;obtain⟨i,hi⟩:=List.getElem?_of_mem hq;rw[List.getElem?_zip_eq_some]at hi;simp only[Option.some.injEq]at h;exact⟨i,by rw[hi.1,h],by rw[hi.2,hs]⟩
  ·cases h
 ·rintro⟨i,h1,h2⟩;exact⟨(y,true),List.mem_of_getElem? (List.getElem?_zip_eq_some.2 ⟨h1,h2⟩),rfl⟩
theorem srv_cur (x:Int):∀(l:List Ld) (sv:List Bool) (c:Int),(l.zip sv).foldl (curS x) c=((srv l sv).zip (List.replicate (srv l sv).length true)).foldl (curS x) c
 |[],_,c=>by simp[srv]
 |y::l,[],c=>by simp[srv]
 | y::l,b::sv,c=>by
  have ih:=srv_cur x l sv
  cases b with
  |false=>
   have e:srv (y::l) (false::sv)=srv l sv:=by simp[srv]
   rw[e,←ih,List.zip_cons_cons,List.foldl_cons]
   congr 1
  |true=>
   have e:srv (y::l) (true::sv)=y::srv l sv:=by simp[srv]
   rw[e,List.length_cons,List.replicate_succ,List.zip_cons_cons,List.zip_cons_cons,List.foldl_cons,List.foldl_cons,ih]
theorem srv_igt (l:List Ld) (sv:List Bool) (x:Int):igt (tkK (srv l sv) (allS (srv l sv))) x=igt (tkK l sv) x:=by
 rw[tkK_get,tkK_get];exact(srv_cur x l sv 0).symm
theorem ld_to {g:Gr} {l:List Ld} (h:LdOk g l):∀k,k≤l.length→ldTo g l k=true
 |0,_=>rfl
 | k+1,hk=>by
  obtain⟨f,hf⟩:∃f,l[k]?=some f:=⟨_,List.getElem?_eq_getElem (by omega)⟩;have hm:=List.mem_of_getElem? hf;have h1:=h.at_ f hm;have h2:=h.un f hm;have h3:=h.rk f hm;have hany:((l.take k).any fun x=>decide (x.At=f.At))=false:=by
   rw[List.any_eq_false];intro x hx e;rw[decide_eq_true_eq]at e;obtain⟨i,hi⟩:=List.getElem?_of_mem hx;have hik:=(List.getElem?_eq_some_iff.1 hi).1;rw[List.length_take]at hik;rw[List.getElem?_take,if_pos (by omega)]at hi;have:=h.one i k x f hi hf e;omega
  simp only[ldTo,ld_to h k (by omega),hf,ldB,hany,Bool.true_and,Bool.not_false,Bool.and_true,Bool.and_eq_true,inr_iff];omega
section
variable {g:Gr} {s:Sta} {p:List Nat} {us us':Kvs}
theorem pvol_congr (h:∀x,igt us x=igt us' x):pvol g s us p=pvol g s us' p:=by
 have e1:sumU us p=sumU us' p:=by
  unfold sumU;have:(fun x:Nat=>igt us x)=fun x:Nat=>igt us' x:=funext fun x=>h x;exact congrArg (fun f=>sm f p) this
 have e2:noneU us p=noneU us' p:=by
  unfold noneU;have:(fun x:Nat=>igt us x==0)=fun x:Nat=>igt us' x==0:=funext fun x=>by rw[h]
  rw[this]
 have e3:ptO g s us p=ptO g s us' p:=by
  unfold ptO Pt;have:(fun x:Nat=>igt us x)=fun x:Nat=>igt us' x:=funext fun x=>h x;rw[this]
 unfold pvol;rw[e1,e2,e3]
theorem vfS_congr (h:∀x,igt us x=igt us' x):vfS g s us=vfS g s us':=by
 funext k
 unfold vfS;rw[pvol_congr h]
theorem pvol_tight (hnt:NetOk g s) (hp:p∈partL g s) (h5:p.length≤5) (hus:∀x,-40≤igt us x∧igt us x≤40) (hok:(pvol g s us p).2.2=true):
  0<(pvol g s us p).2.1∧(pvol g s us p).2.1≤2000000000∧∀x∈(pvol g s us p).1,x.natAbs≤7000000000000:=by
 unfold pvol at hok ⊢
 by_cases h:feedL g s (upN p)=[]
 ·rw[if_pos h];refine⟨show(0:Int)<1 by decide,show(1:Int)≤2000000000 by decide,fun x hx=>?_⟩;have:x=0:=(List.mem_replicate.1 hx).2;omega
 ·rw [if_neg h]at hok ⊢
  by_cases h1:sumU us p<0
  ·rw[if_pos h1]at hok;cases hok
  ·rw [if_neg h1]at hok ⊢
   by_cases h2:sumU us p=0
   ·rw[if_pos h2];obtain⟨z1,z2,z3⟩:=Pt_small0T (us:=us) hnt hp h5 rfl hus (p.getD 0 0) rfl;change ∀k,((ptO g s us p).num0 (p.getD 0 0) k).natAbs≤_ at z1;change 0<(ptO g s us p).den0 (p.getD 0 0)at z2;change (ptO g s us p).den0 (p.getD 0 0)≤_ at z3;refine⟨z2,by simp only;omega,fun x hx=>?_⟩;obtain⟨k,_,rfl⟩:=List.mem_map.1 hx;have key:∀b,b<(feedL g s (upN p)).length→ -20000000000≤(ptO g s us p).V b*(ptO g s us p).den0 (p.getD 0 0)-(ptO g s us p).num0 (p.getD 0 0) ((ptO g s us p).p b)∧(ptO g s us p).V b*(ptO g s us p).den0 (p.getD 0 0)-(ptO g s us p).num0 (p.getD 0 0) ((ptO g s us p).p b)≤20000000000:=by
     intro b hb;have hf:=feed_at hnt rfl hb;have h3:=z1 ((ptO g s us p).p b);have h4:0≤(ptO g s us p).V b∧(ptO g s us p).V b≤1000:=by
      show 0≤(fdI g _).Volts∧(fdI g _).Volts≤1000;omega
     have h5:=Int.mul_nonneg h4.1 (Int.le_of_lt z2);have h6:=Int.mul_le_mul h4.2 z3 (Int.le_of_lt z2) (by omega);omega
    have hpos:0<(feedL g s (upN p)).length:=List.length_pos_iff.2 h;have h3:=shiftL_bd (B:=20000000000) ((List.range (feedL g s (upN p)).length).map fun b=>(ptO g s us p).V b*(ptO g s us p).den0 (p.getD 0 0)-(ptO g s us p).num0 (p.getD 0 0) ((ptO g s us p).p b)) _ (key 0 hpos) fun x hx=>by
     obtain⟨b,hb,rfl⟩:=List.mem_map.1 hx;exact key b (List.mem_range.1 hb)
    have h4:=z1 k;omega
   ·rw[if_neg h2];obtain⟨k1,k2,k3,k4⟩:=mask0_ok (P:=ptO g s us p) (Pt_ok hnt hp rfl) (m:=(feedL g s (upN p)).length) rfl (by intro e;exact h (List.length_eq_zero_iff.1 e)) (by rw[sumU_pt];omega);obtain⟨z1,z2,z3⟩:=Pt_smallT (us:=us) hnt hp h5 rfl hus _ (bit_ex k1 k2);refine⟨z2,z3,fun x hx=>?_⟩;obtain⟨k,_,rfl⟩:=List.mem_map.1 hx;exact z1 k
end
end Go.Cur
end
section
namespace Go.Cur
open Go.AM Go.Proofs
theorem red_scale {n d k:Int} (hk:0<k):red (n*k) (d*k)=red n d:=by
 unfold red;have e:((Int.gcd (n*k) (d*k):Nat):Int)=(Int.gcd n d:Int)*k:=by
  rw[Int.gcd_mul_right,Int.natCast_mul,Int.natAbs_of_nonneg (Int.le_of_lt hk)]
 rw[e,Int.mul_ediv_mul_of_pos_left _ _ hk,Int.mul_ediv_mul_of_pos_left _ _ hk]
theorem red_eq {a d b e:Int} (hd:0<d) (he:0<e) (h:a*e=b*d):red a d=red b e:=by
 rw[←red_scale he,h,Int.mul_comm d e,red_scale hd]
end Go.Cur
end
section
namespace Go.Cur
open Go.AM Go.Proofs
theorem max_mul {q X:Int} (hq:0<q):max 0 (q*X)=q*max 0 X:=by
 by_cases h:0≤X
 ·rw[Int.max_eq_right h,Int.max_eq_right (Int.mul_nonneg (Int.le_of_lt hq) h)]
 ·have h2:q*X≤0:=Int.mul_nonpos_of_nonneg_of_nonpos (Int.le_of_lt hq) (by omega);rw[Int.max_eq_left h2,Int.max_eq_left (show X≤0 by omega),Int.mul_zero]
theorem volt_div {P:Part} {x n:Nat→Int} {q d:Int} (hq:0<q) (h:Volt P x (q*d)) (hx:∀k∈P.ns,x k=q*n k):Volt P n d:=by
 have hd:0<d:=by
  refine Int.not_le.1 fun hn=>?_;have:=Int.mul_nonpos_of_nonneg_of_nonpos (Int.le_of_lt hq) hn;have:=h.pos;omega
 refine⟨hd,fun i hi=>?_⟩;have h1:=h.eq i hi;have h2:sm (fun k=>P.L i k*x k) P.ns=q*sm (fun k=>P.L i k*n k) P.ns:=by
  rw[←sm_smul];exact sm_congr fun k hk=>by rw[hx k hk,Int.mul_left_comm]
 have h3:P.give x (q*d) i=q*P.give n d i:=by
  unfold Part.give;rw[←sm_smul];refine sm_congr fun b hb=>?_
  split
  ·rw[hx i hi,Int.mul_left_comm (P.V b) q d,←Int.mul_sub,max_mul hq,Int.mul_left_comm]
  ·rw[Int.mul_zero]
 rw[h2,h3,Int.mul_assoc,←Int.mul_sub]at h1;exact Int.eq_of_mul_eq_mul_left (by omega) h1
theorem volt_congr {P:Part} {x y:Nat→Int} {d:Int} (h:Volt P x d) (e:∀k∈P.ns,x k=y k):Volt P y d:=
 volt_div (q:=1) (by decide) (by rwa [Int.one_mul]) fun k hk=>by rw[e k hk,Int.one_mul]
def wf (p:List Nat) (x:Nat→Int):List Wn→Nat→Int
 |[],_=>0
 |w::W,i=>(if w.a∈p then w.s*(ew w i*(x w.a-x w.b))else 0)+wf p x W i
def ws (p:List Nat) (x:Nat→Int):List Wn→Int
 |[]=>0
 |w::W=>(if w.a∈p then w.s*(x w.a-x w.b)*(x w.a-x w.b)else 0)+ws p x W
theorem ew_mul {w:Wn} {x:Nat→Int} {U:List Nat} (h:U.Nodup):sm (fun k=>ew w k*x k) U=(if w.a∈U then x w.a else 0)-(if w.b∈U then x w.b else 0):=by
 have one:∀(a:Nat),sm (fun k=>if a=k then x k else 0) U=if a∈U then x a else 0:=fun a=>by
  by_cases ha:a∈U
  ·rw[sm_only h ha,if_pos ha]
  ·rw[if_neg ha];exact sm_zero fun k hk=>by rw[if_neg];rintro rfl;exact ha hk
 rw[←one,←one,←sm_sub];refine sm_congr fun k _=>?_;unfold ew
 by_cases ha:k=w.a
 ·by_cases hb:k=w.b
  ·rw[if_pos ha,if_pos hb,if_pos ha.symm,if_pos hb.symm];omega
  ·rw[if_pos ha,if_neg hb,if_pos ha.symm,if_neg (fun e=>hb e.symm)];omega
 ·by_cases hb:k=w.b
  ·rw[if_neg ha,if_pos hb,if_neg (fun e=>ha e.symm),if_pos hb.symm];omega
  ·rw[if_neg ha,if_neg hb,if_neg (fun e=>ha e.symm),if_neg (fun e=>hb e.symm)];omega
theorem lw_flow {i:Nat} {x:Nat→Int} {p:List Nat} (hp:p.Nodup) (hi:i∈p):∀{W:List Wn},(∀w∈W,w.a∈p↔w.b∈p)→sm (fun k=>lw W i k*x k) p=wf p x W i
 |[],_=>sm_zero fun k _=>by simp[lw]
 | w::W,h=>by
  have ih:=lw_flow hp hi (x:=x) (W:=W) fun w hw=>h w (by simp[hw]);have e1:sm (fun k=>lw (w::W) i k*x k) p=w.s*ew w i*sm (fun k=>ew w k*x k) p+sm (fun k=>lw W i k*x k) p:=by
   rw[←sm_smul,←sm_add];refine sm_congr fun k _=>?_;rw[lw,Int.add_mul,Int.mul_assoc,Int.mul_assoc,Int.mul_assoc]
  have hw:=h w (by simp);rw[e1,ih,ew_mul hp,wf]
  by_cases ha:w.a∈p
  ·rw[if_pos ha,if_pos (hw.1 ha),if_pos ha,Int.mul_assoc]
  ·rw[if_neg ha,if_neg (fun e=>ha (hw.2 e)),if_neg ha];simp
theorem wf_energy {x:Nat→Int} {p:List Nat} (hp:p.Nodup):∀{W:List Wn},(∀w∈W,w.a∈p↔w.b∈p)→sm (fun i=>x i*wf p x W i) p=ws p x W
 |[],_=>sm_zero fun k _=>by simp[wf]
 | w::W,h=>by
  have ih:=wf_energy hp (x:=x) (W:=W) fun w hw=>h w (by simp[hw]);have hw:=h w (by simp);rw[ws,←ih]
  by_cases ha:w.a∈p
  ·have e1:sm (fun i=>x i*wf p x (w::W) i) p=w.s*(x w.a-x w.b)*sm (fun k=>ew w k*x k) p+sm (fun i=>x i*wf p x W i) p:=by
    rw[←sm_smul,←sm_add];refine sm_congr fun k _=>?_;rw[wf,if_pos ha,Int.mul_add]
    congr 1
    generalize x w.a-x w.b=D;rw[Int.mul_left_comm (x k),Int.mul_assoc,Int.mul_comm (x k),Int.mul_comm (ew w k) D,Int.mul_assoc]
   rw[e1,ew_mul hp,if_pos ha,if_pos ha,if_pos (hw.1 ha)]
  ·rw[if_neg ha,Int.zero_add];refine sm_congr fun k _=>?_;rw[wf,if_neg ha,Int.zero_add]
def cF (P:Part) (x:Nat→Int) (d:Int) (b:Nat):Int:=P.s b*max 0 (P.V b*d-x (P.p b))
theorem give_eq {P:Part} {x:Nat→Int} {d:Int} {i:Nat}:P.give x d i=sm (fun b=>if P.p b=i then cF P x d b else 0) P.fs:=by
 unfold Part.give cF;refine sm_congr fun b _=>?_
 split
 ·rename_i h;rw[h]
 ·rfl
theorem give_sum {ns:List Nat} (hn:ns.Nodup) {x c:Nat→Int} {q:Nat→Nat}:∀{fs:List Nat},(∀b∈fs,q b∈ns)→sm (fun i=>x i*sm (fun b=>if q b=i then c b else 0) fs) ns=sm (fun b=>x (q b)*c b) fs
 |[],_=>sm_zero fun k _=>by simp[sm]
 | b::fs,h=>by
  have ih:=give_sum hn (x:=x) (c:=c) (q:=q) (fs:=fs) fun b hb=>h b (by simp[hb]);have e1:sm (fun i=>x i*sm (fun b=>if q b=i then c b else 0) (b::fs)) ns=sm (fun i=>if q b=i then x i*c b else 0) ns+sm (fun i=>x i*sm (fun b=>if q b=i then c b else 0) fs) ns:=by
   rw[←sm_add];refine sm_congr fun k _=>?_;rw[sm,Int.mul_add]
   congr 1
   split
   ·rfl
   ·rw[Int.mul_zero]
  rw[e1,ih,sm_only hn (h b (by simp)),sm]
theorem max_same {s V d x:Int}:x*(s*max 0 (V*d-x))+s*max 0 (V*d-x)*max 0 (V*d-x)=d*(V*(s*max 0 (V*d-x))):=by
 by_cases h:0≤V*d-x
 ·rw[Int.max_eq_right h];have e:x+(V*d-x)=d*V:=by rw[Int.mul_comm d V];omega
  have:x*(s*(V*d-x))+s*(V*d-x)*(V*d-x)=(x+(V*d-x))*(s*(V*d-x)):=by
   rw[Int.add_mul,Int.mul_comm (s*(V*d-x)) (V*d-x)]
  rw[this,e,Int.mul_assoc]
 ·rw[Int.max_eq_left (by omega)];simp
theorem volt_energy {P:Part} (ho:P.Ok) {W:List Wn} (hL:P.L=lw W) (hcl:∀w∈W,w.a∈P.ns↔w.b∈P.ns) {n:Nat→Int} {d:Int} (h:Volt P n d):
  ws P.ns n W+sm (fun b=>P.s b*max 0 (P.V b*d-n (P.p b))*max 0 (P.V b*d-n (P.p b))) P.fs=d*(sm (fun b=>P.V b*cF P n d b) P.fs-sm (fun i=>n i*P.u i) P.ns):=by
 have e1:ws P.ns n W=sm (fun i=>n i*(P.give n d i-d*P.u i)) P.ns:=by
  rw[←wf_energy ho.nd hcl];refine sm_congr fun i hi=>?_;have:=h.eq i hi;rw[hL,lw_flow ho.nd hi hcl]at this;rw[this]
 have e2:sm (fun i=>n i*(P.give n d i-d*P.u i)) P.ns=sm (fun b=>n (P.p b)*cF P n d b) P.fs-d*sm (fun i=>n i*P.u i) P.ns:=by
  rw[←sm_smul,←give_sum ho.nd ho.pin,←sm_sub];refine sm_congr fun i _=>?_;rw[give_eq,Int.mul_sub,Int.mul_left_comm d]
 have e3:sm (fun b=>n (P.p b)*cF P n d b) P.fs+sm (fun b=>P.s b*max 0 (P.V b*d-n (P.p b))*max 0 (P.V b*d-n (P.p b))) P.fs=d*sm (fun b=>P.V b*cF P n d b) P.fs:=by
  rw[←sm_smul,←sm_add];exact sm_congr fun b _=>max_same
 rw[e1,e2,Int.mul_sub];omega
def lcS (f:Nat→Int) (d:Int) (k:Nat):Int:=d*(f k/Int.gcd d (f k))
def lcF (f:Nat→Int) (l:List Nat):Int:=l.foldl (lcS f) 1
theorem lcS_ok {f:Nat→Int} {d:Int} {k:Nat} {D:Int} (hd:0<d) (hf:0<f k) (h1:d∣D) (h2:f k∣D):0<lcS f d k∧lcS f d k∣D∧d∣lcS f d k∧f k∣lcS f d k:=by
 unfold lcS;generalize f k=e at hf h2 ⊢;obtain⟨a,ha⟩:∃a:Nat,d=a:=⟨d.toNat,by omega⟩;obtain⟨b,hb⟩:∃b:Nat,e=b:=⟨e.toNat,by omega⟩;subst ha hb;have hl:(a:Int)*((b:Int)/ (Int.gcd (a:Int) (b:Int):Nat))=((Nat.lcm a b:Nat):Int):=by
  have e1:Int.gcd (a:Int) (b:Int)=Nat.gcd a b:=rfl;rw[e1,Nat.lcm,Nat.mul_div_assoc a (Nat.gcd_dvd_right a b),Int.natCast_mul,Int.natCast_ediv]
 rw[hl];have hp:0<Nat.lcm a b:=Nat.lcm_pos (by omega) (by omega);refine⟨by omega,?_,Int.natCast_dvd_natCast.2 (Nat.dvd_lcm_left a b),Int.natCast_dvd_natCast.2 (Nat.dvd_lcm_right a b)⟩;rw[Int.ofNat_dvd_left]at h1 h2 ⊢;exact Nat.lcm_dvd h1 h2
theorem lcF_ok {f:Nat→Int} {D:Int}:∀{l:List Nat} {d:Int},(∀k∈l,0<f k∧f k∣D)→0<d→d∣D→0<l.foldl (lcS f) d∧l.foldl (lcS f) d∣D∧d∣l.foldl (lcS f) d∧∀k∈l,f k∣l.foldl (lcS f) d
 |[],d,_,hd,h1=>⟨hd,h1,Int.dvd_refl d,by simp⟩
 |x::l,d,h,hd,h1=>by
  have hx:=h x (by simp);obtain⟨a1,a2,a3,a4⟩:=lcS_ok hd hx.1 h1 hx.2;obtain⟨b1,b2,b3,b4⟩:=lcF_ok (l:=l) (d:=lcS f d x) (fun k hk=>h k (by simp[hk])) a1 a2;rw[List.foldl_cons];refine⟨b1,b2,Int.dvd_trans a3 b3,fun k hk=>?_⟩
  rcases List.mem_cons.1 hk with rfl|hk
  ·exact Int.dvd_trans a4 b3
  ·exact b4 k hk
theorem red_G {n d:Int} (hd:0<d):∃G:Int,0<G∧n=(red n d).Num*G∧d=(red n d).Den*G∧0<(red n d).Den:=by
 obtain⟨a,b,G,hG,e,ha,hb⟩:=gcd_dvd (n:=n) hd;have e1:n/G=a:=by rw[ha];exact Int.mul_ediv_cancel_left _ (by omega)
 have e2:d/G=b:=by rw[hb];exact Int.mul_ediv_cancel_left _ (by omega)
 refine⟨G,hG,?_,?_,(red_bd hd).1⟩
 ·unfold red;rw[e,e1,ha,Int.mul_comm]
 ·unfold red;rw[e,e2,hb,Int.mul_comm]
theorem red_at {n d k:Int} (hd:0<d) (hk:0<k):(red n d).Den∣d*k∧(red n d).Num*(d*k/ (red n d).Den)=n*k:=by
 obtain⟨G,hG,h1,h2,h3⟩:=red_G (n:=n) hd;generalize (red n d).Den=b at h2 h3 ⊢;generalize (red n d).Num=a at h1 ⊢;have e:d*k=b*(G*k):=by rw[h2,Int.mul_assoc]
 refine⟨⟨G*k,e⟩,?_⟩;rw[e,Int.mul_ediv_cancel_left _ (by omega),h1,Int.mul_assoc]
def cmN (vf:Nat→Fr) (d:Int) (k:Nat):Int:=(vf k).Num*(d/ (vf k).Den)
def cmD (vf:Nat→Fr) (p:List Nat):Int:=lcF (fun k=>(vf k).Den) p
theorem cm_ok {vf:Nat→Fr} {p:List Nat} {X:Nat→Int} {D:Int} (hD:0<D) (h:∀k∈p,vf k=red (X k) D):
  0<cmD vf p∧(∀k∈p,0<(vf k).Den∧(vf k).Den∣D∧(vf k).Den∣cmD vf p)∧∃q,0<q∧D=q*cmD vf p∧∀k∈p,X k=q*cmN vf (cmD vf p) k:=by
 have hd:∀k∈p,0<(vf k).Den∧(vf k).Den∣D:=fun k hk=>by
  obtain⟨G,hG,h1,h2,h3⟩:=red_G (n:=X k) hD;rw[h k hk];exact⟨h3,⟨G,h2⟩⟩
 obtain⟨a1,a2,a3,a4⟩:=lcF_ok (f:=fun k=>(vf k).Den) (l:=p) (d:=1) hd (by decide) (Int.one_dvd D);change 0<cmD vf p at a1;change cmD vf p∣D at a2;change ∀k∈p,(vf k).Den∣cmD vf p at a4;refine⟨a1,fun k hk=>⟨(hd k hk).1,(hd k hk).2,a4 k hk⟩,?_⟩;obtain⟨q,hq⟩:=a2;have hq0:0<q:=by
  refine Int.not_le.1 fun hn=>?_;have:=Int.mul_nonpos_of_nonneg_of_nonpos (Int.le_of_lt a1) hn;omega
 refine⟨q,hq0,by rw[hq,Int.mul_comm],fun k hk=>?_⟩;obtain⟨G,hG,h1,h2,h3⟩:=red_G (n:=X k) hD;rw[←h k hk]at h1 h2 h3;obtain⟨e,he⟩:=a4 k hk;have hGe:G=q*e:=by
  refine Int.eq_of_mul_eq_mul_left (a:=(vf k).Den) (by omega) ?_;rw[←h2,hq,he,Int.mul_assoc,Int.mul_comm q e]
 unfold cmN;rw[he,Int.mul_ediv_cancel_left _ (by omega),h1,hGe,Int.mul_left_comm]
end Go.Cur
end
section
namespace Go.Cur
open Go.AM Go.Proofs
def sF (h:Int→Int) (l:List Int):Int:=l.foldl (fun a f=>a+h f) 0
theorem sF_snoc {h:Int→Int} {l:List Int} {k:Nat} {x:Int} (e:l[k]?=some x):sF h (l.take (k+1))=sF h (l.take k)+h x:=by
 unfold sF;rw[List.take_add_one,e,List.foldl_append];rfl
theorem sF_from (h:Int→Int):∀(l:List Int) (a:Int),l.foldl (fun a f=>a+h f) a=a+sF h l
 |[],a=>by simp[sF]
 |x::l,a=>by
  unfold sF;rw[List.foldl_cons,List.foldl_cons,sF_from h l,sF_from h l (0+h x)];omega
theorem sF_cons (h:Int→Int) (x:Int) (l:List Int):sF h (x::l)=h x+sF h l:=by
 show(x::l).foldl _ 0=_;rw[List.foldl_cons,sF_from];omega
theorem sF_scale {h h':Int→Int} {c c':Int}:∀{l:List Int},(∀x∈l,h x*c=h' x*c')→sF h l*c=sF h' l*c'
 |[],_=>by simp[sF]
 |x::l,e=>by
  have ih:=sF_scale (l:=l) fun y hy=>e y (by simp[hy]);rw[sF_cons,sF_cons,Int.add_mul,Int.add_mul,ih,e x (by simp)]
theorem sm_scale {h h':Nat→Int} {c c':Int}:∀{l:List Nat},(∀x∈l,h x*c=h' x*c')→sm h l*c=sm h' l*c'
 |[],_=>by simp[sm]
 |x::l,e=>by
  have ih:=sm_scale (l:=l) fun y hy=>e y (by simp[hy]);rw[sm,sm,Int.add_mul,Int.add_mul,ih,e x (by simp)]
def mx0 (x:Int):Int:=if 0<x then x else 0
theorem mx0_mul {x e:Int} (he:0<e):mx0 x*e=mx0 (x*e):=by
 unfold mx0
 by_cases h:0<x
 ·rw[if_pos h,if_pos (Int.mul_pos h he)]
 ·rw[if_neg h,if_neg (Int.not_lt.2 (Int.mul_nonpos_of_nonpos_of_nonneg (by omega) (Int.le_of_lt he))),Int.zero_mul]
def enG (g:Gr) (F:List Int) (X:Nat→Int) (d:Int):Int:=sF (fun f=>(fdI g f).Volts*((fdI g f).Siem*mx0 ((fdI g f).Volts*d-X (fdI g f).At.toNat))) F
def enT (us:Kvs) (X:Nat→Int) (p:List Nat):Int:=sm (fun k=>X k*mx0 (igt us k)) p
def enR (us:Kvs) (X:Nat→Int) (p:List Nat):Int:=sm (fun k=>X k*mx0 (-igt us k)) p
def enE (g:Gr) (F:List Int) (us:Kvs) (X:Nat→Int) (d:Int) (p:List Nat):En:=⟨red (enG g F X d) d,red (enT us X p) d,red (enR us X p) d,red (enG g F X d+enR us X p-enT us X p) d⟩
theorem enE_same {g:Gr} {F:List Int} {us:Kvs} {X Y:Nat→Int} {d e:Int} {p:List Nat} (hd:0<d) (he:0<e) (hF:∀f∈F,(fdI g f).At.toNat∈p) (h:∀k∈p,X k*e=Y k*d):enE g F us X d p=enE g F us Y e p:=by
 have h1:enG g F X d*e=enG g F Y e*d:=sF_scale fun f hf=>by
  rw[Int.mul_assoc,Int.mul_assoc,Int.mul_assoc,Int.mul_assoc,mx0_mul he,mx0_mul hd,Int.sub_mul,Int.sub_mul,h _ (hF f hf),Int.mul_assoc,Int.mul_assoc,Int.mul_comm d e]
 have h2:enT us X p*e=enT us Y p*d:=sm_scale fun k hk=>by
  rw[Int.mul_right_comm,h k hk,Int.mul_right_comm]
 have h3:enR us X p*e=enR us Y p*d:=sm_scale fun k hk=>by
  rw[Int.mul_right_comm,h k hk,Int.mul_right_comm]
 unfold enE;rw[red_eq hd he h1,red_eq hd he h2,red_eq hd he h3,red_eq hd he (show(enG g F X d+enR us X p-enT us X p)*e=(enG g F Y e+enR us Y p-enT us Y p)*d by rw[Int.sub_mul,Int.add_mul,Int.sub_mul,Int.add_mul,h1,h2,h3])]
def xOf (v:List Int) (p:List Nat) (k:Nat):Int:=at0 v (p.idxOf k:Nat)
def enP (g:Gr) (s:Sta) (us:Kvs) (p:List Nat):En:=enE g (feedL g s (upN p)) us (xOf (pvol g s us p).1 p) (pvol g s us p).2.1 p
section
variable {g:Gr} {s:Sta} {us:Kvs} {p:List Nat}
theorem part_nd (hp:p∈partL g s):p.Nodup:=by obtain⟨_,_,e⟩:=partL_head hp;rw[e];exact cp_nodup
theorem at0_ab {l:List Int} {B:Nat} (h:∀x∈l,x.natAbs≤B) (i:Int):(at0 l i).natAbs≤B:=by
 unfold at0
 cases hi:l[i.toNat]? with
 |none=>simp
 |some x=>exact h x (List.mem_of_getElem? hi)
theorem xOf_bd {v:List Int} {B:Nat} (h:∀x∈v,x.natAbs≤B) (k:Nat):(xOf v p k).natAbs≤B:=at0_ab h _
end
end Go.Cur
end
section
namespace Go.Cur
open Go.AM Go.Proofs
theorem mx0_max (x:Int):max 0 x=mx0 x:=by unfold mx0;split<;>omega
theorem mx0_diff (x:Int):mx0 x-mx0 (-x)=x:=by unfold mx0;split<;>split<;>omega
theorem sF_range (h:Int→Int) (F:List Int):sF h F=sm (fun b=>h (at0 F (b:Nat))) (List.range F.length):=by
 have gen:∀k,k≤F.length→sF h (F.take k)=sm (fun b=>h (at0 F (b:Nat))) (List.range k):=by
  intro k
  induction k with
  |zero=>intro _;rfl
  |succ k ih=>
   intro hk;rw[sF_snoc (at0_nat (show k<F.length by omega)),ih (by omega),List.range_succ,sm_append];simp[sm]
 have:=gen F.length (Nat.le_refl _)
 rwa [List.take_length]at this
theorem shiftL_ge:∀(xs:List Int) (x0:Int),x0≤shiftL x0 xs∧∀x∈xs,x≤shiftL x0 xs
 |[],x0=>⟨Int.le_refl _,by simp⟩
 |y::xs,x0=>by
  obtain⟨h1,h2⟩:=shiftL_ge xs (maxI x0 y);have e:shiftL x0 (y::xs)=shiftL (maxI x0 y) xs:=rfl;have h3:x0≤maxI x0 y∧y≤maxI x0 y:=by unfold maxI;split<;>omega
  rw[e];refine⟨by omega,fun x hx=>?_⟩
  rcases List.mem_cons.1 hx with rfl|hx
  ·omega
  ·exact h2 x hx
theorem shiftL_at:∀(xs:List Int) (x0:Int),shiftL x0 xs=x0∨shiftL x0 xs∈xs
 |[],x0=>Or.inl rfl
 | y::xs,x0=>by
  have e:shiftL x0 (y::xs)=shiftL (maxI x0 y) xs:=rfl;rw[e]
  rcases shiftL_at xs (maxI x0 y)with h|h
  ·rw[h];unfold maxI
   split
   ·exact Or.inr (by simp)
   ·exact Or.inl rfl
  ·exact Or.inr (List.mem_cons_of_mem _ h)
theorem wf_zero {p:List Nat} {x:Nat→Int} (hx:∀k∈p,x k=0):∀{W:List Wn},(∀w∈W,w.a∈p↔w.b∈p)→(∀i,wf p x W i=0)∧ws p x W=0
 |[],_=>⟨fun _=>rfl,rfl⟩
 | w::W,h=>by
  obtain⟨h1,h2⟩:=wf_zero hx (W:=W) fun w hw=>h w (by simp[hw]);have hw:=h w (by simp);refine⟨fun i=>?_,?_⟩
  ·rw[wf,h1]
   by_cases ha:w.a∈p
   ·rw[hx _ ha,hx _ (hw.1 ha)];simp
   ·rw[if_neg ha];rfl
  ·rw[ws,h2]
   by_cases ha:w.a∈p
   ·rw[hx _ ha,hx _ (hw.1 ha)];simp
   ·rw[if_neg ha];rfl
section
variable {g:Gr} {s:Sta} {us:Kvs} {p:List Nat}
theorem xOf_map {f:Nat→Int} {k:Nat} (hk:k∈p):xOf (p.map f) p k=f k:=at0_of (by rw[List.getElem?_map,idxOf_get hk];rfl)
theorem pvol_volt (hnt:NetOk g s) (hp:p∈partL g s) (h5:p.length≤5) (hus:∀x,-40≤igt us x∧igt us x≤40) (hok:(pvol g s us p).2.2=true) (h:feedL g s (upN p)≠[]):
  Volt (ptO g s us p) (xOf (pvol g s us p).1 p) (pvol g s us p).2.1∧0≤sumU us p∧(sumU us p=0→(∀b,b<(feedL g s (upN p)).length→(ptO g s us p).V b*(pvol g s us p).2.1≤xOf (pvol g s us p).1 p ((ptO g s us p).p b))∧
   ∃b,b<(feedL g s (upN p)).length∧xOf (pvol g s us p).1 p ((ptO g s us p).p b)=(ptO g s us p).V b*(pvol g s us p).2.1):=by
 have ho:=Pt_ok (us:=us) hnt hp rfl;have hpin:∀b,b<(feedL g s (upN p)).length→(ptO g s us p).p b∈p:=fun b hb=>(feed_at hnt rfl hb).2.2.2.2.2.1;have hpos:0<(feedL g s (upN p)).length:=List.length_pos_iff.2 h;unfold pvol at hok ⊢;rw[if_neg h]at hok ⊢
 by_cases h1:sumU us p<0
 ·rw[if_pos h1]at hok;cases hok
 ·rw [if_neg h1]at hok ⊢
  by_cases h2:sumU us p=0
  ·rw[if_pos h2];have hne:p≠[]:=by intro e;have:=(partL_ok hnt hp (by omega)).n1;rw[e]at this;simp at this
   obtain⟨tl,htl⟩:∃tl,p=p.getD 0 0::tl:=by
    cases p with
    |nil=>exact absurd rfl hne
    |cons a tl=>exact⟨tl,rfl⟩
   have hg:=shiftL_ge ((List.range (feedL g s (upN p)).length).map fun b=>(ptO g s us p).V b*(ptO g s us p).den0 (p.getD 0 0)-(ptO g s us p).num0 (p.getD 0 0) ((ptO g s us p).p b)) ((ptO g s us p).V 0*(ptO g s us p).den0 (p.getD 0 0)-(ptO g s us p).num0 (p.getD 0 0) ((ptO g s us p).p 0));have ha:=shiftL_at ((List.range (feedL g s (upN p)).length).map fun b=>(ptO g s us p).V b*(ptO g s us p).den0 (p.getD 0 0)-(ptO g s us p).num0 (p.getD 0 0) ((ptO g s us p).p b)) ((ptO g s us p).V 0*(ptO g s us p).den0 (p.getD 0 0)-(ptO g s us p).num0 (p.getD 0 0) ((ptO g s us p).p 0));generalize shiftL ((ptO g s us p).V 0*(ptO g s us p).den0 (p.getD 0 0)-(ptO g s us p).num0 (p.getD 0 0) ((ptO g s us p).p 0)) ((List.range (feedL g s (upN p)).length).map fun b=>(ptO g s us p).V b*(ptO g s us p).den0 (p.getD 0 0)-(ptO g s us p).num0 (p.getD 0 0) ((ptO g s us p).p b))=r at hg ha;have hge:∀b,b<(feedL g s (upN p)).length→(ptO g s us p).V b*(ptO g s us p).den0 (p.getD 0 0)-(ptO g s us p).num0 (p.getD 0 0) ((ptO g s us p).p b)≤r:=fun b hb=>hg.2 _ (List.mem_map.2 ⟨b,List.mem_range.2 hb,rfl⟩);have hv:=volt0 (P:=ptO g s us p) ho htl (by rw[sumU_pt];exact h2) (r:=r) fun b hb=>hge b (List.mem_range.1 hb);refine⟨volt_congr hv fun k hk=>(xOf_map (p:=p) (f:=fun k=>(ptO g s us p).num0 (p.getD 0 0) k+r) hk).symm,by omega,fun _=>⟨fun b hb=>?_,?_⟩⟩
   ·rw[xOf_map (hpin b hb)];have:=hge b hb;simp only;omega
   ·have:∃b,b<(feedL g s (upN p)).length∧r=(ptO g s us p).V b*(ptO g s us p).den0 (p.getD 0 0)-(ptO g s us p).num0 (p.getD 0 0) ((ptO g s us p).p b):=by
     rcases ha with e|e
     ·exact⟨0,hpos,e⟩
     ·obtain⟨b,hb,e⟩:=List.mem_map.1 e;exact⟨b,List.mem_range.1 hb,e.symm⟩
    obtain⟨b,hb,e⟩:=this;refine⟨b,hb,?_⟩;rw[xOf_map (hpin b hb)];simp only;omega
  ·rw[if_neg h2];obtain⟨k1,k2,k3,k4⟩:=mask0_ok (P:=ptO g s us p) ho (m:=(feedL g s (upN p)).length) rfl (by omega) (by rw[sumU_pt];omega);have hft:=(fit_iff (P:=ptO g s us p) rfl (bit_ex k1 k2)).1 k3;exact⟨volt_congr (fits_volt' ho hft) fun k hk=>(xOf_map (p:=p) (f:=fun k=>(ptO g s us p).num (bitS (mask0 (ptO g s us p) (feedL g s (upN p)).length)) k) hk).symm,by omega,fun e=>absurd e h2⟩
def fgv (g:Gr) (n:Nat→Int) (d:Int) (f:Int):Int:=(fdI g f).Siem*mx0 ((fdI g f).Volts*d-n (fdI g f).At.toNat)
def fgi (g:Gr) (n:Nat→Int) (d:Int) (F:List Int) (i:Nat):Int:=sF (fun f=>if (fdI g f).At.toNat=i then fgv g n d f else 0) F
def fgl (g:Gr) (n:Nat→Int) (d:Int) (F:List Int):Int:=sF (fun f=>(fdI g f).Siem*mx0 ((fdI g f).Volts*d-n (fdI g f).At.toNat)*mx0 ((fdI g f).Volts*d-n (fdI g f).At.toNat)) F
structure CmP (g:Gr) (s:Sta) (us:Kvs) (vf:Nat→Fr) (p:List Nat) (d:Int) (n:Nat→Int):Prop where
 d0:0<d
 d1:d≤2000000000
 den:∀k∈p,0<(vf k).Den∧(vf k).Den≤2000000000∧(vf k).Den∣d
 nb:∀k∈p,(n k).natAbs≤7000000000000
 eq:∀i∈p,igt us i*d-fgi g n d (feedL g s (upN p)) i+wf p n (onW g.Wires s.Wires) i=0
 quiet:sumU us p=0→∀f∈feedL g s (upN p),(fdI g f).Volts*d≤n (fdI g f).At.toNat
 touch:feedL g s (upN p)=[]∨0<sumU us p∨∃f∈feedL g s (upN p),n (fdI g f).At.toNat=(fdI g f).Volts*d
 energy:ws p n (onW g.Wires s.Wires)+fgl g n d (feedL g s (upN p))=d*(enG g (feedL g s (upN p)) n d+enR us n p-enT us n p)
 same:enP g s us p=enE g (feedL g s (upN p)) us n d p
theorem vf_x (hp:p∈partL g s) {k:Nat} (hk:k∈p):vfS g s us k=red (xOf (pvol g s us p).1 p k) (pvol g s us p).2.1:=by
 unfold vfS xOf;rw[←partOf_eq hp hk]
theorem en_diff (n:Nat→Int):∀p:List Nat,sm (fun i=>n i*igt us i) p=enT us n p-enR us n p:=fun p=>by
 unfold enT enR;rw[←sm_sub];exact sm_congr fun i _=>by rw[←Int.mul_sub,mx0_diff]
theorem cm_part (hnt:NetOk g s) (hp:p∈partL g s) (h5:p.length≤5) (hus:∀x,-40≤igt us x∧igt us x≤40) (hok:(pvol g s us p).2.2=true):
  CmP g s us (vfS g s us) p (cmD (vfS g s us) p) (cmN (vfS g s us) (cmD (vfS g s us) p)):=by
 obtain⟨t1,t2,t3⟩:=pvol_tight hnt hp h5 hus hok;obtain⟨c1,c2,q,hq,hD,hX⟩:=cm_ok (vf:=vfS g s us) (p:=p) t1 fun k hk=>vf_x hp hk;have hvt:∀k∈p,(vfS g s us k).Den≤2000000000:=fun k hk=>by rw[vf_x hp hk];have:=red_bd (n:=xOf (pvol g s us p).1 p k) t1;omega
 have hnd:=part_nd hp;have hcl:=(partL_ok hnt hp (by omega)).cl;have hFp:∀f∈feedL g s (upN p),(fdI g f).At.toNat∈p:=fun f hf=>(feedL_mem hf).2.2.1;generalize hd:cmD (vfS g s us) p=d at*
 generalize hn:cmN (vfS g s us) d=n at*
 have hd1:d≤2000000000:=by
  have:=Int.mul_le_mul_of_nonneg_right (show(1:Int)≤q by omega) (Int.le_of_lt c1);omega
 have hnb:∀k∈p,(n k).natAbs≤7000000000000:=fun k hk=>by
  have h1:(xOf (pvol g s us p).1 p k).natAbs≤7000000000000:=xOf_bd t3 k;rw[hX k hk,Int.natAbs_mul]at h1;exact Nat.le_trans (Nat.le_mul_of_pos_left _ (by omega)) h1
 have hsame:enP g s us p=enE g (feedL g s (upN p)) us n d p:=enE_same t1 c1 hFp fun k hk=>by
  rw[hX k hk,hD,Int.mul_comm q,Int.mul_assoc]
 have hfg:∀b,b<(feedL g s (upN p)).length→(fdI g (at0 (feedL g s (upN p)) b))=fdOf g (feedL g s (upN p)) b:=fun _ _=>rfl
 by_cases h:feedL g s (upN p)=[]
 ·have e0:∀k∈p,xOf (pvol g s us p).1 p k=0:=fun k hk=>by
   unfold pvol;rw[if_pos h];exact at0_of (by unfold zerosL;rw[List.getElem?_replicate,if_pos (List.idxOf_lt_length_of_mem hk)])
  have n0:∀k∈p,n k=0:=fun k hk=>by
   have h1:=hX k hk;rw[e0 k hk]at h1;exact(Int.mul_eq_zero.1 h1.symm).resolve_left (by omega)
  have hz:noneU us p=true:=by unfold pvol at hok;rwa [if_pos h]at hok
  have hu:∀k∈p,igt us k=0:=fun k hk=>by
   unfold noneU at hz;rw[List.all_eq_true]at hz;simpa using hz k hk
  have hw:=wf_zero n0 hcl;refine⟨c1,hd1,fun k hk=>⟨(c2 k hk).1,hvt k hk,(c2 k hk).2.2⟩,hnb,fun i hi=>?_,fun _ f hf=>absurd hf (by rw[h];simp),Or.inl h,?_,hsame⟩
  ·rw[hu i hi,hw.1,h];simp[fgi,sF]
  ·have e1:enT us n p=0:=sm_zero fun k hk=>by rw[n0 k hk,Int.zero_mul]
   have e2:enR us n p=0:=sm_zero fun k hk=>by rw[n0 k hk,Int.zero_mul]
   rw[hw.2,e1,e2,h];simp[fgl,enG,sF]
 ·obtain⟨hv,hs0,hs⟩:=pvol_volt hnt hp h5 hus hok h;have ho:=Pt_ok (us:=us) hnt hp rfl;have hvn:Volt (ptO g s us p) n d:=volt_div hq (by rw[←hD];exact hv) fun k hk=>hX k hk;have hb:∀f∈feedL g s (upN p),∃b,b<(feedL g s (upN p)).length∧fdI g f=fdOf g (feedL g s (upN p)) b:=fun f hf=>by
   obtain⟨b,hb⟩:=List.getElem?_of_mem hf;exact⟨b,(List.getElem?_eq_some_iff.1 hb).1,by unfold fdOf;rw[at0_of hb]⟩
  have hfb:∀b,b<(feedL g s (upN p)).length→at0 (feedL g s (upN p)) (b:Nat)∈feedL g s (upN p):=fun b hb=>List.mem_of_getElem? (at0_nat hb);refine⟨c1,hd1,fun k hk=>⟨(c2 k hk).1,hvt k hk,(c2 k hk).2.2⟩,hnb,fun i hi=>?_,fun e f hf=>?_,?_,?_,hsame⟩
  ·have h1:=hvn.eq i hi;have h2:sm (fun k=>(ptO g s us p).L i k*n k) (ptO g s us p).ns=wf p n (onW g.Wires s.Wires) i:=lw_flow hnd hi hcl;have h3:(ptO g s us p).give n d i=fgi g n d (feedL g s (upN p)) i:=by
    unfold fgi;rw[sF_range,give_eq];refine sm_congr fun b _=>?_;unfold cF fgv;rw[mx0_max];rfl
   rw[h2,h3]at h1;have h4:(ptO g s us p).u i=igt us i:=rfl;rw[h4,Int.mul_comm d]at h1;omega
  ·obtain⟨b,hbl,e2⟩:=hb f hf;have h1:=(hs e).1 b hbl;rw[hX _ (by have:=(feed_at hnt (p:=p) rfl hbl).2.2.2.2.2.1;exact this),hD,Int.mul_left_comm]at h1;have:=Int.le_of_mul_le_mul_left h1 hq;rw[e2];exact this
  ·by_cases e:sumU us p=0
   ·obtain⟨b,hbl,e3⟩:=(hs e).2;rw[hX _ (by have:=(feed_at hnt (p:=p) rfl hbl).2.2.2.2.2.1;exact this),hD,Int.mul_left_comm]at e3;exact Or.inr (Or.inr ⟨_,hfb b hbl,Int.eq_of_mul_eq_mul_left (by omega) e3⟩)
   ·exact Or.inr (Or.inl (by omega))
  ·have h1:=volt_energy ho (W:=onW g.Wires s.Wires) rfl hcl hvn;have e1:sm (fun b=>(ptO g s us p).s b*max 0 ((ptO g s us p).V b*d-n ((ptO g s us p).p b))*max 0 ((ptO g s us p).V b*d-n ((ptO g s us p).p b))) (ptO g s us p).fs=fgl g n d (feedL g s (upN p)):=by
    unfold fgl;rw[sF_range];refine sm_congr fun b _=>?_;rw[mx0_max];rfl
   have e2:sm (fun b=>(ptO g s us p).V b*cF (ptO g s us p) n d b) (ptO g s us p).fs=enG g (feedL g s (upN p)) n d:=by
    unfold enG;rw[sF_range];refine sm_congr fun b _=>?_;unfold cF;rw[mx0_max];rfl
   have e3:sm (fun i=>n i*(ptO g s us p).u i) (ptO g s us p).ns=enT us n p-enR us n p:=en_diff n p;rw[e1,e2,e3]at h1;have e4:(ptO g s us p).ns=p:=rfl;rw[e4]at h1;rw[h1]
   congr 1
   omega
end
end Go.Cur
end
section
namespace Go.Cur
open Go.AM Go.Proofs
section
variable {g:Gr} {wi:List Bool} {l:List Ld}
theorem step_none {z:SS} (h:stepZ g wi l z=none):rDead g wi l z=none∧rRet g wi l z=none∧rLow g wi l z=none∧rTrip g wi l z=none:=by
 unfold stepZ at h
 cases h1:rDead g wi l z with
 |some a=>rw[h1]at h;cases h
 | none=>
  rw[h1]at h
  cases h2:rRet g wi l z with
  |some a=>rw[h2]at h;cases h
  | none=>
   rw[h2]at h
   cases h3:rLow g wi l z with
   |some a=>rw[h3]at h;cases h
   |none=>
    rw[h3]at h
    cases h4:rTrip g wi l z with
    |some a=>rw[h4]at h;cases h
    |none=>exact⟨rfl,rfl,rfl,rfl⟩
theorem none_step {z:SS} (h1:rDead g wi l z=none) (h2:rRet g wi l z=none) (h3:rLow g wi l z=none) (h4:rTrip g wi l z=none):stepZ g wi l z=none:=by
 unfold stepZ;rw[h1,h2,h3,h4];rfl
theorem lowM_mark {s:Sta} {vf:Nat→Fr} {sv:List Bool} {i:Nat} (hc:lowC g vf l sv i=true) {y:Int} (hy:y∈upN (partOf g s (ldA l i).At.toNat)):∀{n:Nat},i<n→ibt (lowM g s vf l sv n) y=true
 | n+1,hn=>by
  rw[lowM_succ];unfold lowS
  rcases Nat.lt_succ_iff_lt_or_eq.1 hn with h|rfl
  ·have:=lowM_mark hc hy h
   split
   ·rw[ibt_setT,this,Bool.or_true]
   ·exact this
  ·rw[if_pos hc,ibt_setT,decide_eq_true hy,Bool.true_or]
theorem lowM_none {s:Sta} {vf:Nat→Fr} {sv:List Bool}:∀{n:Nat},(∀i,i<n→lowC g vf l sv i=false)→lowM g s vf l sv n=[]
 |0,_=>rfl
 |n+1,h=>by
  rw[lowM_succ,lowM_none fun i hi=>h i (by omega)];unfold lowS;rw[if_neg (by rw[h n (by omega)];decide)]
theorem upN_self {s:Sta} (hnt:NetOk g s) {x:Int} (h0:0≤x) (h1:x<g.Nodes):x∈upN (partOf g s x.toNat):=by
 rw[upN_mem];refine⟨h0,?_⟩;unfold partOf;rw[cp_mem];exact⟨by omega,rfl⟩
theorem end_low (h:SetOk g wi l) {z:SS} (hz:ZOk g wi l z) (hl:rLow g wi l z=none) {i:Nat} (hi:i<l.length):lowC g (vfZ g wi l z) l z.sv i=false:=by
 cases hc:lowC g (vfZ g wi l z) l z.sv i with
 |false=>rfl
 | true=>
  exfalso;have hn:iLow g wi l z<0:=by
   unfold rLow at hl
   split at hl
   ·cases hl
   ·omega
  have ha:=h.ld.at_ _ (List.mem_of_getElem? (ldA_get hi));have hm:=lowM_mark (s:=⟨z.fe,wi⟩) hc (upN_self (h.net hz) ha.1 ha.2) hi;have hb:bAt z.sv i=true∧0<(ldA l i).Units:=by
   unfold lowC at hc;simp only[Bool.and_eq_true,decide_eq_true_eq]at hc;exact⟨hc.1,hc.2.1⟩
  have:=leL_none hn i hi hb.1;unfold lowB at this;rw[hm]at this;simp[hb.2]at this
theorem end_trip (h:SetOk g wi l) {z:SS} (ht:rTrip g wi l z=none) {i:Nat} (hi:i<g.Feeds.length):(ffF g ⟨z.fe,wi⟩ (vfZ g wi l z) i).Num≤(fdA g i).Limit*(ffF g ⟨z.fe,wi⟩ (vfZ g wi l z) i).Den:=by
 have hn:iTrip g wi l z<0:=by
  unfold rTrip at ht
  split at ht
  ·cases ht
  ·omega
 have:=trL_none hn i hi;unfold ovr at this;simp only at this;rw[frA_fl hi]at this;omega
theorem again (h:SetOk g wi l) {z:SS} (hz:ZOk g wi l z) (hs:stepZ g wi l z=none):settleS g wi (srv l z.sv) z.fe=z0 (srv l z.sv) z.fe:=by
 obtain⟨h1,h2,h3,h4⟩:=step_none hs;have hig:∀x,igt (tkK (srv l z.sv) (List.replicate (srv l z.sv).length true)) x=igt (tkK l z.sv) x:=srv_igt l z.sv;have hvf:vfZ g wi (srv l z.sv) (z0 (srv l z.sv) z.fe)=vfZ g wi l z:=by
  unfold vfZ z0;exact vfS_congr hig
 have hmem:∀i,i<(srv l z.sv).length→∃j,j<l.length∧bAt z.sv j=true∧ldA (srv l z.sv) i=ldA l j:=fun i hi=>by
  obtain⟨j,hj,hb⟩:=srv_mem.1 (List.mem_of_getElem? (ldA_get hi));have hjl:=(List.getElem?_eq_some_iff.1 hj).1;refine⟨j,hjl,bAt_of hb,?_⟩;have:=ldA_get hjl;rw[hj]at this;exact Option.some.inj this
 unfold settleS;refine settle_stop (none_step ?_ ?_ ?_ ?_)
 ·unfold rDead;rw[Option.map_eq_none_iff,List.find?_eq_none];intro i hi;rw[List.mem_range]at hi;obtain⟨j,hj,hb,e⟩:=hmem i hi;unfold rDead at h1;rw[Option.map_eq_none_iff,List.find?_eq_none]at h1;have:=h1 j (List.mem_range.2 hj);unfold deadB at this ⊢;rw[hb]at this;rw[e];simp only[z0]at this ⊢;intro hd;simp only[Bool.and_eq_true]at hd this;exact this (by simpa using(by simpa using hd:_∧_∧_).2)
 ·have hn:iRet g wi l z<0:=by
   unfold rRet at h2
   split at h2
   ·cases h2
   ·omega
  have hi2:iRet g wi (srv l z.sv) (z0 (srv l z.sv) z.fe)<0:=by
   refine leL_neg fun i hi _=>?_;obtain⟨j,hj,hb,e⟩:=hmem i hi;have:=leL_none hn j hj hb;rw[e];unfold retB at this ⊢;have es:∀p,sumU (tkK (srv l z.sv) (z0 (srv l z.sv) z.fe).sv) p=sumU (tkK l z.sv) p:=fun p=>by
    unfold sumU;have:(fun x:Nat=>igt (tkK (srv l z.sv) (z0 (srv l z.sv) z.fe).sv) x)=fun x:Nat=>igt (tkK l z.sv) x:=funext fun x=>hig x;exact congrArg (fun f=>sm f p) this
   rw[es];exact this
  unfold rRet;rw[if_neg (by omega)]
 ·have hi2:iLow g wi (srv l z.sv) (z0 (srv l z.sv) z.fe)<0:=by
   refine leL_neg fun i hi _=>?_;have:lowM g ⟨(z0 (srv l z.sv) z.fe).fe,wi⟩ (vfZ g wi (srv l z.sv) (z0 (srv l z.sv) z.fe)) (srv l z.sv) (z0 (srv l z.sv) z.fe).sv (srv l z.sv).length=[]:=by
    refine lowM_none fun i hi=>?_;obtain⟨j,hj,hb,e⟩:=hmem i hi;have:=end_low h hz h3 hj;rw[hvf];unfold lowC at this ⊢;rw[hb,Bool.true_and]at this;rw[e,this,Bool.and_false]
   rw[this];unfold lowB;rw[ibt_nil,Bool.and_false]
  unfold rLow;rw[if_neg (by omega)]
 ·have:iTrip g wi (srv l z.sv) (z0 (srv l z.sv) z.fe)=iTrip g wi l z:=by
   unfold iTrip;rw[hvf];rfl
  have hn:iTrip g wi l z<0:=by
   unfold rTrip at h4
   split at h4
   ·cases h4
   ·omega
  unfold rTrip;rw[this,if_neg (by omega)]
end
end Go.Cur
end
section
namespace Go.Cur
open Go.AM Go.Proofs
theorem at0_nb {l:List Int} {B:Nat} (h:∀x∈l,x.natAbs≤B) (i:Int):(at0 l i).natAbs≤B:=by
 unfold at0
 cases hi:l[i.toNat]? with
 |none=>simp
 |some x=>exact h x (List.mem_of_getElem? hi)
section
variable {g:Gr} {s:Sta} {us:Kvs}
theorem vf_tight (hnt:NetOk g s) (h5:∀p∈partL g s,p.length≤5) (hus:∀x,-40≤igt us x∧igt us x≤40) (hok:okS g s us=true) {k:Nat} (hk:k<g.Nodes.toNat):0<(vfS g s us k).Den∧(vfS g s us k).Den≤2000000000∧(vfS g s us k).Num.natAbs≤7000000000000:=by
 obtain⟨p,hp,hkp⟩:=List.mem_flatten.1 (partL_all hnt hk);unfold okS at hok;rw[List.all_eq_true]at hok;obtain⟨t1,t2,t3⟩:=pvol_tight hnt hp (h5 p hp) hus (hok p hp);unfold vfS;rw[←partOf_eq hp hkp];have hr:=red_bd (n:=at0 (pvol g s us p).1 (p.idxOf k:Nat)) t1;have hb:=at0_nb t3 (p.idxOf k:Nat);omega
theorem ff_tight {vf:Nat→Fr} (hnt:NetOk g s) (hv:∀k,k<g.Nodes.toNat→0<(vf k).Den∧(vf k).Den≤2000000000∧(vf k).Num.natAbs≤7000000000000) {i:Nat} (hi:i<g.Feeds.length):
  0≤(ffF g s vf i).Num∧(ffF g s vf i).Num≤40000000000000∧1≤(ffF g s vf i).Den∧(ffF g s vf i).Den≤2000000000∧(0<(ffF g s vf i).Num→bAt s.Feeds i=true):=by
 have hg:g.Feeds[i]?=some (fdI g (i:Int)):=by have:=fdI_get (g:=g) (i:=(i:Int)) (by omega) (by omega);rwa [Int.toNat_natCast]at this
 have hb:=hnt.feeds _ (List.mem_of_getElem? hg);have hvb:=hv (fdI g (i:Int)).At.toNat (by omega);unfold ffF;simp only;generalize vf (fdI g (i:Int)).At.toNat=v at hvb ⊢;have h1:0≤(fdI g (i:Int)).Volts*v.Den∧(fdI g (i:Int)).Volts*v.Den≤2000000000000:=⟨Int.mul_nonneg (by omega) (by omega),Int.le_trans (Int.mul_le_mul hb.2.2.2.1 hvb.2.1 (by omega) (by omega)) (by omega)⟩
 split
 ·rename_i hc;have hd1:(fdI g (i:Int)).Volts*v.Den-v.Num≤9000000000000:=by omega
  generalize (fdI g (i:Int)).Volts*v.Den-v.Num=d at*
  have hr:=red_bd (n:=(fdI g (i:Int)).Siem*d) hvb.1;have h2:0≤(fdI g (i:Int)).Siem*d∧(fdI g (i:Int)).Siem*d≤36000000000000:=by
   have hc2:=hc.2
   rcases(by omega:(fdI g (i:Int)).Siem=1∨(fdI g (i:Int)).Siem=2∨(fdI g (i:Int)).Siem=3∨(fdI g (i:Int)).Siem=4)with h|h|h|h<;>rw[h]<;>omega
  have h3:0≤(red ((fdI g (i:Int)).Siem*d) v.Den).Num:=by
   unfold red;exact Int.ediv_nonneg h2.1 (by omega)
  exact⟨h3,by omega,by omega,by omega,fun _=>hc.1⟩
 ·exact⟨by decide,by decide,by decide,by decide,fun h=>absurd h (by decide)⟩
theorem swTo_fe (fe:List Bool):∀k,swTo g ⟨fe,s.Wires⟩ k=swTo g s k
 |0=>rfl
 |k+1=>by simp only[swTo,swTo_fe fe k]
theorem fine_fe {l l':List Ld} (h:fineB g s l=true) {fe:List Bool} (hfe:fe.length=g.Feeds.length) (hl:LdOk g l'):fineB g ⟨fe,s.Wires⟩ l'=true:=by
 simp only[fineB,stB,Bool.and_eq_true,decide_eq_true_eq]at h ⊢;exact⟨⟨h.1.1,⟨hfe,h.1.2.1.2⟩,by rw[swTo_fe];exact h.1.2.2⟩,ld_to hl _ (Nat.le_refl _)⟩
theorem set_ok {l:List Ld} (hf:fineB g s l=true) (hll:l.length≤900) (h5:∀p∈partL g s,p.length≤5):SetOk g s.Wires l:=
 ⟨(fine_net hf).gr,(fine_net hf).sw,fine_ld hf,hll,h5⟩
end
theorem c_Settle_t (g:Gr) (s:Sta) (l:List Ld) (hf:fineB g s l=true) (hlo:longB g s=false) (h:SetOk g s.Wires l) (Z:SS) (hZ:settleS g s.Wires l s.Feeds=Z):
  PureCall Try.prog 10 [g.av,s.av,lL l] (.tup [.agg (stlS g s.Wires l Z).cells,I 0]):=by
 by_cases hne:s.Feeds=[]
 ·exact c_Settle_tb g s l hf hlo h hne Z hZ
 ·exact c_Settle_ta g s l hf hlo h hne Z hZ
end Go.Cur
end
section
namespace Go.Cur
open Go.AM Go.Proofs
theorem find_some {n i:Nat} {f:Nat→Bool} (hi:i<n) (h:f i=true) (hn:∀j,j<i→f j=false):(List.range n).find? f=some i:=by
 rw[List.find?_range_eq_some];exact⟨h,List.mem_range.2 hi,fun j hj=>by simp[hn j hj]⟩
end Go.Cur
end
section
namespace Go.Cur
open Go.AM Go.Proofs
section
variable {g:Gr} {s:Sta} {us:Kvs} {p:List Nat} {n:Nat→Int} {d:Int} {F:List Int} {vf:Nat→Fr}
theorem fgv_bd {f:Int} (hf:1≤(fdI g f).Volts∧(fdI g f).Volts≤1000∧1≤(fdI g f).Siem∧(fdI g f).Siem≤4) (hd:0<d) (hd1:d≤2000000000) (hn:(n (fdI g f).At.toNat).natAbs≤7000000000000):0≤fgv g n d f∧fgv g n d f≤36000000000000:=by
 unfold fgv;have h1:=Int.mul_le_mul hf.2.1 hd1 (Int.le_of_lt hd) (by omega);have h2:0≤mx0 ((fdI g f).Volts*d-n (fdI g f).At.toNat)∧mx0 ((fdI g f).Volts*d-n (fdI g f).At.toNat)≤9000000000000:=by unfold mx0;split<;>omega
 generalize mx0 ((fdI g f).Volts*d-n (fdI g f).At.toNat)=m at h2
 rcases(by omega:(fdI g f).Siem=1∨(fdI g f).Siem=2∨(fdI g f).Siem=3∨(fdI g f).Siem=4)with h|h|h|h<;>rw[h]<;>omega
theorem ff_at {f:Nat} (hs:0<(fdI g (f:Int)).Siem) (hon:bAt s.Feeds f=true) (h0:0<(vf (fdI g (f:Int)).At.toNat).Den) (hd:0<d) (hdv:(vf (fdI g (f:Int)).At.toNat).Den∣d):
  0<(ffF g s vf f).Den∧(ffF g s vf f).Den∣d∧(ffF g s vf f).Num*(d/ (ffF g s vf f).Den)=fgv g (cmN vf d) d f:=by
 unfold fgv cmN ffF;simp only;generalize vf (fdI g (f:Int)).At.toNat=v at h0 hdv ⊢;obtain⟨e,he⟩:=hdv;have he0:0<e:=by
  refine Int.not_le.1 fun hn=>?_;have:=Int.mul_nonpos_of_nonneg_of_nonpos (Int.le_of_lt h0) hn;omega
 have hq:d/v.Den=e:=by rw[he];exact Int.mul_ediv_cancel_left _ (by omega)
 have hdiff:(fdI g (f:Int)).Volts*d-v.Num*e=((fdI g (f:Int)).Volts*v.Den-v.Num)*e:=by rw[he,Int.sub_mul,Int.mul_assoc]
 rw[hq,hdiff,←mx0_mul he0]
 by_cases h:0<(fdI g (f:Int)).Volts*v.Den-v.Num
 ·rw[if_pos ⟨hon,h⟩];obtain⟨a1,a2⟩:=red_at (n:=(fdI g (f:Int)).Siem*((fdI g (f:Int)).Volts*v.Den-v.Num)) (d:=v.Den) (k:=e) h0 he0;refine⟨(red_bd h0).1,by rw[he];exact a1,?_⟩;rw[he,a2,Int.mul_assoc];have:mx0 ((fdI g (f:Int)).Volts*v.Den-v.Num)=(fdI g (f:Int)).Volts*v.Den-v.Num:=by unfold mx0;rw[if_pos h]
  rw[this]
 ·rw[if_neg (fun h3=>h h3.2)];have:mx0 ((fdI g (f:Int)).Volts*v.Den-v.Num)=0:=by unfold mx0;rw[if_neg h]
  rw[this];exact⟨by decide,⟨d,by simp⟩,by simp⟩
end
end Go.Cur
end
section
namespace Go.Cur
open Go.AM Go.Proofs
def cutW (p U:List Nat) (x:Nat→Int):List Wn→Int
 |[]=>0
 |w::W=>(if w.a∈p then w.s*(((if w.a∈U then 1 else 0)-(if w.b∈U then 1 else 0))*(x w.a-x w.b))else 0)+cutW p U x W
theorem wf_cut {p U:List Nat} {x:Nat→Int} (hU:U.Nodup):∀{W:List Wn},sm (fun i=>wf p x W i) U=cutW p U x W
 |[]=>sm_zero fun _ _=>rfl
 | w::W=>by
  rw[cutW,←wf_cut hU (W:=W)]
  by_cases ha:w.a∈p
  ·have e:sm (fun i=>wf p x (w::W) i) U=w.s*(x w.a-x w.b)*sm (ew w) U+sm (fun i=>wf p x W i) U:=by
    rw[←sm_smul,←sm_add];refine sm_congr fun i _=>?_;rw[wf,if_pos ha,Int.mul_assoc,Int.mul_comm (x w.a-x w.b)]
   rw[e,ew_sum hU,if_pos ha,Int.mul_assoc,Int.mul_comm (x w.a-x w.b)]
  ·rw[if_neg ha,Int.zero_add];refine sm_congr fun i _=>?_;rw[wf,if_neg ha,Int.zero_add]
theorem wf_all {p:List Nat} {x:Nat→Int} (hp:p.Nodup):∀{W:List Wn},(∀w∈W,w.a∈p↔w.b∈p)→sm (fun i=>wf p x W i) p=0
 |[],_=>sm_zero fun _ _=>rfl
 |w::W,h=>by
  rw[wf_cut hp,cutW,←wf_cut hp,wf_all hp fun w hw=>h w (by simp[hw])];have hw:=h w (by simp)
  by_cases ha:w.a∈p
  ·rw[if_pos ha,if_pos ha,if_pos (hw.1 ha)];simp
  ·rw[if_neg ha];rfl
section
variable {g:Gr} {s:Sta} {us us':Kvs} {p:List Nat} {vf:Nat→Fr} {d:Int} {n:Nat→Int}
theorem give_all (hnd:p.Nodup) {F:List Int} (hF:∀f∈F,(fdI g f).At.toNat∈p):sm (fun i=>fgi g n d F i) p=sF (fgv g n d) F:=by
 have gen:∀l:List Int,(∀f∈l,(fdI g f).At.toNat∈p)→sm (fun i=>fgi g n d l i) p=sF (fgv g n d) l:=by
  intro l
  induction l with
  |nil=>intro _;exact sm_zero fun _ _=>rfl
  | cons f l ih=>
   intro h;have e:sm (fun i=>fgi g n d (f::l) i) p=sm (fun i=>if (fdI g f).At.toNat=i then(fun _=>fgv g n d f) i else 0) p+sm (fun i=>fgi g n d l i) p:=by
    rw[←sm_add];exact sm_congr fun i _=>by unfold fgi;rw[sF_cons]
   rw[e,ih fun f hf=>h f (by simp[hf]),sm_only hnd (h f (by simp)),sF_cons]
 exact gen F hF
end
theorem cur_last {x:Int}:∀{l:List (Ld×Bool)} {c:Int},(∀q∈l,q.1.At≠x)→l.foldl (curS x) c=c
 |[],_,_=>rfl
 |q::l,c,h=>by
  have:curS x c q=c:=if_neg fun e=>h q (by simp) e.2;rw[List.foldl_cons,this];exact cur_last fun q hq=>h q (by simp[hq])
end Go.Cur
end
section
namespace Go.Cur
open Go.AM Go.Proofs
theorem fed_step {d den num S v:Int} {y:Fr} (hd:0<d) (h0:0<den) (hdd:den∣d) (hy0:0<y.Den) (hyd:y.Den∣d) (hn:num*(d/den)=S) (hv:y.Num*(d/y.Den)=v):
  0<den*(y.Den/Int.gcd den y.Den)∧den*(y.Den/Int.gcd den y.Den)∣d∧y.Den∣den*(y.Den/Int.gcd den y.Den)∧
  (num*(y.Den/Int.gcd den y.Den)+y.Num*(den*(y.Den/Int.gcd den y.Den)/y.Den))*(d/ (den*(y.Den/Int.gcd den y.Den)))=S+v:=by
 obtain⟨e0,e1,e2,e3⟩:=lcS_ok (f:=fun _=>y.Den) (k:=0) h0 hy0 hdd hyd;unfold lcS at e0 e1 e2 e3;simp only at e0 e1 e2 e3;refine⟨e0,e1,e3,?_⟩;generalize y.Den/ (Int.gcd den y.Den:Int)=by_ at*
 obtain⟨q,hq⟩:=e1;obtain⟨r,hr⟩:=e3;have q1:d/ (den*by_)=q:=by rw[hq];exact Int.mul_ediv_cancel_left _ (by omega)
 have q2:d/den=by_*q:=by rw[hq,Int.mul_assoc];exact Int.mul_ediv_cancel_left _ (by omega)
 have q3:den*by_/y.Den=r:=by rw[hr];exact Int.mul_ediv_cancel_left _ (by omega)
 have q4:d/y.Den=r*q:=by rw[hq,hr,Int.mul_assoc];exact Int.mul_ediv_cancel_left _ (by omega)
 rw[q1,q3,Int.add_mul,Int.mul_assoc num,Int.mul_assoc y.Num,←q2,←q4,hn,hv]
theorem fed_end {d den num U:Int} (hd:0<d) (h0:0<den) (hdd:den∣d) (h:num*(d/den)=U*d):num=U*den:=by
 obtain⟨q,hq⟩:=hdd;have hq0:0<q:=by
  refine Int.not_le.1 fun hn=>?_;have:=Int.mul_nonpos_of_nonneg_of_nonpos (Int.le_of_lt h0) hn;omega
 have e:d/den=q:=by rw[hq];exact Int.mul_ediv_cancel_left _ (by omega)
 rw[e,hq,←Int.mul_assoc]at h;exact Int.eq_of_mul_eq_mul_right (by omega) h
def ctk (l:List Ld) (sv:List Bool) (p:List Nat):Nat→Int
 |0=>0
 |k+1=>ctk l sv p k+if bAt sv k=true∧(ldA l k).At.toNat∈p then(ldA l k).Units else 0
theorem ctk_sum {g:Gr} {l:List Ld} {sv:List Bool} {p:List Nat} (h:LdOk g l) (hs:sv.length=l.length) (hp:p.Nodup):∀k,k≤l.length→ctk l sv p k=sm (fun x=>cur (l.take k) (sv.take k) x) p
 |0,_=>(sm_zero fun x _=>by simp[cur]).symm
 | k+1,hk=>by
  have hla:l[k]?=some (ldA l k):=ldA_get (by omega);have hsa:sv[k]?=some (bAt sv k):=bAt_get (by omega);have hat:=h.at_ _ (List.mem_of_getElem? hla);rw[ctk,ctk_sum h hs hp k (by omega)];have hz:cur (l.take k) (sv.take k) (ldA l k).At=0:=by
   unfold cur;refine cur_last fun q hq=>?_;have hq1:=(List.of_mem_zip hq).1;obtain⟨j,hj⟩:=List.getElem?_of_mem hq1;have hj2:=(List.getElem?_eq_some_iff.1 hj).1;rw[List.length_take]at hj2;rw[List.getElem?_take_of_lt (by omega)]at hj;intro hat;have:=h.one _ _ _ _ hj hla hat;omega
  have e:sm (fun x=>cur (l.take (k+1)) (sv.take (k+1)) x) p=sm (fun x=>cur (l.take k) (sv.take k) x) p+sm (fun x=>if (ldA l k).At.toNat=x then(fun _=>if bAt sv k=true then(ldA l k).Units else 0) x else 0) p:=by
   rw[←sm_add];refine sm_congr fun x _=>?_;rw[cur_snoc hla hsa];unfold curS;simp only
   by_cases hx:(ldA l k).At=(x:Int)
   ·have hx2:(ldA l k).At.toNat=x:=by omega
    rw[if_pos hx2,←hx,hz]
    by_cases hb:bAt sv k=true
    ·rw[if_pos ⟨hb,rfl⟩,if_pos hb];omega
    ·rw[if_neg fun h=>hb h.1,if_neg hb];omega
   ·have hx2:¬(ldA l k).At.toNat=x:=by omega
    rw[if_neg fun h=>hx h.2,if_neg hx2];omega
  rw[e]
  congr 1
  by_cases hm:(ldA l k).At.toNat∈p
  ·rw[sm_only hp hm]
   by_cases hb:bAt sv k=true
   ·rw[if_pos ⟨hb,hm⟩,if_pos hb]
   ·rw[if_neg fun h=>hb h.1,if_neg hb]
  ·rw[if_neg fun h=>hm h.2];exact(sm_zero fun x hx=>if_neg fun e=>hm (by rw[e];exact hx)).symm
theorem ctk_all {g:Gr} {l:List Ld} {sv:List Bool} {p:List Nat} (h:LdOk g l) (hs:sv.length=l.length) (hp:p.Nodup):ctk l sv p l.length=sumU (tkK l sv) p:=by
 rw[ctk_sum h hs hp _ (Nat.le_refl _),List.take_length,List.take_of_length_le (by omega)];unfold sumU;exact sm_congr fun x _=>(tkK_get l sv x).symm
def gvS (g:Gr) (s:Sta) (p:List Nat) (n:Nat→Int) (d:Int):Nat→Int
 |0=>0
 |k+1=>gvS g s p n d k+if bAt s.Feeds k=true∧(fdI g (k:Int)).At.toNat∈p then fgv g n d (k:Int)else 0
def fedS (g:Gr) (p:List Nat) (FS:Nat→Fr):Nat→Int×Int
 |0=>(0,1)
 | k+1=>
  if (fdI g (k:Int)).At.toNat∈p then
   ((fedS g p FS k).1*((FS k).Den/Int.gcd (fedS g p FS k).2 (FS k).Den)+(FS k).Num*((fedS g p FS k).2*((FS k).Den/Int.gcd (fedS g p FS k).2 (FS k).Den)/ (FS k).Den),
    (fedS g p FS k).2*((FS k).Den/Int.gcd (fedS g p FS k).2 (FS k).Den))
  else fedS g p FS k
section
variable {g:Gr} {s:Sta} {us:Kvs} {p:List Nat} {vf:Nat→Fr} {d:Int}
theorem ff_off {f:Nat} (h:¬bAt s.Feeds f=true):ffF g s vf f=⟨0,1⟩:=by unfold ffF;exact if_neg fun e=>h e.1
theorem fed_go (hnt:NetOk g s) (C:CmP g s us vf p d (cmN vf d)):∀k,k≤g.Feeds.length→0<(fedS g p (ffF g s vf) k).2∧(fedS g p (ffF g s vf) k).2∣d∧(fedS g p (ffF g s vf) k).1*(d/ (fedS g p (ffF g s vf) k).2)=gvS g s p (cmN vf d) d k
 |0,_=>⟨by show(0:Int)<1;decide,Int.one_dvd d,by simp[fedS,gvS]⟩
 | k+1,hk=>by
  obtain⟨h1,h2,h3⟩:=fed_go hnt C k (by omega);rw[fedS,gvS]
  by_cases hm:(fdI g (k:Int)).At.toNat∈p
  ·rw[if_pos hm]
   by_cases hb:bAt s.Feeds k=true
   ·have hg:g.Feeds[k]?=some (fdI g (k:Int)):=by have:=fdI_get (g:=g) (i:=(k:Int)) (by omega) (by omega);rwa [Int.toNat_natCast]at this
    have hfb:=hnt.feeds _ (List.mem_of_getElem? hg);obtain⟨a1,a2,a3⟩:=C.den _ hm;obtain⟨y0,y1,y2⟩:=ff_at (g:=g) (s:=s) (vf:=vf) (f:=k) (by omega) hb a1 C.d0 a3;obtain⟨e0,e1,-,e3⟩:=fed_step C.d0 h1 h2 y0 y1 h3 y2;rw[if_pos ⟨hb,hm⟩];exact⟨e0,e1,e3⟩
   ·obtain⟨e0,e1,-,e3⟩:=fed_step (y:=ffF g s vf k) (v:=0) C.d0 h1 h2 (by rw[ff_off hb];decide) (by rw[ff_off hb];exact Int.one_dvd d) h3 (by rw[ff_off hb];simp);rw[if_neg fun h=>hb h.1];exact⟨e0,e1,e3⟩
  ·rw[if_neg hm,if_neg fun h=>hm h.2];exact⟨h1,h2,by rw[h3];omega⟩
theorem fdOn_iff {k:Nat} (hnt:NetOk g s) (hk:k<g.Feeds.length):fdOn g s (upN p) (k:Int)=true↔bAt s.Feeds k=true∧(fdI g (k:Int)).At.toNat∈p:=by
 have hg:g.Feeds[k]?=some (fdI g (k:Int)):=by have:=fdI_get (g:=g) (i:=(k:Int)) (by omega) (by omega);rwa [Int.toNat_natCast]at this
 have hfb:=hnt.feeds _ (List.mem_of_getElem? hg);unfold fdOn;simp only[Int.toNat_natCast,Bool.and_eq_true,decide_eq_true_eq,upN_mem];exact⟨fun h=>⟨h.1,h.2.2⟩,fun h=>⟨h.1,by omega,h.2⟩⟩
theorem gv_go (hnt:NetOk g s) (n:Nat→Int):∀k,k≤g.Feeds.length→gvS g s p n d k=sF (fgv g n d) ((upI k).filter (fdOn g s (upN p)))
 |0,_=>rfl
 | k+1,hk=>by
  have e:upI (k+1)=upI k++[(k:Int)]:=by unfold upI;rw[List.range_succ,List.map_append];rfl
  rw[gvS,gv_go hnt n k (by omega),e,List.filter_append]
  by_cases h:bAt s.Feeds k=true∧(fdI g (k:Int)).At.toNat∈p
  ·have e2:[(k:Int)].filter (fdOn g s (upN p))=[(k:Int)]:=by rw[List.filter_cons,if_pos ((fdOn_iff hnt (by omega)).2 h)];rfl
   rw[if_pos h,e2];unfold sF;rw[List.foldl_append];rfl
  ·have e2:[(k:Int)].filter (fdOn g s (upN p))=[]:=by rw[List.filter_cons,if_neg fun e=>h ((fdOn_iff hnt (by omega)).1 e)];rfl
   rw[if_neg h,e2,List.append_nil,Int.add_zero]
theorem gv_all (hnt:NetOk g s) (n:Nat→Int):gvS g s p n d g.Feeds.length=sF (fgv g n d) (feedL g s (upN p)):=gv_go hnt n _ (Nat.le_refl _)
theorem fed_give {n:Nat→Int} (hnt:NetOk g s) (hp:p∈partL g s) (h5:p.length≤5) (C:CmP g s us vf p d n):sF (fgv g n d) (feedL g s (upN p))=sumU us p*d:=by
 have hnd:=part_nd hp;have hcl:=(partL_ok hnt hp (by omega)).cl;have h1:sm (fun i=>igt us i*d-fgi g n d (feedL g s (upN p)) i+wf p n (onW g.Wires s.Wires) i) p=0:=sm_zero fun i hi=>C.eq i hi;rw[sm_add,sm_sub,wf_all hnd hcl,give_all hnd fun f hf=>(feedL_mem hf).2.2.1]at h1;have h2:sm (fun i=>igt us i*d) p=sumU us p*d:=by
  unfold sumU;rw[Int.mul_comm,←sm_smul];exact sm_congr fun i _=>Int.mul_comm _ _
 rw[h2]at h1;omega
theorem fed_sum (hnt:NetOk g s) (hp:p∈partL g s) (h5:p.length≤5) (C:CmP g s us vf p d (cmN vf d)):(fedS g p (ffF g s vf) g.Feeds.length).1=sumU us p*(fedS g p (ffF g s vf) g.Feeds.length).2:=by
 obtain⟨h1,h2,h3⟩:=fed_go hnt C _ (Nat.le_refl _);rw[gv_all hnt,fed_give hnt hp h5 C]at h3;exact fed_end C.d0 h1 h2 h3
theorem gvS_bd {n:Nat→Int} (hnt:NetOk g s) (hd:0<d) (hd1:d≤2000000000) (hn:∀k∈p,(n k).natAbs≤7000000000000):∀k,k≤g.Feeds.length→0≤gvS g s p n d k∧gvS g s p n d k≤36000000000000*(k:Int)
 |0,_=>by simp[gvS]
 |k+1,hk=>by
  obtain⟨h1,h2⟩:=gvS_bd hnt hd hd1 hn k (by omega);have hg:g.Feeds[k]?=some (fdI g (k:Int)):=by have:=fdI_get (g:=g) (i:=(k:Int)) (by omega) (by omega);rwa [Int.toNat_natCast]at this
  have hfb:=hnt.feeds _ (List.mem_of_getElem? hg);rw[gvS]
  by_cases h:bAt s.Feeds k=true∧(fdI g (k:Int)).At.toNat∈p
  ·have:=fgv_bd (g:=g) (d:=d) (n:=n) (f:=(k:Int)) (by omega) hd hd1 (hn _ h.2);rw[if_pos h];omega
  ·rw[if_neg h];omega
theorem fed_num {num e S:Int} (hd:0<d) (he:0<e) (hed:e∣d) (hn:num*(d/e)=S) (hS:0≤S):0≤num∧num≤S∧e≤d:=by
 have hle:=Int.le_of_dvd hd hed;obtain⟨q,hq⟩:=hed;have hq0:0<q:=by
  refine Int.not_le.1 fun hn=>?_;have:=Int.mul_nonpos_of_nonneg_of_nonpos (Int.le_of_lt he) hn;omega
 have e1:d/e=q:=by rw[hq];exact Int.mul_ediv_cancel_left _ (by omega)
 rw[e1]at hn;have h0:0≤num:=by
  refine Int.not_lt.1 fun h=>?_;have:=Int.mul_neg_of_neg_of_pos h hq0;omega
 have h1:=Int.mul_le_mul_of_nonneg_left (show(1:Int)≤q by omega) h0;exact⟨h0,by omega,hle⟩
structure FedP (g:Gr) (p:List Nat) (FS:Nat→Fr) (U:Int):Prop where
 den:∀k,k≤g.Feeds.length→0<(fedS g p FS k).2∧(fedS g p FS k).2≤2000000000
 num:∀k,k≤g.Feeds.length→0≤(fedS g p FS k).1∧(fedS g p FS k).1≤36000000000000*(k:Int)
 fin:(fedS g p FS g.Feeds.length).1=U*(fedS g p FS g.Feeds.length).2
theorem fed_part (hnt:NetOk g s) (hp:p∈partL g s) (h5:p.length≤5) (C:CmP g s us vf p d (cmN vf d)):FedP g p (ffF g s vf) (sumU us p):=by
 refine⟨fun k hk=>?_,fun k hk=>?_,fed_sum hnt hp h5 C⟩
 ·obtain⟨h1,h2,h3⟩:=fed_go hnt C k hk;have:=Int.le_of_dvd C.d0 h2;have:=C.d1;exact⟨h1,by omega⟩
 ·obtain⟨h1,h2,h3⟩:=fed_go hnt C k hk;have hb:=gvS_bd (n:=cmN vf d) hnt C.d0 C.d1 C.nb k hk;have:=fed_num C.d0 h1 h2 h3 hb.1;omega
theorem fed_ex (g:Gr) (s:Sta) (l:List Ld) (hl:l.length≤50) (hf:fineB g s l=true) (hlo:longB g s=false) (h5:∀p∈partL g s,p.length≤5):∃(vs:List Fr) (FS:Nat→Fr) (sv fe:List Bool) (cu:List Cu),
  PureCall Try.prog 10 [g.av,s.av,lL l] (.tup [.agg [fL vs,fL ((List.range g.Feeds.length).map FS),bL fe,bL s.Wires,bL sv,cL cu],I 0])∧
  vs.length=g.Nodes.toNat∧sv.length=l.length∧fe.length=g.Feeds.length∧
  (∀i,i<g.Feeds.length→0<(FS i).Den∧(FS i).Den≤2000000000∧0≤(FS i).Num∧(FS i).Num≤40000000000000∧(FS i).Num≤(fdI g (i:Int)).Limit*(FS i).Den)∧
  (∀(k:Nat) y,l[k]?=some y→∃v,vs[y.At.toNat]?=some v∧0<v.Den∧v.Den≤2000000000∧(bAt sv k=true→0<y.Units→g.Least*v.Den≤v.Num))∧
  (∀p∈partL g s,p.Nodup∧FedP g p FS (ctk l sv p l.length))∧fineB g ⟨fe,s.Wires⟩ []=true:=by
 have hset:=set_ok hf (by omega) h5;have hnt:=fine_net hf;obtain⟨Z,hZ⟩:∃Z,settleS g s.Wires l s.Feeds=Z:=⟨_,rfl⟩;have hz0:=z0_ok hset hnt.sf;have hzo:ZOk g s.Wires l Z:=by rw[←hZ];exact settle_ok hset hz0
 have hend:stepZ g s.Wires l Z=none:=by rw[←hZ];exact settle_end hset hz0 (Nat.le_refl _)
 obtain⟨e1,e2,e3,e4⟩:=step_none hend;have hntZ:=hset.net hzo;have hok:=okZ hset hzo e1 e2;have h5Z:=hset.p5' Z.fe;have hvt:=fun k (hk:k<g.Nodes.toNat)=>vf_tight hntZ h5Z (tk_bd hset.ld Z.sv) hok hk;refine⟨_,ffF g ⟨Z.fe,s.Wires⟩ (vfZ g s.Wires l Z),_,_,_,c_Settle_t g s l hf hlo hset Z hZ,by simp[stlS,vlA],hzo.sv,hzo.fe,fun i hi=>?_,fun k y hy=>?_,fun p hp=>?_,fine_fe (l':=[]) hf hzo.fe ⟨by simp,by simp,by simp,by simp⟩⟩
 ·have hft:=ff_tight hntZ hvt hi;have ht:=end_trip hset e4 hi;refine⟨by have:=hft.2.2.1;exact this,hft.2.2.2.1,hft.1,hft.2.1,?_⟩;have e:fdA g i=fdI g (i:Int):=by first|rfl|simp[fdA]
  rw[←e];exact ht
 ·have hk:=(List.getElem?_eq_some_iff.1 hy).1;have hla:ldA l k=y:=by have:=ldA_get hk;rw[hy]at this;exact(Option.some.inj this).symm
  have hat:=hset.ld.at_ y (List.mem_of_getElem? hy);have hkn:y.At.toNat<g.Nodes.toNat:=by omega
  refine⟨vfZ g s.Wires l Z y.At.toNat,vlA_get hkn,(hvt _ hkn).1,(hvt _ hkn).2.1,fun hb hu=>?_⟩;have:=end_low hset hzo e3 hk;change bAt Z.sv k=true at hb;unfold lowC at this;rw[hb,hla,decide_eq_true hu,Bool.true_and,Bool.true_and,decide_eq_false_iff_not]at this;omega
 ·have hok1:(pvol g ⟨Z.fe,s.Wires⟩ (tkK l Z.sv) p).2.2=true:=by unfold okS at hok;rw[List.all_eq_true]at hok;exact hok p hp
  have hpZ:p∈partL g ⟨Z.fe,s.Wires⟩:=hp;have hnd:=part_nd hpZ;refine⟨hnd,?_⟩;change FedP g p _ (ctk l Z.sv p l.length);rw[ctk_all hset.ld hzo.sv hnd];exact fed_part hntZ hpZ (h5 p hp) (cm_part hntZ hpZ (h5 p hp) (tk_bd hset.ld Z.sv) hok1)
end
end Go.Cur
end
section
namespace Go.Mo
open Go.AM Go.Cur Go.Proofs
theorem tdiv_bd {a b B:Int} (h0:0≤a) (hb:0<b) (h:a≤B):0≤a.tdiv b∧a.tdiv b≤B:=by
 rw[Int.tdiv_eq_ediv_of_nonneg h0];exact⟨Int.ediv_nonneg h0 (Int.le_of_lt hb),Int.le_trans (Int.ediv_le_self b h0) h⟩
def mnI (a b:Int):Int:=if b<a then b else a
theorem mnI_bd {a b:Int} (ha:0≤a) (hb:0≤b):0≤mnI a b∧mnI a b≤a:=by unfold mnI;split<;>omega
def spd (t:Tn) (x:Ms):Int:=x.P.tdiv t.Mass
structure MsB (t:Tn) (x:Ms):Prop where
 p:0≤x.P∧x.P≤25000*t.Mass
 w:0≤x.W∧x.W≤1000000000000000000
theorem spd_bd {t:Tn} {st:Int} {x:Ms} (hb:TnB t st) (hx:MsB t x):0≤spd t x∧spd t x≤25000:=by
 have hm:=hb.ma;unfold spd;rw[Int.tdiv_eq_ediv_of_nonneg hx.p.1];exact⟨Int.ediv_nonneg hx.p.1 (by omega),Int.ediv_le_of_le_mul (by omega) hx.p.2⟩
theorem c_speed (t:Tn) (st:Int) (x:Ms) (hb:TnB t st) (hx:MsB t x):PureCall Try.prog 38 [t.mp st,x.av] (I (spd t x)):=by
 have hs:=spd_bd hb hx;have hm:=hb.ma;unfold spd at hs ⊢;have w:IntKind.i64.wrap (x.P.tdiv t.Mass)=x.P.tdiv t.Mass:=wrap_in (by omega) (by omega);have h0:¬t.Mass=0:=by omega
 refine PureCall.of_body Try.func38 rfl (by decide) (by simp[Try.ntmps38]) ?_;simp only[Try.ntmps38,Try.results38];refine aS fun K hK=>?_;simp -dsimp;apply hK;clear hK K;refine awp_sd mixed rfl fun K hK=>?_;simp -dsimp [w,h0];refine hK _ _ _ (by decide+kernel) ?_;clear hK K;exact awp_ret (by simp)
def pullF (t:Tn) (st v d:Int):Int:=if d≤0 then 0 else if 0<v then mnI (mnI ((t.Effort*d).tdiv 4) (adh t st)) ((1000*t.Power).tdiv v)else mnI ((t.Effort*d).tdiv 4) (adh t st)
def brakeF (t:Tn) (st v d:Int):Int:=if 0≤d then 0 else mnI ((t.Brake* -d).tdiv 4) (adh t st)
def dragF (t:Tn) (v:Int):Int:=t.Resist+(t.Rise*v).tdiv 1000
def hillF (t:Tn) (sl:Int):Int:=(t.Mass*sl*981).tdiv 100000
theorem mul4 {x d:Int} (h0:0≤x) (h1:x≤200000) (d0:0≤d) (d1:d≤4):0≤x*d∧x*d≤800000:=by
 rcases(by omega:d=0∨d=1∨d=2∨d=3∨d=4)with h|h|h|h|h<;>rw[h]<;>omega
theorem pull_bd {t:Tn} {st v d:Int} (hb:TnB t st) (hv:0≤v) (h0:-4≤d) (h1:d≤4):0≤pullF t st v d∧pullF t st v d≤200000:=by
 have ha:=adh_bd hb;unfold pullF
 split
 ·omega
 ·have hm:=mul4 (x:=t.Effort) (d:=d) (by have:=hb.ef;omega) (by have:=hb.ef;omega) (by omega) h1;have hq:(t.Effort*d).tdiv 4≤200000∧0≤(t.Effort*d).tdiv 4:=by rw[Int.tdiv_eq_ediv_of_nonneg hm.1];omega
  split
  ·have hp:=tdiv_bd (a:=1000*t.Power) (b:=v) (B:=2000000000) (by have:=hb.po;omega) (by omega) (by have:=hb.po;omega);have m1:=mnI_bd (a:=(t.Effort*d).tdiv 4) (b:=adh t st) hq.2 ha.1;have m2:=mnI_bd m1.1 hp.1;omega
  ·have m1:=mnI_bd (a:=(t.Effort*d).tdiv 4) (b:=adh t st) hq.2 ha.1;omega
theorem brake_bd {t:Tn} {st v d:Int} (hb:TnB t st) (h0:-4≤d) (h1:d≤4):0≤brakeF t st v d∧brakeF t st v d≤200000:=by
 have ha:=adh_bd hb;unfold brakeF
 split
 ·omega
 ·have hm:=mul4 (x:=t.Brake) (d:=-d) (by have:=hb.br;omega) (by have:=hb.br;omega) (by omega) (by omega);have hq:(t.Brake* -d).tdiv 4≤200000∧0≤(t.Brake* -d).tdiv 4:=by rw[Int.tdiv_eq_ediv_of_nonneg hm.1];omega
  have m1:=mnI_bd (a:=(t.Brake* -d).tdiv 4) (b:=adh t st) hq.2 ha.1;omega
theorem rise_bd {t:Tn} {st v:Int} (hb:TnB t st) (h0:0≤v) (h1:v≤25000):0≤t.Rise*v∧t.Rise*v≤250000000:=by
 have hr:=hb.ri;exact⟨Int.mul_nonneg hr.1 h0,by have:=Int.mul_le_mul hr.2 h1 h0 (by omega);omega⟩
theorem drag_bd {t:Tn} {st v:Int} (hb:TnB t st) (h0:0≤v) (h1:v≤25000):0≤dragF t v∧dragF t v≤350000:=by
 have hr:=rise_bd hb h0 h1;have hs:=hb.re;unfold dragF;rw[Int.tdiv_eq_ediv_of_nonneg hr.1];omega
theorem slope_bd {t:Tn} {st sl:Int} (hb:TnB t st) (h0:-120≤sl) (h1:sl≤120):-9600000≤t.Mass*sl∧t.Mass*sl≤9600000:=by
 have hm:=hb.ma;have a1:=Int.mul_le_mul_of_nonneg_left h1 (show 0≤t.Mass by omega);have a2:=Int.mul_le_mul_of_nonneg_left h0 (show 0≤t.Mass by omega);omega
theorem hill_bd {t:Tn} {st sl:Int} (hb:TnB t st) (h0:-120≤sl) (h1:sl≤120):-100000≤hillF t sl∧hillF t sl≤100000:=by
 have hs:=slope_bd hb h0 h1;unfold hillF;generalize t.Mass*sl=m at hs ⊢
 rcases Int.le_total 0 m with h|h
 ·rw[Int.tdiv_eq_ediv_of_nonneg (by omega)];omega
 ·have e:m*981=-(-m*981):=by omega
  rw[e,Int.neg_tdiv,Int.tdiv_eq_ediv_of_nonneg (by omega)];omega
theorem c_pull (t:Tn) (st v d sl:Int) (hb:TnB t st) (v0:0≤v) (v1:v≤25000) (d0:-4≤d) (d1:d≤4):PureCall Try.prog 59 [t.mp st,I v,I d,I sl] (I (pullF t st v d)):=by
 have ha:=adh_bd hb;have hca:=c_adhesion t st hb;have hp0:=hb.po
 by_cases hd:d≤0
 ·refine PureCall.of_body Try.func59 rfl (by decide) (by simp[Try.ntmps59]) ?_;simp only[Try.ntmps59,Try.results59];refine aS fun K hK=>?_;simp -dsimp;apply hK;clear hK K;refine awp_seq_k fun K1 hK1=>?_;refine aS fun K hK=>?_;simp -dsimp;apply hK;clear hK K;refine awp_cond rfl (fun hc0=>?_) (fun hc0=>?_)
  ·refine aS fun K hK=>?_;simp -dsimp;apply hK;clear hK K;exact awp_ret (by simp[pullF,hd])
  ·simp[hd]at hc0
 ·have hm:=mul4 (x:=t.Effort) (d:=d) (by have:=hb.ef;omega) (by have:=hb.ef;omega) (by omega) d1;have hq:(t.Effort*d).tdiv 4≤200000∧0≤(t.Effort*d).tdiv 4:=by rw[Int.tdiv_eq_ediv_of_nonneg hm.1];omega
  have w1:IntKind.i64.wrap (t.Effort*d)=t.Effort*d:=wrap_in (by omega) (by omega);have w2:IntKind.i64.wrap ((t.Effort*d).tdiv 4)=(t.Effort*d).tdiv 4:=wrap_in (by omega) (by omega);have w3:IntKind.i64.wrap (1000*t.Power)=1000*t.Power:=wrap_in (by omega) (by omega);refine PureCall.of_body Try.func59 rfl (by decide) (by simp[Try.ntmps59]) ?_;simp only[Try.ntmps59,Try.results59];refine aS fun K hK=>?_;simp -dsimp;apply hK;clear hK K;refine awp_seq_k fun K1 hK1=>?_;refine aS fun K hK=>?_;simp -dsimp;apply hK;clear hK K;refine awp_cond rfl (fun hc0=>?_) (fun hc0=>?_)
  ·simp[hd]at hc0
  ·refine awp_skip ?_;simp only[zT,reduceIte,Nat.reduceEqDiff];refine hK1 _ _ ?_;refine awp_prune [0,1,2] ?_;simp only[zP,Nat.reduceEqDiff,reduceIte];refine awp_sd mixed rfl fun K hK=>?_;simp -dsimp [w1,w2];refine callK_intro _ (hca) (by simp) ?_;simp -dsimp [w1,w2];refine hK _ _ _ (by decide+kernel) ?_;clear hK K;refine awp_seq_k fun K2 hK2=>?_;refine aS fun K hK=>?_;simp -dsimp;apply hK;clear hK K;refine awp_cond rfl (fun hc1=>?_) (fun hc1=>?_)
   ·have hv:0<v:=by simpa using hc1
    have hp:=tdiv_bd (a:=1000*t.Power) (b:=v) (B:=2000000000) (by omega) hv (by omega);have w4:IntKind.i64.wrap ((1000*t.Power).tdiv v)=(1000*t.Power).tdiv v:=wrap_in (by omega) (by omega);have h0:¬v=0:=by omega
    refine aR fun K hK=>?_;simp -dsimp [w3,w4,h0];apply hK;clear hK K;simp only[zT,reduceIte,Nat.reduceEqDiff];refine hK2 _ _ ?_;refine awp_prune [9] ?_;simp only[zP,Nat.reduceEqDiff,reduceIte];refine aS fun K hK=>?_;simp -dsimp;apply hK;clear hK K;exact awp_ret (by simp[pullF,hd,hv,mnI]<;>congr)
   ·have hv:¬0<v:=by simpa using hc1
    refine awp_skip ?_;simp only[zT,reduceIte,Nat.reduceEqDiff];refine hK2 _ _ ?_;refine awp_prune [9] ?_;simp only[zP,Nat.reduceEqDiff,reduceIte];refine aS fun K hK=>?_;simp -dsimp;apply hK;clear hK K;exact awp_ret (by simp[pullF,hd,hv,mnI]<;>congr)
theorem c_brake (t:Tn) (st v d sl:Int) (hb:TnB t st) (d0:-4≤d) (d1:d≤4):PureCall Try.prog 60 [t.mp st,I v,I d,I sl] (I (brakeF t st v d)):=by
 have ha:=adh_bd hb;have hca:=c_adhesion t st hb
 by_cases hd:0≤d
 ·refine PureCall.of_body Try.func60 rfl (by decide) (by simp[Try.ntmps60]) ?_;simp only[Try.ntmps60,Try.results60];refine aS fun K hK=>?_;simp -dsimp;apply hK;clear hK K;refine awp_seq_k fun K1 hK1=>?_;refine aS fun K hK=>?_;simp -dsimp;apply hK;clear hK K;refine awp_cond rfl (fun hc0=>?_) (fun hc0=>?_)
  ·refine aS fun K hK=>?_;simp -dsimp;apply hK;clear hK K;exact awp_ret (by simp[brakeF,hd])
  ·simp[hd]at hc0
 ·have hm:=mul4 (x:=t.Brake) (d:=-d) (by have:=hb.br;omega) (by have:=hb.br;omega) (by omega) (by omega);have hq:(t.Brake* -d).tdiv 4≤200000∧0≤(t.Brake* -d).tdiv 4:=by rw[Int.tdiv_eq_ediv_of_nonneg hm.1];omega
  have w0:IntKind.i64.wrap (-d)=-d:=wrap_in (by omega) (by omega);have w1:IntKind.i64.wrap (t.Brake* -d)=t.Brake* -d:=wrap_in (by omega) (by omega);have w2:IntKind.i64.wrap ((t.Brake* -d).tdiv 4)=(t.Brake* -d).tdiv 4:=wrap_in (by omega) (by omega);refine PureCall.of_body Try.func60 rfl (by decide) (by simp[Try.ntmps60]) ?_;simp only[Try.ntmps60,Try.results60];refine aS fun K hK=>?_;simp -dsimp;apply hK;clear hK K;refine awp_seq_k fun K1 hK1=>?_;refine aS fun K hK=>?_;simp -dsimp;apply hK;clear hK K;refine awp_cond rfl (fun hc0=>?_) (fun hc0=>?_)
  ·simp[hd]at hc0
  ·refine awp_skip ?_;simp only[zT,reduceIte,Nat.reduceEqDiff];refine hK1 _ _ ?_;refine awp_prune [0,2] ?_;simp only[zP,Nat.reduceEqDiff,reduceIte];refine awp_sd mixed rfl fun K hK=>?_;simp -dsimp [w0,w1,w2];refine callK_intro _ (hca) (by simp) ?_;simp -dsimp [w0,w1,w2];refine hK _ _ _ (by decide+kernel) ?_;clear hK K;exact awp_ret (by simp[brakeF,hd,mnI])
theorem c_drag (t:Tn) (st v d sl:Int) (hb:TnB t st) (v0:0≤v) (v1:v≤25000):PureCall Try.prog 61 [t.mp st,I v,I d,I sl] (I (dragF t v)):=by
 have hr:=rise_bd hb v0 v1;have hd:=drag_bd hb v0 v1;unfold dragF at hd ⊢;have hs:=hb.re;have w1:IntKind.i64.wrap (t.Rise*v)=t.Rise*v:=wrap_in (by omega) (by omega);have w2:IntKind.i64.wrap ((t.Rise*v).tdiv 1000)=(t.Rise*v).tdiv 1000:=wrap_in (by omega) (by omega);have w3:IntKind.i64.wrap (t.Resist+(t.Rise*v).tdiv 1000)=t.Resist+(t.Rise*v).tdiv 1000:=wrap_in (by omega) (by omega);refine PureCall.of_body Try.func61 rfl (by decide) (by simp[Try.ntmps61]) ?_;simp only[Try.ntmps61,Try.results61];refine aS fun K hK=>?_;simp -dsimp;apply hK;clear hK K;refine awp_sd mixed rfl fun K hK=>?_;simp -dsimp [w1,w2,w3];refine hK _ _ _ (by decide+kernel) ?_;clear hK K;exact awp_ret (by simp)
theorem c_hill (t:Tn) (st v d sl:Int) (hb:TnB t st) (s0:-120≤sl) (s1:sl≤120):PureCall Try.prog 62 [t.mp st,I v,I d,I sl] (I (hillF t sl)):=by
 have hs:=slope_bd hb s0 s1;have hh:=hill_bd hb s0 s1;unfold hillF at hh ⊢;have w1:IntKind.i64.wrap (t.Mass*sl)=t.Mass*sl:=wrap_in (by omega) (by omega);have w2:IntKind.i64.wrap (t.Mass*sl*981)=t.Mass*sl*981:=wrap_in (by omega) (by omega);have w3:IntKind.i64.wrap ((t.Mass*sl*981).tdiv 100000)=(t.Mass*sl*981).tdiv 100000:=wrap_in (by omega) (by omega);refine PureCall.of_body Try.func62 rfl (by decide) (by simp[Try.ntmps62]) ?_;simp only[Try.ntmps62,Try.results62];refine aS fun K hK=>?_;simp -dsimp;apply hK;clear hK K;refine aS fun K hK=>?_;simp -dsimp [w1,w2,w3];apply hK;clear hK K;exact awp_ret (by simp)
end Go.Mo
end
section
namespace Go.Mo
open Go.AM Go.Cur Go.Proofs
theorem c_all (t:Tn) (st v d sl:Int) (hb:TnB t st) (v0:0≤v) (v1:v≤25000) (d0:-4≤d) (d1:d≤4) (s0:-120≤sl) (s1:sl≤120):PureCall Try.prog 37 [t.mp st,I v,I d,I sl] (.agg [I (pullF t st v d),I (brakeF t st v d),I (dragF t v),I (hillF t sl)]):=by
 have h1:=c_pull t st v d sl hb v0 v1 d0 d1;have h2:=c_brake t st v d sl hb d0 d1;have h3:=c_drag t st v d sl hb v0 v1;have h4:=c_hill t st v d sl hb s0 s1;generalize pullF t st v d=f1 at h1 ⊢;generalize brakeF t st v d=f2 at h2 ⊢;generalize dragF t v=f3 at h3 ⊢;generalize hillF t sl=f4 at h4 ⊢;have w1:IntKind.i64.wrap 1=1:=rfl;have w2:IntKind.i64.wrap 2=2:=rfl;have w3:IntKind.i64.wrap 3=3:=rfl;have w4:IntKind.i64.wrap 4=4:=rfl;refine PureCall.of_body Try.func37 rfl (by decide) (by simp[Try.ntmps37]) ?_;simp only[Try.ntmps37,Try.results37];refine aS fun K hK=>?_;simp -dsimp;apply hK;clear hK K;refine aS fun K hK=>?_;simp -dsimp;apply hK;clear hK K;refine awp_seq_k fun K1 hK1=>?_;refine aS fun K hK=>?_;simp -dsimp;apply hK;clear hK K;refine awp_block ?_;refine awp_prune [1,2,3,8,9,20,21] ?_;simp only[zP,Nat.reduceEqDiff,reduceIte];refine awp_loop_l [1,2,3,8,9,20] (α:=Nat) (fun k=>[(21,I k)]) (fun k=>[some (.els 4 [[I 0,I 0,I 0,I 0]]),some (.els 4 [[I (if 0<k then f1 else 0),I (if 1<k then f2 else 0),I (if 2<k then f3 else 0),I (if 3<k then f4 else 0)]])]) (fun k=>k≤4) (fun k=>4-k) 0 ?_ ?_ ?_
 ·exact Nat.zero_le _
 ·exact sub_rb [some 0,some 1] rfl (by simp) (by simp)
 rintro k k1
 rcases(by omega:k=0∨k=1∨k=2∨k=3∨k=4)with rfl|rfl|rfl|rfl|rfl
 ·simp only[zP,Nat.reduceEqDiff,reduceIte];refine aS fun K hK=>?_;simp -dsimp;apply hK;clear hK K;refine awp_seq_k fun K2 hK2=>?_;refine awp_cond rfl (fun hc0=>?_) (fun hc0=>?_)
  ·refine awp_skip ?_;simp only[zT,reduceIte,Nat.reduceEqDiff];refine hK2 _ _ ?_;refine awp_prune [1,2,3,8,9,20,21] ?_;simp only[zP,Nat.reduceEqDiff,reduceIte];refine awp_seq_k fun K3 hK3=>?_;refine awp_block ?_;refine aS fun K hK=>?_;simp -dsimp;apply hK;clear hK K;refine aR fun K hK=>?_;simp -dsimp;refine callK_intro _ (h1) (by simp) ?_;simp -dsimp;apply hK;clear hK K;simp only[zT,reduceIte,Nat.reduceEqDiff];refine hK3 _ _ ?_;refine awp_prune [1,2,3,8,9,20,21] ?_;simp only[zP,Nat.reduceEqDiff,reduceIte];refine aR fun K hK=>?_;simp -dsimp [w1,w2,w3,w4];apply hK;clear hK K;simp only[zT,reduceIte,Nat.reduceEqDiff];exact⟨1,by omega,by omega,sub_rb [some 0,some 1] rfl (by simp[w1,w2,w3,w4]) (by simp)⟩
  ·simp at hc0
 ·simp only[zP,Nat.reduceEqDiff,reduceIte];refine aS fun K hK=>?_;simp -dsimp;apply hK;clear hK K;refine awp_seq_k fun K4 hK4=>?_;refine awp_cond rfl (fun hc0=>?_) (fun hc0=>?_)
  ·refine awp_skip ?_;simp only[zT,reduceIte,Nat.reduceEqDiff];refine hK4 _ _ ?_;refine awp_prune [1,2,3,8,9,20,21] ?_;simp only[zP,Nat.reduceEqDiff,reduceIte];refine awp_seq_k fun K5 hK5=>?_;refine awp_block ?_;refine aS fun K hK=>?_;simp -dsimp;apply hK;clear hK K;refine aR fun K hK=>?_;simp -dsimp;refine callK_intro _ (h2) (by simp) ?_;simp -dsimp;apply hK;clear hK K;simp only[zT,reduceIte,Nat.reduceEqDiff];refine hK5 _ _ ?_;refine awp_prune [1,2,3,8,9,20,21] ?_;simp only[zP,Nat.reduceEqDiff,reduceIte];refine aR fun K hK=>?_;simp -dsimp [w1,w2,w3,w4];apply hK;clear hK K;simp only[zT,reduceIte,Nat.reduceEqDiff];exact⟨2,by omega,by omega,sub_rb [some 0,some 1] rfl (by simp[w1,w2,w3,w4]) (by simp)⟩
  ·simp at hc0
 ·simp only[zP,Nat.reduceEqDiff,reduceIte];refine aS fun K hK=>?_;simp -dsimp;apply hK;clear hK K;refine awp_seq_k fun K6 hK6=>?_;refine awp_cond rfl (fun hc0=>?_) (fun hc0=>?_)
  ·refine awp_skip ?_;simp only[zT,reduceIte,Nat.reduceEqDiff];refine hK6 _ _ ?_;refine awp_prune [1,2,3,8,9,20,21] ?_;simp only[zP,Nat.reduceEqDiff,reduceIte];refine awp_seq_k fun K7 hK7=>?_;refine awp_block ?_;refine aS fun K hK=>?_;simp -dsimp;apply hK;clear hK K;refine aR fun K hK=>?_;simp -dsimp;refine callK_intro _ (h3) (by simp) ?_;simp -dsimp;apply hK;clear hK K;simp only[zT,reduceIte,Nat.reduceEqDiff];refine hK7 _ _ ?_;refine awp_prune [1,2,3,8,9,20,21] ?_;simp only[zP,Nat.reduceEqDiff,reduceIte];refine aR fun K hK=>?_;simp -dsimp [w1,w2,w3,w4];apply hK;clear hK K;simp only[zT,reduceIte,Nat.reduceEqDiff];exact⟨3,by omega,by omega,sub_rb [some 0,some 1] rfl (by simp[w1,w2,w3,w4]) (by simp)⟩
  ·simp at hc0
 ·simp only[zP,Nat.reduceEqDiff,reduceIte];refine aS fun K hK=>?_;simp -dsimp;apply hK;clear hK K;refine awp_seq_k fun K8 hK8=>?_;refine awp_cond rfl (fun hc0=>?_) (fun hc0=>?_)
  ·refine awp_skip ?_;simp only[zT,reduceIte,Nat.reduceEqDiff];refine hK8 _ _ ?_;refine awp_prune [1,2,3,8,9,20,21] ?_;simp only[zP,Nat.reduceEqDiff,reduceIte];refine awp_seq_k fun K9 hK9=>?_;refine awp_block ?_;refine aS fun K hK=>?_;simp -dsimp;apply hK;clear hK K;refine aR fun K hK=>?_;simp -dsimp;refine callK_intro _ (h4) (by simp) ?_;simp -dsimp;apply hK;clear hK K;simp only[zT,reduceIte,Nat.reduceEqDiff];refine hK9 _ _ ?_;refine awp_prune [1,2,3,8,9,20,21] ?_;simp only[zP,Nat.reduceEqDiff,reduceIte];refine aR fun K hK=>?_;simp -dsimp [w1,w2,w3,w4];apply hK;clear hK K;simp only[zT,reduceIte,Nat.reduceEqDiff];exact⟨4,by omega,by omega,sub_rb [some 0,some 1] rfl (by simp[w1,w2,w3,w4]) (by simp)⟩
  ·simp at hc0
 ·simp only[zP,Nat.reduceEqDiff,reduceIte];refine aS fun K hK=>?_;simp -dsimp;apply hK;clear hK K;refine awp_seq_k fun K10 hK10=>?_;refine awp_cond rfl (fun hc0=>?_) (fun hc0=>?_)
  ·simp at hc0
  ·refine awp_exit ?_;simp only[zT,reduceIte,Nat.reduceEqDiff];refine hK1 _ _ ?_;refine awp_prune [8,9] ?_;simp only[zP,Nat.reduceEqDiff,reduceIte];refine aS fun K hK=>?_;simp -dsimp;apply hK;clear hK K;exact awp_ret (by simp)
structure Ask (t:Tn) (st:Int) (x:Ms) (d sl:Int):Prop where
 b:TnB t st
 x:MsB t x
 d:-4≤d∧d≤4
 s:-120≤sl∧sl≤120
def sumF (t:Tn) (st:Int) (x:Ms) (d sl:Int):Int:=pullF t st (spd t x) d-brakeF t st (spd t x) d-dragF t (spd t x)-hillF t sl
def stops (t:Tn) (st:Int) (x:Ms) (d sl:Int):Bool:=decide (x.P+100*sumF t st x d sl<0)||(decide (x.P=0)&&decide (sumF t st x d sl≤0))
def nextP (t:Tn) (st:Int) (x:Ms) (d sl:Int):Int:=if stops t st x d sl=true then 0 else x.P+100*sumF t st x d sl
def tookF (t:Tn) (st:Int) (x:Ms) (d sl:Int):Int:=(pullF t st (spd t x) d*nextP t st x d sl+1000*t.Mass-1).tdiv (1000*t.Mass)
def gaveF (t:Tn) (st:Int) (x:Ms) (d sl:Int):Int:=(brakeF t st (spd t x) d*nextP t st x d sl*t.Back).tdiv (100000*t.Mass)
def stepC (t:Tn) (st:Int) (x:Ms) (d sl:Int):List AV:=
 [I (nextP t st x d sl),I (x.W+nextP t st x d sl),
  I (200*pullF t st (spd t x) d*nextP t st x d sl),I (200*brakeF t st (spd t x) d*nextP t st x d sl),I (200*dragF t (spd t x)*nextP t st x d sl),I (200*hillF t sl*nextP t st x d sl),
  I (if stops t st x d sl=true then 0 else 10000*sumF t st x d sl*sumF t st x d sl),I (if stops t st x d sl=true then x.P*x.P else 0),I (tookF t st x d sl),I (gaveF t st x d sl)]
theorem mul_bd' {a b:Int} {A B:Nat} (ha:a.natAbs≤A) (hb:b.natAbs≤B):(a*b).natAbs≤A*B:=by
 rw[Int.natAbs_mul];exact Nat.mul_le_mul ha hb
theorem sum_bd {t:Tn} {st:Int} {x:Ms} {d sl:Int} (h:Ask t st x d sl):(sumF t st x d sl).natAbs≤1000000:=by
 have hv:=spd_bd h.b h.x;have h1:=pull_bd (v:=spd t x) h.b hv.1 h.d.1 h.d.2;have h2:=brake_bd (v:=spd t x) h.b h.d.1 h.d.2;have h3:=drag_bd h.b hv.1 hv.2;have h4:=hill_bd h.b h.s.1 h.s.2;unfold sumF;omega
theorem next_bd {t:Tn} {st:Int} {x:Ms} {d sl:Int} (h:Ask t st x d sl):0≤nextP t st x d sl∧nextP t st x d sl≤2100000000:=by
 have hs:=sum_bd h;have hm:=h.b.ma;have hp:=h.x.p;unfold nextP stops
 split
 ·omega
 ·rename_i hn;simp at hn;omega
theorem c_step (t:Tn) (st:Int) (x:Ms) (d sl:Int) (h:Ask t st x d sl):PureCall Try.prog 21 [t.mp st,x.av,I d,I sl] (.tup [.agg (stepC t st x d sl),Bo (decide (nextP t st x d sl≤25000*t.Mass))]):=by
 have hv:=spd_bd h.b h.x;have h1:=pull_bd (v:=spd t x) h.b hv.1 h.d.1 h.d.2;have h2:=brake_bd (v:=spd t x) h.b h.d.1 h.d.2;have h3:=drag_bd h.b hv.1 hv.2;have h4:=hill_bd h.b h.s.1 h.s.2;have hsm:=sum_bd h;have hnx:=next_bd h;have hm:=h.b.ma;have hp:=h.x.p;have hw:=h.x.w;have hbk:=h.b.ba;have hsp:=c_speed t st x h.b h.x;have hal:=c_all t st (spd t x) d sl h.b hv.1 hv.2 h.d.1 h.d.2 h.s.1 h.s.2;have hsd:sumF t st x d sl=pullF t st (spd t x) d-brakeF t st (spd t x) d-dragF t (spd t x)-hillF t sl:=rfl;have hnd:nextP t st x d sl=if stops t st x d sl=true then 0 else x.P+100*sumF t st x d sl:=rfl;have hst:stops t st x d sl=(decide (x.P+100*sumF t st x d sl<0)||(decide (x.P=0)&&decide (sumF t st x d sl≤0))):=rfl;unfold stepC tookF gaveF;generalize nextP t st x d sl=q at hnx hnd ⊢;generalize stops t st x d sl=b at hnd hst ⊢;generalize sumF t st x d sl=sm at hsm hsd hnd hst ⊢;generalize pullF t st (spd t x) d=f1 at h1 hal hsd ⊢;generalize brakeF t st (spd t x) d=f2 at h2 hal hsd ⊢;generalize dragF t (spd t x)=f3 at h3 hal hsd ⊢;generalize hillF t sl=f4 at h4 hal hsd ⊢;have e1:(f1*q).natAbs≤200000*2100000000:=mul_bd' (by omega) (by omega);have e2:(f2*q).natAbs≤200000*2100000000:=mul_bd' (by omega) (by omega);have e3:(200*f1*q).natAbs≤40000000*2100000000:=mul_bd' (by omega) (by omega);have e4:(200*f2*q).natAbs≤40000000*2100000000:=mul_bd' (by omega) (by omega);have e5:(200*f3*q).natAbs≤70000000*2100000000:=mul_bd' (by omega) (by omega);have e6:(200*f4*q).natAbs≤20000000*2100000000:=mul_bd' (by omega) (by omega);have e7:(f2*q*t.Back).natAbs≤200000*2100000000*100:=mul_bd' e2 (by omega);have e8:(x.P*x.P).natAbs≤2000000000*2000000000:=mul_bd' (by omega) (by omega);have e9:(10000*sm*sm).natAbs≤10000000000*1000000:=mul_bd' (by omega) hsm;have p1:=Int.mul_nonneg h1.1 hnx.1;have p2:=Int.mul_nonneg (Int.mul_nonneg h2.1 hnx.1) hbk.1;have t1:=tdiv_bd (a:=f1*q+1000*t.Mass-1) (b:=1000*t.Mass) (B:=f1*q+1000*t.Mass-1) (by omega) (by omega) (Int.le_refl _);have t2:=tdiv_bd (a:=f2*q*t.Back) (b:=100000*t.Mass) (B:=f2*q*t.Back) (by omega) (by omega) (Int.le_refl _);have w0:IntKind.i64.wrap 0=0:=rfl;have w1:IntKind.i64.wrap (f1-f2)=f1-f2:=wrap_in (by omega) (by omega);have w2:IntKind.i64.wrap (f1-f2-f3)=f1-f2-f3:=wrap_in (by omega) (by omega);have w3:IntKind.i64.wrap (f1-f2-f3-f4)=sm:=by rw[hsd];exact wrap_in (by omega) (by omega)
 have w4:IntKind.i64.wrap (100*sm)=100*sm:=wrap_in (by omega) (by omega);have w5:IntKind.i64.wrap (x.P+100*sm)=x.P+100*sm:=wrap_in (by omega) (by omega);have w6:IntKind.i64.wrap (x.P*x.P)=x.P*x.P:=wrap_in (by omega) (by omega);have w7:IntKind.i64.wrap (10000*sm)=10000*sm:=wrap_in (by omega) (by omega);have w8:IntKind.i64.wrap (10000*sm*sm)=10000*sm*sm:=wrap_in (by omega) (by omega);have w9:IntKind.i64.wrap (x.W+q)=x.W+q:=wrap_in (by omega) (by omega);have w10:IntKind.i64.wrap (200*f1)=200*f1:=wrap_in (by omega) (by omega);have w11:IntKind.i64.wrap (200*f2)=200*f2:=wrap_in (by omega) (by omega);have w12:IntKind.i64.wrap (200*f3)=200*f3:=wrap_in (by omega) (by omega);have w13:IntKind.i64.wrap (200*f4)=200*f4:=wrap_in (by omega) (by omega);have w14:IntKind.i64.wrap (200*f1*q)=200*f1*q:=wrap_in (by omega) (by omega);have w15:IntKind.i64.wrap (200*f2*q)=200*f2*q:=wrap_in (by omega) (by omega);have w16:IntKind.i64.wrap (200*f3*q)=200*f3*q:=wrap_in (by omega) (by omega);have w17:IntKind.i64.wrap (200*f4*q)=200*f4*q:=wrap_in (by omega) (by omega);have w18:IntKind.i64.wrap (f1*q)=f1*q:=wrap_in (by omega) (by omega);have w19:IntKind.i64.wrap (1000*t.Mass)=1000*t.Mass:=wrap_in (by omega) (by omega);have w20:IntKind.i64.wrap (f1*q+1000*t.Mass)=f1*q+1000*t.Mass:=wrap_in (by omega) (by omega);have w21:IntKind.i64.wrap (f1*q+1000*t.Mass-1)=f1*q+1000*t.Mass-1:=wrap_in (by omega) (by omega);have w22:IntKind.i64.wrap ((f1*q+1000*t.Mass-1).tdiv (1000*t.Mass))=(f1*q+1000*t.Mass-1).tdiv (1000*t.Mass):=wrap_in (by omega) (by omega);have w23:IntKind.i64.wrap (f2*q)=f2*q:=wrap_in (by omega) (by omega);have w24:IntKind.i64.wrap (f2*q*t.Back)=f2*q*t.Back:=wrap_in (by omega) (by omega);have w25:IntKind.i64.wrap (100000*t.Mass)=100000*t.Mass:=wrap_in (by omega) (by omega);have w26:IntKind.i64.wrap ((f2*q*t.Back).tdiv (100000*t.Mass))=(f2*q*t.Back).tdiv (100000*t.Mass):=wrap_in (by omega) (by omega);have w27:IntKind.i64.wrap (25000*t.Mass)=25000*t.Mass:=wrap_in (by omega) (by omega);have z1:¬1000*t.Mass=0:=by omega
 have z2:¬100000*t.Mass=0:=by omega
 have z3:¬t.Mass=0:=by omega
 clear hp hw e1 e2 e3 e4 e5 e6 e7 e8 e9 t1 t2 h1 h2 h3 h4;refine PureCall.of_body Try.func21 rfl (by decide) (by simp[Try.ntmps21]) ?_;simp only[Try.ntmps21,Try.results21];refine aS fun K hK=>?_;simp -dsimp;apply hK;clear hK K;refine aS fun K hK=>?_;simp -dsimp;refine callK_intro _ (hsp) (by simp) ?_;simp -dsimp;refine callK_intro _ (hal) (by simp) ?_;simp -dsimp;apply hK;clear hK K;refine aS fun K hK=>?_;simp -dsimp [w1,w2,w3];apply hK;clear hK K;refine awp_sd mixed rfl fun K hK=>?_;simp -dsimp [w4,w5];refine hK _ _ _ (by decide+kernel) ?_;clear hK K;refine aS fun K hK=>?_;simp -dsimp;apply hK;clear hK K;refine awp_seq_k fun K1 hK1=>?_;refine aS fun K hK=>?_;simp -dsimp;apply hK;clear hK K;refine awp_cond rfl (fun hc0=>?_) (fun hc0=>?_)
 ·have hbt:b=true:=by rw[hst];simpa using hc0
  rw[hbt,if_pos rfl]at hnd;subst hnd;simp only[Int.mul_zero,Int.zero_add,Int.add_zero,Int.zero_mul]at w9 w20 w21 w22 w24 w26;refine aS fun K hK=>?_;simp -dsimp [w6];apply hK;clear hK K;refine aR fun K hK=>?_;simp -dsimp;apply hK;clear hK K;simp only[zT,reduceIte,Nat.reduceEqDiff];refine hK1 _ _ ?_;refine awp_prune [0,5,8,10,13,14] ?_;simp only[zP,Nat.reduceEqDiff,reduceIte];refine aS fun K hK=>?_;simp -dsimp [w9];apply hK;clear hK K;refine awp_sd mixed rfl fun K hK=>?_;simp -dsimp [w10,w11,w12,w13,w14,w15,w16,w17];refine hK _ _ _ (by decide+kernel) ?_;clear hK K;refine awp_sd mixed rfl fun K hK=>?_;simp -dsimp [w18,w19,w20,w21,w22,z1,z3];refine hK _ _ _ (by decide+kernel) ?_;clear hK K;refine awp_sd mixed rfl fun K hK=>?_;simp -dsimp [w23,w24,w25,w26,z2,z3];refine hK _ _ _ (by decide+kernel) ?_;clear hK K;refine awp_sd mixed rfl fun K hK=>?_;simp -dsimp [w27];refine hK _ _ _ (by decide+kernel) ?_;clear hK K;exact awp_ret (by simp[hbt,w0,w9,w19,w21,w22])
 ·have hbt:b=false:=by rw[hst];simpa using hc0
  rw[hbt,if_neg (by decide)]at hnd;rw[←hnd]at*
  refine aR fun K hK=>?_;simp -dsimp [w7,w8];apply hK;clear hK K;simp only[zT,reduceIte,Nat.reduceEqDiff];refine hK1 _ _ ?_;refine awp_prune [0,5,8,10,13,14] ?_;simp only[zP,Nat.reduceEqDiff,reduceIte];refine aS fun K hK=>?_;simp -dsimp [w9];apply hK;clear hK K;refine awp_sd mixed rfl fun K hK=>?_;simp -dsimp [w10,w11,w12,w13,w14,w15,w16,w17];refine hK _ _ _ (by decide+kernel) ?_;clear hK K;refine awp_sd mixed rfl fun K hK=>?_;simp -dsimp [w18,w19,w20,w21,w22,z1,z3];refine hK _ _ _ (by decide+kernel) ?_;clear hK K;refine awp_sd mixed rfl fun K hK=>?_;simp -dsimp [w23,w24,w25,w26,z2,z3];refine hK _ _ _ (by decide+kernel) ?_;clear hK K;refine awp_sd mixed rfl fun K hK=>?_;simp -dsimp [w27];refine hK _ _ _ (by decide+kernel) ?_;clear hK K;exact awp_ret (by simp[hbt,w0,w9,w19,w21,w22])
end Go.Mo
end
section
namespace Go.Mo
open Go.AM Go.Cur Go.Proofs
def askB (t:Tn) (x:Ms) (d sl:Int):Bool:=inr x.P 0 (25000*t.Mass)&&inr x.W 0 10000000000000000&&inr d (-4) 4&&inr sl (-120) 120
theorem c_asked_m (t:Tn) (st:Int) (x:Ms) (d sl:Int) (h:okT t=true) (h0:0≤st) (h1:st<t.Grip.length):PureCall Try.prog 20 [t.av,x.av,I d,I sl,I st] (.tup [t.mp st,Bo (askB t x d sl)]):=by
 have hm:=c_moving_t t st h h0 h1;have hv:=c_valid t st x (okT_b h h0 h1);refine PureCall.of_body Try.func20 rfl (by decide) (by simp[Try.ntmps20]) ?_;simp only[Try.ntmps20,Try.results20];refine aS fun K hK=>?_;simp -dsimp;apply hK;clear hK K;refine aS fun K hK=>?_;simp -dsimp;refine callK_intro _ (hm) (by simp) ?_;simp -dsimp;apply hK;clear hK K;refine aS fun K hK=>?_;simp -dsimp;refine callK_may _ (fun hm=>hv) (by simp) ?_;simp -dsimp;refine callK_may _ (fun hm=>c_within d (-4) 4) (by simp) ?_;simp -dsimp;refine callK_may _ (fun hm=>c_within sl (-120) 120) (by simp) ?_;simp -dsimp;apply hK;clear hK K;exact awp_ret (by simp[askB,Bool.and_assoc])
theorem c_asked_f (t:Tn) (st:Int) (x:Ms) (d sl:Int) (hn:t.Grip.length≤100000) (h:¬(okT t=true∧0≤st∧st<t.Grip.length)):PureCall Try.prog 20 [t.av,x.av,I d,I sl,I st] (.tup [.v (.pointer none),Bo false]):=by
 have hm:=c_moving_f t st hn h;refine PureCall.of_body Try.func20 rfl (by decide) (by simp[Try.ntmps20]) ?_;simp only[Try.ntmps20,Try.results20];refine aS fun K hK=>?_;simp -dsimp;apply hK;clear hK K;refine aS fun K hK=>?_;simp -dsimp;refine callK_intro _ (hm) (by simp) ?_;simp -dsimp;apply hK;clear hK K;refine aS fun K hK=>?_;simp -dsimp;refine callK_may (Bo false) (fun hm=>by simp at hm) (by simp) ?_;simp -dsimp;refine callK_may _ (fun hm=>c_within d (-4) 4) (by simp) ?_;simp -dsimp;refine callK_may _ (fun hm=>c_within sl (-120) 120) (by simp) ?_;simp -dsimp;apply hK;clear hK K;exact awp_ret (by simp)
theorem askB_ask {t:Tn} {st:Int} {x:Ms} {d sl:Int} (h:okT t=true) (h0:0≤st) (h1:st<t.Grip.length) (ha:askB t x d sl=true):Ask t st x d sl:=by
 simp only[askB,Bool.and_eq_true,inr_iff]at ha;exact⟨okT_b h h0 h1,⟨ha.1.1.1,by omega⟩,ha.1.2,ha.2⟩
theorem took_bd {t:Tn} {st:Int} {x:Ms} {d sl:Int} (h:Ask t st x d sl):0≤tookF t st x d sl∧tookF t st x d sl≤1000000000000000∧0≤gaveF t st x d sl∧gaveF t st x d sl≤100000000000000000:=by
 have hv:=spd_bd h.b h.x;have h1:=pull_bd (v:=spd t x) h.b hv.1 h.d.1 h.d.2;have h2:=brake_bd (v:=spd t x) h.b h.d.1 h.d.2;have hnx:=next_bd h;have hm:=h.b.ma;have hbk:=h.b.ba;unfold tookF gaveF;generalize nextP t st x d sl=q at hnx ⊢;generalize pullF t st (spd t x) d=f1 at h1 ⊢;generalize brakeF t st (spd t x) d=f2 at h2 ⊢;have p1:=Int.mul_nonneg h1.1 hnx.1;have p2:=Int.mul_nonneg (Int.mul_nonneg h2.1 hnx.1) hbk.1;have e1:(f1*q).natAbs≤200000*2100000000:=mul_bd' (by omega) (by omega);have e2:(f2*q).natAbs≤200000*2100000000:=mul_bd' (by omega) (by omega);have e7:(f2*q*t.Back).natAbs≤200000*2100000000*100:=mul_bd' e2 (by omega);have t1:=tdiv_bd (a:=f1*q+1000*t.Mass-1) (b:=1000*t.Mass) (B:=f1*q+1000*t.Mass-1) (by omega) (by omega) (Int.le_refl _);have t2:=tdiv_bd (a:=f2*q*t.Back) (b:=100000*t.Mass) (B:=f2*q*t.Back) (by omega) (by omega) (Int.le_refl _);omega
theorem c_Powers_t (t:Tn) (st:Int) (x:Ms) (d sl:Int) (h:okT t=true) (h0:0≤st) (h1:st<t.Grip.length) (ha:askB t x d sl=true) (hq:nextP t st x d sl≤25000*t.Mass) (hw:x.W+nextP t st x d sl≤10000000000000000):
  PureCall Try.prog 7 [t.av,x.av,I d,I sl,I st] (.tup [I (tookF t st x d sl),I (gaveF t st x d sl),I 0]):=by
 have hm:=c_asked_m t st x d sl h h0 h1;rw[ha]at hm;have hs:=c_step t st x d sl (askB_ask h h0 h1 ha);rw[decide_eq_true hq]at hs;unfold stepC at hs;have hw':¬10000000000000000<x.W+nextP t st x d sl:=by omega
 refine PureCall.of_body Try.func7 rfl (by decide) (by simp[Try.ntmps7]) ?_;simp only[Try.ntmps7,Try.results7];refine aS fun K hK=>?_;simp -dsimp;apply hK;clear hK K;refine aS fun K hK=>?_;simp -dsimp;refine callK_intro _ (hm) (by simp) ?_;simp -dsimp;apply hK;clear hK K;refine awp_seq_k fun K1 hK1=>?_;refine aS fun K hK=>?_;simp -dsimp;apply hK;clear hK K;refine awp_cond rfl (fun hc0=>?_) (fun hc0=>?_)
 ·simp at hc0
 ·refine awp_skip ?_;simp only[zT,reduceIte,Nat.reduceEqDiff];refine hK1 _ _ ?_;refine awp_prune [2,3,6,13] ?_;simp only[zP,Nat.reduceEqDiff,reduceIte];refine aS fun K hK=>?_;simp -dsimp;refine callK_intro _ (hs) (by simp) ?_;simp -dsimp;apply hK;clear hK K;refine awp_seq_k fun K2 hK2=>?_;refine aS fun K hK=>?_;simp -dsimp [hw'];apply hK;clear hK K;refine awp_cond rfl (fun hc1=>?_) (fun hc1=>?_)
  ·simp[hw']at hc1
  ·refine awp_skip ?_;simp only[zT,reduceIte,Nat.reduceEqDiff];refine hK2 _ _ ?_;refine awp_prune [15] ?_;simp only[zP,Nat.reduceEqDiff,reduceIte];refine awp_sd mixed rfl fun K hK=>?_;simp -dsimp;refine hK _ _ _ (by decide+kernel) ?_;clear hK K;exact awp_ret (by simp)
theorem c_Powers_f (t:Tn) (st:Int) (x:Ms) (d sl:Int) (hn:t.Grip.length≤100000) (h:¬(okT t=true∧0≤st∧st<t.Grip.length)):
  PureCall Try.prog 7 [t.av,x.av,I d,I sl,I st] (.tup [I 0,I 0,I 2]):=by
 have hm:=c_asked_f t st x d sl hn h;refine PureCall.of_body Try.func7 rfl (by decide) (by simp[Try.ntmps7]) ?_;simp only[Try.ntmps7,Try.results7];refine aS fun K hK=>?_;simp -dsimp;apply hK;clear hK K;refine aS fun K hK=>?_;simp -dsimp;refine callK_intro _ (hm) (by simp) ?_;simp -dsimp;apply hK;clear hK K;refine awp_seq_k fun K1 hK1=>?_;refine aS fun K hK=>?_;simp -dsimp;apply hK;clear hK K;refine awp_cond rfl (fun hc0=>?_) (fun hc0=>?_)
 ·refine aS fun K hK=>?_;simp -dsimp;apply hK;clear hK K;exact awp_ret (by simp)
 ·simp at hc0
theorem c_Powers_g (t:Tn) (st:Int) (x:Ms) (d sl:Int) (h:okT t=true) (h0:0≤st) (h1:st<t.Grip.length) (ha:askB t x d sl=false):
  PureCall Try.prog 7 [t.av,x.av,I d,I sl,I st] (.tup [I 0,I 0,I 2]):=by
 have hm:=c_asked_m t st x d sl h h0 h1;rw[ha]at hm;refine PureCall.of_body Try.func7 rfl (by decide) (by simp[Try.ntmps7]) ?_;simp only[Try.ntmps7,Try.results7];refine aS fun K hK=>?_;simp -dsimp;apply hK;clear hK K;refine aS fun K hK=>?_;simp -dsimp;refine callK_intro _ (hm) (by simp) ?_;simp -dsimp;apply hK;clear hK K;refine awp_seq_k fun K1 hK1=>?_;refine aS fun K hK=>?_;simp -dsimp;apply hK;clear hK K;refine awp_cond rfl (fun hc0=>?_) (fun hc0=>?_)
 ·refine aS fun K hK=>?_;simp -dsimp;apply hK;clear hK K;exact awp_ret (by simp)
 ·simp at hc0
theorem c_Powers_l (t:Tn) (st:Int) (x:Ms) (d sl:Int) (h:okT t=true) (h0:0≤st) (h1:st<t.Grip.length) (ha:askB t x d sl=true) (hq:¬(nextP t st x d sl≤25000*t.Mass∧x.W+nextP t st x d sl≤10000000000000000)):
  PureCall Try.prog 7 [t.av,x.av,I d,I sl,I st] (.tup [I 0,I 0,I 3]):=by
 have hm:=c_asked_m t st x d sl h h0 h1;rw[ha]at hm;have hs:=c_step t st x d sl (askB_ask h h0 h1 ha);unfold stepC at hs;refine PureCall.of_body Try.func7 rfl (by decide) (by simp[Try.ntmps7]) ?_;simp only[Try.ntmps7,Try.results7];refine aS fun K hK=>?_;simp -dsimp;apply hK;clear hK K;refine aS fun K hK=>?_;simp -dsimp;refine callK_intro _ (hm) (by simp) ?_;simp -dsimp;apply hK;clear hK K;refine awp_seq_k fun K1 hK1=>?_;refine aS fun K hK=>?_;simp -dsimp;apply hK;clear hK K;refine awp_cond rfl (fun hc0=>?_) (fun hc0=>?_)
 ·simp at hc0
 ·refine awp_skip ?_;simp only[zT,reduceIte,Nat.reduceEqDiff];refine hK1 _ _ ?_;refine awp_prune [2,3,6,13] ?_;simp only[zP,Nat.reduceEqDiff,reduceIte];refine aS fun K hK=>?_;simp -dsimp;refine callK_intro _ (hs) (by simp) ?_;simp -dsimp;apply hK;clear hK K;refine awp_seq_k fun K2 hK2=>?_;refine aS fun K hK=>?_;simp -dsimp;apply hK;clear hK K;refine awp_cond rfl (fun hc1=>?_) (fun hc1=>?_)
  ·refine aS fun K hK=>?_;simp -dsimp;apply hK;clear hK K;exact awp_ret (by simp)
  ·exfalso;simp at hc1;exact hq (by omega)
theorem c_Powers (t:Tn) (st:Int) (x:Ms) (d sl:Int) (hn:t.Grip.length≤100000):∃a b e,PureCall Try.prog 7 [t.av,x.av,I d,I sl,I st] (.tup [I a,I b,I e])∧(e=0→0≤a∧a≤1000000000000000∧0≤b∧b≤100000000000000000):=by
 by_cases h:okT t=true∧0≤st∧st<t.Grip.length
 ·cases ha:askB t x d sl with
  |false=>exact⟨_,_,_,c_Powers_g t st x d sl h.1 h.2.1 h.2.2 ha,fun e=>by omega⟩
  |true=>
   by_cases hq:nextP t st x d sl≤25000*t.Mass∧x.W+nextP t st x d sl≤10000000000000000
   ·exact⟨_,_,_,c_Powers_t t st x d sl h.1 h.2.1 h.2.2 ha hq.1 hq.2,fun _=>took_bd (askB_ask h.1 h.2.1 h.2.2 ha)⟩
   ·exact⟨_,_,_,c_Powers_l t st x d sl h.1 h.2.1 h.2.2 ha hq,fun e=>by omega⟩
 ·exact⟨_,_,_,c_Powers_f t st x d sl hn h,fun e=>by omega⟩
def unitF (a b:Int):Int:=mnI 40 ((a+14999).tdiv 15000)-mnI 40 (b.tdiv 15000)
theorem unit_bd {a b:Int} (ha:0≤a) (hb:0≤b):-40≤unitF a b∧unitF a b≤40:=by
 have t1:=tdiv_bd (a:=a+14999) (b:=15000) (by omega) (by omega) (Int.le_refl _);have t2:=tdiv_bd (a:=b) (b:=15000) (by omega) (by omega) (Int.le_refl _);have m1:=mnI_bd (a:=40) (by omega) t1.1;have m2:=mnI_bd (a:=40) (by omega) t2.1;unfold unitF;omega
theorem c_units (a b:Int) (ha:0≤a∧a≤1000000000000000) (hb:0≤b∧b≤100000000000000000):PureCall Try.prog 8 [I a,I b] (I (unitF a b)):=by
 have t1:=tdiv_bd (a:=a+14999) (b:=15000) (by omega) (by omega) (Int.le_refl _);have t2:=tdiv_bd (a:=b) (b:=15000) (by omega) (by omega) (Int.le_refl _);have hu:=unit_bd ha.1 hb.1;have w1:IntKind.i64.wrap (a+14999)=a+14999:=wrap_in (by omega) (by omega);have w2:IntKind.i64.wrap ((a+14999).tdiv 15000)=(a+14999).tdiv 15000:=wrap_in (by omega) (by omega);have w3:IntKind.i64.wrap (b.tdiv 15000)=b.tdiv 15000:=wrap_in (by omega) (by omega);have w4:IntKind.i64.wrap (unitF a b)=unitF a b:=wrap_in (by omega) (by omega);unfold unitF mnI at w4 ⊢;refine PureCall.of_body Try.func8 rfl (by decide) (by simp[Try.ntmps8]) ?_;simp only[Try.ntmps8,Try.results8];refine aS fun K hK=>?_;simp -dsimp;apply hK;clear hK K;refine aS fun K hK=>?_;simp -dsimp [w1,w2,w3,w4];apply hK;clear hK K;exact awp_ret (by simp)
theorem c_divisor9 (a b:Nat) (ha:a≤9223372036854775807) (hb:b≤9223372036854775807):PureCall Try.prog 13 [I a,I b] (I (Nat.gcd a b:Nat)):=by
 have gs:∀{m n:Nat},¬n=0→Nat.gcd n (m % n)=Nat.gcd m n:=fun {m n} h=>by rw[Nat.gcd_comm m n,Nat.gcd_rec n m,Nat.gcd_comm]
 refine PureCall.of_body Try.func13 rfl (by decide) (by simp[Try.ntmps13]) ?_;simp only[Try.ntmps13,Try.results13];refine aS fun K hK=>?_;simp -dsimp;apply hK;clear hK K;refine awp_seq_k fun K1 hK1=>?_;refine awp_block ?_;refine awp_prune [0,1] ?_;simp only[zP,Nat.reduceEqDiff,reduceIte];refine awp_loop_l [] (α:=Nat×Nat) (fun x=>[(0,I x.1),(1,I x.2)]) (fun _=>[]) (fun x=>Nat.gcd x.1 x.2=Nat.gcd a b) (fun x=>x.2) (a,b) ?_ ?_ ?_
 ·rfl
 ·exact sub_same (by simp)
 rintro⟨m,n⟩ i1;simp only at i1 ⊢;simp only[zP,Nat.reduceEqDiff,reduceIte];refine awp_seq_k fun K2 hK2=>?_;refine aS fun K hK=>?_;simp -dsimp;apply hK;clear hK K;refine awp_cond rfl (fun hc0=>?_) (fun hc0=>?_)
 ·have hb0:¬n=0:=by have:=(by simpa using hc0:(0:Int)<n);omega
  have hm:(m:Int).tmod n=((m % n:Nat):Int):=by rw[Int.tmod_eq_emod_of_nonneg (by omega)];rfl
  refine awp_skip ?_;simp only[zT,reduceIte,Nat.reduceEqDiff];refine hK2 _ _ ?_;refine awp_prune [0,1] ?_;simp only[zP,Nat.reduceEqDiff,reduceIte];refine awp_block ?_;refine awp_draw mixed rfl fun K hK=>?_;simp -dsimp [hm,hb0];refine hK _ _ _ (by decide+kernel) ?_;clear hK K;simp only[zT,reduceIte,Nat.reduceEqDiff];exact⟨(n,m % n),by simp only;rw[gs hb0];exact i1,Nat.mod_lt _ (by omega),sub_same (by simp)⟩
 ·have hb0:n=0:=by have:¬(0:Int)<n:=(by simpa using hc0);omega
  subst hb0;rw[Nat.gcd_zero_right]at i1;subst i1;refine awp_exit ?_;simp only[zT,reduceIte,Nat.reduceEqDiff];refine hK1 _ _ ?_;refine awp_prune [0] ?_;simp only[zP,Nat.reduceEqDiff,reduceIte];refine aS fun K hK=>?_;simp -dsimp;apply hK;clear hK K;exact awp_ret (by simp)
theorem c_holds9 (l:List Int) (x:Int) (hn:l.length≤100000):PureCall Try.prog 12 [iL l,I x] (Bo (decide (x∈l))):=by
 refine PureCall.of_body Try.func12 rfl (by decide) (by simp[Try.ntmps12]) ?_;simp only[Try.ntmps12,Try.results12];refine aS fun K hK=>?_;simp -dsimp;apply hK;clear hK K;refine awp_seq_k fun K1 hK1=>?_;refine aS fun K hK=>?_;simp -dsimp;apply hK;clear hK K;refine awp_block ?_;refine awp_prune [0,1,5] ?_;simp only[zP,Nat.reduceEqDiff,reduceIte];refine awp_loop_l [0,1] (α:=Nat) (fun k=>[(5,I k)]) (fun k=>[]) (fun k=>k≤l.length∧x∉l.take k) (fun k=>l.length-k) 0 ?_ ?_ ?_
 ·exact⟨Nat.zero_le _,by simp⟩
 ·exact sub_same (by simp)
 rintro k ⟨k1,k2⟩;simp only[zP,Nat.reduceEqDiff,reduceIte];refine awp_seq_k fun K2 hK2=>?_;refine aS fun K hK=>?_;simp -dsimp;apply hK;clear hK K;refine awp_cond rfl (fun hc0=>?_) (fun hc0=>?_)
 ·have hkl:k<l.length:=by simpa using hc0
  have wk:=zW k (by omega);obtain⟨y,hy⟩:∃y,l[k]?=some y:=⟨_,List.getElem?_eq_getElem hkl⟩;refine awp_skip ?_;simp only[zT,reduceIte,Nat.reduceEqDiff];refine hK2 _ _ ?_;refine awp_prune [0,1,5] ?_;simp only[zP,Nat.reduceEqDiff,reduceIte];refine awp_seq_k fun K3 hK3=>?_;refine awp_block ?_;refine aS fun K hK=>?_;simp -dsimp [hy];apply hK;clear hK K;refine awp_cond rfl (fun hc1=>?_) (fun hc1=>?_)
  ·refine aS fun K hK=>?_;simp -dsimp;apply hK;clear hK K;have hxy:x∈l:=by have:y=x:=(by simpa using hc1);rw[←this];exact List.mem_of_getElem? hy
   exact awp_ret (by simp[hxy])
  ·refine awp_skip ?_;simp only[zT,reduceIte,Nat.reduceEqDiff];refine hK3 _ _ ?_;refine awp_prune [0,1,5] ?_;simp only[zP,Nat.reduceEqDiff,reduceIte];refine aR fun K hK=>?_;simp -dsimp [wk];apply hK;clear hK K;simp only[zT,reduceIte,Nat.reduceEqDiff];have hxy:¬x=y:=by intro h;simp[h]at hc1
   exact⟨k+1,⟨by omega,by rw[List.take_add_one,hy,List.mem_append];simp[k2,hxy]⟩,by omega,sub_rb [] rfl (by simp) (by simp)⟩
 ·have hkl:¬k<l.length:=by simpa using hc0
  rw[List.take_of_length_le (by omega)]at k2;refine awp_exit ?_;simp only[zT,reduceIte,Nat.reduceEqDiff];refine hK1 _ _ ?_;refine awp_prune [] ?_;simp only[zP,Nat.reduceEqDiff,reduceIte];refine aS fun K hK=>?_;simp -dsimp;apply hK;clear hK K;exact awp_ret (by simp[k2])
end Go.Mo
end
section
namespace Go.Mo
open Go.AM Go.Cur Go.Proofs
theorem part_n {g:Gr} {s:Sta} {p:List Nat} (hp:p∈partL g s):p.length≤g.Nodes.toNat:=by
 obtain⟨i,hi,rfl⟩:=partL_head hp;unfold cp;have:=List.length_filter_le (fun k=>decide (nm (netE g s) g.Nodes.toNat k=i)) (List.range g.Nodes.toNat)
 rwa [List.length_range]at this
theorem c_TopFed (g:Gr) (s:Sta) (ts:List Tn) (xs:List Ms) (ds:List Int) (sl:Int) (hk:PureCall Try.prog 6 [] (Bo true)):PureCall Try.prog 3 [g.av,s.av, .lst 10 (ts.map Tn.cells), .lst 2 (xs.map Ms.cells),iL ds,I sl] (Bo true):=by
 refine PureCall.of_body Try.func3 rfl (by decide) (by simp[Try.ntmps3]) ?_;simp only[Try.ntmps3,Try.results3];refine aS fun K hK=>?_;simp -dsimp;apply hK;clear hK K;refine awp_seq_k fun K1 hK1=>?_;refine aS fun K hK=>?_;simp -dsimp;refine callK_may _ (fun hm=>c_rGrid g (by simp at hm;omega) (by simp at hm;omega)) (by simp) ?_;simp -dsimp;refine callK_may _ (fun hm=>c_rState g s (by simp at hm;omega)) (by simp) ?_;simp -dsimp;apply hK;clear hK K;refine awp_cond rfl (fun hc0=>?_) (fun hc0=>?_)
 ·refine aS fun K hK=>?_;simp -dsimp;refine callK_intro _ (hk) (by simp) ?_;simp -dsimp;apply hK;clear hK K;exact awp_ret (by simp)
 ·have hcc :ts.length≤5∧xs.length=ts.length∧ds.length=ts.length∧g.Nodes≤5∧g.Wires.length≤12∧g.Feeds.length≤12∧grB g=true∧stB g s=true∧(ts.length:Int)≤g.Nodes:=by simp at hc0;refine⟨?_,?_,?_,?_,?_,?_,?_,?_,?_⟩<;>first|omega|simp[hc0]
  obtain⟨a1,a2,a3,a4,a5,a6,hg,hs,a9⟩:=hcc;have hbd:=grB_bd hg;refine awp_skip ?_;simp only[zT,reduceIte,Nat.reduceEqDiff];refine hK1 _ _ ?_;refine awp_prune [2,3,4,5,6,7] ?_;simp only[zP,Nat.reduceEqDiff,reduceIte];refine aS fun K hK=>?_;simp -dsimp;apply hK;clear hK K;refine awp_seq_k fun K2 hK2=>?_;refine aS fun K hK=>?_;simp -dsimp;apply hK;clear hK K;refine awp_block ?_;refine awp_prune [2,3,4,5,6,7,13,14] ?_;simp only[zP,Nat.reduceEqDiff,reduceIte];refine awp_loop_l [2,3,4,5,6,7] (α:=List Ld) (fun l=>[(13, .row 2 0 l.length),(14,I l.length)]) (fun l=>[some (.els 4 [g.cells]),some (.els 2 [s.cells]),some (.els 3 (l.map Ld.cells))]) (fun l=>l.length≤ts.length∧∀(k:Nat) y,l[k]?=some y→y.At=k∧y.Rank=k∧-40≤y.Units∧y.Units≤40) (fun l=>ts.length-l.length) [] ?_ ?_ ?_
  ·exact⟨Nat.zero_le _,fun k y h=>by simp at h⟩
  ·exact(sub_nil 13 3 (by simp)).trans (sub_same (by simp))
  rintro l ⟨l1,l2⟩;simp only[zP,Nat.reduceEqDiff,reduceIte];refine awp_seq_k fun K3 hK3=>?_;refine aS fun K hK=>?_;simp -dsimp;apply hK;clear hK K;refine awp_cond rfl (fun hc1=>?_) (fun hc1=>?_)
  ·have hlt:l.length<ts.length:=by simpa using hc1
   have wk:IntKind.i64.wrap ((l.length:Int)+1)=(l.length:Int)+1:=wrap_in (by omega) (by omega);obtain⟨t,ht⟩:∃t,ts[l.length]?=some t:=⟨_,List.getElem?_eq_getElem hlt⟩;obtain⟨x,hx⟩:∃x,xs[l.length]?=some x:=⟨_,List.getElem?_eq_getElem (by omega)⟩;obtain⟨d,hd⟩:∃d,ds[l.length]?=some d:=⟨_,List.getElem?_eq_getElem (by omega)⟩;refine awp_skip ?_;simp only[zT,reduceIte,Nat.reduceEqDiff];refine hK3 _ _ ?_;refine awp_prune [2,3,4,5,6,7,13,14] ?_;simp only[zP,Nat.reduceEqDiff,reduceIte];refine awp_seq_k fun K4 hK4=>?_;refine awp_block ?_;refine awp_seq_k fun K5 hK5=>?_;refine aS fun K hK=>?_;simp -dsimp [ht];apply hK;clear hK K;refine awp_cond rfl (fun hc2=>?_) (fun hc2=>?_)
   ·refine aS fun K hK=>?_;simp -dsimp;refine callK_intro _ (hk) (by simp) ?_;simp -dsimp;apply hK;clear hK K;exact awp_ret (by simp)
   ·have hgl:t.Grip.length≤10:=by simp at hc2;omega
    obtain⟨a,b,e,hpw,hpb⟩:=c_Powers t 0 x d sl (by omega);refine awp_skip ?_;simp only[zT,reduceIte,Nat.reduceEqDiff];refine hK5 _ _ ?_;refine awp_prune [2,3,4,5,6,7,13,14] ?_;simp only[zP,Nat.reduceEqDiff,reduceIte];refine awp_sd mixed rfl fun K hK=>?_;simp -dsimp [ht,hx,hd];refine callK_intro _ (hpw) (by simp) ?_;simp -dsimp [ht,hx,hd];refine hK _ _ _ (by decide+kernel) ?_;clear hK K;refine awp_seq_k fun K6 hK6=>?_;refine aS fun K hK=>?_;simp -dsimp;apply hK;clear hK K;refine awp_cond rfl (fun hc3=>?_) (fun hc3=>?_)
    ·refine aS fun K hK=>?_;simp -dsimp;refine callK_intro _ (hk) (by simp) ?_;simp -dsimp;apply hK;clear hK K;exact awp_ret (by simp)
    ·have he:e=0:=by simpa using hc3
     obtain⟨p1,p2,p3,p4⟩:=hpb he;have hub:=unit_bd p1 p3;have ff:Fits (l.length+1) 25:=fits_of (by omega) (by omega);refine awp_skip ?_;simp only[zT,reduceIte,Nat.reduceEqDiff];refine hK6 _ _ ?_;refine awp_prune [2,3,4,5,6,7,13,14,15,16] ?_;simp only[zP,Nat.reduceEqDiff,reduceIte];refine aR fun K hK=>?_;simp -dsimp [ff];refine callK_intro _ (c_units a b ⟨p1,p2⟩ ⟨p3,p4⟩) (by simp) ?_;simp -dsimp [ff];apply hK;clear hK K;simp only[zT,reduceIte,Nat.reduceEqDiff];refine hK4 _ _ ?_;refine awp_prune [2,3,4,5,6,7,13,14] ?_;simp only[zP,Nat.reduceEqDiff,reduceIte];refine aR fun K hK=>?_;simp -dsimp [wk];apply hK;clear hK K;simp only[zT,reduceIte,Nat.reduceEqDiff];refine⟨l++[⟨(l.length:Int),unitF a b,(l.length:Int)⟩],⟨by simp;omega,fun k y h=>?_⟩,by simp;omega,sub_rb [some 0,some 1,some 3] rfl (by simp) (by simp)⟩;rw[List.getElem?_append]at h
     split at h
     ·exact l2 k y h
     ·rename_i hkl;have hk0:k-l.length=0:=by
       have:=(List.getElem?_eq_some_iff.1 h).1;simp at this;omega
      rw[hk0]at h;have hy:(⟨(l.length:Int),unitF a b,(l.length:Int)⟩:Ld)=y:=by simpa using h
      subst hy;exact⟨by simp only;omega,by simp only;omega,hub⟩
  ·have hll :l.length=ts.length:=by have:¬l.length<ts.length:=(by simpa using hc1);omega
   obtain⟨n,hn⟩:∃n:Nat,g.Nodes=n:=⟨g.Nodes.toNat,by omega⟩;have hld:LdOk g l:=by
    have hm:∀y∈l,∃k:Nat,k<l.length∧y.At=k∧y.Rank=k∧-40≤y.Units∧y.Units≤40:=fun y hy=>by
     obtain⟨k,hk⟩:=List.getElem?_of_mem hy;exact⟨k,(List.getElem?_eq_some_iff.1 hk).1,l2 k y hk⟩
    refine⟨fun y hy=>?_,fun y hy=>?_,fun y hy=>?_,fun i j y z hi hj e=>?_⟩
    ·obtain⟨k,k1,k2,k3,k4⟩:=hm y hy;omega
    ·obtain⟨k,k1,k2,k3,k4⟩:=hm y hy;omega
    ·obtain⟨k,k1,k2,k3,k4⟩:=hm y hy;omega
    ·have:=l2 i y hi;have:=l2 j z hj;omega
   have hlt:=ld_to hld l.length (Nat.le_refl _);have hrl:=c_rLoads g l n hn (by omega) (by omega) (by omega);rw[hlt]at hrl;have hfi:fineB g s l=true:=by unfold fineB;rw[hg,hs,hlt];rfl
   have h5:∀p∈partL g s,p.length≤5:=fun p hp=>by have:=part_n hp;omega
   have hlo:longB g s=false:=by
    unfold longB;rw[List.any_eq_false];intro p hp;have:=h5 p hp;simp;omega
   have htk:List.take l.length (l.map Ld.cells)=l.map Ld.cells:=List.take_of_length_le (by simp);obtain⟨vs,FS,sv,fe,cu,hse,q1,q2,q3,hF,hL,hP,hfe⟩:=fed_ex g s l (by omega) hfi hlo h5;have hpa:=c_Parts_t g ⟨fe,s.Wires⟩ hfe (fun p hp=>by have:=h5 p hp;omega);have hpe:partL g ⟨fe,s.Wires⟩=partL g s:=rfl;rw[hpe]at hpa;refine awp_exit ?_;simp only[zT,reduceIte,Nat.reduceEqDiff];refine hK2 _ _ ?_;refine awp_prune [6,7,13] ?_;simp only[zP,Nat.reduceEqDiff,reduceIte];refine awp_seq_k fun K7 hK7=>?_;refine awp_weak (sub_rf (T':=[(6, .ptr 0 0 0),(7, .ptr 1 0 0),(13,lL l)]) (H':=[some (.els 4 [g.cells]),some (.els 2 [s.cells])]) [some 0,some 1] rfl ⟨.inr (by simp), .inr (by simp), .inr (by simp[htk]),trivial⟩ (by simp)) ?_
   ·refine aS fun K hK=>?_;simp -dsimp;refine callK_intro _ (hrl) (by simp) ?_;simp -dsimp;apply hK;clear hK K;refine awp_cond rfl (fun hc4=>?_) (fun hc4=>?_)
    ·simp at hc4
    ·have gFS:∀i,i<g.Feeds.length→((List.range g.Feeds.length).map FS)[i]?=some (FS i):=fun i hi=>by rw[List.getElem?_map,List.getElem?_range hi];rfl
     have lFS:((List.range g.Feeds.length).map FS).length=g.Feeds.length:=by simp
     generalize (List.range g.Feeds.length).map FS=fs at hse gFS lFS;have q1':(vs.length:Int)=g.Nodes:=by omega
     refine awp_skip ?_;simp only[zT,reduceIte,Nat.reduceEqDiff];refine hK7 _ _ ?_;refine awp_prune [6,7,13] ?_;simp only[zP,Nat.reduceEqDiff,reduceIte];refine aS fun K hK=>?_;simp -dsimp;refine callK_intro _ (hse) (by simp) ?_;simp -dsimp;apply hK;clear hK K;refine awp_seq_k fun K8 hK8=>?_;refine aS fun K hK=>?_;simp -dsimp [q1',q2,q3,lFS];apply hK;clear hK K;refine awp_cond rfl (fun hc5=>?_) (fun hc5=>?_)
     ·simp at hc5
     ·refine awp_skip ?_;simp only[zT,reduceIte,Nat.reduceEqDiff];refine hK8 _ _ ?_;refine awp_prune [6,13,18] ?_;simp only[zP,Nat.reduceEqDiff,reduceIte];refine aS fun K hK=>?_;simp -dsimp;refine callK_intro _ (hpa) (by simp) ?_;simp -dsimp;apply hK;clear hK K;refine awp_seq_k fun K9 hK9=>?_;refine aS fun K hK=>?_;simp -dsimp;apply hK;clear hK K;refine awp_cond rfl (fun hc6=>?_) (fun hc6=>?_)
      ·simp at hc6
      ·have hpl:=partL_len g s;have hnp:=fun p (hp:p∈partL g s)=>part_n hp;generalize partL g s=L at hP hpl hnp;refine awp_skip ?_;simp only[zT,reduceIte,Nat.reduceEqDiff];refine hK9 _ _ ?_;refine awp_prune [6,13,18,20] ?_;simp only[zP,Nat.reduceEqDiff,reduceIte];refine awp_seq_k fun K10 hK10=>?_;refine aS fun K hK=>?_;simp -dsimp;apply hK;clear hK K;refine awp_block ?_;refine awp_prune [6,13,18,20,22] ?_;simp only[zP,Nat.reduceEqDiff,reduceIte];refine awp_loop_l [6,13,18,20] (α:=Nat) (fun i=>[(22,I i)]) (fun i=>[some (.els 4 [g.cells]),some (.els 2 [s.cells]),some (.els 6 [[fL vs,fL fs,bL fe,bL s.Wires,bL sv,cL cu]])]) (fun i=>i≤L.length) (fun i=>L.length-i) 0 ?_ ?_ ?_
       ·exact Nat.zero_le _
       ·exact sub_rb [some 0,some 1,some 2] rfl (by simp) (by simp)
       rintro i i1;simp only[zP,Nat.reduceEqDiff,reduceIte];refine awp_seq_k fun K11 hK11=>?_;refine aS fun K hK=>?_;simp -dsimp;apply hK;clear hK K;refine awp_cond rfl (fun hc7=>?_) (fun hc7=>?_)
       ·have hil:i<L.length:=by simpa using hc7
        have wi:=zW i (by omega);obtain⟨p,hp⟩:∃p,L[i]?=some p:=⟨_,List.getElem?_eq_getElem hil⟩;have hpm:=List.mem_of_getElem? hp;have hul:=upN_len p;have hpn:=hnp p hpm;obtain⟨hnd,hden,hnum,hfin⟩:=hP p hpm;have hho:=fun(x:Int)=>c_holds9 (upN p) x (by omega);have hhd:∀x:Int,0≤x→decide (x∈upN p)=decide (x.toNat∈p):=fun x hx=>decide_eq_decide.2 (by rw[upN_mem];exact⟨fun h=>h.2,fun h=>⟨hx,h⟩⟩);have hcb:∀k,k≤l.length→ -40*(k:Int)≤ctk l sv p k∧ctk l sv p k≤40*(k:Int):=fun k=>by
         induction k with
         |zero=>intro _;simp[ctk]
         |succ k ih=>
          intro hk;have h1:=ih (by omega);have h2:=hld.un _ (List.mem_of_getElem? (ldA_get (l:=l) (k:=k) (by omega)));rw[ctk]
          split<;>omega
        refine awp_skip ?_;simp only[zT,reduceIte,Nat.reduceEqDiff];refine hK11 _ _ ?_;refine awp_prune [6,13,18,20,22] ?_;simp only[zP,Nat.reduceEqDiff,reduceIte];refine awp_seq_k fun K12 hK12=>?_;refine awp_block ?_;refine aS fun K hK=>?_;simp -dsimp;apply hK;clear hK K;refine awp_seq_k fun K13 hK13=>?_;refine aS fun K hK=>?_;simp -dsimp;apply hK;clear hK K;refine awp_block ?_;refine awp_prune [6,13,18,20,22,23,24,25,26] ?_;simp only[zP,Nat.reduceEqDiff,reduceIte];refine awp_loop_l [6,13,18,20,22,24,25] (α:=Nat) (fun k=>[(23,I (ctk l sv p k)),(26,I k)]) (fun k=>[some (.els 4 [g.cells]),some (.els 2 [s.cells]),some (.els 6 [[fL vs,fL fs,bL fe,bL s.Wires,bL sv,cL cu]])]) (fun k=>k≤l.length) (fun k=>l.length-k) 0 ?_ ?_ ?_
        ·exact Nat.zero_le _
        ·exact sub_rb [some 0,some 1,some 2] rfl (by simp[ctk]) (by simp)
        rintro k k1;simp only[zP,Nat.reduceEqDiff,reduceIte];refine awp_seq_k fun K14 hK14=>?_;refine aS fun K hK=>?_;simp -dsimp;apply hK;clear hK K;refine awp_cond rfl (fun hc8=>?_) (fun hc8=>?_)
        ·have hkl:k<l.length:=by simpa using hc8
         have wk:=zW k (by omega);have hy:l[k]?=some (ldA l k):=ldA_get hkl;have hye:l[k]=ldA l k:=Option.some.inj (by rw[←List.getElem?_eq_getElem hkl];exact hy);have hya:=hld.at_ _ (List.mem_of_getElem? hy);have hyu:=hld.un _ (List.mem_of_getElem? hy);obtain⟨v,gv,v1,v2,v3⟩:=hL k _ hy;have ge:=bAt_get (l:=sv) (k:=k) (by omega);have hkc:=hcb k (by omega);have hcs:ctk l sv p (k+1)=ctk l sv p k+if bAt sv k=true∧(ldA l k).At.toNat∈p then(ldA l k).Units else 0:=rfl;have hh:=hho (ldA l k).At;rw[hhd _ hya.1]at hh;generalize ldA l k=y at*
         generalize ctk l sv p k=cc at*
         have wu:IntKind.i64.wrap (cc+y.Units)=cc+y.Units:=wrap_in (by omega) (by omega);have wm:IntKind.i64.wrap (g.Least*v.Den)=g.Least*v.Den:=wrap_in (by have:=Int.mul_nonneg (a:=g.Least) (b:=v.Den) (by omega) (by omega);omega) (by have:=Int.mul_le_mul (a:=g.Least) (b:=v.Den) hbd.2.2.2.2.2 v2 (by omega) (by omega);omega);refine awp_skip ?_;simp only[zT,reduceIte,Nat.reduceEqDiff];refine hK14 _ _ ?_;refine awp_prune [6,13,18,20,22,23,24,25,26] ?_;simp only[zP,Nat.reduceEqDiff,reduceIte];refine awp_seq_k fun K15 hK15=>?_;refine awp_block ?_;refine awp_sd mixed rfl fun K hK=>?_;simp -dsimp [ge,hp,pAV,hkl,hye];refine idxK_intro (pAV p) (fun _=>by simp[hp]) ?_;simp -dsimp [ge,hp,pAV,hkl,hye];refine idxK_intro ([I y.At,I y.Units,I y.Rank]) (fun _=>by simp[hy]) ?_;simp -dsimp [ge,hp,pAV,hkl,hye];refine callK_may _ (fun hm=>hh) (by simp) ?_;simp -dsimp [ge,hp,pAV,hkl,hye];refine hK _ _ _ (by decide+kernel) ?_;clear hK K;refine awp_cond rfl (fun hc9=>?_) (fun hc9=>?_)
         ·have hcd:bAt sv k=true∧y.At.toNat∈p:=by simpa using hc9
          have hv3:=v3 hcd.1;refine aS fun K hK=>?_;simp -dsimp [hkl,hye,wu];apply hK;clear hK K;refine awp_sd mixed rfl fun K hK=>?_;simp -dsimp [hkl,hye,gv,hya.1];refine hK _ _ _ (by decide+kernel) ?_;clear hK K;refine aS fun K hK=>?_;simp -dsimp [hkl,hye,wm];apply hK;clear hK K;refine awp_cond rfl (fun hc10=>?_) (fun hc10=>?_)
          ·exfalso;simp at hc10;have:=hv3 (by omega);omega
          ·refine awp_skip ?_;simp only[zT,reduceIte,Nat.reduceEqDiff];refine hK15 _ _ ?_;refine awp_prune [6,13,18,20,22,23,24,25,26] ?_;simp only[zP,Nat.reduceEqDiff,reduceIte];refine aR fun K hK=>?_;simp -dsimp [wk];apply hK;clear hK K;simp only[zT,reduceIte,Nat.reduceEqDiff];exact⟨k+1,by omega,by omega,sub_rb [some 0,some 1,some 2] rfl (by simp[hcs,hcd]) (by simp)⟩
         ·refine awp_skip ?_;simp only[zT,reduceIte,Nat.reduceEqDiff];refine hK15 _ _ ?_;refine awp_prune [6,13,18,20,22,23,24,25,26] ?_;simp only[zP,Nat.reduceEqDiff,reduceIte];refine aR fun K hK=>?_;simp -dsimp [wk];apply hK;clear hK K;simp only[zT,reduceIte,Nat.reduceEqDiff];have hcd:¬(bAt sv k=true∧y.At.toNat∈p):=by intro h;simp[h.1,h.2]at hc9
          exact⟨k+1,by omega,by omega,sub_rb [some 0,some 1,some 2] rfl (by simp[hcs,hcd]) (by simp)⟩
        ·have hkl:k=l.length:=by have:¬k<l.length:=(by simpa using hc8);omega
         subst hkl;refine awp_exit ?_;simp only[zT,reduceIte,Nat.reduceEqDiff];refine hK13 _ _ ?_;refine awp_prune [6,13,18,20,22,23,24,25] ?_;simp only[zP,Nat.reduceEqDiff,reduceIte];refine awp_seq_k fun K16 hK16=>?_;refine aS fun K hK=>?_;simp -dsimp;apply hK;clear hK K;refine awp_block ?_;refine awp_prune [6,13,18,20,22,23,24,25,28] ?_;simp only[zP,Nat.reduceEqDiff,reduceIte];refine awp_loop_l [6,13,18,20,22,23] (α:=Nat) (fun k=>[(24,I (fedS g p FS k).1),(25,I (fedS g p FS k).2),(28,I k)]) (fun k=>[some (.els 4 [g.cells]),some (.els 2 [s.cells]),some (.els 6 [[fL vs,fL fs,bL fe,bL s.Wires,bL sv,cL cu]])]) (fun k=>k≤g.Feeds.length) (fun k=>g.Feeds.length-k) 0 ?_ ?_ ?_
         ·exact Nat.zero_le _
         ·exact sub_rb [some 0,some 1,some 2] rfl (by simp[fedS]) (by simp)
         rintro k k1;simp only[zP,Nat.reduceEqDiff,reduceIte];refine awp_seq_k fun K17 hK17=>?_;refine aS fun K hK=>?_;simp -dsimp;apply hK;clear hK K;refine awp_cond rfl (fun hc11=>?_) (fun hc11=>?_)
         ·have hkl:k<g.Feeds.length:=by simpa using hc11
          have wk:=zW k (by omega);have gf:=gFS k hkl;obtain⟨f1,f2,f3,f4,f5⟩:=hF k hkl;have gg:g.Feeds[k]?=some (fdI g (k:Int)):=by have:=fdI_get (g:=g) (i:=(k:Int)) (by omega) (by omega);rwa [Int.toNat_natCast]at this
          have gge:g.Feeds[k]=fdI g (k:Int):=Option.some.inj (by rw[←List.getElem?_eq_getElem hkl];exact gg);have hfb:=(fine_net hfi).feeds _ (List.mem_of_getElem? gg);have hdn:=hden k (by omega);have hnm:=hnum k (by omega);have hdn2:=hden (k+1) (by omega);have hnm2:=hnum (k+1) (by omega);have hstep:fedS g p FS (k+1)=if (fdI g (k:Int)).At.toNat∈p then((fedS g p FS k).1*((FS k).Den/Int.gcd (fedS g p FS k).2 (FS k).Den)+(FS k).Num*((fedS g p FS k).2*((FS k).Den/Int.gcd (fedS g p FS k).2 (FS k).Den)/ (FS k).Den),(fedS g p FS k).2*((FS k).Den/Int.gcd (fedS g p FS k).2 (FS k).Den))else fedS g p FS k:=rfl;have hh:=hho (fdI g (k:Int)).At;rw[hhd _ hfb.1]at hh;obtain⟨pr,hpr⟩:∃pr,pr=fedS g p FS k:=⟨_,rfl⟩;rw[←hpr]at hdn hnm hstep ⊢;clear hpr;obtain⟨nu,de⟩:=pr;simp only at hdn hnm hstep ⊢;generalize FS k=y at gf f1 f2 f3 f4 f5 hstep ⊢;have wl:IntKind.i64.wrap ((fdI g (k:Int)).Limit*y.Den)=(fdI g (k:Int)).Limit*y.Den:=wrap_in (by have:=Int.mul_nonneg (a:=(fdI g (k:Int)).Limit) (b:=y.Den) (by omega) (by omega);omega) (by have:=Int.mul_le_mul (a:=(fdI g (k:Int)).Limit) (b:=y.Den) hfb.2.2.2.2.2.2.2 f2 (by omega) (by omega);omega);have j1:¬y.Den<1:=by omega
          have j2:¬2199023255552<y.Den:=by omega
          have j3:¬y.Num<0:=by omega
          have j4:¬(fdI g (k:Int)).Limit*y.Den<y.Num:=by omega
          refine awp_skip ?_;simp only[zT,reduceIte,Nat.reduceEqDiff];refine hK17 _ _ ?_;refine awp_prune [6,13,18,20,22,23,24,25,28] ?_;simp only[zP,Nat.reduceEqDiff,reduceIte];refine awp_seq_k fun K18 hK18=>?_;refine awp_block ?_;refine aS fun K hK=>?_;simp -dsimp [gf];apply hK;clear hK K;refine awp_seq_k fun K19 hK19=>?_;refine awp_sd mixed rfl fun K hK=>?_;simp -dsimp [hkl,gge,gg,wl,j1,j2,j3,j4];refine idxK_intro (fdI g (k:Int)).cells (fun _=>by simp[gg]) ?_;simp -dsimp [hkl,gge,gg,wl,j1,j2,j3,j4];refine hK _ _ _ (by decide+kernel) ?_;clear hK K;refine awp_cond rfl (fun hc12=>?_) (fun hc12=>?_)
          ·simp[j1,j2,j3,j4]at hc12
          ·refine awp_skip ?_;simp only[zT,reduceIte,Nat.reduceEqDiff];refine hK19 _ _ ?_;refine awp_prune [6,13,18,20,22,23,24,25,28,29] ?_;simp only[zP,Nat.reduceEqDiff,reduceIte];refine awp_seq_k fun K20 hK20=>?_;refine awp_sd mixed rfl fun K hK=>?_;simp -dsimp [hp,pAV,hkl,gge,gg];refine callK_intro _ (hh) (by simp) ?_;simp -dsimp [hp,pAV,hkl,gge,gg];refine hK _ _ _ (by decide+kernel) ?_;clear hK K;refine awp_cond rfl (fun hc13=>?_) (fun hc13=>?_)
           ·refine awp_exit ?_;simp only[zT,reduceIte,Nat.reduceEqDiff];refine hK18 _ _ ?_;refine awp_prune [6,13,18,20,22,23,24,25,28] ?_;simp only[zP,Nat.reduceEqDiff,reduceIte];refine aR fun K hK=>?_;simp -dsimp [wk];apply hK;clear hK K;simp only[zT,reduceIte,Nat.reduceEqDiff];have hm:¬(fdI g (k:Int)).At.toNat∈p:=by simpa using hc13
            rw[if_neg hm]at hstep;exact⟨k+1,by omega,by omega,sub_rb [some 0,some 1,some 2] rfl (by simp[hstep]) (by simp)⟩
           ·have hm:(fdI g (k:Int)).At.toNat∈p:=by simpa using hc13
            rw[if_pos hm]at hstep;obtain⟨a,ha⟩:∃a:Nat,de=a:=⟨de.toNat,by omega⟩;obtain⟨b,hb⟩:∃b:Nat,y.Den=b:=⟨y.Den.toNat,by omega⟩;have hdv:=c_divisor9 a b (by omega) (by omega);have hgg:Int.gcd de y.Den=Nat.gcd a b:=by rw[ha,hb];rfl
            rw[hgg]at hstep;have hg0:0<Nat.gcd a b:=Nat.gcd_pos_of_pos_left b (by omega);generalize Nat.gcd a b=G at hdv hstep hg0;have hg1:¬G=0:=by omega
            have k1':(b:Int).tdiv G=y.Den/G:=by rw[hb];exact Int.tdiv_eq_ediv_of_nonneg (by omega)
            have b1:=Int.ediv_nonneg (show 0≤y.Den by omega) (show(0:Int)≤G by omega);have b2:=Int.ediv_le_self (G:Int) (show 0≤y.Den by omega);generalize y.Den/ (G:Int)=E at hstep k1' b1 b2;rw[hstep]at hdn2 hnm2;simp only at hdn2 hnm2;have k2':(2199023255552:Int).tdiv a=2199023255552/de:=by rw[ha];exact Int.tdiv_eq_ediv_of_nonneg (by omega)
            have b5:E≤2199023255552/de:=Int.le_ediv_of_mul_le (by omega) (by rw[Int.mul_comm];omega);have b3:=Int.ediv_nonneg (show(0:Int)≤2199023255552 by omega) (show(0:Int)≤de by omega);have b4:=Int.ediv_le_self de (show(0:Int)≤2199023255552 by omega);generalize (2199023255552:Int)/de=M at k2' b3 b4 b5;have n1:=Int.mul_nonneg hnm.1 b1;have k3':(de*E).tdiv y.Den=de*E/y.Den:=Int.tdiv_eq_ediv_of_nonneg (by omega);have b6:=Int.ediv_nonneg (show 0≤de*E by omega) (show 0≤y.Den by omega);have b7:=Int.ediv_le_self y.Den (show 0≤de*E by omega);generalize de*E/y.Den=R at hstep k3' b6 b7 hnm2;have n2:=Int.mul_nonneg f3 b6;have z1:IntKind.i64.wrap E=E:=wrap_in (by omega) (by omega);have z2:IntKind.i64.wrap M=M:=wrap_in (by omega) (by omega);have z3:IntKind.i64.wrap (de*E)=de*E:=wrap_in (by omega) (by omega);have z4:IntKind.i64.wrap (nu*E)=nu*E:=wrap_in (by omega) (by omega);have z5:IntKind.i64.wrap R=R:=wrap_in (by omega) (by omega);have z6:IntKind.i64.wrap (y.Num*R)=y.Num*R:=wrap_in (by omega) (by omega);have z7:IntKind.i64.wrap (nu*E+y.Num*R)=nu*E+y.Num*R:=wrap_in (by omega) (by omega);have ha0:¬a=0:=by omega
            have hb0:¬b=0:=by omega
            have hME:¬M<E:=by omega
            rw[ha]at z3 k3' hstep;rw[hb]at k3';refine awp_skip ?_;simp only[zT,reduceIte,Nat.reduceEqDiff];refine hK20 _ _ ?_;refine awp_prune [6,13,18,20,22,23,24,25,28,29] ?_;simp only[zP,Nat.reduceEqDiff,reduceIte];refine awp_sd mixed rfl fun K hK=>?_;simp -dsimp [hb,ha,hg1,k1',z1];refine callK_intro _ (hdv) (by simp) ?_;simp -dsimp [hb,ha,hg1,k1',z1];refine hK _ _ _ (by decide+kernel) ?_;clear hK K;refine awp_seq_k fun K21 hK21=>?_;refine aS fun K hK=>?_;simp -dsimp [ha,k2',z2,ha0];apply hK;clear hK K;refine awp_cond rfl (fun hc14=>?_) (fun hc14=>?_)
            ·simp[hME]at hc14
            ·refine awp_skip ?_;simp only[zT,reduceIte,Nat.reduceEqDiff];refine hK21 _ _ ?_;refine awp_prune [6,13,18,20,22,23,24,25,28,29,30] ?_;simp only[zP,Nat.reduceEqDiff,reduceIte];refine awp_draw mixed rfl fun K hK=>?_;simp -dsimp [ha,hb,hb0,z3,z4,k3',z5,z6,z7];refine hK _ _ _ (by decide+kernel) ?_;clear hK K;simp only[zT,reduceIte,Nat.reduceEqDiff];refine hK18 _ _ ?_;refine awp_prune [6,13,18,20,22,23,24,25,28] ?_;simp only[zP,Nat.reduceEqDiff,reduceIte];refine aR fun K hK=>?_;simp -dsimp [wk];apply hK;clear hK K;simp only[zT,reduceIte,Nat.reduceEqDiff];exact⟨k+1,by omega,by omega,sub_rb [some 0,some 1,some 2] rfl (by simp[hstep]) (by simp)⟩
         ·have hkl:k=g.Feeds.length:=by have:¬k<g.Feeds.length:=(by simpa using hc11);omega
          subst hkl;have hdn:=hden _ (Nat.le_refl _);have hnm:=hnum _ (Nat.le_refl _);generalize fedS g p FS g.Feeds.length=fz at*
          have wf:IntKind.i64.wrap (ctk l sv p l.length*fz.2)=ctk l sv p l.length*fz.2:=by rw[←hfin];exact wrap_in (by omega) (by omega)
          refine awp_exit ?_;simp only[zT,reduceIte,Nat.reduceEqDiff];refine hK16 _ _ ?_;refine awp_prune [6,13,18,20,22,23,24,25] ?_;simp only[zP,Nat.reduceEqDiff,reduceIte];refine aS fun K hK=>?_;simp -dsimp [wf,hfin];apply hK;clear hK K;refine awp_cond rfl (fun hc15=>?_) (fun hc15=>?_)
          ·simp[wf,hfin]at hc15
          ·refine awp_skip ?_;simp only[zT,reduceIte,Nat.reduceEqDiff];refine hK12 _ _ ?_;refine awp_prune [6,13,18,20,22] ?_;simp only[zP,Nat.reduceEqDiff,reduceIte];refine aR fun K hK=>?_;simp -dsimp [wi];apply hK;clear hK K;simp only[zT,reduceIte,Nat.reduceEqDiff];exact⟨i+1,by omega,by omega,sub_rb [some 0,some 1,some 2] rfl (by simp) (by simp)⟩
       ·refine awp_exit ?_;simp only[zT,reduceIte,Nat.reduceEqDiff];refine hK10 _ _ ?_;refine awp_prune [] ?_;simp only[zP,Nat.reduceEqDiff,reduceIte];refine aS fun K hK=>?_;simp -dsimp;refine callK_intro _ (hk) (by simp) ?_;simp -dsimp;apply hK;clear hK K;exact awp_ret (by simp)
end Go.Mo
end
section
namespace Go.Mo
open Go.AM Go.Cur Go.Proofs
theorem c_place (t:Tn) (st:Int) (x:Ms) (hb:TnB t st) (h0:0≤x.W) (h1:x.W≤1000000000000000000):PureCall Try.prog 51 [t.mp st,x.av] (I (x.W.tdiv (10*t.Mass))):=by
 have hm:=hb.ma;have hd:=tdiv_bd (a:=x.W) (b:=10*t.Mass) (B:=x.W) h0 (by omega) (Int.le_refl _);have w1:IntKind.i64.wrap (10*t.Mass)=10*t.Mass:=wrap_in (by omega) (by omega);have w2:IntKind.i64.wrap (x.W.tdiv (10*t.Mass))=x.W.tdiv (10*t.Mass):=wrap_in (by omega) (by omega);have z:¬t.Mass=0:=by omega
 have z1:¬10*t.Mass=0:=by omega
 refine PureCall.of_body Try.func51 rfl (by decide) (by simp[Try.ntmps51]) ?_;simp only[Try.ntmps51,Try.results51];refine aS fun K hK=>?_;simp -dsimp;apply hK;clear hK K;refine awp_sd mixed rfl fun K hK=>?_;simp -dsimp [w1,w2,z,z1];refine hK _ _ _ (by decide+kernel) ?_;clear hK K;exact awp_ret (by simp)
theorem c_braking1 (x:Ms) (sl:Int):PureCall Try.prog 50 [x.av, .iptr [I sl]] (I sl):=by
 refine PureCall.of_body Try.func50 rfl (by decide) (by simp[Try.ntmps50]) ?_;simp only[Try.ntmps50,Try.results50];refine aS fun K hK=>?_;simp -dsimp;apply hK;clear hK K;refine aS fun K hK=>?_;simp -dsimp;apply hK;clear hK K;exact awp_ret (by simp)
theorem c_same8 (a:List Int) (hb:a.length≤100000):PureCall Try.prog 18 [iL a,iL a] (Bo true):=by
 refine PureCall.of_body Try.func18 rfl (by decide) (by simp[Try.ntmps18]) ?_;simp only[Try.ntmps18,Try.results18];refine aS fun K hK=>?_;simp -dsimp;apply hK;clear hK K;refine awp_seq_k fun K1 hK1=>?_;refine aS fun K hK=>?_;simp -dsimp;apply hK;clear hK K;refine awp_cond rfl (fun hc0=>?_) (fun hc0=>?_)
 ·simp at hc0
 ·refine awp_skip ?_;simp only[zT,reduceIte,Nat.reduceEqDiff];refine hK1 _ _ ?_;refine awp_prune [0,1] ?_;simp only[zP,Nat.reduceEqDiff,reduceIte];refine awp_seq_k fun K2 hK2=>?_;refine aS fun K hK=>?_;simp -dsimp;apply hK;clear hK K;refine awp_block ?_;refine awp_prune [0,1,5] ?_;simp only[zP,Nat.reduceEqDiff,reduceIte];refine awp_loop_l [0,1] (α:=Nat) (fun k=>[(5,I k)]) (fun k=>[]) (fun k=>k≤a.length) (fun k=>a.length-k) 0 ?_ ?_ ?_
  ·exact Nat.zero_le _
  ·exact sub_same (by simp)
  rintro k k1;simp only[zP,Nat.reduceEqDiff,reduceIte];refine awp_seq_k fun K3 hK3=>?_;refine aS fun K hK=>?_;simp -dsimp;apply hK;clear hK K;refine awp_cond rfl (fun hc1=>?_) (fun hc1=>?_)
  ·have hka:k<a.length:=by simpa using hc1
   have wk:=zW k (by omega);obtain⟨x,hx⟩:∃x,a[k]?=some x:=⟨_,List.getElem?_eq_getElem hka⟩;refine awp_skip ?_;simp only[zT,reduceIte,Nat.reduceEqDiff];refine hK3 _ _ ?_;refine awp_prune [0,1,5] ?_;simp only[zP,Nat.reduceEqDiff,reduceIte];refine awp_seq_k fun K4 hK4=>?_;refine awp_block ?_;refine awp_sd mixed rfl fun K hK=>?_;simp -dsimp [hx];refine hK _ _ _ (by decide+kernel) ?_;clear hK K;refine awp_cond rfl (fun hc2=>?_) (fun hc2=>?_)
   ·simp at hc2
   ·refine awp_skip ?_;simp only[zT,reduceIte,Nat.reduceEqDiff];refine hK4 _ _ ?_;refine awp_prune [0,1,5] ?_;simp only[zP,Nat.reduceEqDiff,reduceIte];refine aR fun K hK=>?_;simp -dsimp [wk];apply hK;clear hK K;simp only[zT,reduceIte,Nat.reduceEqDiff];exact⟨k+1,by omega,by omega,sub_rb [] rfl (by simp) (by simp)⟩
  ·refine awp_exit ?_;simp only[zT,reduceIte,Nat.reduceEqDiff];refine hK2 _ _ ?_;refine awp_prune [] ?_;simp only[zP,Nat.reduceEqDiff,reduceIte];refine aS fun K hK=>?_;simp -dsimp;apply hK;clear hK K;exact awp_ret (by simp)
theorem c_same4 (a:List Fr) (hb:a.length≤100000):PureCall Try.prog 19 [fL a,fL a] (Bo true):=by
 refine PureCall.of_body Try.func19 rfl (by decide) (by simp[Try.ntmps19]) ?_;simp only[Try.ntmps19,Try.results19];refine aS fun K hK=>?_;simp -dsimp;apply hK;clear hK K;refine awp_seq_k fun K1 hK1=>?_;refine aS fun K hK=>?_;simp -dsimp;apply hK;clear hK K;refine awp_cond rfl (fun hc0=>?_) (fun hc0=>?_)
 ·simp at hc0
 ·refine awp_skip ?_;simp only[zT,reduceIte,Nat.reduceEqDiff];refine hK1 _ _ ?_;refine awp_prune [0,1] ?_;simp only[zP,Nat.reduceEqDiff,reduceIte];refine awp_seq_k fun K2 hK2=>?_;refine aS fun K hK=>?_;simp -dsimp;apply hK;clear hK K;refine awp_block ?_;refine awp_prune [0,1,5] ?_;simp only[zP,Nat.reduceEqDiff,reduceIte];refine awp_loop_l [0,1] (α:=Nat) (fun k=>[(5,I k)]) (fun k=>[]) (fun k=>k≤a.length) (fun k=>a.length-k) 0 ?_ ?_ ?_
  ·exact Nat.zero_le _
  ·exact sub_same (by simp)
  rintro k k1;simp only[zP,Nat.reduceEqDiff,reduceIte];refine awp_seq_k fun K3 hK3=>?_;refine aS fun K hK=>?_;simp -dsimp;apply hK;clear hK K;refine awp_cond rfl (fun hc1=>?_) (fun hc1=>?_)
  ·have hka:k<a.length:=by simpa using hc1
   have wk:=zW k (by omega);obtain⟨x,hx⟩:∃x,a[k]?=some x:=⟨_,List.getElem?_eq_getElem hka⟩;refine awp_skip ?_;simp only[zT,reduceIte,Nat.reduceEqDiff];refine hK3 _ _ ?_;refine awp_prune [0,1,5] ?_;simp only[zP,Nat.reduceEqDiff,reduceIte];refine awp_seq_k fun K4 hK4=>?_;refine awp_block ?_;refine awp_sd mixed rfl fun K hK=>?_;simp -dsimp [hx];refine hK _ _ _ (by decide+kernel) ?_;clear hK K;refine awp_cond rfl (fun hc2=>?_) (fun hc2=>?_)
   ·simp at hc2
   ·refine awp_skip ?_;simp only[zT,reduceIte,Nat.reduceEqDiff];refine hK4 _ _ ?_;refine awp_prune [0,1,5] ?_;simp only[zP,Nat.reduceEqDiff,reduceIte];refine aR fun K hK=>?_;simp -dsimp [wk];apply hK;clear hK K;simp only[zT,reduceIte,Nat.reduceEqDiff];exact⟨k+1,by omega,by omega,sub_rb [] rfl (by simp) (by simp)⟩
  ·refine awp_exit ?_;simp only[zT,reduceIte,Nat.reduceEqDiff];refine hK2 _ _ ?_;refine awp_prune [] ?_;simp only[zP,Nat.reduceEqDiff,reduceIte];refine aS fun K hK=>?_;simp -dsimp;apply hK;clear hK K;exact awp_ret (by simp)
end Go.Mo
end
section
namespace Go.AM
section
variable {P:Program} {nt:Nat} {kp:List Nat} {T:Tm} {H:Hp} {Q:Exit→Tm→Hp→Prop}
theorem gwp_range_sW {J:Jt} (hJC:JC true J) (kl:List Nat) (hp:Nat→Hp) (inv:Nat→Prop) {g:Operand} {ps:Array Tmp} {assign body:Code} {f:FuncId} {caps:List AV} {xs:List (List AV)} {H0:Hp} (hT1:T.map (·.1)=kl) (hic:IterCallW P f H0 caps xs) (hH:H=H0++H.drop H0.length) (hr0:H0.all rowOk=true) (hg:evT (look T) g= .clo f caps) (hnr:caps.all (capOk H0.length)=true) (hnt:nt≤999999)
  (hps:ps.toList.Nodup) (hpl:∀p∈ps.toList,p<nt∧p∉kl) (hx:∀x∈xs,x.length=ps.size)
  (h0:inv 0) (hs0:Sub nt T (List.replicate H0.length none++H.drop H0.length) T (hp 0))
  (round:∀n x,xs[n]?=some x→inv n→∀(l:Nat) (J1:Jt),JC false J1→GWp P (some l) J1 nt kl assign (ps.toList.zip x++T) (hp n) (onlyN fun T' H'=>∀J2:Jt,JC false J2→GWp P (some l) J2 nt kl body T' H' (roundQ nt inv hp T Q n)))
  (done:inv xs.length→Q .normal T (hp xs.length)):GWp P none J nt kp (.rangeFunc g ps assign body) T H Q:=
 gwp_rangeW hJC hH hr0 T kl hp inv hg hnr hic hnt hps hpl hx h0 hs0 (keysAny hT1) round done
end
end Go.AM
namespace Go.Mo
open Go.AM Go.Cur Go.Proofs
def afterX (t:Tn) (st:Int) (x:Ms) (d sl:Int):Ms:=⟨nextP t st x d sl,x.W+nextP t st x d sl⟩
def stopN (t:Tn) (st:Int) (sF:Ms→Int):Nat→Ms→List Ms
 |0,_=>[]
 |n+1,x=>if x.P=0 then []else if nextP t st x (-4) (sF x)≤25000*t.Mass then afterX t st x (-4) (sF x)::stopN t st sF n (afterX t st x (-4) (sF x))else []
theorem stopN_len (t:Tn) (st:Int) (sF:Ms→Int):∀(n:Nat) (x:Ms),(stopN t st sF n x).length≤n
 |0,x=>Nat.le_refl _
 | n+1,x=>by
  rw[stopN]
  split
  ·simp
  ·split
   ·have:=stopN_len t st sF n (afterX t st x (-4) (sF x));simp only[List.length_cons];omega
   ·simp
def yAV (y:Ms):List AV:=[y.av]
theorem c_stop1_c (t:Tn) (st:Int) (hb:TnB t st) (f:FuncId) (cl:List (List AV)) (sF:Ms→Int) (hs:∀x,MsB t x→PureCall Try.prog f (x.av::ipts cl) (I (sF x))) (hsl:∀x,MsB t x→ -120≤sF x∧sF x≤120) (x0:Ms) (hx:MsB t x0) (hw:x0.W≤100000000000000000):
  IterCallW Try.prog 72 [some (.els 2 [x0.cells])] [.ptr 0 0 0, .iptr [t.mp st], .iptr [.clo f (ipts cl)]] ((stopN t st sF 36000 x0).map yAV):=by
 have hln:=stopN_len t st sF 36000 x0;refine IterCallW.of_body Try.func72 rfl (by decide) (by simp[Try.ntmps72]) (by simp[Try.ntmps72]) (by simp[Try.results72]) ?_;intro J l hmk hY;simp only[Try.ntmps72,Try.results72];refine gS fun K hK=>?_;simp -dsimp;apply hK;clear hK K;refine gwp_block ?_;refine gwp_prune [0,1,2,3,7,999999] (Or.inl (by decide)) ?_;simp only[zP,Nat.reduceEqDiff,reduceIte];refine gwp_loop_l [0,1,2,3] (α:=List Ms×Ms) (fun q=>[(7,I q.1.length),(999999,cntV q.1.length)]) (fun q=>[some (.els 2 [q.2.cells])]) (fun q=>q.1.length≤36000∧q.1++stopN t st sF (36000-q.1.length) q.2=stopN t st sF 36000 x0∧MsB t q.2∧q.2.W≤100000000000000000+q.1.length*2100000000) (fun q=>36000-q.1.length) ([],x0) ?_ ?_ ?_
 ·exact⟨by simp,by simp,hx,by simpa using hw⟩
 ·exact gsub (sub_rb [some 0] rfl (by simp) (by simp)) (by simp)
 rintro⟨L,x⟩ ⟨i1,i2,i3,i4⟩;simp only at i1 i2 i3 i4 ⊢;simp only[zP,Nat.reduceEqDiff,reduceIte];refine gS fun K hK=>?_;simp -dsimp;apply hK;clear hK K;refine gwp_seq_k fun K1 hK1=>?_;refine gwp_cond rfl (fun hc0=>?_) (fun hc0=>?_)
 ·have hlt:L.length<36000:=by have h:=(by simpa using hc0:(L.length:Int)<36000);omega
  have wk:IntKind.i64.wrap ((L.length:Int)+1)=(L.length:Int)+1:=wrap_in (by omega) (by omega);obtain⟨m,hm⟩:∃m,36000-L.length=m+1:=⟨36000-L.length-1,by omega⟩;have hm2:36000-(L.length+1)=m:=by omega
  rw[hm,stopN]at i2;refine gwp_skip ?_;simp only[zT,reduceIte,Nat.reduceEqDiff];refine hK1 _ _ ?_;refine gwp_prune [0,1,2,3,7,999999] (Or.inl (by decide)) ?_;simp only[zP,Nat.reduceEqDiff,reduceIte];refine gwp_seq_k fun K2 hK2=>?_;refine gwp_block ?_;refine gwp_seq_k fun K3 hK3=>?_;refine gS fun K hK=>?_;simp -dsimp;apply hK;clear hK K;refine gwp_cond rfl (fun hc1=>?_) (fun hc1=>?_)
  ·have hp0:x.P=0:=by simpa using hc1
   rw[if_pos hp0,List.append_nil]at i2;exact gwp_ret (by simp[←i2])
  ·have hp0:¬x.P=0:=by simpa using hc1
   rw[if_neg hp0]at i2;have hsx:=hs x i3;have hst:=c_step t st x (-4) (sF x) ⟨hb,i3,by omega,hsl x i3⟩;have hnb:=next_bd (t:=t) (st:=st) (x:=x) (d:=-4) (sl:=sF x) ⟨hb,i3,by omega,hsl x i3⟩;unfold stepC at hst;refine gwp_skip ?_;simp only[zT,reduceIte,Nat.reduceEqDiff];refine hK3 _ _ ?_;refine gwp_prune [0,1,2,3,7,999999] (Or.inl (by decide)) ?_;simp only[zP,Nat.reduceEqDiff,reduceIte];refine gwp_sd mixed rfl (by decide) rfl rfl fun K hK=>?_;simp -dsimp;refine callK_intro _ (hsx) (by simp) ?_;simp -dsimp;refine callK_intro _ (hst) (by simp) ?_;simp -dsimp;refine hK _ _ _ (by decide+kernel) ?_;clear hK K;refine gwp_seq_k fun K4 hK4=>?_;refine gS fun K hK=>?_;simp -dsimp;apply hK;clear hK K;refine gwp_cond rfl (fun hc2=>?_) (fun hc2=>?_)
   ·have hno:¬nextP t st x (-4) (sF x)≤25000*t.Mass:=by simpa using hc2
    rw[if_neg hno,List.append_nil]at i2;exact gwp_ret (by simp[←i2])
   ·have hok:nextP t st x (-4) (sF x)≤25000*t.Mass:=by simpa using hc2
    rw[if_pos hok]at i2;have hget:((stopN t st sF 36000 x0).map yAV)[L.length]?=some [(afterX t st x (-4) (sF x)).av]:=by rw[←i2];simp[yAV]
    have haw:(afterX t st x (-4) (sF x)).W=x.W+nextP t st x (-4) (sF x):=rfl;have hap:(afterX t st x (-4) (sF x)).P=nextP t st x (-4) (sF x):=rfl;refine gwp_skip ?_;simp only[zT,reduceIte,Nat.reduceEqDiff];refine hK4 _ _ ?_;refine gwp_prune [0,1,2,3,5,7,999999] (Or.inl (by decide)) ?_;simp only[zP,Nat.reduceEqDiff,reduceIte];refine gS fun K hK=>?_;simp -dsimp;apply hK;clear hK K;refine gwp_sy hmk hY rfl (by decide) rfl rfl fun K hK=>?_;simp -dsimp;refine yK_intro hget ?_ ?_
    ·apply hK;clear hK K;refine gwp_cond rfl (fun hc3=>?_) (fun hc3=>?_)
     ·simp at hc3
     ·refine gwp_skip ?_;simp only[zT,reduceIte,Nat.reduceEqDiff];refine hK2 _ _ ?_;refine gwp_prune [0,1,2,3,7,999999] (Or.inl (by decide)) ?_;simp only[zP,Nat.reduceEqDiff,reduceIte];refine gR fun K hK=>?_;simp -dsimp [wk];apply hK;clear hK K;simp only[zT,reduceIte,Nat.reduceEqDiff];exact⟨(L++[afterX t st x (-4) (sF x)],afterX t st x (-4) (sF x)),⟨by simp;omega,by simp only[List.length_append,List.length_cons,List.length_nil,Nat.zero_add,hm2,List.append_assoc,List.cons_append,List.nil_append];exact i2,⟨by rw[hap];omega,by rw[haw];have:=i3.w;omega⟩,by rw[haw];simp;omega⟩,by simp;omega,gsub (sub_rb [some 0] rfl (by simp[haw,hap]) (by simp[haw,hap])) (by simp)⟩
    ·apply hK;clear hK K;refine gwp_cond rfl (fun hc3=>?_) (fun hc3=>?_)
     ·exact gwp_ret (by simp)
     ·simp at hc3
 ·have hlt:36000-L.length=0:=by have:¬(L.length:Int)<36000:=(by simpa using hc0);omega
  rw[hlt,stopN,List.append_nil]at i2;refine gwp_exit ?_
  try simp only[zT,reduceIte,Nat.reduceEqDiff]
  simp[←i2]
theorem m_stop_c (t:Tn) (st:Int) (f:FuncId) (cl:List (List AV)) (x:Ms):MutCall Try.prog 49 [t.mp st,x.av, .clo f (ipts cl)] [] [] (.clo 72 [.ptr 0 0 0, .iptr [t.mp st], .iptr [.clo f (ipts cl)]]) [] [some (.els 2 [x.cells])]:=by
 refine MutCall.of_bodyG [] Try.func49 rfl (by decide) (by simp[Try.ntmps49]) rfl rfl ?_;intro J hJ;simp only[Try.ntmps49,Try.results49];refine gS fun K hK=>?_;simp -dsimp;apply hK;clear hK K;refine gS fun K hK=>?_;simp -dsimp;apply hK;clear hK K;refine gwp_weak (gsub (sub_rfM [some 1] rfl) (by simp)) ?_;simp -dsimp [renF,renHF,renRowF,ipts_frz,newName];exact gwp_ret ⟨[some 0],rfl,by simp,by simp,by simp,by simp[resP,tupOf]⟩
def lastX (t:Tn) (st:Int) (sF:Ms→Int) (x:Ms):Ms:=(stopN t st sF 36000 x).getLastD x
theorem step_ok {t:Tn} {st:Int} {x:Ms} {d sl:Int} (h:Ask t st x d sl) (hw:x.W≤900000000000000000) (hq:nextP t st x d sl≤25000*t.Mass):MsB t (afterX t st x d sl):=by
 have hn:=next_bd h;have hx:=h.x;exact⟨⟨hn.1,hq⟩,⟨by show 0≤x.W+_;have:=hx.w;omega,by show x.W+_≤_;omega⟩⟩
theorem stopN_ok {t:Tn} {st:Int} (hb:TnB t st) {sF:Ms→Int} (hsl:∀x,MsB t x→ -120≤sF x∧sF x≤120):∀(n:Nat) (x:Ms) (B:Int),MsB t x→x.W≤B→B+n*2100000000≤900000000000000000→∀y∈stopN t st sF n x,MsB t y∧y.W≤B+n*2100000000
 |0,x,B,_,_,_,y,h=>by simp[stopN]at h
 | n+1,x,B,hx,hB,hn,y,h=>by
  rw[stopN]at h
  split at h
  ·simp at h
  ·split at h
   ·rename_i hq;have ha:Ask t st x (-4) (sF x):=⟨hb,hx,by omega,hsl x hx⟩;have hx2:=step_ok ha (by omega) hq;have hnb:=next_bd ha;have haw:(afterX t st x (-4) (sF x)).W=x.W+nextP t st x (-4) (sF x):=rfl
    rcases List.mem_cons.1 h with rfl|h
    ·exact⟨hx2,by rw[haw];omega⟩
    ·have:=stopN_ok hb hsl n _ (B+2100000000) hx2 (by rw[haw];omega) (by omega) y h;exact⟨this.1,by have:=this.2;omega⟩
   ·simp at h
theorem lastX_ok {t:Tn} {st:Int} (hb:TnB t st) {sF:Ms→Int} (hsl:∀x,MsB t x→ -120≤sF x∧sF x≤120) {x:Ms} (hx:MsB t x) (hw:x.W≤100000000000000000):MsB t (lastX t st sF x)∧(lastX t st sF x).W≤200000000000000000:=by
 unfold lastX;rw[List.getLastD_eq_getLast?]
 cases h:(stopN t st sF 36000 x).getLast? with
 |none=>exact⟨hx,by simp;omega⟩
 |some y=>
  have:=stopN_ok hb hsl 36000 x 100000000000000000 hx hw (by omega) y (List.mem_of_getLast? h);exact⟨this.1,by have:=this.2;simp;omega⟩
def plF (t:Tn) (x:Ms):Int:=x.W.tdiv (10*t.Mass)
theorem plF_bd {t:Tn} {st:Int} (hb:TnB t st) {x:Ms} (hx:MsB t x):0≤plF t x∧plF t x≤100000000000000:=by
 have hm:=hb.ma;have hw:=hx.w;unfold plF;rw[Int.tdiv_eq_ediv_of_nonneg hw.1];refine⟨Int.ediv_nonneg hw.1 (by omega),Int.ediv_le_of_le_mul (by omega) (by omega)⟩
def brkF (t:Tn) (st:Int) (x:Ms) (sl:Int):Int:=plF t (lastX t st (fun _=>sl) x)-plF t x
theorem c_braking (t:Tn) (st:Int) (x:Ms) (sl:Int) (hb:TnB t st) (hx:MsB t x) (hw:x.W≤100000000000000000) (h0:-120≤sl∧sl≤120):
  PureCall Try.prog 27 [t.mp st,x.av,I sl] (.tup [I (brkF t st x sl),Bo (decide ((lastX t st (fun _=>sl) x).P=0))]):=by
 have hms:=m_stop_c t st 50 [[I sl]] x;have hit:=c_stop1_c t st hb 50 [[I sl]] (fun _=>sl) (fun x _=>c_braking1 x sl) (fun _ _=>h0) x hx hw;obtain⟨hl,hlw⟩:=lastX_ok hb (sF:=fun _=>sl) (fun _ _=>h0) hx hw;have hp1:=c_place t st (lastX t st (fun _=>sl) x) hb hl.w.1 hl.w.2;have hp2:=c_place t st x hb hx.w.1 hx.w.2;have b1:=plF_bd hb hl;have b2:=plF_bd hb hx;have hlx:lastX t st (fun _=>sl) x=(stopN t st (fun _=>sl) 36000 x).getLastD x:=rfl;unfold brkF;have wp:IntKind.i64.wrap (plF t (lastX t st (fun _=>sl) x)-plF t x)=plF t (lastX t st (fun _=>sl) x)-plF t x:=wrap_in (by omega) (by omega);unfold plF at*
 rw[List.getLastD_eq_getLast?]at hlx;generalize lastX t st (fun _=>sl) x=y at*
 generalize stopN t st (fun _=>sl) 36000 x=L at*
 simp only[ipts]at hms hit;refine PureCall.of_bodyG Try.func27 rfl (by decide) (by simp[Try.ntmps27]) ?_;intro J hJ;simp only[Try.ntmps27,Try.results27];refine gS fun K hK=>?_;simp -dsimp;apply hK;clear hK K;refine gS fun K hK=>?_;simp -dsimp;apply hK;clear hK K;refine gwp_seq_k fun K1 hK1=>?_;refine gwp_weak (gsub (sub_rfM [some 0,some 2] rfl) (by simp)) ?_;simp -dsimp [renF,renHF,renRowF,newName]
 ·refine gS fun K hK=>?_;simp -dsimp;refine callK_mut [] [] [none,none,some 0] (hms) (by decide) rfl (by simp) (by simp) rfl (by simp) ?_;simp -dsimp;apply hK;clear hK K;refine gwp_block ?_;refine gwp_prune [0,4,8,14] (Or.inr (by simp)) ?_;simp only[zP,Nat.reduceEqDiff,reduceIte];refine gwp_weak (gsub (sub_rfM [some 2,some 0,some 1] rfl) (by simp)) ?_;simp -dsimp [renF,renHF,renRowF,newName];refine gwp_range_sW hJ [0,4,8,14] (fun n=>[none,some (.els 2 [x.cells]),some (.els 2 [((L.take n).getLastD x).cells])]) (fun n=>True) rfl (hit) rfl (by simp[rowOk]) rfl (by simp[capOk]) (by decide) (by decide) (by decide) (by simp[yAV]) ?_ ?_ ?_ ?_
  ·trivial
  ·exact sub_same (by simp)
  ·intro n xv hxn hi l1 J1 hJ1;obtain⟨q,hq,rfl⟩:∃q,L[n]?=some q∧yAV q=xv:=by simpa using hxn
   simp only[yAV];simp only[List.zip_cons_cons,List.zip_nil_left,List.zip_nil_right,List.cons_append,List.nil_append];refine gR fun K hK=>?_;simp -dsimp;apply hK;clear hK K;simp only[onlyN];intro J2 hJ2;refine gwp_prune [0,4,8,9,14] (Or.inr (by simp)) ?_;simp only[zP,Nat.reduceEqDiff,reduceIte];refine gwp_block ?_;refine gR fun K hK=>?_;simp -dsimp;apply hK;clear hK K;simp only[thenA,inBlockA,roundQ,reduceIte,Nat.reduceEqDiff,eq_self];have htk:(L.take (n+1)).getLast?.getD x=q:=by rw[List.take_add_one,hq];simp
   exact⟨trivial,sub_rb [some 0,some 1,some 2] rfl (by simp) (by simp[htk])⟩
  ·intro hdone;simp only[zT,reduceIte,Nat.reduceEqDiff];refine hK1 _ _ ?_;refine gwp_prune [0,4,8] (Or.inr (by simp)) ?_;simp only[zP,Nat.reduceEqDiff,reduceIte];refine gwp_sd mixed rfl (by decide) rfl rfl fun K hK=>?_;simp -dsimp [←hlx,wp];refine callK_intro _ (hp1) (by simp) ?_;simp -dsimp [←hlx,wp];refine callK_intro _ (hp2) (by simp) ?_;simp -dsimp [←hlx,wp];refine hK _ _ _ (by decide+kernel) ?_;clear hK K;exact gwp_ret (by simp[wp]<;>rfl)
end Go.Mo
end
section
namespace Go.Mo
open Go.AM Go.Cur Go.Proofs
theorem c_dwithin (x lo hi:Int):PureCall Try.prog 52 [I x,I lo,I hi] (Bo (inr x lo hi)):=by
 refine PureCall.of_body Try.func52 rfl (by decide) (by simp[Try.ntmps52]) ?_;simp only[Try.ntmps52,Try.results52];refine aS fun K hK=>?_;simp -dsimp;apply hK;clear hK K;refine aS fun K hK=>?_;simp -dsimp;apply hK;clear hK K;exact awp_ret (by simp[inr])
theorem c_dead (l:List Int) (i j:Nat) (x y:Int) (hx:l[i]?=some x) (hy:l[j]?=some y):PureCall Try.prog 54 [iL l,I i,I j] (Bo (decide (x<y))):=by
 refine PureCall.of_body Try.func54 rfl (by decide) (by simp[Try.ntmps54]) ?_;simp only[Try.ntmps54,Try.results54];refine aS fun K hK=>?_;simp -dsimp;apply hK;clear hK K;refine awp_sd mixed rfl fun K hK=>?_;simp -dsimp [hx,hy];refine hK _ _ _ (by decide+kernel) ?_;clear hK K;exact awp_ret (by simp)
theorem c_way (l:List Int):PureCall Try.prog 29 [iL l,Bo false] (.bnd 54 [iL l]):=by
 refine PureCall.of_body Try.func29 rfl (by decide) (by simp[Try.ntmps29]) ?_;simp only[Try.ntmps29,Try.results29];refine aS fun K hK=>?_;simp -dsimp;apply hK;clear hK K;refine awp_seq_k fun K1 hK1=>?_;refine aS fun K hK=>?_;simp -dsimp;apply hK;clear hK K;refine awp_cond rfl (fun hc0=>?_) (fun hc0=>?_)
 ·simp at hc0
 ·refine awp_skip ?_;simp only[zT,reduceIte,Nat.reduceEqDiff];refine hK1 _ _ ?_;refine awp_prune [0] ?_;simp only[zP,Nat.reduceEqDiff,reduceIte];refine aS fun K hK=>?_;simp -dsimp;apply hK;clear hK K;exact awp_ret (by simp)
theorem c_perm:PureCall Try.prog 28 [iL [2,0,1]] (Bo true):=by
 have w1:IntKind.i64.wrap 1=1:=rfl;have w2:IntKind.i64.wrap 2=2:=rfl;have w3:IntKind.i64.wrap 3=3:=rfl;have f3:Fits 3 2:=fits_of (by omega) (by omega);have h0:=c_dwithin 2 0 2;have h1:=c_dwithin 0 0 2;have h2:=c_dwithin 1 0 2;refine PureCall.of_body Try.func28 rfl (by decide) (by simp[Try.ntmps28]) ?_;simp only[Try.ntmps28,Try.results28];refine aS fun K hK=>?_;simp -dsimp;apply hK;clear hK K;refine aS fun K hK=>?_;simp -dsimp [f3];apply hK;clear hK K;refine awp_seq_k fun K1 hK1=>?_;refine aS fun K hK=>?_;simp -dsimp;apply hK;clear hK K;refine awp_block ?_;refine awp_prune [0,3,9,10,11] ?_;simp only[zP,Nat.reduceEqDiff,reduceIte];refine awp_loop_l [0,3,9,10] (α:=Nat) (fun k=>[(11,I k)]) (fun k=>[some (.els 1 [[Bo (decide (1<k))],[Bo (decide (2<k))],[Bo (decide (0<k))]])]) (fun k=>k≤3) (fun k=>3-k) 0 ?_ ?_ ?_
 ·exact Nat.zero_le _
 ·exact sub_rb [some 0] rfl (by simp) (by simp)
 rintro k k1
 rcases(by omega:k=0∨k=1∨k=2∨k=3)with rfl|rfl|rfl|rfl
 ·simp only[zP,Nat.reduceEqDiff,reduceIte];refine aS fun K hK=>?_;simp -dsimp;apply hK;clear hK K;refine awp_seq_k fun K2 hK2=>?_;refine awp_cond rfl (fun hc0=>?_) (fun hc0=>?_)
  ·refine awp_skip ?_;simp only[zT,reduceIte,Nat.reduceEqDiff];refine hK2 _ _ ?_;refine awp_prune [0,3,9,10,11] ?_;simp only[zP,Nat.reduceEqDiff,reduceIte];refine awp_seq_k fun K3 hK3=>?_;refine awp_block ?_;refine aS fun K hK=>?_;simp -dsimp;apply hK;clear hK K;refine awp_seq_k fun K4 hK4=>?_;refine aS fun K hK=>?_;simp -dsimp [w2];refine callK_intro _ (h0) (by simp) ?_;simp -dsimp [w2];apply hK;clear hK K;refine awp_cond rfl (fun hc1=>?_) (fun hc1=>?_)
   ·simp[inr]at hc1
   ·refine awp_skip ?_;simp only[zT,reduceIte,Nat.reduceEqDiff];refine hK4 _ _ ?_;refine awp_prune [0,3,5,9,10,11] ?_;simp only[zP,Nat.reduceEqDiff,reduceIte];refine aR fun K hK=>?_;simp -dsimp;apply hK;clear hK K;simp only[zT,reduceIte,Nat.reduceEqDiff];refine hK3 _ _ ?_;refine awp_prune [0,3,9,10,11] ?_;simp only[zP,Nat.reduceEqDiff,reduceIte];refine aR fun K hK=>?_;simp -dsimp [w1,w2,w3];apply hK;clear hK K;simp only[zT,reduceIte,Nat.reduceEqDiff];exact⟨1,by omega,by omega,sub_rb [some 0] rfl (by simp[w1,w2,w3]) (by simp)⟩
  ·simp at hc0
 ·simp only[zP,Nat.reduceEqDiff,reduceIte];refine aS fun K hK=>?_;simp -dsimp;apply hK;clear hK K;refine awp_seq_k fun K5 hK5=>?_;refine awp_cond rfl (fun hc0=>?_) (fun hc0=>?_)
  ·refine awp_skip ?_;simp only[zT,reduceIte,Nat.reduceEqDiff];refine hK5 _ _ ?_;refine awp_prune [0,3,9,10,11] ?_;simp only[zP,Nat.reduceEqDiff,reduceIte];refine awp_seq_k fun K6 hK6=>?_;refine awp_block ?_;refine aS fun K hK=>?_;simp -dsimp;apply hK;clear hK K;refine awp_seq_k fun K7 hK7=>?_;refine aS fun K hK=>?_;simp -dsimp [w2];refine callK_intro _ (h1) (by simp) ?_;simp -dsimp [w2];apply hK;clear hK K;refine awp_cond rfl (fun hc1=>?_) (fun hc1=>?_)
   ·simp[inr]at hc1
   ·refine awp_skip ?_;simp only[zT,reduceIte,Nat.reduceEqDiff];refine hK7 _ _ ?_;refine awp_prune [0,3,5,9,10,11] ?_;simp only[zP,Nat.reduceEqDiff,reduceIte];refine aR fun K hK=>?_;simp -dsimp;apply hK;clear hK K;simp only[zT,reduceIte,Nat.reduceEqDiff];refine hK6 _ _ ?_;refine awp_prune [0,3,9,10,11] ?_;simp only[zP,Nat.reduceEqDiff,reduceIte];refine aR fun K hK=>?_;simp -dsimp [w1,w2,w3];apply hK;clear hK K;simp only[zT,reduceIte,Nat.reduceEqDiff];exact⟨2,by omega,by omega,sub_rb [some 0] rfl (by simp[w1,w2,w3]) (by simp)⟩
  ·simp at hc0
 ·simp only[zP,Nat.reduceEqDiff,reduceIte];refine aS fun K hK=>?_;simp -dsimp;apply hK;clear hK K;refine awp_seq_k fun K8 hK8=>?_;refine awp_cond rfl (fun hc0=>?_) (fun hc0=>?_)
  ·refine awp_skip ?_;simp only[zT,reduceIte,Nat.reduceEqDiff];refine hK8 _ _ ?_;refine awp_prune [0,3,9,10,11] ?_;simp only[zP,Nat.reduceEqDiff,reduceIte];refine awp_seq_k fun K9 hK9=>?_;refine awp_block ?_;refine aS fun K hK=>?_;simp -dsimp;apply hK;clear hK K;refine awp_seq_k fun K10 hK10=>?_;refine aS fun K hK=>?_;simp -dsimp [w2];refine callK_intro _ (h2) (by simp) ?_;simp -dsimp [w2];apply hK;clear hK K;refine awp_cond rfl (fun hc1=>?_) (fun hc1=>?_)
   ·simp[inr]at hc1
   ·refine awp_skip ?_;simp only[zT,reduceIte,Nat.reduceEqDiff];refine hK10 _ _ ?_;refine awp_prune [0,3,5,9,10,11] ?_;simp only[zP,Nat.reduceEqDiff,reduceIte];refine aR fun K hK=>?_;simp -dsimp;apply hK;clear hK K;simp only[zT,reduceIte,Nat.reduceEqDiff];refine hK9 _ _ ?_;refine awp_prune [0,3,9,10,11] ?_;simp only[zP,Nat.reduceEqDiff,reduceIte];refine aR fun K hK=>?_;simp -dsimp [w1,w2,w3];apply hK;clear hK K;simp only[zT,reduceIte,Nat.reduceEqDiff];exact⟨3,by omega,by omega,sub_rb [some 0] rfl (by simp[w1,w2,w3]) (by simp)⟩
  ·simp at hc0
 ·simp only[zP,Nat.reduceEqDiff,reduceIte];refine aS fun K hK=>?_;simp -dsimp;apply hK;clear hK K;refine awp_seq_k fun K11 hK11=>?_;refine awp_cond rfl (fun hc0=>?_) (fun hc0=>?_)
  ·simp at hc0
  ·refine awp_exit ?_;simp only[zT,reduceIte,Nat.reduceEqDiff];refine hK1 _ _ ?_;refine awp_prune [] ?_;simp only[zP,Nat.reduceEqDiff,reduceIte];refine aS fun K hK=>?_;simp -dsimp;apply hK;clear hK K;exact awp_ret (by simp)
abbrev wayR:Option ARow:=some (.els 1 [[.bnd 54 [iL [2,0,1]]]])
def onR:Nat→Hp
 |0=>[wayR,some (.els 1 []),some (.els 1 [])]
 |1=>[wayR,some (.els 1 [[.full 1 [[I 0]]]]),some (.els 1 [[I 0]])]
 |2=>[wayR,some (.els 1 [[.row 3 0 2]]),some (.els 1 [[I 0],[I 0]]),some (.els 1 [[I 0],[I 1]])]
 |_=>[wayR,some (.els 1 [[.row 3 0 2],[.full 1 [[I 2]]]]),some (.els 1 [[I 0],[I 0],[I 1]]),some (.els 1 [[I 0],[I 1]])]
def onN:Nat→Nat
 |0=>0
 |1=>1
 |2=>1
 |_=>2
@[simp] theorem onR0:onR 0=[wayR,some (.els 1 []),some (.els 1 [])]:=rfl
@[simp] theorem onR1:onR 1=[wayR,some (.els 1 [[.full 1 [[I 0]]]]),some (.els 1 [[I 0]])]:=rfl
@[simp] theorem onR2:onR 2=[wayR,some (.els 1 [[.row 3 0 2]]),some (.els 1 [[I 0],[I 0]]),some (.els 1 [[I 0],[I 1]])]:=rfl
@[simp] theorem onR3:onR 3=[wayR,some (.els 1 [[.row 3 0 2],[.full 1 [[I 2]]]]),some (.els 1 [[I 0],[I 0],[I 1]]),some (.els 1 [[I 0],[I 1]])]:=rfl
@[simp] theorem onN0:onN 0=0:=rfl
@[simp] theorem onN1:onN 1=1:=rfl
@[simp] theorem onN2:onN 2=1:=rfl
@[simp] theorem onN3:onN 3=2:=rfl
@[simp] def lgR (a b c:Int):Hp:=[wayR,some (.els 1 [[.row 3 0 2],[.full 1 [[I 2]]]]),some (.els 1 [[I 0],[I 0],[I 1]]),some (.els 1 [[I 0],[I 1]]),some (.els 1 [[I a],[I b],[I c]])]
def lgK:Nat→Hp
 |0=>lgR 0 0 0
 |1=>lgR 0 0 1
 |2=>lgR 0 2 1
 |_=>lgR 1 2 1
@[simp] theorem lgK0:lgK 0=lgR 0 0 0:=rfl
@[simp] theorem lgK1:lgK 1=lgR 0 0 1:=rfl
@[simp] theorem lgK2:lgK 2=lgR 0 2 1:=rfl
@[simp] theorem lgK3:lgK 3=lgR 1 2 1:=rfl
def lgJ:Nat→Hp
 |3=>lgR 0 1 1
 |_=>lgR 0 0 1
@[simp] theorem lgJ2:lgJ 2=lgR 0 0 1:=rfl
@[simp] theorem lgJ3:lgJ 3=lgR 0 1 1:=rfl
def prR:Nat→Hp
 |0=>lgR 1 2 1++[some (.els 1 [])]
 |1=>lgR 1 2 1++[some (.els 1 [])]
 |2=>lgR 1 2 1++[some (.els 1 [[I 1]])]
 |_=>lgR 1 2 1++[some (.els 1 [[I 1],[I 2]])]
@[simp] theorem prR0:prR 0=lgR 1 2 1++[some (.els 1 [])]:=rfl
@[simp] theorem prR1:prR 1=lgR 1 2 1++[some (.els 1 [])]:=rfl
@[simp] theorem prR2:prR 2=lgR 1 2 1++[some (.els 1 [[I 1]])]:=rfl
@[simp] theorem prR3:prR 3=lgR 1 2 1++[some (.els 1 [[I 1],[I 2]])]:=rfl
theorem c_Assign1 (l:List Int) (i j:Nat) (x y:Int) (hx:l[i]?=some x) (hy:l[j]?=some y):PureCall Try.prog 31 [I i, .iptr [.bnd 54 [iL l]], .iptr [I j]] (Bo (decide (x<y))):=by
 have h:=c_dead l i j x y hx hy;refine PureCall.of_body Try.func31 rfl (by decide) (by simp[Try.ntmps31]) ?_;simp only[Try.ntmps31,Try.results31];refine aS fun K hK=>?_;simp -dsimp;apply hK;clear hK K;refine aS fun K hK=>?_;simp -dsimp;refine callK_intro _ (h) (by simp) ?_;simp -dsimp;apply hK;clear hK K;exact awp_ret (by simp)
theorem c_held (ks:List Nat) (j:Nat) (b:Bool) (h:∀k∈ks,∃x y:Int,([2,0,1]:List Int)[k]?=some x∧([2,0,1]:List Int)[j]?=some y) (hb:(ks.any fun k=>decide (([2,0,1]:List Int).getD k 0<([2,0,1]:List Int).getD j 0))=b) (hn:ks.length≤100000):
  PureCall Try.prog 30 [.lst 1 (ks.map fun(k:Nat)=>[I k]), .clo 31 [.iptr [.bnd 54 [iL [2,0,1]]], .iptr [I j]]] (Bo b):=by
 have hc:=c_Cont_i (ks.map fun(k:Nat)=>(k:Int)) 31 [[.bnd 54 [iL [2,0,1]]],[I j]] (fun x=>decide (([2,0,1]:List Int).getD x.toNat 0<([2,0,1]:List Int).getD j 0)) (fun x hx=>by
  obtain⟨k,hk,rfl⟩:=List.mem_map.1 hx;obtain⟨x,y,h1,h2⟩:=h k hk;have:=c_Assign1 [2,0,1] k j x y h1 h2;simp only[List.getD_eq_getElem?_getD,Int.toNat_natCast,h1,h2,Option.getD_some];exact this) (by simpa using hn)
 have e:((ks.map fun(k:Nat)=>(k:Int)).any fun x=>decide (([2,0,1]:List Int).getD x.toNat 0<([2,0,1]:List Int).getD j 0))=b:=by
  rw[←hb,List.any_map];simp only[Function.comp_def,Int.toNat_natCast]
 rw[e]at hc;simp only[iL,List.map_map,ipts]at hc;exact hc
theorem c_Assign:PureCall Try.prog 16 [iL [2,0,1],Bo false] (.tup [iL [0,0,1],iL [1,2],I 0]):=by
 have w0:IntKind.i64.wrap 0=0:=rfl;have w1:IntKind.i64.wrap 1=1:=rfl;have w2:IntKind.i64.wrap 2=2:=rfl;have w3:IntKind.i64.wrap 3=3:=rfl;have f1:Fits 1 24:=fits_of (by omega) (by omega);have f2:Fits 2 24:=fits_of (by omega) (by omega);have f3:Fits 3 24:=fits_of (by omega) (by omega);have g1:Fits 1 25:=fits_of (by omega) (by omega);have g2:Fits 2 25:=fits_of (by omega) (by omega);have f4:Fits 1 9:=fits_of (by omega) (by omega);have f5:Fits 2 9:=fits_of (by omega) (by omega);have f6:Fits 3 9:=fits_of (by omega) (by omega);have hp:=c_perm;have hw:=c_way [2,0,1];have hh1:=c_held [0] 1 false (by simp) (by decide) (by simp);have hh1:=hh1.wk (args:=[.full 1 [[I 0]], .clo 31 [.iptr [.bnd 54 [iL [2,0,1]]], .iptr [I 1]]]) (by rfl);have hh2:=c_held [0,1] 2 true (by simp) (by decide) (by simp);have d01:PureCall Try.prog 54 [iL [2,0,1],I 0,I 1] (Bo false):=c_dead [2,0,1] 0 1 2 0 rfl rfl;have d02:PureCall Try.prog 54 [iL [2,0,1],I 0,I 2] (Bo false):=c_dead [2,0,1] 0 2 2 1 rfl rfl;have d12:PureCall Try.prog 54 [iL [2,0,1],I 1,I 2] (Bo true):=c_dead [2,0,1] 1 2 0 1 rfl rfl;have wm:IntKind.i64.wrap (-1)=-1:=rfl;refine PureCall.of_body Try.func16 rfl (by decide) (by simp[Try.ntmps16]) ?_;simp only[Try.ntmps16,Try.results16];refine aS fun K hK=>?_;simp -dsimp;apply hK;clear hK K;refine awp_scope ?_;refine awp_seq_k fun K1 hK1=>?_;refine aS fun K hK=>?_;simp -dsimp;refine callK_may _ (fun hm=>hp) (by simp) ?_;simp -dsimp;apply hK;clear hK K;refine awp_cond rfl (fun hc0=>?_) (fun hc0=>?_)
 ·simp at hc0
 ·refine awp_skip ?_;simp only[zT,reduceIte,Nat.reduceEqDiff];refine hK1 _ _ ?_;refine awp_prune [0,1] ?_;simp only[zP,Nat.reduceEqDiff,reduceIte];refine aS fun K hK=>?_;simp -dsimp;refine callK_intro _ (hw) (by simp) ?_;simp -dsimp;apply hK;clear hK K;refine aS fun K hK=>?_;simp -dsimp;apply hK;clear hK K;refine aS fun K hK=>?_;simp -dsimp;apply hK;clear hK K;refine awp_sl ?_;refine awp_seq_k fun K2 hK2=>?_;refine aS fun K hK=>?_;simp -dsimp;apply hK;clear hK K;refine awp_block ?_;refine awp_prune [0,7,8,9,31,32] ?_;simp only[zP,Nat.reduceEqDiff,reduceIte];refine awp_loop_l [0,7,31] (α:=Nat) (fun k=>[(8, .row 1 0 (onN k)),(9, .row 2 0 k),(32,I k)]) onR (fun k=>k≤3) (fun k=>3-k) 0 ?_ ?_ ?_
  ·exact Nat.zero_le _
  ·exact((sub_nil 8 1 (by simp)).trans (sub_nil 9 1 (by simp))).trans (sub_same (by simp))
  rintro k k1
  rcases(by omega:k=0∨k=1∨k=2∨k=3)with rfl|rfl|rfl|rfl
  ·simp only[zP,Nat.reduceEqDiff,reduceIte];refine aS fun K hK=>?_;simp -dsimp;apply hK;clear hK K;refine awp_seq_k fun K3 hK3=>?_;refine awp_cond rfl (fun hc1=>?_) (fun hc1=>?_)
   ·refine awp_skip ?_;simp only[zT,reduceIte,Nat.reduceEqDiff];refine hK3 _ _ ?_;refine awp_prune [0,7,8,9,31,32] ?_;simp only[zP,Nat.reduceEqDiff,reduceIte];refine awp_seq_k fun K4 hK4=>?_;refine awp_block ?_;refine aS fun K hK=>?_;simp -dsimp;apply hK;clear hK K;refine awp_seq_k fun K5 hK5=>?_;refine aS fun K hK=>?_;simp -dsimp;apply hK;clear hK K;refine awp_block ?_;refine awp_prune [0,7,8,9,10,31,32,35,36,37] ?_;simp only[zP,Nat.reduceEqDiff,reduceIte];refine awp_loop_l [0,7,8,10,31,32,35,36] (α:=Nat) (fun t=>[(37,I t),(9, .row 2 0 0)]) (fun _=>[wayR,some (.els 1 []),some (.els 1 []),some (.els 1 [[I 0]])]) (fun t=>t≤0) (fun t=>0-t) 0 ?_ ?_ ?_
    ·exact Nat.zero_le _
    ·exact sub_same (by simp)
    rintro t t1;obtain rfl:t=0:=by omega
    simp only[zP,Nat.reduceEqDiff,reduceIte];refine aS fun K hK=>?_;simp -dsimp;apply hK;clear hK K;refine awp_seq_k fun K6 hK6=>?_;refine awp_cond rfl (fun hc2=>?_) (fun hc2=>?_)
    ·simp at hc2
    ·refine awp_exit ?_;simp only[zT,reduceIte,Nat.reduceEqDiff];refine hK5 _ _ ?_;refine awp_prune [0,7,8,9,10,31,32] ?_;simp only[zP,Nat.reduceEqDiff,reduceIte];refine aS fun K hK=>?_;simp -dsimp [f1,f2,f3,f4,f5,f6];apply hK;clear hK K;refine aR fun K hK=>?_;simp -dsimp [g1,g2];apply hK;clear hK K;simp only[zT,reduceIte,Nat.reduceEqDiff];refine hK4 _ _ ?_;refine awp_prune [0,7,8,9,31,32] ?_;simp only[zP,Nat.reduceEqDiff,reduceIte];refine aR fun K hK=>?_;simp -dsimp [w1,w2,w3];apply hK;clear hK K;simp only[zT,reduceIte,Nat.reduceEqDiff];exact⟨1,by omega,by omega,sub_rb [some 0,some 5,some 4] rfl (by simp[w1]) (by simp)⟩
   ·simp at hc1
  ·simp only[zP,Nat.reduceEqDiff,reduceIte];refine aS fun K hK=>?_;simp -dsimp;apply hK;clear hK K;refine awp_seq_k fun K7 hK7=>?_;refine awp_cond rfl (fun hc1=>?_) (fun hc1=>?_)
   ·refine awp_skip ?_;simp only[zT,reduceIte,Nat.reduceEqDiff];refine hK7 _ _ ?_;refine awp_prune [0,7,8,9,31,32] ?_;simp only[zP,Nat.reduceEqDiff,reduceIte];refine awp_seq_k fun K8 hK8=>?_;refine awp_block ?_;refine aS fun K hK=>?_;simp -dsimp;apply hK;clear hK K;refine awp_seq_k fun K9 hK9=>?_;refine aS fun K hK=>?_;simp -dsimp;apply hK;clear hK K;refine awp_block ?_;refine awp_prune [0,7,8,9,10,31,32,35,36,37] ?_;simp only[zP,Nat.reduceEqDiff,reduceIte];refine awp_loop_l [0,7,8,10,31,32,35,36] (α:=Nat) (fun t=>[(37,I t),(9, .row 2 0 1)]) (fun _=>[wayR,some (.els 1 [[.full 1 [[I 0]]]]),some (.els 1 [[I 0]]),some (.els 1 [[I 1]])]) (fun t=>t≤0) (fun t=>0-t) 0 ?_ ?_ ?_
    ·exact Nat.zero_le _
    ·exact sub_same (by simp)
    rintro t t1;obtain rfl:t=0:=by omega
    simp only[zP,Nat.reduceEqDiff,reduceIte];refine aS fun K hK=>?_;simp -dsimp;apply hK;clear hK K;refine awp_seq_k fun K10 hK10=>?_;refine awp_cond rfl (fun hc2=>?_) (fun hc2=>?_)
    ·refine awp_skip ?_;simp only[zT,reduceIte,Nat.reduceEqDiff];refine hK10 _ _ ?_;refine awp_prune [0,7,8,9,10,31,32,35,36,37] ?_;simp only[zP,Nat.reduceEqDiff,reduceIte];refine awp_seq_k fun K11 hK11=>?_;refine awp_block ?_;refine aS fun K hK=>?_;simp -dsimp;apply hK;clear hK K;refine aS fun K hK=>?_;simp -dsimp;refine callK_intro _ (hh1) (by simp) ?_;simp -dsimp;apply hK;clear hK K;refine awp_cond rfl (fun hc3=>?_) (fun hc3=>?_)
     ·refine aS fun K hK=>?_;simp -dsimp [f1,f2,f5];apply hK;clear hK K;refine aS fun K hK=>?_;simp -dsimp [f1,f2,f3,f4,f5,f6];apply hK;clear hK K;refine awp_exit ?_;simp only[zT,reduceIte,Nat.reduceEqDiff];refine hK8 _ _ ?_;refine awp_prune [0,7,8,9,31,32] ?_;simp only[zP,Nat.reduceEqDiff,reduceIte];refine aR fun K hK=>?_;simp -dsimp [w1,w2,w3];apply hK;clear hK K;simp only[zT,reduceIte,Nat.reduceEqDiff];exact⟨2,by omega,by omega,sub_rb [some 0,some 1,some 5,some 4] rfl (by simp[w1]) (by simp)⟩
     ·simp at hc3
    ·simp at hc2
   ·simp at hc1
  ·simp only[zP,Nat.reduceEqDiff,reduceIte];refine aS fun K hK=>?_;simp -dsimp;apply hK;clear hK K;refine awp_seq_k fun K12 hK12=>?_;refine awp_cond rfl (fun hc1=>?_) (fun hc1=>?_)
   ·refine awp_skip ?_;simp only[zT,reduceIte,Nat.reduceEqDiff];refine hK12 _ _ ?_;refine awp_prune [0,7,8,9,31,32] ?_;simp only[zP,Nat.reduceEqDiff,reduceIte];refine awp_seq_k fun K13 hK13=>?_;refine awp_block ?_;refine aS fun K hK=>?_;simp -dsimp;apply hK;clear hK K;refine awp_seq_k fun K14 hK14=>?_;refine aS fun K hK=>?_;simp -dsimp;apply hK;clear hK K;refine awp_block ?_;refine awp_prune [0,7,8,9,10,31,32,35,36,37] ?_;simp only[zP,Nat.reduceEqDiff,reduceIte];refine awp_loop_l [0,7,8,10,31,32,35,36] (α:=Nat) (fun t=>[(37,I t),(9, .row 2 0 2)]) (fun _=>[wayR,some (.els 1 [[.row 3 0 2]]),some (.els 1 [[I 0],[I 0]]),some (.els 1 [[I 0],[I 1]]),some (.els 1 [[I 2]])]) (fun t=>t≤1) (fun t=>1-t) 0 ?_ ?_ ?_
    ·exact Nat.zero_le _
    ·exact sub_same (by simp)
    rintro t t1
    rcases(by omega:t=0∨t=1)with rfl|rfl
    ·simp only[zP,Nat.reduceEqDiff,reduceIte];refine aS fun K hK=>?_;simp -dsimp;apply hK;clear hK K;refine awp_seq_k fun K15 hK15=>?_;refine awp_cond rfl (fun hc2=>?_) (fun hc2=>?_)
     ·refine awp_skip ?_;simp only[zT,reduceIte,Nat.reduceEqDiff];refine hK15 _ _ ?_;refine awp_prune [0,7,8,9,10,31,32,35,36,37] ?_;simp only[zP,Nat.reduceEqDiff,reduceIte];refine awp_seq_k fun K16 hK16=>?_;refine awp_block ?_;refine aS fun K hK=>?_;simp -dsimp;apply hK;clear hK K;refine aS fun K hK=>?_;simp -dsimp;refine callK_intro _ (hh2) (by simp) ?_;simp -dsimp;apply hK;clear hK K;refine awp_cond rfl (fun hc3=>?_) (fun hc3=>?_)
      ·simp at hc3
      ·refine awp_skip ?_;simp only[zT,reduceIte,Nat.reduceEqDiff];refine hK16 _ _ ?_;refine awp_prune [0,7,8,9,10,31,32,35,36,37] ?_;simp only[zP,Nat.reduceEqDiff,reduceIte];refine aR fun K hK=>?_;simp -dsimp [w1];apply hK;clear hK K;simp only[zT,reduceIte,Nat.reduceEqDiff];exact⟨1,by omega,by omega,sub_same (by simp)⟩
     ·simp at hc2
    ·simp only[zP,Nat.reduceEqDiff,reduceIte];refine aS fun K hK=>?_;simp -dsimp;apply hK;clear hK K;refine awp_seq_k fun K17 hK17=>?_;refine awp_cond rfl (fun hc2=>?_) (fun hc2=>?_)
     ·simp at hc2
     ·refine awp_exit ?_;simp only[zT,reduceIte,Nat.reduceEqDiff];refine hK14 _ _ ?_;refine awp_prune [0,7,8,9,10,31,32] ?_;simp only[zP,Nat.reduceEqDiff,reduceIte];refine aS fun K hK=>?_;simp -dsimp [f1,f2,f3,f4,f5,f6];apply hK;clear hK K;refine aR fun K hK=>?_;simp -dsimp [g1,g2];apply hK;clear hK K;simp only[zT,reduceIte,Nat.reduceEqDiff];refine hK13 _ _ ?_;refine awp_prune [0,7,8,9,31,32] ?_;simp only[zP,Nat.reduceEqDiff,reduceIte];refine aR fun K hK=>?_;simp -dsimp [w1,w2,w3];apply hK;clear hK K;simp only[zT,reduceIte,Nat.reduceEqDiff];exact⟨3,by omega,by omega,sub_rb [some 0,some 6,some 5,some 3] rfl (by simp[w1]) (by simp)⟩
   ·simp at hc1
  ·simp only[zP,Nat.reduceEqDiff,reduceIte];refine aS fun K hK=>?_;simp -dsimp;apply hK;clear hK K;refine awp_seq_k fun K18 hK18=>?_;refine awp_cond rfl (fun hc1=>?_) (fun hc1=>?_)
   ·simp at hc1
   ·refine awp_exit ?_;simp only[zT,reduceIte,Nat.reduceEqDiff];refine hK2 _ _ ?_;refine awp_prune [0,7,8,9] ?_;simp only[zP,Nat.reduceEqDiff,reduceIte];refine aS fun K hK=>?_;simp -dsimp [f6];apply hK;clear hK K;refine awp_seq_k fun K19 hK19=>?_;refine aS fun K hK=>?_;simp -dsimp;apply hK;clear hK K;refine awp_block ?_;refine awp_prune [0,7,8,9,13,14] ?_;simp only[zP,Nat.reduceEqDiff,reduceIte];refine awp_loop_l [0,7,8,9,13] (α:=Nat) (fun k=>[(14,I (2-(k:Int)))]) lgK (fun k=>k≤3) (fun k=>3-k) 0 ?_ ?_ ?_
    ·exact Nat.zero_le _
    ·exact sub_same (by simp[w2,lgR])
    rintro k k1
    rcases(by omega:k=0∨k=1∨k=2∨k=3)with rfl|rfl|rfl|rfl
    all_goals simp only[lgK0,lgK1,lgK2,lgK3,lgR]
    ·simp only[zP,Nat.reduceEqDiff,reduceIte];refine awp_seq_k fun K20 hK20=>?_;refine aS fun K hK=>?_;simp -dsimp;apply hK;clear hK K;refine awp_cond rfl (fun hc4=>?_) (fun hc4=>?_)
     ·refine awp_skip ?_;simp only[zT,reduceIte,Nat.reduceEqDiff];refine hK20 _ _ ?_;refine awp_prune [0,7,8,9,13,14] ?_;simp only[zP,Nat.reduceEqDiff,reduceIte];refine awp_seq_k fun K21 hK21=>?_;refine awp_block ?_;refine awp_seq_k fun K22 hK22=>?_;refine aS fun K hK=>?_;simp -dsimp [w1,w2,w3];apply hK;clear hK K;refine awp_block ?_;refine awp_prune [0,7,8,9,13,14,15] ?_;simp only[zP,Nat.reduceEqDiff,reduceIte];refine awp_loop_l [0,7,8,9,13,14] (α:=Nat) (fun t=>[(15,I t)]) (fun _=>lgR 0 0 0) (fun t=>t=3) (fun t=>3-t) 3 ?_ ?_ ?_
      ·simp
      ·exact sub_same (by simp[w1,w2,w3,lgR])
      rintro t rfl;simp only[zP,Nat.reduceEqDiff,reduceIte];refine awp_seq_k fun K23 hK23=>?_;refine aS fun K hK=>?_;simp -dsimp;apply hK;clear hK K;refine awp_cond rfl (fun hc5=>?_) (fun hc5=>?_)
      ·simp at hc5
      ·refine awp_exit ?_;simp only[zT,reduceIte,Nat.reduceEqDiff];refine hK22 _ _ ?_;refine awp_prune [0,7,8,9,13,14] ?_;simp only[zP,Nat.reduceEqDiff,reduceIte];refine aR fun K hK=>?_;simp -dsimp [w1,w2];apply hK;clear hK K;simp only[zT,reduceIte,Nat.reduceEqDiff];refine hK21 _ _ ?_;refine awp_prune [0,7,8,9,13,14] ?_;simp only[zP,Nat.reduceEqDiff,reduceIte];refine aR fun K hK=>?_;simp -dsimp [w1,w2,w0,wm];apply hK;clear hK K;simp only[zT,reduceIte,Nat.reduceEqDiff];exact⟨1,by omega,by omega,sub_same (by simp[lgR])⟩
     ·simp at hc4
    ·simp only[zP,Nat.reduceEqDiff,reduceIte];refine awp_seq_k fun K24 hK24=>?_;refine aS fun K hK=>?_;simp -dsimp;apply hK;clear hK K;refine awp_cond rfl (fun hc4=>?_) (fun hc4=>?_)
     ·refine awp_skip ?_;simp only[zT,reduceIte,Nat.reduceEqDiff];refine hK24 _ _ ?_;refine awp_prune [0,7,8,9,13,14] ?_;simp only[zP,Nat.reduceEqDiff,reduceIte];refine awp_seq_k fun K25 hK25=>?_;refine awp_block ?_;refine awp_seq_k fun K26 hK26=>?_;refine aS fun K hK=>?_;simp -dsimp [w1,w2,w3];apply hK;clear hK K;refine awp_block ?_;refine awp_prune [0,7,8,9,13,14,15] ?_;simp only[zP,Nat.reduceEqDiff,reduceIte];refine awp_loop_l [0,7,8,9,13,14] (α:=Nat) (fun t=>[(15,I t)]) lgJ (fun t=>t=2∨t=3) (fun t=>3-t) 2 ?_ ?_ ?_
      ·simp
      ·exact sub_same (by simp[w1,w2,w3,lgR])
      rintro t (rfl|rfl)
      ·simp only[zP,Nat.reduceEqDiff,reduceIte];refine awp_seq_k fun K27 hK27=>?_;refine aS fun K hK=>?_;simp -dsimp;apply hK;clear hK K;refine awp_cond rfl (fun hc5=>?_) (fun hc5=>?_)
       ·refine awp_skip ?_;simp only[zT,reduceIte,Nat.reduceEqDiff];refine hK27 _ _ ?_;refine awp_prune [0,7,8,9,13,14,15] ?_;simp only[zP,Nat.reduceEqDiff,reduceIte];refine awp_seq_k fun K28 hK28=>?_;refine awp_block ?_;refine aS fun K hK=>?_;simp -dsimp;refine callK_intro _ (d12) (by simp) ?_;simp -dsimp;apply hK;clear hK K;refine awp_cond rfl (fun hc6=>?_) (fun hc6=>?_)
        ·refine awp_draw mixed rfl fun K hK=>?_;simp -dsimp;refine hK _ _ _ (by decide+kernel) ?_;clear hK K;simp only[zT,reduceIte,Nat.reduceEqDiff];refine hK28 _ _ ?_;refine awp_prune [0,7,8,9,13,14,15] ?_;simp only[zP,Nat.reduceEqDiff,reduceIte];refine aR fun K hK=>?_;simp -dsimp [w2,w3];apply hK;clear hK K;simp only[zT,reduceIte,Nat.reduceEqDiff];exact⟨3,by simp,by omega,sub_same (by simp[lgR])⟩
        ·simp at hc6
       ·simp at hc5
      ·simp only[zP,Nat.reduceEqDiff,reduceIte];refine awp_seq_k fun K29 hK29=>?_;refine aS fun K hK=>?_;simp -dsimp;apply hK;clear hK K;refine awp_cond rfl (fun hc5=>?_) (fun hc5=>?_)
       ·simp at hc5
       ·refine awp_exit ?_;simp only[zT,reduceIte,Nat.reduceEqDiff];refine hK26 _ _ ?_;refine awp_prune [0,7,8,9,13,14] ?_;simp only[zP,Nat.reduceEqDiff,reduceIte];refine aR fun K hK=>?_;simp -dsimp [w1,w2];apply hK;clear hK K;simp only[zT,reduceIte,Nat.reduceEqDiff];refine hK25 _ _ ?_;refine awp_prune [0,7,8,9,13,14] ?_;simp only[zP,Nat.reduceEqDiff,reduceIte];refine aR fun K hK=>?_;simp -dsimp [w1,w2,w0,wm];apply hK;clear hK K;simp only[zT,reduceIte,Nat.reduceEqDiff];exact⟨2,by omega,by omega,sub_same (by simp[lgR])⟩
     ·simp at hc4
    ·simp only[zP,Nat.reduceEqDiff,reduceIte];refine awp_seq_k fun K30 hK30=>?_;refine aS fun K hK=>?_;simp -dsimp;apply hK;clear hK K;refine awp_cond rfl (fun hc4=>?_) (fun hc4=>?_)
     ·refine awp_skip ?_;simp only[zT,reduceIte,Nat.reduceEqDiff];refine hK30 _ _ ?_;refine awp_prune [0,7,8,9,13,14] ?_;simp only[zP,Nat.reduceEqDiff,reduceIte];refine awp_seq_k fun K31 hK31=>?_;refine awp_block ?_;refine awp_seq_k fun K32 hK32=>?_;refine aS fun K hK=>?_;simp -dsimp [w1,w2,w3];apply hK;clear hK K;refine awp_block ?_;refine awp_prune [0,7,8,9,13,14,15] ?_;simp only[zP,Nat.reduceEqDiff,reduceIte];refine awp_loop_l [0,7,8,9,13,14] (α:=Nat) (fun t=>[(15,I t)]) (fun _=>lgR 0 2 1) (fun t=>t=1∨t=2∨t=3) (fun t=>3-t) 1 ?_ ?_ ?_
      ·simp
      ·exact sub_same (by simp[w1,w2,w3,lgR])
      rintro t (rfl|rfl|rfl)
      ·simp only[zP,Nat.reduceEqDiff,reduceIte];refine awp_seq_k fun K33 hK33=>?_;refine aS fun K hK=>?_;simp -dsimp;apply hK;clear hK K;refine awp_cond rfl (fun hc5=>?_) (fun hc5=>?_)
       ·refine awp_skip ?_;simp only[zT,reduceIte,Nat.reduceEqDiff];refine hK33 _ _ ?_;refine awp_prune [0,7,8,9,13,14,15] ?_;simp only[zP,Nat.reduceEqDiff,reduceIte];refine awp_seq_k fun K34 hK34=>?_;refine awp_block ?_;refine aS fun K hK=>?_;simp -dsimp;refine callK_intro _ (d01) (by simp) ?_;simp -dsimp;apply hK;clear hK K;refine awp_cond rfl (fun hc6=>?_) (fun hc6=>?_)
        ·simp at hc6
        ·refine awp_skip ?_;simp only[zT,reduceIte,Nat.reduceEqDiff];refine hK34 _ _ ?_;refine awp_prune [0,7,8,9,13,14,15] ?_;simp only[zP,Nat.reduceEqDiff,reduceIte];refine aR fun K hK=>?_;simp -dsimp [w2,w3];apply hK;clear hK K;simp only[zT,reduceIte,Nat.reduceEqDiff];exact⟨2,by simp,by omega,sub_same (by simp[lgR])⟩
       ·simp at hc5
      ·simp only[zP,Nat.reduceEqDiff,reduceIte];refine awp_seq_k fun K35 hK35=>?_;refine aS fun K hK=>?_;simp -dsimp;apply hK;clear hK K;refine awp_cond rfl (fun hc5=>?_) (fun hc5=>?_)
       ·refine awp_skip ?_;simp only[zT,reduceIte,Nat.reduceEqDiff];refine hK35 _ _ ?_;refine awp_prune [0,7,8,9,13,14,15] ?_;simp only[zP,Nat.reduceEqDiff,reduceIte];refine awp_seq_k fun K36 hK36=>?_;refine awp_block ?_;refine aS fun K hK=>?_;simp -dsimp;refine callK_intro _ (d02) (by simp) ?_;simp -dsimp;apply hK;clear hK K;refine awp_cond rfl (fun hc6=>?_) (fun hc6=>?_)
        ·simp at hc6
        ·refine awp_skip ?_;simp only[zT,reduceIte,Nat.reduceEqDiff];refine hK36 _ _ ?_;refine awp_prune [0,7,8,9,13,14,15] ?_;simp only[zP,Nat.reduceEqDiff,reduceIte];refine aR fun K hK=>?_;simp -dsimp [w2,w3];apply hK;clear hK K;simp only[zT,reduceIte,Nat.reduceEqDiff];exact⟨3,by simp,by omega,sub_same (by simp[lgR])⟩
       ·simp at hc5
      ·simp only[zP,Nat.reduceEqDiff,reduceIte];refine awp_seq_k fun K37 hK37=>?_;refine aS fun K hK=>?_;simp -dsimp;apply hK;clear hK K;refine awp_cond rfl (fun hc5=>?_) (fun hc5=>?_)
       ·simp at hc5
       ·refine awp_exit ?_;simp only[zT,reduceIte,Nat.reduceEqDiff];refine hK32 _ _ ?_;refine awp_prune [0,7,8,9,13,14] ?_;simp only[zP,Nat.reduceEqDiff,reduceIte];refine aR fun K hK=>?_;simp -dsimp [w1,w2];apply hK;clear hK K;simp only[zT,reduceIte,Nat.reduceEqDiff];refine hK31 _ _ ?_;refine awp_prune [0,7,8,9,13,14] ?_;simp only[zP,Nat.reduceEqDiff,reduceIte];refine aR fun K hK=>?_;simp -dsimp [w1,w2,w0,wm];apply hK;clear hK K;simp only[zT,reduceIte,Nat.reduceEqDiff];exact⟨3,by omega,by omega,sub_same (by simp[lgR])⟩
     ·simp at hc4
    ·simp only[zP,Nat.reduceEqDiff,reduceIte];refine awp_seq_k fun K38 hK38=>?_;refine aS fun K hK=>?_;simp -dsimp;apply hK;clear hK K;refine awp_cond rfl (fun hc4=>?_) (fun hc4=>?_)
     ·simp at hc4
     ·refine awp_exit ?_;simp only[zT,reduceIte,Nat.reduceEqDiff];refine hK19 _ _ ?_;refine awp_prune [0,7,8,9,13] ?_;simp only[zP,Nat.reduceEqDiff,reduceIte];refine aS fun K hK=>?_;simp -dsimp;apply hK;clear hK K;refine aS fun K hK=>?_;simp -dsimp;apply hK;clear hK K;refine awp_seq_k fun K39 hK39=>?_;refine aS fun K hK=>?_;simp -dsimp;apply hK;clear hK K;refine awp_block ?_;refine awp_prune [7,9,13,16,17,112,113] ?_;simp only[zP,Nat.reduceEqDiff,reduceIte];refine awp_loop_l [7,9,13,112] (α:=Nat) (fun k=>[(16, .row 5 0 (k-1)),(17,I (if k<2 then 2 else if k=2 then 1 else 0)),(113,I k)]) prR (fun k=>k≤3) (fun k=>3-k) 0 ?_ ?_ ?_
      ·exact Nat.zero_le _
      ·exact(sub_nil 16 1 (by simp)).trans (sub_same (by simp[lgR]))
      rintro k k1
      rcases(by omega:k=0∨k=1∨k=2∨k=3)with rfl|rfl|rfl|rfl
      all_goals simp only[prR0,prR1,prR2,prR3,lgR]
      ·simp only[zP,Nat.reduceEqDiff,reduceIte];refine aS fun K hK=>?_;simp -dsimp;apply hK;clear hK K;refine awp_seq_k fun K40 hK40=>?_;refine awp_cond rfl (fun hc7=>?_) (fun hc7=>?_)
       ·refine awp_skip ?_;simp only[zT,reduceIte,Nat.reduceEqDiff];refine hK40 _ _ ?_;refine awp_prune [7,9,13,16,17,112,113] ?_;simp only[zP,Nat.reduceEqDiff,reduceIte];refine awp_seq_k fun K41 hK41=>?_;refine awp_block ?_;refine aS fun K hK=>?_;simp -dsimp;apply hK;clear hK K;refine awp_sd mixed rfl fun K hK=>?_;simp -dsimp [w0,w1,wm];refine callK_may (Bo false) (fun hm=>by simp at hm) (by simp) ?_;simp -dsimp [w0,w1,wm];refine hK _ _ _ (by decide+kernel) ?_;clear hK K;refine awp_cond rfl (fun hc8=>?_) (fun hc8=>?_)
        ·simp at hc8
        ·refine awp_skip ?_;simp only[zT,reduceIte,Nat.reduceEqDiff];refine hK41 _ _ ?_;refine awp_prune [7,9,13,16,17,112,113] ?_;simp only[zP,Nat.reduceEqDiff,reduceIte];refine aR fun K hK=>?_;simp -dsimp [w1,w2,w3];apply hK;clear hK K;simp only[zT,reduceIte,Nat.reduceEqDiff];exact⟨1,by omega,by omega,sub_rb [some 0,some 1,some 2,some 3,some 4,some 5] rfl (by simp) (by simp[lgR])⟩
       ·simp at hc7
      ·simp only[zP,Nat.reduceEqDiff,reduceIte];refine aS fun K hK=>?_;simp -dsimp;apply hK;clear hK K;refine awp_seq_k fun K42 hK42=>?_;refine awp_cond rfl (fun hc7=>?_) (fun hc7=>?_)
       ·refine awp_skip ?_;simp only[zT,reduceIte,Nat.reduceEqDiff];refine hK42 _ _ ?_;refine awp_prune [7,9,13,16,17,112,113] ?_;simp only[zP,Nat.reduceEqDiff,reduceIte];refine awp_seq_k fun K43 hK43=>?_;refine awp_block ?_;refine aS fun K hK=>?_;simp -dsimp;apply hK;clear hK K;refine awp_sd mixed rfl fun K hK=>?_;simp -dsimp [w0,w1,wm];refine callK_may (Bo false) (fun hm=>by simp at hm) (by simp) ?_;simp -dsimp [w0,w1,wm];refine hK _ _ _ (by decide+kernel) ?_;clear hK K;refine awp_cond rfl (fun hc8=>?_) (fun hc8=>?_)
        ·refine aS fun K hK=>?_;simp -dsimp [f4,f5];apply hK;clear hK K;refine aR fun K hK=>?_;simp -dsimp [w1,w0];apply hK;clear hK K;simp only[zT,reduceIte,Nat.reduceEqDiff];refine hK43 _ _ ?_;refine awp_prune [7,9,13,16,17,112,113] ?_;simp only[zP,Nat.reduceEqDiff,reduceIte];refine aR fun K hK=>?_;simp -dsimp [w1,w2,w3];apply hK;clear hK K;simp only[zT,reduceIte,Nat.reduceEqDiff];exact⟨2,by omega,by omega,sub_rb [some 0,some 1,some 2,some 3,some 4,some 6] rfl (by simp) (by simp[lgR])⟩
        ·simp at hc8
       ·simp at hc7
      ·simp only[zP,Nat.reduceEqDiff,reduceIte];refine aS fun K hK=>?_;simp -dsimp;apply hK;clear hK K;refine awp_seq_k fun K44 hK44=>?_;refine awp_cond rfl (fun hc7=>?_) (fun hc7=>?_)
       ·refine awp_skip ?_;simp only[zT,reduceIte,Nat.reduceEqDiff];refine hK44 _ _ ?_;refine awp_prune [7,9,13,16,17,112,113] ?_;simp only[zP,Nat.reduceEqDiff,reduceIte];refine awp_seq_k fun K45 hK45=>?_;refine awp_block ?_;refine aS fun K hK=>?_;simp -dsimp;apply hK;clear hK K;refine awp_sd mixed rfl fun K hK=>?_;simp -dsimp [w0,w1,wm];refine callK_may _ (fun hm=>d12) (by simp) ?_;simp -dsimp [w0,w1,wm];refine hK _ _ _ (by decide+kernel) ?_;clear hK K;refine awp_cond rfl (fun hc8=>?_) (fun hc8=>?_)
        ·refine aS fun K hK=>?_;simp -dsimp [f4,f5];apply hK;clear hK K;refine aR fun K hK=>?_;simp -dsimp [w1,w0];apply hK;clear hK K;simp only[zT,reduceIte,Nat.reduceEqDiff];refine hK45 _ _ ?_;refine awp_prune [7,9,13,16,17,112,113] ?_;simp only[zP,Nat.reduceEqDiff,reduceIte];refine aR fun K hK=>?_;simp -dsimp [w1,w2,w3];apply hK;clear hK K;simp only[zT,reduceIte,Nat.reduceEqDiff];exact⟨3,by omega,by omega,sub_rb [some 0,some 1,some 2,some 3,some 4,some 6] rfl (by simp) (by simp[lgR])⟩
        ·simp at hc8
       ·simp at hc7
      ·simp only[zP,Nat.reduceEqDiff,reduceIte];refine aS fun K hK=>?_;simp -dsimp;apply hK;clear hK K;refine awp_seq_k fun K46 hK46=>?_;refine awp_cond rfl (fun hc7=>?_) (fun hc7=>?_)
       ·simp at hc7
       ·refine awp_exit ?_;simp only[zT,reduceIte,Nat.reduceEqDiff];refine hK39 _ _ ?_;refine awp_prune [9,16] ?_;simp only[zP,Nat.reduceEqDiff,reduceIte];refine aS fun K hK=>?_;simp -dsimp;apply hK;clear hK K;exact awp_ret (by simp)
end Go.Mo
end
section
namespace Go.Mo
open Go.AM Go.Cur Go.Proofs
def brkR (t:Tn) (st:Int) (x:Ms) (sl:Int):AV:=if (lastX t st (fun _=>sl) x).P=0 then .tup [I (brkF t st x sl),I 0]else .tup [I 0,I 4]
theorem c_Braking (t:Tn) (st:Int) (x:Ms) (sl:Int) (h:okT t=true) (h0:0≤st) (h1:st<t.Grip.length) (ha:askB t x 0 sl=true):PureCall Try.prog 15 [t.av,x.av,I sl,I st] (brkR t st x sl):=by
 have hk:=askB_ask h h0 h1 ha;have hxw:x.W≤100000000000000000:=by simp only[askB,Bool.and_eq_true,inr_iff]at ha;omega
 have hm:=c_asked_m t st x 0 sl h h0 h1;rw[ha]at hm;have hb:=c_braking t st x sl hk.b hk.x hxw hk.s;unfold brkR
 by_cases hp:(lastX t st (fun _=>sl) x).P=0
 ·rw[decide_eq_true hp]at hb;rw[if_pos hp];refine PureCall.of_body Try.func15 rfl (by decide) (by simp[Try.ntmps15]) ?_;simp only[Try.ntmps15,Try.results15];refine aS fun K hK=>?_;simp -dsimp;apply hK;clear hK K;refine aS fun K hK=>?_;simp -dsimp;refine callK_intro _ (hm) (by simp) ?_;simp -dsimp;apply hK;clear hK K;refine awp_seq_k fun K1 hK1=>?_;refine aS fun K hK=>?_;simp -dsimp;apply hK;clear hK K;refine awp_cond rfl (fun hc0=>?_) (fun hc0=>?_)
  ·simp at hc0
  ·refine awp_skip ?_;simp only[zT,reduceIte,Nat.reduceEqDiff];refine hK1 _ _ ?_;refine awp_prune [2,5,10] ?_;simp only[zP,Nat.reduceEqDiff,reduceIte];refine aS fun K hK=>?_;simp -dsimp;refine callK_intro _ (hb) (by simp) ?_;simp -dsimp;apply hK;clear hK K;refine awp_seq_k fun K2 hK2=>?_;refine aS fun K hK=>?_;simp -dsimp;apply hK;clear hK K;refine awp_cond rfl (fun hc1=>?_) (fun hc1=>?_)
   ·simp at hc1
   ·refine awp_skip ?_;simp only[zT,reduceIte,Nat.reduceEqDiff];refine hK2 _ _ ?_;refine awp_prune [12] ?_;simp only[zP,Nat.reduceEqDiff,reduceIte];refine aS fun K hK=>?_;simp -dsimp;apply hK;clear hK K;exact awp_ret (by simp)
 ·rw[decide_eq_false hp]at hb;rw[if_neg hp];refine PureCall.of_body Try.func15 rfl (by decide) (by simp[Try.ntmps15]) ?_;simp only[Try.ntmps15,Try.results15];refine aS fun K hK=>?_;simp -dsimp;apply hK;clear hK K;refine aS fun K hK=>?_;simp -dsimp;refine callK_intro _ (hm) (by simp) ?_;simp -dsimp;apply hK;clear hK K;refine awp_seq_k fun K1 hK1=>?_;refine aS fun K hK=>?_;simp -dsimp;apply hK;clear hK K;refine awp_cond rfl (fun hc0=>?_) (fun hc0=>?_)
  ·simp at hc0
  ·refine awp_skip ?_;simp only[zT,reduceIte,Nat.reduceEqDiff];refine hK1 _ _ ?_;refine awp_prune [2,5,10] ?_;simp only[zP,Nat.reduceEqDiff,reduceIte];refine aS fun K hK=>?_;simp -dsimp;refine callK_intro _ (hb) (by simp) ?_;simp -dsimp;apply hK;clear hK K;refine awp_seq_k fun K2 hK2=>?_;refine aS fun K hK=>?_;simp -dsimp;apply hK;clear hK K;refine awp_cond rfl (fun hc1=>?_) (fun hc1=>?_)
   ·refine aS fun K hK=>?_;simp -dsimp;apply hK;clear hK K;exact awp_ret (by simp)
   ·simp at hc1
abbrev ex9T:Tn:=⟨1000,5000,10000,2000,1000,1000000,0,0,50,[1000,10]⟩
theorem ex9_brk:brkR ex9T 0 ⟨1000000,0⟩ 0= .tup [I 450,I 0]:=by
 have e1:(lastX ex9T 0 (fun _=>0) ⟨1000000,0⟩).P=0:=by decide+kernel
 have e2:brkF ex9T 0 ⟨1000000,0⟩ 0=450:=by decide+kernel
 unfold brkR;rw[if_pos e1,e2]
abbrev ex9G:Gr:=⟨1,[],[⟨0,600,2,0⟩],0⟩
abbrev ex9S:Sta:=⟨[true],[]⟩
abbrev ex9L:List Ld:=[⟨0,4,0⟩]
theorem c_ex9S:PureCall Try.prog 17 [.agg [I 1, .v (.slice none 0 0), .full 4 [[I 0,I 600,I 2,I 0]],I 0], .agg [.full 1 [[Bo true]], .v (.slice none 0 0)], .full 3 [[I 0,I 4,I 0]]] (.tup [fL [⟨598,1⟩],fL [⟨4,1⟩],I 0]):=by
 have hl:∀p∈partL ex9G ex9S,p.length≤5:=by decide+kernel
 have h:=c_Solve ex9G ex9S ex9L (by decide) (fun _ p hp=>by have:=hl p hp;omega) (fun _ _ p hp=>Or.inl (hl p hp));unfold solveA at h;rw[if_pos (by decide+kernel),if_neg (by decide+kernel),if_pos (by decide+kernel)]at h;rw[show vlA ex9G.Nodes.toNat (vfS ex9G ex9S (tkK ex9L (allS ex9L)))=[⟨598,1⟩]by decide+kernel,show flA ex9G ex9S (vfS ex9G ex9S (tkK ex9L (allS ex9L)))=[⟨4,1⟩]by decide+kernel]at h;refine PureCall.argR h rfl fun i c c' h1 h2 w S y hy=>?_
 match i with
 |0=>simp only[List.getElem?_cons_zero,Option.some.injEq]at h1 h2;subst h1 h2;exact wkN_rep 4 4 _ _ hy
 |1=>simp only[List.getElem?_cons_zero,List.getElem?_cons_succ,Option.some.injEq]at h1 h2;subst h1 h2;exact wkN_rep 1 4 _ _ hy
 |2=>simp only[List.getElem?_cons_zero,List.getElem?_cons_succ,Option.some.injEq]at h1 h2;subst h1 h2;exact wkN_rep 3 4 _ _ hy
 |i+3=>simp at h1
theorem c_known9:PureCall Try.prog 6 [] (Bo true):=by
 have h1:=c_Braking ex9T 0 ⟨1000000,0⟩ 0 (by decide) (by decide) (by decide) (by decide);rw[ex9_brk]at h1;have h1:=h1.wk (args:=[.agg [I 1000,I 5000,I 10000,I 2000,I 1000,I 1000000,I 0,I 0,I 50, .full 1 [[I 1000],[I 10]]], .agg [I 1000000,I 0],I 0,I 0]) (by rfl);have h2:=c_Assign.wk (args:=[.full 1 [[I 2],[I 0],[I 1]],Bo false]) (by rfl);have h3:=c_ex9S;have g1:=(c_same8 [0,0,1] (by decide)).wk (args:=[iL [0,0,1], .full 1 [[I 0],[I 0],[I 1]]]) (by rfl);have g2:=(c_same4 [⟨598,1⟩] (by decide)).wk (args:=[fL [⟨598,1⟩], .full 2 [[I 598,I 1]]]) (by rfl);refine PureCall.of_body Try.func6 rfl (by decide) (by simp[Try.ntmps6]) ?_;simp only[Try.ntmps6,Try.results6];refine aS fun K hK=>?_;simp -dsimp;apply hK;clear hK K;refine aS fun K hK=>?_;simp -dsimp;apply hK;clear hK K;refine aS fun K hK=>?_;simp -dsimp;refine callK_intro _ (h1) (by simp) ?_;simp -dsimp;apply hK;clear hK K;refine aS fun K hK=>?_;simp -dsimp;refine callK_intro _ (h2) (by simp) ?_;simp -dsimp;apply hK;clear hK K;refine aS fun K hK=>?_;simp -dsimp;refine callK_intro _ (h3) (by simp) ?_;simp -dsimp;apply hK;clear hK K;refine aS fun K hK=>?_;simp -dsimp;refine callK_may _ (fun hm=>g1) (by simp) ?_;simp -dsimp;refine callK_may _ (fun hm=>g2) (by simp) ?_;simp -dsimp;apply hK;clear hK K;exact awp_ret (by simp)
end Go.Mo
end
