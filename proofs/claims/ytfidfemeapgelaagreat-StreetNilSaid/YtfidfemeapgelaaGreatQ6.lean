import Derived.Test.YtfidfemeapgelaaGreatQ5
set_option maxRecDepth 100000
set_option maxHeartbeats 8000000
set_option linter.unusedVariables false
set_option linter.unusedSimpArgs false
section
namespace Go.Street
open Go.AM Go.Proofs
def ins (x:Int):List Int→List Int
 |[]=>[x]
 |y::l=>if x<y then x::y::l else y::ins x l
def srt (l:List Int):List Int:=l.foldl (fun s x=>ins x s) []
theorem ins_len (x:Int):∀l,(ins x l).length=l.length+1
 |[]=>rfl
 |y::l=>by
  simp only[ins]
  split
  ·rfl
  ·simp[ins_len x l]
theorem ins_mem (x z:Int):∀l,z∈ins x l↔z=x∨z∈l
 |[]=>by simp[ins]
 | y::l=>by
  simp only[ins]
  split
  ·simp
  ·simp only[List.mem_cons,ins_mem x z l];constructor
   ·rintro(h|h|h)<;>simp[h]
   ·rintro(h|h|h)<;>simp[h]
theorem ins_sorted (x:Int):∀l:List Int,l.Pairwise (· ≤ ·)→(ins x l).Pairwise (· ≤ ·)
 |[],_=>by simp[ins]
 | y::l,h=>by
  rw[List.pairwise_cons]at h;simp only[ins]
  split
  ·rename_i hx;rw[List.pairwise_cons,List.pairwise_cons];refine⟨fun z hz=>?_,h⟩
   rcases List.mem_cons.1 hz with rfl|hz
   ·omega
   ·have:=h.1 z hz;omega
  ·rename_i hx;rw[List.pairwise_cons];refine⟨fun z hz=>?_,ins_sorted x l h.2⟩
   rcases(ins_mem x z l).1 hz with rfl|hz
   ·omega
   ·exact h.1 z hz
theorem ins_split (x:Int) (B:List Int) (hB:∀y∈B,x<y):∀A:List Int,(∀y∈A,y≤x)→ins x (A++B)=A++x::B
 |[],_=>by
  cases B with
  |nil=>rfl
  |cons y B=>simp only[List.nil_append,ins];rw[if_pos (hB y (by simp))]
 |a::A,h=>by
  simp only[List.cons_append,ins];rw[if_neg (by have:=h a (by simp);omega),ins_split x B hB A fun y hy=>h y (by simp[hy])]
theorem srt_take {l:List Int} {i:Nat} {x:Int} (h:l[i]?=some x):srt (l.take (i+1))=ins x (srt (l.take i)):=by
 rw[List.take_add_one,h];simp[srt]
theorem srt_len (l:List Int):(srt l).length=l.length:=by
 have gen:∀(l s:List Int),(l.foldl (fun s x=>ins x s) s).length=s.length+l.length:=by
  intro l
  induction l with
  |nil=>simp
  |cons x l ih=>intro s;rw[List.foldl_cons,ih,ins_len];simp;omega
 have:=gen l [];simpa [srt]using this
theorem srt_sorted (l:List Int):(srt l).Pairwise (· ≤ ·):=by
 have gen:∀(l s:List Int),s.Pairwise (· ≤ ·)→(l.foldl (fun s x=>ins x s) s).Pairwise (· ≤ ·):=by
  intro l
  induction l with
  |nil=>intro s h;exact h
  |cons x l ih=>intro s h;exact ih _ (ins_sorted x s h)
 exact gen l [] List.Pairwise.nil
theorem srt_le {L:List Int} (h:L.Pairwise (· ≤ ·)) {j:Nat} {y:Int} (hy:L[j]?=some y):∀a∈L.take (j+1),a≤y:=by
 intro a ha;obtain⟨hj,he⟩:=List.getElem?_eq_some_iff.1 hy;rw[List.take_add_one,hy]at ha
 rcases List.mem_append.1 ha with ha|ha
 ·have hs:L=L.take j++y::L.drop (j+1):=by rw[←he,List.getElem_cons_drop,List.take_append_drop]
  rw[hs,List.pairwise_append]at h;exact h.2.2 a ha y (by simp)
 ·simp at ha;omega
def wayL (L:List Int) (x:Int) (R:List Int) (j:Nat):List Int:=L.take j++x::(L.drop j++R)
theorem wayL_at {L:List Int} {x:Int} {R:List Int} {j:Nat} (h:j≤L.length):(wayL L x R j)[j]?=some x:=by
 unfold wayL;rw[List.getElem?_append_right (by simp;omega)];simp[Nat.min_eq_left h]
theorem wayL_before {L:List Int} {x y:Int} {R:List Int} {j:Nat} (h:L[j]?=some y):(wayL L x R (j+1))[j]?=some y:=by
 have hj:=(List.getElem?_eq_some_iff.1 h).1;unfold wayL;rw[List.getElem?_append_left (by simp;omega),List.getElem?_take];simp[h]
theorem wayL_swap {L:List Int} {x y:Int} {R:List Int} {j:Nat} (h:L[j]?=some y):((wayL L x R (j+1)).set (j+1) y).set j x=wayL L x R j:=by
 obtain⟨hj,hy⟩:=List.getElem?_eq_some_iff.1 h;have h1:L.take (j+1)=L.take j++[y]:=by rw[List.take_add_one,h];rfl
 have h2:L.drop j=y::L.drop (j+1):=by rw[List.drop_eq_getElem_cons hj,hy]
 have hl:(L.take j).length=j:=by rw[List.length_take];omega
 unfold wayL;rw[h1,h2,List.append_assoc,List.set_append,if_neg (by omega),List.set_append,if_neg (by omega),hl];simp
theorem m_isort (xs:List Int) (h1:1≤xs.length) (hn:xs.length≤1000):MutCall Tryz.prog 333 [.row 0 0 xs.length,I 0,I xs.length] [some (.els 1 (xs.map nCell))] [] (.tup []) [some (.els 1 ((srt xs).map nCell))] []:=by
 have w01:IntKind.i64.wrap 1=1:=wrap_in (by omega) (by omega);have wm1:IntKind.i64.wrap (-1)=-1:=wrap_in (by omega) (by omega);refine MutCall.of_bodyG [0] Tryz.func333 rfl (by decide) (by simp[Tryz.ntmps333]) rfl rfl ?_;intro J hJ;simp only[Tryz.ntmps333,Tryz.results333];refine gS fun K hK=>?_;simp -dsimp [w01];apply hK;clear hK K;refine gwp_block ?_;refine gwp_prune [0,1,2,6] (Or.inr (by simp)) ?_;simp only[zP,Nat.reduceEqDiff,reduceIte];refine gwp_loop_l [0,1,2] (α:=Nat) (fun i=>[(6,I i)]) (fun i=>[some (.els 1 ((srt (xs.take i)++xs.drop i).map nCell))]) (fun i=>1≤i∧i≤xs.length) (fun i=>xs.length-i) 1 ?_ ?_ ?_
 ·exact⟨Nat.le_refl _,h1⟩
 ·refine gsub (sub_rb [some 0] rfl (by simp) ?_) (by simp);obtain⟨x,l,rfl⟩:∃x l,xs=x::l:=by cases xs with|nil=>simp at h1|cons x l=>exact⟨x,l,rfl⟩
  simp[srt,ins]
 rintro i ⟨i1,i2⟩;simp only[zP,Nat.reduceEqDiff,reduceIte];refine gwp_seq_k fun K1 hK1=>?_;refine gS fun K hK=>?_;simp -dsimp;apply hK;clear hK K;refine gwp_cond rfl (fun hc0=>?_) (fun hc0=>?_)
 ·skip
  try simp at hc0
  have wi:=zW i (by omega);obtain⟨x,hx⟩:∃x,xs[i]?=some x:=⟨_,List.getElem?_eq_getElem hc0⟩;obtain⟨hxi,hxe⟩:=List.getElem?_eq_some_iff.1 hx;have hdr:xs.drop i=x::xs.drop (i+1):=by rw[List.drop_eq_getElem_cons hxi,hxe]
  have hdm:(xs.map nCell).drop i=[I x]::(xs.drop (i+1)).map nCell:=by rw[←List.map_drop,hdr];rfl
  have hst:=srt_take hx;have hsl:(srt (xs.take i)).length=i:=by rw[srt_len,List.length_take];omega
  have hso:=srt_sorted (xs.take i);generalize srt (xs.take i)=L at hst hsl hso ⊢;generalize hR:xs.drop (i+1)=R at hdr hdm ⊢;have hRl:R.length=xs.length-(i+1):=by rw[←hR,List.length_drop]
  refine gwp_skip ?_;simp only[zT,reduceIte,Nat.reduceEqDiff];refine hK1 _ _ ?_;refine gwp_prune [0,1,2,6] (Or.inr (by simp)) ?_;simp only[zP,Nat.reduceEqDiff,reduceIte];refine gwp_seq_k fun K2 hK2=>?_;refine gwp_block ?_;refine gS fun K hK=>?_;simp -dsimp;apply hK;clear hK K;refine gwp_block ?_;refine gwp_prune [0,1,2,6,7] (Or.inr (by simp)) ?_;simp only[zP,Nat.reduceEqDiff,reduceIte];refine gwp_loop_l [0,1,2,6] (α:=Nat) (fun j=>[(7,I j)]) (fun j=>[some (.els 1 ((wayL L x R j).map nCell))]) (fun j=>j≤i∧∀y∈L.drop j,x<y) (fun j=>j) i ?_ ?_ ?_
  ·exact⟨Nat.le_refl _,by rw[List.drop_of_length_le (by omega)];simp⟩
  ·refine gsub (sub_rb [some 0] rfl (by simp) ?_) (by simp);simp[wayL,hdm,List.take_of_length_le (show L.length≤i by omega),List.drop_of_length_le (show L.length≤i by omega)]
  rintro j ⟨j1,j2⟩
  rcases j with _|j
  rotate_left
  obtain⟨y,hy⟩:∃y,L[j]?=some y:=⟨_,List.getElem?_eq_getElem (by omega)⟩;have gj:=wayL_at (L:=L) (x:=x) (R:=R) (j:=j+1) (by omega);have gb:=wayL_before (x:=x) (R:=R) hy;have wj:IntKind.i64.wrap (j:Int)=j:=wrap_in (by omega) (by omega);have hj1:j+1<xs.length:=by omega
  have hj0:j<xs.length:=by omega
  have hdj:L.drop j=y::L.drop (j+1):=by obtain⟨hh,he⟩:=List.getElem?_eq_some_iff.1 hy;rw[List.drop_eq_getElem_cons hh,he]
  rotate_left
  ·simp only[zP,Nat.reduceEqDiff,reduceIte];refine gwp_seq_k fun K3 hK3=>?_;refine gwp_sd mixed rfl (by decide) rfl rfl fun K hK=>?_;simp -dsimp [wayL_at (L:=L) (x:=x) (R:=R) (Nat.zero_le _),wm1];refine callK_may _ (fun hm=>c_Less x x) (by simp) ?_;simp -dsimp [wayL_at (L:=L) (x:=x) (R:=R) (Nat.zero_le _),wm1];refine hK _ _ _ (by decide+kernel) ?_;clear hK K;refine gwp_cond rfl (fun hc1=>?_) (fun hc1=>?_)
   ·simp at hc1
   ·have hfin:ins x L=x::L:=by have:=ins_split x L (by simpa using j2) [] (by simp);simpa using this
    have he:srt (xs.take (i+1))++xs.drop (i+1)=wayL L x R 0:=by rw[hst,hR,hfin];simp[wayL]
    refine gwp_exit ?_;simp only[zT,reduceIte,Nat.reduceEqDiff];refine hK2 _ _ ?_;refine gwp_prune [0,1,2,6] (Or.inr (by simp)) ?_;simp only[zP,Nat.reduceEqDiff,reduceIte];refine gR fun K hK=>?_;simp -dsimp [wi];apply hK;clear hK K;simp only[zT,reduceIte,Nat.reduceEqDiff];exact⟨i+1,⟨by omega,by omega⟩,by omega,gsub (sub_rb [some 0] rfl (by simp) (by simp only[he];simp)) (by simp)⟩
  ·simp only[zP,Nat.reduceEqDiff,reduceIte];refine gwp_seq_k fun K4 hK4=>?_;refine gwp_sd mixed rfl (by decide) rfl rfl fun K hK=>?_;simp -dsimp [gj,gb,wj,hj1,hj0];refine⟨by omega,?_⟩
   try simp -dsimp [gj,gb,wj,hj1,hj0]
   refine callK_may _ (fun hm=>c_Less x y) (by simp) ?_;simp -dsimp [gj,gb,wj,hj1,hj0];refine hK _ _ _ (by decide+kernel) ?_;clear hK K;refine gwp_cond rfl (fun hc1=>?_) (fun hc1=>?_)
   ·skip
    try simp at hc1
    refine gwp_skip ?_;simp only[zT,reduceIte,Nat.reduceEqDiff];refine hK4 _ _ ?_;refine gwp_prune [0,1,2,6,7] (Or.inr (by simp)) ?_;simp only[zP,Nat.reduceEqDiff,reduceIte];refine gwp_seq_k fun K5 hK5=>?_;refine gwp_block ?_;refine gwp_draw mixed rfl (by decide) rfl rfl fun K hK=>?_;simp -dsimp [gj,gb,wj,hj1,hj0]
    repeat (refine⟨by omega,?_⟩;try simp -dsimp [gj,gb,wj,hj1,hj0])
    refine hK _ _ _ (by decide+kernel) ?_;clear hK K;simp only[zT,reduceIte,Nat.reduceEqDiff];refine hK5 _ _ ?_;refine gwp_prune [0,1,2,6,7] (Or.inr (by simp)) ?_;simp only[zP,Nat.reduceEqDiff,reduceIte];refine gR fun K hK=>?_;simp -dsimp [wj];apply hK;clear hK K;simp only[zT,reduceIte,Nat.reduceEqDiff];have hsw:(((wayL L x R (j+1)).map nCell).set (j+1) [I y]).set j [I x]=(wayL L x R j).map nCell:=by rw[←wayL_swap hy,List.map_set,List.map_set];rfl
    exact⟨j,⟨by omega,by intro z hz;rw[hdj]at hz;rcases List.mem_cons.1 hz with rfl|hz;exact hc1;exact j2 z hz⟩,by omega,gsub (sub_rb [some 0] rfl (by simp) (by simp[hsw])) (by simp)⟩
   ·skip
    try simp at hc1
    have hfin:ins x L=L.take (j+1)++x::L.drop (j+1):=by have:=ins_split x (L.drop (j+1)) j2 (L.take (j+1)) (fun a ha=>Int.le_trans (srt_le hso hy a ha) hc1);rwa [List.take_append_drop]at this
    have he:srt (xs.take (i+1))++xs.drop (i+1)=wayL L x R (j+1):=by rw[hst,hR,hfin];simp[wayL]
    refine gwp_exit ?_;simp only[zT,reduceIte,Nat.reduceEqDiff];refine hK2 _ _ ?_;refine gwp_prune [0,1,2,6] (Or.inr (by simp)) ?_;simp only[zP,Nat.reduceEqDiff,reduceIte];refine gR fun K hK=>?_;simp -dsimp [wi];apply hK;clear hK K;simp only[zT,reduceIte,Nat.reduceEqDiff];exact⟨i+1,⟨by omega,by omega⟩,by omega,gsub (sub_rb [some 0] rfl (by simp) (by simp only[he];simp)) (by simp)⟩
 ·skip
  try simp at hc0
  have hie:i=xs.length:=by omega
  subst hie;refine gwp_exit ?_
  try simp only[zT,reduceIte,Nat.reduceEqDiff]
  exact⟨[some 0],rfl,by simp,by simp,by simp[h1],by simp[resP,tupOf]⟩
theorem und_intU:(Tryz.prog).underlying 3=some (.int .i64):=by kernel_rfl
theorem und_u64:(Tryz.prog).underlying 490=some (.int .u64):=by kernel_rfl
theorem und_str:(Tryz.prog).underlying 9=some .string:=by kernel_rfl
theorem und_u8:(Tryz.prog).underlying 5=some (.int .u8):=by kernel_rfl
theorem und_uint:(Tryz.prog).underlying 420=some (.int .u64):=by kernel_rfl
theorem str_index (s:ByteArray) (n:Int) (h0:0≤n) (h1:n.toNat<s.size) (w:World):(Instr.index 9 (.string s) (.int .u8 n)).run Tryz.prog w= .ok (.int .u8 (s[n.toNat]).toNat) w:=by
 have hs:s[n.toNat]?=some s[n.toNat]:=getElem?_pos s n.toNat h1;simp[Instr.index,asIntOf,run_underlying und_str,h0,hs]
theorem conv_in (n:Int) (w:World):(convert 3 420 (.int .i64 n)).run Tryz.prog w= .ok (.int .u64 (IntKind.u64.wrap n)) w:=by
 simp[convert,run_underlying und_intU,run_underlying und_uint,Conv.intToInt]
theorem conv_u8 (n:Int) (w:World):(convert 490 5 (.int .u64 n)).run Tryz.prog w= .ok (.int .u8 (IntKind.u8.wrap n)) w:=by
 simp[convert,run_underlying und_u64,run_underlying und_u8,Conv.intToInt]
theorem conv_8i (n:Int) (w:World):(convert 5 3 (.int .u8 n)).run Tryz.prog w= .ok (.int .i64 (IntKind.i64.wrap n)) w:=by
 simp[convert,run_underlying und_intU,run_underlying und_u8,Conv.intToInt]
abbrev U (n:Int):AV:= .v (.int .u64 n)
theorem u64_in {n:Int} (h0:0≤n) (h1:n<18446744073709551616):IntKind.u64.wrap n=n:=by rw[IntKind.wrap_u64];omega
theorem c_Len64 (n:Int) (h0:0≤n) (h1:n≤200):∃k,PureCall Tryz.prog 342 [U n] (I k):=by
 have w8:IntKind.u8.wrap n=n:=by rw[IntKind.wrap_u8];omega
 have h2:¬4294967296≤n:=by omega
 have h3:¬65536≤n:=by omega
 have h4:¬256≤n:=by omega
 apply Exists.intro;refine PureCall.of_body Tryz.func342 rfl (by decide) (by simp[Tryz.ntmps342]) ?_;simp only[Tryz.ntmps342,Tryz.results342];refine aS fun K hK=>?_;simp -dsimp;apply hK;clear hK K;refine awp_seq_k fun K1 hK1=>?_;refine aS fun K hK=>?_;simp -dsimp;apply hK;clear hK K;refine awp_cond rfl (fun hc0=>?_) (fun hc0=>?_)
 ·skip
  try simp at hc0
  omega
 ·skip
  try simp at hc0
  refine awp_skip ?_;simp only[zT,reduceIte,Nat.reduceEqDiff];refine hK1 _ _ ?_;refine awp_prune [0,2] ?_;simp only[zP,Nat.reduceEqDiff,reduceIte];refine awp_seq_k fun K2 hK2=>?_;refine aS fun K hK=>?_;simp -dsimp;apply hK;clear hK K;refine awp_cond rfl (fun hc1=>?_) (fun hc1=>?_)
  ·skip
   try simp at hc1
   omega
  ·skip
   try simp at hc1
   refine awp_skip ?_;simp only[zT,reduceIte,Nat.reduceEqDiff];refine hK2 _ _ ?_;refine awp_prune [0,2] ?_;simp only[zP,Nat.reduceEqDiff,reduceIte];refine awp_seq_k fun K3 hK3=>?_;refine aS fun K hK=>?_;simp -dsimp;apply hK;clear hK K;refine awp_cond rfl (fun hc2=>?_) (fun hc2=>?_)
   ·skip
    try simp at hc2
    omega
   ·skip
    try simp at hc2
    refine awp_skip ?_;simp only[zT,reduceIte,Nat.reduceEqDiff];refine hK3 _ _ ?_;refine awp_prune [0,2] ?_;simp only[zP,Nat.reduceEqDiff,reduceIte];refine aS fun K hK=>?_;simp -dsimp;refine⟨_,conv_u8 n,?_⟩
    try simp -dsimp [w8]
    refine⟨_,str_index _ n h0 (Nat.lt_of_lt_of_le (show n.toNat<256 by omega) (by decide+kernel)),?_⟩
    try simp -dsimp
    refine⟨_,conv_8i _,?_⟩
    try simp -dsimp
    apply hK;clear hK K;exact awp_ret rfl
theorem c_Len (n:Int) (h0:0≤n) (h1:n≤200):∃k,PureCall Tryz.prog 293 [U n] (I k):=by
 obtain⟨k,hk⟩:=c_Len64 n h0 h1;refine⟨k,?_⟩;refine PureCall.of_body Tryz.func293 rfl (by decide) (by simp[Tryz.ntmps293]) ?_;simp only[Tryz.ntmps293,Tryz.results293];refine aS fun K hK=>?_;simp -dsimp;apply hK;clear hK K;refine awp_seq_k fun K1 hK1=>?_;refine awp_cond rfl (fun hc0=>?_) (fun hc0=>?_)
 ·simp at hc0
 ·refine awp_skip ?_;simp only[zT,reduceIte,Nat.reduceEqDiff];refine hK1 _ _ ?_;refine awp_prune [0] ?_;simp only[zP,Nat.reduceEqDiff,reduceIte];refine aS fun K hK=>?_;simp -dsimp;refine callK_intro _ (hk) (by simp) ?_;simp -dsimp;apply hK;clear hK K;exact awp_ret (by simp)
theorem m_pdq (xs:List Int) (k:Int) (h1:1≤xs.length) (hn:xs.length≤12):MutCall Tryz.prog 292 [.row 0 0 xs.length,I 0,I xs.length,I k] [some (.els 1 (xs.map nCell))] [] (.tup []) [some (.els 1 ((srt xs).map nCell))] []:=by
 have hs:=m_isort xs h1 (by omega);have wl:IntKind.i64.wrap (xs.length:Int)=xs.length:=wrap_in (by omega) (by omega);refine MutCall.of_bodyG [0] Tryz.func292 rfl (by decide) (by simp[Tryz.ntmps292]) rfl rfl ?_;intro J hJ;simp only[Tryz.ntmps292,Tryz.results292];refine gS fun K hK=>?_;simp -dsimp;apply hK;clear hK K;refine gS fun K hK=>?_;simp -dsimp;apply hK;clear hK K;refine gwp_block ?_;refine gwp_prune [0,1,2,3,8,9] (Or.inr (by simp)) ?_;simp only[zP,Nat.reduceEqDiff,reduceIte];refine gwp_loop_l [0] (α:=Unit) (fun _=>[(1,I 0),(2,I xs.length),(3,I k),(8,Bo true),(9,Bo true)]) (fun _=>[some (.els 1 (xs.map nCell))]) (fun _=>True) (fun _=>0) () ?_ ?_ ?_
 ·simp
 ·exact gsub (sub_same (by simp)) (by simp)
 rintro u-;simp only[zP,Nat.reduceEqDiff,reduceIte];refine gwp_block ?_;refine gS fun K hK=>?_;simp -dsimp [wl];apply hK;clear hK K;refine gwp_seq_k fun K1 hK1=>?_;refine gS fun K hK=>?_;simp -dsimp;apply hK;clear hK K;refine gwp_cond rfl (fun hc0=>?_) (fun hc0=>?_)
 ·skip
  try simp at hc0
  refine gS fun K hK=>?_;simp -dsimp;refine callK_mut [0] [] [some 0] (hs) (by decide) rfl (by simp) (by simp) rfl (by simp) ?_;simp -dsimp;apply hK;clear hK K;exact gwp_ret ⟨[some 0],rfl,by simp,by simp,by simp[h1],by simp[resP,tupOf]⟩
 ·skip
  try simp at hc0
  omega
theorem m_Sort (xs:List Int) (h1:1≤xs.length) (hn:xs.length≤12):MutCall Tryz.prog 222 [.row 0 0 xs.length] [some (.els 1 (xs.map nCell))] [] (.tup []) [some (.els 1 ((srt xs).map nCell))] []:=by
 obtain⟨k,hk⟩:=c_Len xs.length (by omega) (by omega);have hs:=m_pdq xs k h1 hn;have wu:IntKind.u64.wrap (xs.length:Int)=xs.length:=u64_in (by omega) (by omega);refine MutCall.of_bodyG [0] Tryz.func222 rfl (by decide) (by simp[Tryz.ntmps222]) rfl rfl ?_;intro J hJ;simp only[Tryz.ntmps222,Tryz.results222];refine gS fun K hK=>?_;simp -dsimp;apply hK;clear hK K;refine gR fun K hK=>?_;simp -dsimp;refine⟨_,conv_in _,?_⟩;simp -dsimp [wu];refine callK_intro _ (hk) (by simp) ?_;simp -dsimp;refine callK_mut [0] [] [some 0] (hs) (by decide) rfl (by simp) (by simp) rfl (by simp) ?_;simp -dsimp;apply hK;clear hK K
 try simp only[zT,reduceIte,Nat.reduceEqDiff]
 exact⟨[some 0],rfl,by simp,by simp,by simp[h1],by simp[resP,tupOf]⟩
theorem c_Values (l:List Int):PureCall Tryz.prog 185 [iL l] (.clo 265 [.iptr [iL l]]):=by
 refine PureCall.of_body Tryz.func185 rfl (by decide) (by simp[Tryz.ntmps185]) ?_;simp only[Tryz.ntmps185,Tryz.results185];refine aS fun K hK=>?_;simp -dsimp;apply hK;clear hK K;refine aS fun K hK=>?_;simp -dsimp;apply hK;clear hK K;exact awp_ret (by simp)
def vAV (x:Int):List AV:=[I x]
theorem vAV_len (l:List Int):∀z∈l.map vAV,z.length=1:=by
 intro z hz;obtain⟨q,_,rfl⟩:=List.mem_map.1 hz
 rfl
theorem c_Values1 (xs:List Int) (hn:xs.length≤1000):IterCall Tryz.prog 265 [.iptr [iL xs]] (xs.map vAV):=by
 refine IterCallW.of_body Tryz.func265 rfl (by decide) (by simp[Tryz.ntmps265]) (by simp[Tryz.ntmps265]) (by simp[Tryz.results265]) ?_;intro J l hmk hY;simp only[Tryz.ntmps265,Tryz.results265];refine gS fun K hK=>?_;simp -dsimp;apply hK;clear hK K;refine gwp_block ?_;refine gwp_prune [0,5,6,7,999999] (Or.inl (by decide)) ?_;simp only[zP,Nat.reduceEqDiff,reduceIte];refine gwp_loop_l [0,5,6] (α:=Nat) (fun k=>[(7,I k),(999999,cntV k)]) (fun k=>[]) (fun k=>k≤xs.length) (fun k=>xs.length-k) 0 ?_ ?_ ?_
 ·exact Nat.zero_le _
 ·exact gsub (sub_same (by simp)) (by simp)
 rintro k k1;simp only[zP,Nat.reduceEqDiff,reduceIte];refine gS fun K hK=>?_;simp -dsimp;apply hK;clear hK K;refine gwp_seq_k fun K1 hK1=>?_;refine gwp_cond rfl (fun hc0=>?_) (fun hc0=>?_)
 ·skip
  try simp at hc0
  obtain⟨x,hx⟩:∃x,xs[k]?=some x:=⟨_,List.getElem?_eq_getElem hc0⟩;have wk:=zW k (by omega);refine gwp_skip ?_;simp only[zT,reduceIte,Nat.reduceEqDiff];refine hK1 _ _ ?_;refine gwp_prune [0,5,6,7,999999] (Or.inl (by decide)) ?_;simp only[zP,Nat.reduceEqDiff,reduceIte];refine gwp_seq_k fun K2 hK2=>?_;refine gwp_block ?_;refine gS fun K hK=>?_;simp -dsimp [hx];apply hK;clear hK K;refine gwp_sy hmk hY rfl (by decide) rfl rfl fun K hK=>?_;simp -dsimp;refine yK_intro (by rw[List.getElem?_map,hx];rfl) ?_ ?_
  ·apply hK;clear hK K;refine gwp_cond rfl (fun hc1=>?_) (fun hc1=>?_)
   ·simp at hc1
   ·refine gwp_skip ?_;simp only[zT,reduceIte,Nat.reduceEqDiff];refine hK2 _ _ ?_;refine gwp_prune [0,5,6,7,999999] (Or.inl (by decide)) ?_;simp only[zP,Nat.reduceEqDiff,reduceIte];refine gR fun K hK=>?_;simp -dsimp [wk];apply hK;clear hK K;simp only[zT,reduceIte,Nat.reduceEqDiff];exact⟨k+1,by omega,by omega,gsub (sub_rb [] rfl (by simp) (by simp)) (by simp)⟩
  ·apply hK;clear hK K;refine gwp_cond rfl (fun hc1=>?_) (fun hc1=>?_)
   ·exact gwp_ret (by simp)
   ·simp at hc1
 ·skip
  try simp at hc0
  have hke:k=xs.length:=by omega
  subst hke;refine gwp_exit ?_
  try simp only[zT,reduceIte,Nat.reduceEqDiff]
  simp
theorem m_AppendSeq (l:List Int) (hn:l.length≤1000):MutCall Tryz.prog 319 [.v (.slice none 0 0), .clo 265 [.iptr [iL l]]] [] [] (.row 0 0 l.length) [] [some (.els 1 (l.map nCell))]:=by
 have hit:=c_Values1 l hn;refine MutCall.of_bodyG [] Tryz.func319 rfl (by decide) (by simp[Tryz.ntmps319]) rfl rfl ?_;intro J hJ;simp only[Tryz.ntmps319,Tryz.results319];refine gS fun K hK=>?_;simp -dsimp;apply hK;clear hK K;refine gwp_seq_k fun K1 hK1=>?_;refine gS fun K hK=>?_;simp -dsimp;apply hK;clear hK K;refine gwp_block ?_;refine gwp_prune [2,6] (Or.inr (by simp)) ?_;simp only[zP,Nat.reduceEqDiff,reduceIte];refine gwp_range_s hJ [2,6] (fun n=>[some (.els 1 [[.row 1 0 n]]),some (.els 1 ((l.take n).map nCell))]) (fun n=>n≤l.length) rfl (hit) rfl (by simp) (by decide) (by decide) (by decide) (vAV_len _) ?_ ?_ ?_ ?_
 ·exact Nat.zero_le _
 ·exact(sub_nilc 0 0 0 1 (es:=[[.v (.slice none 0 0)]]) (e:=[.v (.slice none 0 0)]) (by simp) (by simp) (by simp)).trans (sub_same (by simp))
 ·intro n xv hxn hi l1 J1 hJ1;obtain⟨q,hq,rfl⟩:∃q,l[n]?=some q∧[I q]=xv:=by simpa [vAV]using hxn
  have hnl:n<l.length:=(List.getElem?_eq_some_iff.1 hq).1;have f1:Fits (n+1) 9:=fits_of (by omega) (by omega);have hts:l.take (n+1)=l.take n++[q]:=by rw[List.take_add_one,hq];rfl
  have htl:(l.take n).length=n:=by rw[List.length_take];omega
  generalize l.take n=L at hts htl ⊢;subst htl;simp only[List.zip_cons_cons,List.zip_nil_left,List.zip_nil_right,List.cons_append,List.nil_append];refine gR fun K hK=>?_;simp -dsimp;apply hK;clear hK K;simp only[onlyN];intro J2 hJ2;refine gwp_prune [2,5,6] (Or.inr (by simp)) ?_;simp only[zP,Nat.reduceEqDiff,reduceIte];refine gwp_block ?_;refine gR fun K hK=>?_;simp -dsimp [f1];apply hK;clear hK K;simp only[thenA,inBlockA,roundQ,reduceIte,Nat.reduceEqDiff,eq_self];refine⟨hnl,sub_rb [some 0,some 2] rfl (by simp) (by simp[hts])⟩
 ·intro hdone;simp only[zT,reduceIte,Nat.reduceEqDiff];refine hK1 _ _ ?_;refine gwp_prune [2] (Or.inr (by simp)) ?_;simp only[zP,Nat.reduceEqDiff,reduceIte];refine gS fun K hK=>?_;simp -dsimp;apply hK;clear hK K;exact gwp_ret ⟨[some 1],rfl,by simp,by simp,by simp,by simp[resP,tupOf]⟩
theorem m_Collect (l:List Int) (hn:l.length≤1000):MutCall Tryz.prog 246 [.clo 265 [.iptr [iL l]]] [] [] (.row 0 0 l.length) [] [some (.els 1 (l.map nCell))]:=by
 have h:=m_AppendSeq l hn;refine MutCall.of_bodyG [] Tryz.func246 rfl (by decide) (by simp[Tryz.ntmps246]) rfl rfl ?_;intro J hJ;simp only[Tryz.ntmps246,Tryz.results246];refine gS fun K hK=>?_;simp -dsimp;apply hK;clear hK K;refine gS fun K hK=>?_;simp -dsimp;refine callK_mut [] [] [some 0] (h) (by decide) rfl (by simp) (by simp) rfl (by simp) ?_;simp -dsimp;apply hK;clear hK K;exact gwp_ret ⟨[some 0],rfl,by simp,by simp,by simp,by simp[resP,tupOf]⟩
theorem m_Sorted (l:List Int) (h1:1≤l.length) (hn:l.length≤12):MutCall Tryz.prog 158 [.clo 265 [.iptr [iL l]]] [] [] (.row 0 0 l.length) [] [some (.els 1 ((srt l).map nCell))]:=by
 have h:=m_Collect l (by omega);have hs:=m_Sort l h1 hn;refine MutCall.of_bodyG [] Tryz.func158 rfl (by decide) (by simp[Tryz.ntmps158]) rfl rfl ?_;intro J hJ;simp only[Tryz.ntmps158,Tryz.results158];refine gS fun K hK=>?_;simp -dsimp;apply hK;clear hK K;refine gS fun K hK=>?_;simp -dsimp;refine callK_mut [] [] [some 0] (h) (by decide) rfl (by simp) (by simp) rfl (by simp) ?_;simp -dsimp;apply hK;clear hK K;refine gS fun K hK=>?_;simp -dsimp;refine callK_mut [0] [] [some 0] (hs) (by decide) rfl (by simp) (by simp) rfl (by simp) ?_;simp -dsimp;apply hK;clear hK K;refine gS fun K hK=>?_;simp -dsimp;apply hK;clear hK K;exact gwp_ret ⟨[some 0],rfl,by simp,by simp,by simp,by simp[resP,tupOf]⟩
theorem c_sNaN (a:Int):PureCall Tryz.prog 266 [I a] (Bo false):=by
 refine PureCall.of_body Tryz.func266 rfl (by decide) (by simp[Tryz.ntmps266]) ?_;simp only[Tryz.ntmps266,Tryz.results266];refine aS fun K hK=>?_;simp -dsimp;apply hK;clear hK K;refine aS fun K hK=>?_;simp -dsimp;apply hK;clear hK K;exact awp_ret (by simp)
def lbI (l:List Int) (x:Int):Nat:=l.countP fun y=>decide (y<x)
theorem lbI_of {l:List Int} {x:Int} {k:Nat} (hk:k≤l.length) (h1:∀y∈l.take k,y<x) (h2:∀y∈l.drop k,x≤y):lbI l x=k:=by
 unfold lbI;rw[←List.take_append_drop k l,List.countP_append];have e1:List.countP (fun y=>decide (y<x)) (l.take k)=(l.take k).length:=List.countP_eq_length.2 (fun y hy=>decide_eq_true (h1 y hy));have e2:List.countP (fun y=>decide (y<x)) (l.drop k)=0:=List.countP_eq_zero.2 (fun y hy=>by have:=h2 y hy;simp;omega);rw[e1,e2,List.length_take];omega
theorem conv_ui (n:Int) (w:World):(convert 420 3 (.int .u64 n)).run Tryz.prog w= .ok (.int .i64 (IntKind.i64.wrap n)) w:=by
 simp[convert,run_underlying und_intU,run_underlying und_uint,Conv.intToInt]
theorem c_Search (l:List Int) (x:Int) (hs:l.Pairwise (· ≤ ·)) (hn:l.length≤1000):∃b,PureCall Tryz.prog 186 [iL l,I x] (.tup [I (lbI l x),Bo b]):=by
 refine⟨decide (lbI l x<l.length)&&decide (at0 l (lbI l x)=x),?_⟩;refine PureCall.of_body Tryz.func186 rfl (by decide) (by simp[Tryz.ntmps186]) ?_;simp only[Tryz.ntmps186,Tryz.results186];refine aS fun K hK=>?_;simp -dsimp;apply hK;clear hK K;refine aS fun K hK=>?_;simp -dsimp;apply hK;clear hK K;refine aS fun K hK=>?_;simp -dsimp;apply hK;clear hK K;refine awp_seq_k fun K1 hK1=>?_;refine awp_block ?_;refine awp_prune [0,1,6,7,8] ?_;simp only[zP,Nat.reduceEqDiff,reduceIte];refine awp_loop_l [0,1,6] (α:=Nat×Nat) (fun y=>[(7,I y.1),(8,I y.2)]) (fun _=>[]) (fun y=>y.1≤y.2∧y.2≤l.length∧(∀z∈l.take y.1,z<x)∧∀z∈l.drop y.2,x≤z) (fun y=>y.2-y.1) (0,l.length) ?_ ?_ ?_
 ·exact⟨Nat.zero_le _,Nat.le_refl _,by simp,by simp⟩
 ·exact sub_same (by simp)
 rintro⟨lo,hi⟩ ⟨i1,i2,i3,i4⟩;simp only at i1 i2 i3 i4 ⊢;simp only[zP,Nat.reduceEqDiff,reduceIte];refine awp_seq_k fun K2 hK2=>?_;refine aS fun K hK=>?_;simp -dsimp;apply hK;clear hK K;refine awp_cond rfl (fun hc0=>?_) (fun hc0=>?_)
 ·skip
  try simp at hc0
  have w1:IntKind.i64.wrap ((lo:Int)+hi)=(lo:Int)+hi:=wrap_in (by omega) (by omega);have w2:IntKind.u64.wrap ((lo:Int)+hi)=(lo:Int)+hi:=u64_in (by omega) (by omega);obtain⟨m,hm⟩:∃m:Nat,m=(lo+hi)/2:=⟨_,rfl⟩;have w3:IntKind.i64.wrap (((lo:Int)+hi)/2)=m:=by rw[wrap_in (by omega) (by omega)];omega
  have hml:m<l.length:=by omega
  have gm:=at0_nat hml;have hle:∀p q:Nat,p≤q→q<l.length→at0 l p≤at0 l q:=by
   intro p q hpq hq
   rcases Nat.lt_or_ge p q with h|h
   ·have:=List.pairwise_iff_getElem.1 hs p q (by omega) hq h
    rwa [←at0_of (List.getElem?_eq_getElem (show p<l.length by omega)),←at0_of (List.getElem?_eq_getElem hq)]at this
   ·obtain rfl:p=q:=by omega
    exact Int.le_refl _
  refine awp_skip ?_;simp only[zT,reduceIte,Nat.reduceEqDiff];refine hK2 _ _ ?_;refine awp_prune [0,1,6,7,8] ?_;simp only[zP,Nat.reduceEqDiff,reduceIte];refine awp_block ?_;refine aS fun K hK=>?_;simp -dsimp [w1];refine⟨_,conv_in _,?_⟩;simp -dsimp [w2];refine⟨by decide,_,conv_ui _,?_⟩;simp -dsimp [w3];apply hK;clear hK K;refine aS fun K hK=>?_;simp -dsimp [gm];refine callK_intro _ (c_Less _ _) (by simp) ?_;simp -dsimp [gm];apply hK;clear hK K;refine awp_cond rfl (fun hc1=>?_) (fun hc1=>?_)
  ·skip
   try simp at hc1
   have wm:=zW m (by omega);refine aR fun K hK=>?_;simp -dsimp [wm];apply hK;clear hK K;simp only[zT,reduceIte,Nat.reduceEqDiff];refine⟨(m+1,hi),⟨by simp only;omega,i2,fun z hz=>?_,i4⟩,by simp only;omega,sub_rb [] rfl (by simp) (by simp)⟩;obtain⟨p,hp⟩:=List.getElem?_of_mem hz;have hpl:=(List.getElem?_eq_some_iff.1 hp).1;rw[List.length_take]at hpl;rw[List.getElem?_take,if_pos (by omega)]at hp;have:=hle p m (by omega) hml;rw[at0_of hp]at this;omega
  ·skip
   try simp at hc1
   refine aR fun K hK=>?_;simp -dsimp;apply hK;clear hK K;simp only[zT,reduceIte,Nat.reduceEqDiff];refine⟨(lo,m),⟨by simp only;omega,by simp only;omega,i3,fun z hz=>?_⟩,by simp only;omega,sub_rb [] rfl (by simp) (by simp)⟩;obtain⟨p,hp⟩:=List.getElem?_of_mem hz;rw[List.getElem?_drop]at hp;have hpl:=(List.getElem?_eq_some_iff.1 hp).1;have:=hle m (m+p) (by omega) hpl;rw[at0_of hp]at this;omega
 ·skip
  try simp at hc0
  have hlh:lo=hi:=by omega
  subst hlh;have hlb:=lbI_of i2 i3 i4;refine awp_exit ?_;simp only[zT,reduceIte,Nat.reduceEqDiff];refine hK1 _ _ ?_;refine awp_prune [0,1,6,7] ?_;simp only[zP,Nat.reduceEqDiff,reduceIte];refine aS fun K hK=>?_;simp -dsimp;refine idxK_intro (nCell (at0 l lo)) (fun hm=>by simp at hm;simp[at0_nat hm]) ?_;simp -dsimp;refine idxK_intro (nCell (at0 l lo)) (fun hm=>by simp at hm;simp[at0_nat hm.1]) ?_;simp -dsimp;refine callK_may _ (fun hm=>c_sNaN _) (by simp) ?_;simp -dsimp;refine callK_may _ (fun hm=>c_sNaN _) (by simp) ?_;simp -dsimp;apply hK;clear hK K;refine awp_ret ?_;rw[hlb]
  by_cases h:lo<l.length
  ·simp[h,beq_d]
  ·simp[h]
end Go.Street
end
section
namespace Go.Street
open Go.AM Go.Proofs
theorem mem_take_succ {l:List Int} {k:Nat} {x y:Int} (h:l[k]?=some y):x∈l.take (k+1)↔x∈l.take k∨x=y:=by
 rw[List.take_add_one,h];simp
theorem c_rSame (a b : List Int) (ha : a.length≤100000):PureCall Tryz.prog 103 [iL a,iL b] (Bo (decide (a=b))):=by
  refine PureCall.of_body Tryz.func103 rfl (by decide) (by simp[Tryz.ntmps103]) ?_
  simp only[Tryz.ntmps103,Tryz.results103]
  refine aS fun K hK=>?_
  simp -dsimp
  apply hK;clear hK K
  refine awp_seq_k fun K1 hK1=>?_
  refine aS fun K hK=>?_
  simp -dsimp
  apply hK;clear hK K
  refine awp_cond rfl (fun hc0=>?_) (fun hc0=>?_)
  · skip
    skip
    have hl:a.length≠b.length:=by intro e;simp[e]at hc0
    refine aS fun K hK=>?_
    simp -dsimp
    apply hK;clear hK K
    have hne:a≠b:=fun e=>hl (by rw[e])
    exact awp_ret (by simp[hne])
  · skip
    skip
    have hl : a.length = b.length := by have:=of_decide_eq_true (by simpa [bne,beq_d]using hc0:decide ((a.length:Int)=b.length)=true)
                                        omega
    refine awp_skip ?_
    simp only[zT,reduceIte,Nat.reduceEqDiff]
    refine hK1 _ _ ?_
    refine awp_prune [0,1] ?_
    simp only[zP,Nat.reduceEqDiff,reduceIte]
    refine awp_seq_k fun K2 hK2=>?_
    refine aS fun K hK=>?_
    simp -dsimp
    apply hK;clear hK K
    refine awp_block ?_
    refine awp_prune [0,1,5] ?_
    simp only[zP,Nat.reduceEqDiff,reduceIte]
    refine awp_loop_l [0,1] (α:=Nat) (fun k=>[(5,I k)]) (fun _=>[]) (fun k=>k≤a.length∧a.take k=b.take k) (fun k=>a.length-k) 0 ?_ ?_ ?_
    · exact⟨Nat.zero_le _,by simp⟩
    · exact sub_same (by simp)
    rintro k ⟨k1,k2⟩
    simp only[zP,Nat.reduceEqDiff,reduceIte]
    refine awp_seq_k fun K3 hK3=>?_
    refine aS fun K hK=>?_
    simp -dsimp
    apply hK;clear hK K
    refine awp_cond rfl (fun hc1=>?_) (fun hc1=>?_)
    · skip
      try simp at hc1
      obtain⟨x,hx⟩:∃x,a[k]?=some x:=⟨_,List.getElem?_eq_getElem hc1⟩
      obtain⟨y,hy⟩:∃y,b[k]?=some y:=⟨_,List.getElem?_eq_getElem (by omega)⟩
      have wk:=zW k (by omega)
      have hkb:k<b.length:=by omega
      refine awp_skip ?_
      simp only[zT,reduceIte,Nat.reduceEqDiff]
      refine hK3 _ _ ?_
      refine awp_prune [0,1,5] ?_
      simp only[zP,Nat.reduceEqDiff,reduceIte]
      refine awp_seq_k fun K4 hK4=>?_
      refine awp_block ?_
      refine awp_sd mixed rfl fun K hK=>?_
      simp -dsimp [hx,hy]
      refine hK _ _ _ (by decide+kernel) ?_;clear hK K
      refine awp_cond rfl (fun hc2=>?_) (fun hc2=>?_)
      · skip
        try simp[bne,beq_d]at hc2
        refine aS fun K hK=>?_
        simp -dsimp
        apply hK;clear hK K
        have hne:a≠b:=by rintro rfl;rw[hx]at hy;simp only[Option.some.injEq]at hy;exact hc2 hy
        exact awp_ret (by simp[hne])
      · skip
        try simp[bne,beq_d]at hc2
        refine awp_skip ?_
        simp only[zT,reduceIte,Nat.reduceEqDiff]
        refine hK4 _ _ ?_
        refine awp_prune [0,1,5] ?_
        simp only[zP,Nat.reduceEqDiff,reduceIte]
        refine aR fun K hK=>?_
        simp -dsimp [wk]
        apply hK;clear hK K
        simp only[zT,reduceIte,Nat.reduceEqDiff]
        exact⟨k+1,⟨by omega,by rw[List.take_add_one,List.take_add_one,hx,hy,k2,hc2]⟩,by omega,sub_rb [] rfl (by simp) (by simp)⟩
    · skip
      try simp at hc1
      have h1:a.take k=a:=List.take_of_length_le (by omega)
      have h2:b.take k=b:=List.take_of_length_le (by omega)
      refine awp_exit ?_
      simp only[zT,reduceIte,Nat.reduceEqDiff]
      refine hK2 _ _ ?_
      refine awp_prune [] ?_
      simp only[zP,Nat.reduceEqDiff,reduceIte]
      refine aS fun K hK=>?_
      simp -dsimp
      apply hK;clear hK K
      exact awp_ret (by rw[h1,h2]at k2;simp[k2])
end Go.Street
end
section
namespace Go.Street
open Go.AM
theorem ends_ne {j:Jn} {se ph si:Int} {ls:List Lt} {d p:List Int} (h:endsB j se ph si ls d p=true):candL j ph d≠[]:=by
 intro e;simp[endsB,e]at h
end Go.Street
end
section
namespace Go.Street
open Go.AM Go.Proofs
theorem toured_bd {j:Jn} {l:List Int} (h:touredB j l=true):2≤l.length∧l.length≤9∧∀x∈l,0≤x∧x<j.n:=by
 simp only[touredB,Bool.and_eq_true,List.all_eq_true,List.mem_range,inr_iff]at h;refine⟨by omega,by omega,fun x hx=>?_⟩;obtain⟨k,hk⟩:=List.getElem?_of_mem hx;have:=h.1 k (List.getElem?_eq_some_iff.1 hk).1;simp only[tourEl,at0_of hk,Bool.and_eq_true,inr_iff]at this;omega
def nxtI (l:List Int) (k:Nat):Int:=at0 l ((k+1) % l.length:Nat)
def partI (j:Jn) (l:List Int) (k:Nat):Int:=(strm j (at0 l k)).Least+clr j (at0 l k) (nxtI l k)
def lenTo (j:Jn) (l:List Int):Nat→Int
 |0=>0
 |k+1=>lenTo j l k+partI j l k
def lenF (j:Jn) (l:List Int):Int:=lenTo j l l.length
theorem part_bd {j:Jn} (ho:JOk j) {l:List Int} (hl:∀x∈l,0≤x∧x<j.n) {k:Nat} (hk:k<l.length):0≤partI j l k∧partI j l k≤180:=by
 have h1:=hl _ (List.mem_of_getElem? (at0_nat hk));have h2:=hl _ (List.mem_of_getElem? (at0_nat (l:=l) (k:=(k+1) % l.length) (Nat.mod_lt _ (by omega))));have h3:=ho.strm _ h1.1 h1.2;have h4:=ho.cl _ (nxtI l k) h1.1 h1.2 h2.1 h2.2;unfold partI;omega
theorem lenTo_bd {j:Jn} (ho:JOk j) {l:List Int} (hl:∀x∈l,0≤x∧x<j.n):∀k,k≤l.length→0≤lenTo j l k∧lenTo j l k≤180*k
 |0,_=>by simp[lenTo]
 |k+1,h=>by
  have:=lenTo_bd ho hl k (by omega);have:=part_bd ho hl (k:=k) (by omega);simp only[lenTo];omega
end Go.Street
end
section
namespace Go.Street
open Go.AM Go.Proofs
theorem ins_perm (x:Int):∀l:List Int,(ins x l).Perm (x::l)
 |[]=>List.Perm.refl _
 |y::l=>by
  simp only[ins]
  split
  ·exact List.Perm.refl _
  ·exact((ins_perm x l).cons y).trans (List.Perm.swap x y l)
theorem srt_perm (l:List Int):(srt l).Perm l:=by
 have gen:∀(l s:List Int),(l.foldl (fun s x=>ins x s) s).Perm (s++l):=by
  intro l
  induction l with
  |nil=>intro s;simp
  |cons x l ih=>
   intro s;rw[List.foldl_cons];refine(ih _).trans ?_;refine((ins_perm x s).append_right l).trans ?_;exact(List.perm_middle (a:=x) (l₁:=s) (l₂:=l)).symm
 exact gen l []
theorem srt_mem {l:List Int} {x:Int}:x∈srt l↔x∈l:=(srt_perm l).mem_iff
theorem srt_nodup {l:List Int} (h:l.Nodup):(srt l).Nodup:=(srt_perm l).nodup_iff.2 h
theorem srt_strict {l:List Int} (h:l.Nodup):(srt l).Pairwise (· < ·):=by
 have h1:=srt_sorted l;have h2:(srt l).Pairwise (· ≠ ·):=srt_nodup h
 exact(h1.and h2).imp fun {a b} q=>by omega
theorem lb_at {l:List Int} (hs:l.Pairwise (· < ·)) {p:Nat} {x:Int} (h:l[p]?=some x):lbI l x=p:=by
 obtain⟨hp,he⟩:=List.getElem?_eq_some_iff.1 h;have hg:=List.pairwise_iff_getElem.1 hs;refine lbI_of (by omega) (fun y hy=>?_) (fun y hy=>?_)
 ·obtain⟨q,hq⟩:=List.getElem?_of_mem hy;have hql:=(List.getElem?_eq_some_iff.1 hq).1;rw[List.length_take]at hql;rw[List.getElem?_take,if_pos (by omega)]at hq;obtain⟨q1,q2⟩:=List.getElem?_eq_some_iff.1 hq;have:=hg q p q1 hp (by omega);rw[q2,he]at this;exact this
 ·obtain⟨q,hq⟩:=List.getElem?_of_mem hy;rw[List.getElem?_drop]at hq;obtain⟨q1,q2⟩:=List.getElem?_eq_some_iff.1 hq
  rcases Nat.eq_zero_or_pos q with rfl|h0
  ·simp only[Nat.add_zero]at q2;rw[he]at q2;omega
  ·have:=hg p (p+q) hp q1 (by omega);rw[he,q2]at this;omega
theorem toured_nodup {j:Jn} {l:List Int} (h:touredB j l=true):l.Nodup:=by
 simp only[touredB,Bool.and_eq_true,List.all_eq_true,List.mem_range]at h;refine List.pairwise_iff_getElem.2 fun a b ha hb hab=>?_;have:=h.1 b hb;simp only[tourEl,Bool.and_eq_true,Bool.not_eq_true',List.any_eq_false]at this;have:=this.2 l[a] (List.mem_of_getElem? (i:=a) (by rw[List.getElem?_take,if_pos hab,List.getElem?_eq_getElem ha]));rw[at0_of (List.getElem?_eq_getElem hb)]at this;simp only[badP,Bool.or_eq_true,decide_eq_true_eq,not_or]at this;exact fun e=>this.1 e.symm
def begF (j:Jn) (t:List Int) (s:Int):Int:=lenTo j t (t.idxOf s)
def spB (j:Jn) (t:List Int) (i:Nat):List Int:=(srt t).map fun s=>if s∈t.take i then begF j t s else 0
def spL (j:Jn) (t:List Int) (i:Nat):List Int:=(srt t).map fun s=>if s∈t.take i then(strm j s).Least else 0
def spreadP (j:Jn) (t:List Int):Pg:=⟨lenF j t,(srt t).map (begF j t),(srt t).map fun s=>(strm j s).Least⟩
theorem idx_at {t:List Int} (h:t.Nodup) {i:Nat} {s:Int} (hs:t[i]?=some s):t.idxOf s=i:=by
 obtain⟨hi,he⟩:=List.getElem?_eq_some_iff.1 hs;rw[←he];exact h.idxOf_getElem i hi
theorem sp_set {t:List Int} (hn:t.Nodup) {i:Nat} {s:Int} (hs:t[i]?=some s) (f:Int→Int):
  ((srt t).map fun s=>if s∈t.take i then f s else 0).set (lbI (srt t) s) (f s)=(srt t).map fun s=>if s∈t.take (i+1)then f s else 0:=by
 have hst:=srt_strict hn;refine List.ext_getElem (by simp) fun p h1 h2=>?_;rw[List.length_map]at h2;have hlb:=lb_at hst (List.getElem?_eq_getElem h2);rw[List.getElem_set];simp only[List.getElem_map]
 by_cases e:(srt t)[p]=s
 ·rw[e]at hlb;rw[if_pos hlb,e,if_pos ((mem_take_succ hs).2 (Or.inr rfl))]
 ·have hne:lbI (srt t) s≠p:=by
   intro h;obtain⟨q,hq⟩:=List.getElem?_of_mem (srt_mem.2 (List.mem_of_getElem? hs));have:=lb_at hst hq;rw[this]at h;subst h;obtain⟨_,q2⟩:=List.getElem?_eq_some_iff.1 hq;exact e q2
  rw[if_neg hne];have:(srt t)[p]∈t.take (i+1)↔(srt t)[p]∈t.take i:=by
   rw[mem_take_succ hs];exact⟨fun h=>h.resolve_right e,Or.inl⟩
  simp only[this]
theorem sp_end {t:List Int} (f:Int→Int):((srt t).map fun s=>if s∈t.take t.length then f s else 0)=(srt t).map f:=by
 refine List.map_congr_left fun s hs=>?_;rw[List.take_of_length_le (Nat.le_refl _),if_pos (srt_mem.1 hs)]
theorem sp_0 {t:List Int} (f:Int→Int):((srt t).map fun s=>if s∈t.take 0 then f s else 0)=List.replicate t.length 0:=by
 refine List.ext_getElem (by simp[srt_len]) fun p h1 h2=>by simp
theorem lb_lt {t:List Int} (hn:t.Nodup) {s:Int} (hs:s∈t):lbI (srt t) s<t.length:=by
 obtain⟨q,hq⟩:=List.getElem?_of_mem (srt_mem.2 hs);rw[lb_at (srt_strict hn) hq,←srt_len t];exact(List.getElem?_eq_some_iff.1 hq).1
def minOf (l:List Int):Int:=l.tail.foldl minI (l.headD 0)
theorem minOf_snoc {l:List Int} {k:Nat} {x:Int} (h:l[k]?=some x) (hk:1≤k):minOf (l.take (k+1))=minI (minOf (l.take k)) x:=by
 cases l with
 |nil=>simp at h
 |cons y l=>
  obtain⟨k,rfl⟩:∃m,k=m+1:=⟨k-1,by omega⟩;simp only[List.getElem?_cons_succ]at h;simp only[minOf,List.take_succ_cons,List.tail_cons,List.headD_cons];rw[List.take_add_one,h];simp only[Option.toList_some,List.foldl_append]
  rfl
theorem c_Min (l:List Int) (h1:1≤l.length) (hn:l.length≤1000):PureCall Tryz.prog 184 [iL l] (I (minOf l)):=by
 obtain⟨x,hx⟩:∃x,l[0]?=some x:=⟨_,List.getElem?_eq_getElem (by omega)⟩;refine PureCall.of_body Tryz.func184 rfl (by decide) (by simp[Tryz.ntmps184]) ?_;simp only[Tryz.ntmps184,Tryz.results184];refine aS fun K hK=>?_;simp -dsimp;apply hK;clear hK K;refine awp_seq_k fun K1 hK1=>?_;refine aS fun K hK=>?_;simp -dsimp;apply hK;clear hK K;refine awp_cond rfl (fun hc0=>?_) (fun hc0=>?_)
 ·skip
  try simp at hc0
  omega
 ·skip
  try simp at hc0
  refine awp_skip ?_;simp only[zT,reduceIte,Nat.reduceEqDiff];refine hK1 _ _ ?_;refine awp_prune [0] ?_;simp only[zP,Nat.reduceEqDiff,reduceIte];refine aS fun K hK=>?_;simp -dsimp [hx];apply hK;clear hK K;refine awp_seq_k fun K2 hK2=>?_;refine aS fun K hK=>?_;simp -dsimp;apply hK;clear hK K;refine awp_block ?_;refine awp_prune [0,3,4] ?_;simp only[zP,Nat.reduceEqDiff,reduceIte];refine awp_loop_l [0] (α:=Nat) (fun k=>[(3,I (minOf (l.take k))),(4,I k)]) (fun _=>[]) (fun k=>1≤k∧k≤l.length) (fun k=>l.length-k) 1 ?_ ?_ ?_
  ·exact⟨by omega,by omega⟩
  ·have hx1:minOf (l.take 1)=x:=by simp[minOf,List.take_add_one,hx]
   exact sub_same (by simp[hx1])
  rintro k ⟨k1,k2⟩;simp only[zP,Nat.reduceEqDiff,reduceIte];refine awp_seq_k fun K3 hK3=>?_;refine aS fun K hK=>?_;simp -dsimp;apply hK;clear hK K;refine awp_cond rfl (fun hc1=>?_) (fun hc1=>?_)
  ·skip
   try simp at hc1
   obtain⟨y,hy⟩:∃y,l[k]?=some y:=⟨_,List.getElem?_eq_getElem hc1⟩;have wk:=zW k (by omega);refine awp_skip ?_;simp only[zT,reduceIte,Nat.reduceEqDiff];refine hK3 _ _ ?_;refine awp_prune [0,3,4] ?_;simp only[zP,Nat.reduceEqDiff,reduceIte];refine awp_seq_k fun K4 hK4=>?_;refine awp_block ?_;refine aR fun K hK=>?_;simp -dsimp [hy];apply hK;clear hK K;simp only[zT,reduceIte,Nat.reduceEqDiff];refine hK4 _ _ ?_;refine awp_prune [0,3,4] ?_;simp only[zP,Nat.reduceEqDiff,reduceIte];refine aR fun K hK=>?_;simp -dsimp [wk];apply hK;clear hK K;simp only[zT,reduceIte,Nat.reduceEqDiff];exact⟨k+1,⟨by omega,by omega⟩,by omega,sub_same (by simp[minOf_snoc hy k1,minI])⟩
  ·skip
   try simp at hc1
   refine awp_exit ?_;simp only[zT,reduceIte,Nat.reduceEqDiff];refine hK2 _ _ ?_;refine awp_prune [3] ?_;simp only[zP,Nat.reduceEqDiff,reduceIte];refine aS fun K hK=>?_;simp -dsimp;apply hK;clear hK K;have htk:l.take k=l:=List.take_of_length_le (by omega);exact awp_ret (by simp[htk])
abbrev nilPg:AV:= .agg [I 0, .v (.slice none 0 0), .v (.slice none 0 0)]
theorem c_Spread_f (j:Jn) (t:List Int) (hf:Fit j) (hn:t.length≤1000) (h:jnB j=false∨touredB j t=false∨at0 t 0≠minOf t):PureCall Tryz.prog 101 [j.av,iL t] (.tup [nilPg,I 2]):=by
 have hc:=c_Check j hf;have ht:=fun hj:jnB j=true=>c_toured j t hf (jnB_ok hj).sqr hn
 cases hj:jnB j with
 |false=>
  rw[hj]at hc;refine PureCall.of_body Tryz.func101 rfl (by decide) (by simp[Tryz.ntmps101]) ?_;simp only[Tryz.ntmps101,Tryz.results101];refine aS fun K hK=>?_;simp -dsimp;apply hK;clear hK K;refine aS fun K hK=>?_;simp -dsimp;apply hK;clear hK K;refine awp_seq_k fun K1 hK1=>?_;refine awp_sd mixed rfl fun K hK=>?_;simp -dsimp;refine callK_intro _ (hc) (by simp) ?_;simp -dsimp;refine callK_may _ (fun hm=>(absurd hm (by simp):PureCall _ _ _ (Bo true))) (by simp) ?_;simp -dsimp;refine idxK_intro ([I 0]) (fun hm=>by simp at hm) ?_;simp -dsimp;refine callK_may _ (fun hm=>(absurd hm (by simp):PureCall _ _ _ (I 0))) (by simp) ?_;simp -dsimp;refine hK _ _ _ (by decide+kernel) ?_;clear hK K;refine awp_cond rfl (fun hc0=>?_) (fun hc0=>?_)
  ·refine aS fun K hK=>?_;simp -dsimp;apply hK;clear hK K;exact awp_ret (by simp)
  ·simp at hc0
 | true=>
  rw[hj]at hc;have ht':=ht hj
  cases htt:touredB j t with
  |false=>
   rw[htt]at ht';refine PureCall.of_body Tryz.func101 rfl (by decide) (by simp[Tryz.ntmps101]) ?_;simp only[Tryz.ntmps101,Tryz.results101];refine aS fun K hK=>?_;simp -dsimp;apply hK;clear hK K;refine aS fun K hK=>?_;simp -dsimp;apply hK;clear hK K;refine awp_seq_k fun K1 hK1=>?_;refine awp_sd mixed rfl fun K hK=>?_;simp -dsimp;refine callK_intro _ (hc) (by simp) ?_;simp -dsimp;refine callK_may _ (fun hm=>ht') (by simp) ?_;simp -dsimp;refine idxK_intro ([I 0]) (fun hm=>by simp at hm) ?_;simp -dsimp;refine callK_may _ (fun hm=>(absurd hm (by simp):PureCall _ _ _ (I 0))) (by simp) ?_;simp -dsimp;refine hK _ _ _ (by decide+kernel) ?_;clear hK K;refine awp_cond rfl (fun hc0=>?_) (fun hc0=>?_)
   ·refine aS fun K hK=>?_;simp -dsimp;apply hK;clear hK K;exact awp_ret (by simp)
   ·simp at hc0
  |true=>
   rw[htt]at ht';have htb:=toured_bd htt;have g0:t[0]?=some (at0 t 0):=at0_nat (l:=t) (k:=0) (by omega);have hmi:=c_Min t (by omega) (by omega);have hne:at0 t 0≠minOf t:=by rcases h with h|h|h;rw[hj]at h;cases h;rw[htt]at h;cases h;exact h
   refine PureCall.of_body Tryz.func101 rfl (by decide) (by simp[Tryz.ntmps101]) ?_;simp only[Tryz.ntmps101,Tryz.results101];refine aS fun K hK=>?_;simp -dsimp;apply hK;clear hK K;refine aS fun K hK=>?_;simp -dsimp;apply hK;clear hK K;refine awp_seq_k fun K1 hK1=>?_;refine awp_sd mixed rfl fun K hK=>?_;simp -dsimp;refine callK_intro _ (hc) (by simp) ?_;simp -dsimp;refine callK_may _ (fun hm=>ht') (by simp) ?_;simp -dsimp;refine idxK_intro ([I (at0 t 0)]) (fun _=>by simp[g0]) ?_;simp -dsimp;refine callK_may _ (fun hm=>hmi) (by simp) ?_;simp -dsimp;refine hK _ _ _ (by decide+kernel) ?_;clear hK K;refine awp_cond rfl (fun hc0=>?_) (fun hc0=>?_)
   ·refine aS fun K hK=>?_;simp -dsimp;apply hK;clear hK K;exact awp_ret (by simp)
   ·simp[hne,beq_d,bne]at hc0
theorem c_Spread_t (j:Jn) (t:List Int) (hf:Fit j) (hj:jnB j=true) (ht:touredB j t=true) (hmn:at0 t 0=minOf t):PureCall Tryz.prog 101 [j.av,iL t] (.tup [(spreadP j t).av,I 0]):=by
 have ho:=jnB_ok hj;have hc:=c_Check j hf;rw[hj]at hc;have htb:=toured_bd ht;have hnd:=toured_nodup ht;have hto:=c_toured j t hf ho.sqr (by omega);rw[ht]at hto;have g0:t[0]?=some (at0 t 0):=at0_nat (l:=t) (k:=0) (by omega);have hmi:=c_Min t (by omega) (by omega);rw[←hmn]at hmi;have hva:=c_Values t;have hso:=m_Sorted t (by omega) (by omega);have f1:Fits t.length 9:=fits_of (by omega) (by omega);have hsl:=srt_len t;have hB0:spB j t 0=List.replicate t.length 0:=sp_0 _;have hL0:spL j t 0=List.replicate t.length 0:=sp_0 _;refine PureCall.of_bodyG Tryz.func101 rfl (by decide) (by simp[Tryz.ntmps101]) ?_;intro J hJ;simp only[Tryz.ntmps101,Tryz.results101];refine gS fun K hK=>?_;simp -dsimp;apply hK;clear hK K;refine gS fun K hK=>?_;simp -dsimp;apply hK;clear hK K;refine gwp_seq_k fun K1 hK1=>?_;refine gwp_sd mixed rfl (by decide) rfl rfl fun K hK=>?_;simp -dsimp;refine callK_intro _ (hc) (by simp) ?_;simp -dsimp;refine callK_may _ (fun hm=>hto) (by simp) ?_;simp -dsimp;refine idxK_intro ([I (at0 t 0)]) (fun _=>by simp[g0]) ?_;simp -dsimp;refine callK_may _ (fun hm=>hmi) (by simp) ?_;simp -dsimp;refine hK _ _ _ (by decide+kernel) ?_;clear hK K;refine gwp_cond rfl (fun hc0=>?_) (fun hc0=>?_)
 ·simp at hc0
 ·refine gwp_skip ?_;simp only[zT,reduceIte,Nat.reduceEqDiff];refine hK1 _ _ ?_;refine gwp_prune [1,4,6] (Or.inr (by simp)) ?_;simp only[zP,Nat.reduceEqDiff,reduceIte];refine gS fun K hK=>?_;simp -dsimp;refine callK_intro _ (hva) (by simp) ?_;simp -dsimp;refine callK_mut [] [] [none,none,none,some 0] (hso) (by decide) rfl (by simp) (by simp) rfl (by simp) ?_;simp -dsimp;apply hK;clear hK K;refine gwp_sd mixed rfl (by decide) rfl rfl fun K hK=>?_;simp -dsimp [f1];refine hK _ _ _ (by decide+kernel) ?_;clear hK K;refine gS fun K hK=>?_;simp -dsimp;apply hK;clear hK K;refine gwp_seq_k fun K2 hK2=>?_;refine gS fun K hK=>?_;simp -dsimp;apply hK;clear hK K;refine gwp_block ?_;refine gwp_prune [1,4,6,7,8,9,44,45,46] (Or.inr (by simp)) ?_;simp only[zP,Nat.reduceEqDiff,reduceIte];refine gwp_loop_l [1,4,6,7,8,44,45] (α:=Nat) (fun i=>[(46,I i),(9,I (lenTo j t i))]) (fun i=>[some (.els 6 [j.cells]),some (.els 3 [[I 0, .v (.slice none 0 0), .v (.slice none 0 0)]]),some (.els 6 [j.cells]),some (.els 1 ((srt t).map nCell)),some (.els 1 ((spB j t i).map nCell)),some (.els 1 ((spL j t i).map nCell)),some (.els 3 [[I 0, .row 4 0 t.length, .row 5 0 t.length]])]) (fun i=>i≤t.length) (fun i=>t.length-i) 0 ?_ ?_ ?_
  ·exact Nat.zero_le _
  ·exact gsub (sub_rb [some 0,some 1,some 2,some 3,some 4,some 5,some 6] rfl (by simp[lenTo]) (by simp[hB0,hL0])) (by simp)
  rintro k k1;simp only[zP,Nat.reduceEqDiff,reduceIte];refine gS fun K hK=>?_;simp -dsimp;apply hK;clear hK K;refine gwp_seq_k fun K3 hK3=>?_;refine gwp_cond rfl (fun hc1=>?_) (fun hc1=>?_)
  ·have hkl:k<t.length:=by simpa using hc1
   have ga:=at0_nat hkl;have hb1:spB j t (k+1)=(spB j t k).set (lbI (srt t) (at0 t k)) (lenTo j t k):=by
    have h1:=sp_set hnd ga (begF j t);have h2:begF j t (at0 t k)=lenTo j t k:=by unfold begF;rw[idx_at hnd ga]
    rw[h2]at h1;exact h1.symm
   have hb2:spL j t (k+1)=(spL j t k).set (lbI (srt t) (at0 t k)) (strm j (at0 t k)).Least:=(sp_set hnd ga fun s=>(strm j s).Least).symm;have hbl:(spB j t k).length=t.length:=by simp[spB,hsl]
   have hll:(spL j t k).length=t.length:=by simp[spL,hsl]
   have hlb:=lb_lt hnd (List.mem_of_getElem? ga);obtain⟨fb,hse⟩:=c_Search (srt t) (at0 t k) (srt_sorted t) (by omega);have ha:=htb.2.2 _ (List.mem_of_getElem? ga);have hmlt:(k+1) % t.length<t.length:=Nat.mod_lt _ (by omega);have gb:=at0_nat (l:=t) (k:=(k+1) % t.length) hmlt;have hb:=htb.2.2 _ (List.mem_of_getElem? gb);have wk:=zW k (by omega);have hmm:((k:Int)+1).tmod (t.length:Int)=(((k+1) % t.length:Nat):Int):=by rw[Int.tmod_eq_emod_of_nonneg (by omega)];rfl
   have hpt:partI j t k=(strm j (at0 t k)).Least+clr j (at0 t k) (at0 t ((k+1) % t.length:Nat)):=rfl;have hlbd:=lenTo_bd ho htb.2.2 k k1;have hpbd:=part_bd ho htb.2.2 hkl;have hlne:¬t=[]:=by intro e;rw[e]at hkl;simp at hkl
   generalize (k+1) % t.length=m at hmlt gb hb hmm hpt;have hla:lenTo j t (k+1)=lenTo j t k+partI j t k:=rfl;generalize at0 t k=a at ga ha hpt hb1 hb2 hlb hse;generalize at0 t m=b at gb hb hpt;have gs:=strm_get ha.1 ha.2;have hs:=ho.strm a ha.1 ha.2;have gr:=ho.sqr.row ha.1 ha.2;have gc:=ho.sqr.get ha.1 ha.2 hb.1 hb.2;have hc:=ho.cl a b ha.1 ha.2 hb.1 hb.2;have w1:IntKind.i64.wrap ((strm j a).Least+clr j a b)=(strm j a).Least+clr j a b:=wrap_in (by omega) (by omega);have w2:IntKind.i64.wrap (lenTo j t k+((strm j a).Least+clr j a b))=lenTo j t (k+1):=by rw[wrap_in (by omega) (by omega)];omega
   generalize lbI (srt t) a=q at hb1 hb2 hlb hse;generalize spB j t k=B at hb1 hbl ⊢;generalize spL j t k=L at hb2 hll ⊢;have tS:List.take t.length ((srt t).map nCell)=(srt t).map nCell:=List.take_of_length_le (by simp[hsl]);obtain⟨bq,hbq⟩:∃x,B[q]?=some x:=⟨_,List.getElem?_eq_getElem (by omega)⟩;obtain⟨lq,hlq⟩:∃x,L[q]?=some x:=⟨_,List.getElem?_eq_getElem (by omega)⟩;refine gwp_skip ?_;simp only[zT,reduceIte,Nat.reduceEqDiff];refine hK3 _ _ ?_;refine gwp_prune [1,4,6,7,8,9,44,45,46] (Or.inr (by simp)) ?_;simp only[zP,Nat.reduceEqDiff,reduceIte];refine gwp_seq_k fun K4 hK4=>?_;refine gwp_block ?_;refine gS fun K hK=>?_;simp -dsimp [ga];apply hK;clear hK K;refine gS fun K hK=>?_;simp -dsimp [tS,hsl];refine callK_intro _ (hse) (by simp) ?_;simp -dsimp [tS,hsl];apply hK;clear hK K;refine gwp_sd mixed rfl (by decide) rfl rfl fun K hK=>?_;simp -dsimp [gs,ha.1,hbl,hll,hlb,hbq,hlq];refine hK _ _ _ (by decide+kernel) ?_;clear hK K;refine gwp_draw mixed rfl (by decide) rfl rfl fun K hK=>?_;simp -dsimp [ga,gb,gs,gr.1,gc,w1,w2,wk,hmm,hlne,ha.1,hb.1];refine hK _ _ _ (by decide+kernel) ?_;clear hK K;simp only[zT,reduceIte,Nat.reduceEqDiff];refine hK4 _ _ ?_;refine gwp_prune [1,4,6,7,8,9,44,45,46] (Or.inr (by simp)) ?_;simp only[zP,Nat.reduceEqDiff,reduceIte];refine gR fun K hK=>?_;simp -dsimp [wk];apply hK;clear hK K;simp only[zT,reduceIte,Nat.reduceEqDiff];exact⟨k+1,by omega,by omega,gsub (sub_rb [some 0,some 1,some 2,some 3,some 4,some 5,some 6] rfl (by simp) (by simp[hb1,hb2,List.map_set])) (by simp)⟩
  ·have hkk:¬k<t.length:=by simpa using hc1
   have hke:k=t.length:=by omega
   subst hke;have eB:spB j t t.length=(srt t).map (begF j t):=sp_end _;have eL:spL j t t.length=(srt t).map fun s=>(strm j s).Least:=sp_end _;rw[eB,eL];have tB:List.take t.length (((srt t).map (begF j t)).map nCell)=((srt t).map (begF j t)).map nCell:=List.take_of_length_le (by simp[hsl]);have tL:List.take t.length (((srt t).map fun s=>(strm j s).Least).map nCell)=((srt t).map fun s=>(strm j s).Least).map nCell:=List.take_of_length_le (by simp[hsl]);have e1:(spreadP j t).Begins=(srt t).map (begF j t):=rfl;have e2:(spreadP j t).Lasts=(srt t).map fun s=>(strm j s).Least:=rfl;have e3:(spreadP j t).Cycle=lenTo j t t.length:=rfl;rw[←e1,←e2,←e3];rw[←e1]at tB;rw[←e2]at tL;generalize hP:spreadP j t=P at tB tL e1 e2 ⊢;have hB:t.length≤P.Begins.length:=by rw[e1];simp[hsl]
   have hL:t.length≤P.Lasts.length:=by rw[e2];simp[hsl]
   refine gwp_exit ?_;simp only[zT,reduceIte,Nat.reduceEqDiff];refine hK2 _ _ ?_;refine gwp_prune [4,8,9] (Or.inr (by simp)) ?_;simp only[zP,Nat.reduceEqDiff,reduceIte];refine gS fun K hK=>?_;simp -dsimp;apply hK;clear hK K;refine gS fun K hK=>?_;simp -dsimp;apply hK;clear hK K;exact gwp_ret (by simp[tB,tL,hB,hL,resP,tupOf,hP])
end Go.Street
end
section
namespace Go.Street
open Go.AM Go.Proofs
def wkA1 (c c':AV):Prop:=c=c'∨(∃sz,c= .v (.slice none 0 0)∧c'= .lst sz [])∨(∃sz e,c= .full sz e∧c'= .lst sz e)
def wkL:List AV→List AV→Prop
 |[],[]=>True
 |c::cs,c'::cs'=>wkA1 c c'∧wkL cs cs'
 |_,_=>False
theorem wkL_spec:∀{xs ys:List AV},wkL xs ys→xs.length=ys.length∧∀(i:Nat) c c',xs[i]?=some c→ys[i]?=some c'→wkA1 c c'
 |[],[],_=>⟨rfl,fun i c c' h=>by simp at h⟩
 |x::xs,y::ys,h=>by
  obtain⟨h1,h2⟩:=wkL_spec h.2;refine⟨by simp[h1],fun i c c' g1 g2=>?_⟩
  cases i with
  |zero=>simp at g1 g2;subst g1 g2;exact h.1
  |succ i=>exact h2 i c c' (by simpa using g1) (by simpa using g2)
 |[],_::_,h=>h.elim
 |_::_,[],h=>h.elim
theorem wkA1_rep {w:World} {S:Nat→Prop} {ρ:Nat→Option AM.Loc} {L:Nat→Prop} {c c':AV} {y:Value} (h:wkA1 c c') (hr:RepV w S ρ L c y):RepV w S ρ L c' y:=by
 rcases h with rfl|⟨sz,rfl,rfl⟩|⟨sz,e,rfl,rfl⟩
 ·exact hr
 ·cases hr with
  |pure _ _ h=>exact .pure _ _ (nil_lst h)
 ·cases hr with
  | pure _ _ h=>
   have:=wk_rep 1 _ _ h;have e1:AM.wk 1 (.full sz e)= .lst sz e:=by
    simp only[AM.wk];simp
   rw[e1]at this;exact .pure _ _ this
theorem MutCall.wkA {P:Program} {f:FuncId} {args args':List AV} {Hk Hd Hk' Hn:Hp} {res:AV} (h:MutCall P f args' Hk Hd res Hk' Hn) (hw:wkL args args'):MutCall P f args Hk Hd res Hk' Hn:=by
 obtain⟨h1,h2,h3⟩:=h;obtain⟨hl,hi⟩:=wkL_spec hw;refine⟨h1,h2,fun S0 w ρ vs hh hlen hrep=>h3 S0 w ρ vs hh (by rw[←hl];exact hlen) fun i c x hc hx=>?_⟩;have hil:i<args.length:=by rw[hl];exact(List.getElem?_eq_some_iff.1 hc).1
 exact wkA1_rep (hi i _ c (List.getElem?_eq_getElem hil) hc) (hrep i _ x (List.getElem?_eq_getElem hil) hx)
theorem arrF_in {j:Jn} {se A B:Int} (hA:A≤se) (hB:se≤B) (l:List Int) {ls:List Lt} (h:∀y∈ls,A≤y.Since∧y.Since≤B):∀y∈(arrF j se l ls).1,A≤y.Since∧y.Since≤B:=by
 have gen:∀(l:List Int) (st:List Lt×Bool),(∀y∈st.1,A≤y.Since∧y.Since≤B)→∀y∈(l.foldl (arrStep j se) st).1,A≤y.Since∧y.Since≤B:=by
  intro l
  induction l with
  |nil=>intro st h;exact h
  | cons x l ih=>
   intro st h;rw[List.foldl_cons];refine ih _ fun y hy=>?_;unfold arrStep at hy
   split at hy
   ·exact h y hy
   ·split at hy
    ·rcases List.mem_or_eq_of_mem_set hy with h1|rfl
     ·exact h y h1
     ·exact⟨hA,hB⟩
    ·exact h y hy
 exact gen l (ls,true) h
theorem redF_in {j:Jn} {se q A B:Int} (hA:A≤se) (hB:se≤B):∀(l:List Int) {ls:List Lt},(∀y∈ls,A≤y.Since∧y.Since≤B)→∀y∈redF j se q l ls,A≤y.Since∧y.Since≤B
 |[],ls,h=>h
 | x::l,ls,h=>redF_in (j:=j) (q:=q) hA hB l (ls:=redStep j se q ls x) (fun y hy=>by
  unfold redStep at hy
  split at hy
  ·rcases List.mem_or_eq_of_mem_set hy with h1|rfl
   ·exact h y h1
   ·exact⟨hA,hB⟩
  ·exact h y hy)
theorem nextK_in {j:Jn} {ph:Int} {d p sk:List Int} {B:Int} (hp:j.Phases.length≤12) (hB:0≤B) (h:∀x∈sk,0≤x∧x≤B):∀x∈nextK j ph d p sk,0≤x∧x≤B+12:=by
 intro x hx;unfold nextK at hx
 rcases List.mem_or_eq_of_mem_set hx with h1|rfl
 ·have:=incrs_bd (B:=B) _ sk B hB h x h1;have h2:((candL j ph d).takeWhile fun q=> !decide (q=nextB j ph d p sk)).length≤(candL j ph d).length:=(List.takeWhile_prefix _).length_le;have h3:=candTo_len j ph d (j.Phases.length-1);unfold candL at h2 this;omega
 ·omega
theorem arrS_in {j:Jn} {N:Int} {s:Sg} (h0:-1≤N) (h:SgIn j N s) (hl:∀l∈s.ls,-1≤l.Since∧l.Since≤N+1):SgIn j N (arrS j s):=by
 refine⟨by show(arrF _ _ _ _).1.length=_;rw[arrF_len];exact h.l,h.k,h.kb,h.se,?_,?_,h.p0,h.p1⟩
 ·show-1≤(if (arrF j s.se (rowAt j.Phases s.ph) s.ls).2 then s.se else s.si)∧(if (arrF j s.se (rowAt j.Phases s.ph) s.ls).2 then s.se else s.si)≤N+1;have:=h.si;have:=h.se
  split<;>omega
 ·exact arrF_in (A:=-1) (B:=N+1) (by rw[h.se];omega) (by rw[h.se];omega) _ hl
theorem tick_in {j:Jn} (ho:JOk j) {N:Int} {s:Sg} {d p:List Int} (h0:-1≤N) (h:SgIn j N s):SgIn j (N+1) (tickS j d p s):=by
 have hn:SgIn j (N+1) (nextS s):=by
  refine⟨h.l,h.k,fun x hx=>?_,by show s.se+1=_;rw[h.se],?_,fun l hl=>?_,h.p0,h.p1⟩
  ·have:=h.kb x hx;omega
  ·have:=h.si;show-1≤s.si∧s.si≤_;omega
  ·have:=h.lb l hl;omega
 unfold tickS
 split
 ·split
  ·rename_i he;have hne:candL j s.ph d≠[]:=ends_ne he;have hq:=candL_bd (j:=j) (ph:=s.ph) (d:=d) (by have:=ho.p1;omega) _ (nextB_mem (p:=p) (sk:=s.sk) hne);have hlb:∀l∈(turnS j d p (nextS s)).ls,-1≤l.Since∧l.Since≤N+1+1:=redF_in (A:=-1) (B:=N+1+1) (by show-1≤s.se+1;rw[h.se];omega) (by show s.se+1≤_;rw[h.se];omega) _ (fun l hl=>hn.lb l hl);refine arrS_in (by omega) ⟨by show(redF _ _ _ _ _).length=_;rw[redF_len];exact h.l,by show(nextK _ _ _ _ _).length=_;rw[nextK_len];exact h.k,fun x hx=>?_,hn.se,hn.si,hlb,hq.1,hq.2⟩ hlb;have:=nextK_in (j:=j) (ph:=s.ph) (d:=d) (p:=p) (sk:=s.sk) (B:=20*(N+1)) ho.p2 (by omega) h.kb x hx;omega
  ·exact hn
 ·exact arrS_in (by omega) hn hn.lb
theorem open_in {j:Jn} (ho:JOk j):SgIn j (-1) (openS j):=by
 have h:=openS_ok ho;refine⟨h.l,h.k,fun x hx=>?_,rfl,by simp[openS],fun l hl=>?_,h.p0,h.p1⟩
 ·simp only[openS,List.mem_replicate]at hx;omega
 ·have:=grF_bd (rowAt j.Phases 0) (List.replicate j.n ⟨false,0⟩) (by intro x hx;simp only[List.mem_replicate]at hx;rw[hx.2]) l hl;omega
theorem m_Lights (j:Jn) (s:Sg) (hs:SgOk j s) (hn:j.n≤1000):
  MutCall Tryz.prog 44 [.ptr 0 0 0] [sgRow j s s.ls.length s.sk.length .any .any] [rRow s.ls,kRow s.sk] (.row 3 0 s.ls.length) [sgRow j s s.ls.length s.sk.length .any .any] [rRow s.ls,kRow s.sk,rRow s.ls]:=by
 have hl:=hs.l;obtain⟨se,ph,si,on,ls,sk⟩:=s;simp only at hl ⊢;have hr:=fun(R Sk Dm Pr:AV)=>c_ready j (I se) (I ph) (Bo on) (I si) R Sk Dm Pr true;refine MutCall.of_bodyG [0] Tryz.func44 rfl (by decide) (by simp[Tryz.ntmps44]) rfl rfl ?_;intro J hJ;simp only[Tryz.ntmps44,Tryz.results44];refine gS fun K hK=>?_;simp -dsimp;apply hK;clear hK K;refine gwp_seq_k fun K1 hK1=>?_;refine gS fun K hK=>?_;simp -dsimp;refine callK_intro _ (hr _ _ _ _) (by simp) ?_;simp -dsimp;apply hK;clear hK K;refine gwp_cond rfl (fun hc0=>?_) (fun hc0=>?_)
 ·simp at hc0
 ·refine gwp_skip ?_;simp only[zT,reduceIte,Nat.reduceEqDiff];refine hK1 _ _ ?_;refine gwp_prune [0] (Or.inr (by simp)) ?_;simp only[zP,Nat.reduceEqDiff,reduceIte];refine gS fun K hK=>?_;simp -dsimp;apply hK;clear hK K;refine gwp_seq_k fun K2 hK2=>?_;refine gS fun K hK=>?_;simp -dsimp;apply hK;clear hK K;refine gwp_block ?_;refine gwp_prune [0,3,12,13,14] (Or.inr (by simp)) ?_;simp only[zP,Nat.reduceEqDiff,reduceIte];refine gwp_loop_l [0,12,13] (α:=Nat) (fun k=>[(3, .row 3 0 k),(14,I k)]) (fun k=>[some (.els 15 [sC j (Bo true) (I se) (I ph) (Bo on) (I si) (.row 1 0 ls.length) (.row 2 0 sk.length) .any .any]),rRow ls,kRow sk,some (.els 2 ((ls.take k).map Lt.cells))]) (fun k=>k≤ls.length) (fun k=>ls.length-k) 0 ?_ ?_ ?_
  ·exact Nat.zero_le _
  ·exact gsub ((sub_nil 3 2 (by simp)).trans (sub_rb [some 0,some 1,some 2,some 3] rfl (by simp) (by simp))) (by simp)
  rintro k k1;simp only[zP,Nat.reduceEqDiff,reduceIte];refine gS fun K hK=>?_;simp -dsimp;apply hK;clear hK K;refine gwp_seq_k fun K3 hK3=>?_;refine gwp_cond rfl (fun hc1=>?_) (fun hc1=>?_)
  ·have hkl:k<ls.length:=by simpa using hc1
   obtain⟨r,hk⟩:∃r,ls[k]?=some r:=⟨_,List.getElem?_eq_getElem hkl⟩;have wk:=zW k (by omega);have f1:Fits (k+1) 17:=fits_of (by omega) (by omega);have hm:min k ls.length=k:=Nat.min_eq_left (by omega);refine gwp_skip ?_;simp only[zT,reduceIte,Nat.reduceEqDiff];refine hK3 _ _ ?_;refine gwp_prune [0,3,12,13,14] (Or.inr (by simp)) ?_;simp only[zP,Nat.reduceEqDiff,reduceIte];refine gwp_seq_k fun K4 hK4=>?_;refine gwp_block ?_;refine gS fun K hK=>?_;simp -dsimp [hk];refine⟨hkl,?_⟩;apply hK;clear hK K;refine gR fun K hK=>?_;simp -dsimp [hm,f1];apply hK;clear hK K;simp only[zT,reduceIte,Nat.reduceEqDiff];refine hK4 _ _ ?_;refine gwp_prune [0,3,12,13,14] (Or.inr (by simp)) ?_;simp only[zP,Nat.reduceEqDiff,reduceIte];refine gR fun K hK=>?_;simp -dsimp [wk];apply hK;clear hK K;simp only[zT,reduceIte,Nat.reduceEqDiff];exact⟨k+1,by omega,by omega,gsub (sub_rb [some 0,some 1,some 2,some 5] rfl (by simp) (by simp[List.take_add_one,hk,hm])) (by simp)⟩
  ·have hkl:¬k<ls.length:=by simpa using hc1
   have hkk:k=ls.length:=by omega
   subst hkk;refine gwp_exit ?_;simp only[zT,reduceIte,Nat.reduceEqDiff];refine hK2 _ _ ?_;refine gwp_prune [0,3] (Or.inr (by simp)) ?_;simp only[zP,Nat.reduceEqDiff,reduceIte];refine gS fun K hK=>?_;simp -dsimp;apply hK;clear hK K;exact gwp_ret ⟨[some 0,some 1,some 2,some 3],rfl,by simp,by simp,by simp,by simp[resP,tupOf]⟩
def exJ:Jn:=⟨[⟨1,5⟩,⟨2,8⟩,⟨3,6⟩],[[-1,3,-1],[4,-1,2],[-1,7,-1]],[[0,2],[1]],[20,30],1,[]⟩
def exLit:AV:= .agg [.full 2 [[I 1,I 5],[I 2,I 8],[I 3,I 6]], .full 1 [[.full 1 [[I (-1)],[I 3],[I (-1)]]],[.full 1 [[I 4],[I (-1)],[I 2]]],[.full 1 [[I (-1)],[I 7],[I (-1)]]]], .full 1 [[.full 1 [[I 0],[I 2]]],[.full 1 [[I 1]]]], .full 1 [[I 20],[I 30]],I 1, .v (.slice none 0 0)]
theorem c_ExLit:PureCall Tryz.prog 36 [] exLit:=by
 have wm1:IntKind.i64.wrap (-1)=-1:=wrap_in (by omega) (by omega);refine PureCall.of_body Tryz.func36 rfl (by decide) (by simp[Tryz.ntmps36]) ?_;simp only[Tryz.ntmps36,Tryz.results36];refine aS fun K hK=>?_;simp -dsimp [wm1];apply hK;clear hK K;refine aS fun K hK=>?_;simp -dsimp [wm1];apply hK;clear hK K;exact awp_ret (by simp[exLit])
theorem c_Example:PureCall Tryz.prog 36 [] exJ.av:=by
 have e:wkN 3 6 exLit=exJ.av:=by rfl
 refine c_ExLit.res fun w S y h=>?_;rw[←e];exact wkN_rep 3 6 _ _ h
theorem ex_fit:Fit exJ:=⟨by decide,by decide,by decide,by decide,by decide,by decide,by decide⟩
theorem ex_jn:jnB exJ=true:=by decide+kernel
def exS:Nat→Sg
 |0=>openS exJ
 |k+1=>tickS exJ [1] [] (exS k)
theorem exS_in:∀k:Nat,SgIn exJ ((k:Int)-1) (exS k)
 |0=>open_in (jnB_ok ex_jn)
 |k+1=>by
  have:=tick_in (jnB_ok ex_jn) (d:=[1]) (p:=[]) (by omega) (exS_in k);rw[show((k:Int)-1+1)=((k+1:Nat):Int)-1 by omega]at this;exact this
theorem c_known:PureCall Tryz.prog 33 [] (Bo true):=by
 have h0:=c_Example;have hj:=ex_jn;have hf:=ex_fit;have h1:=c_Bound_t exJ hf hj;rw[show boundJ exJ=185 by decide+kernel]at h1;have h2:=c_Tour_t exJ [1,2] hf hj (by decide+kernel) (by decide+kernel) ⟨some [1,2],23⟩ [1,2] (by kernel_rfl) rfl;have h2':=h2.wk (args:=[exJ.av, .full 1 [[I 1],[I 2]]]) (by rfl);have h3:=c_Spread_t exJ [1,2] hf hj (by decide+kernel) (by decide+kernel);rw[show spreadP exJ [1,2]=⟨23,[0,10],[8,6]⟩by kernel_rfl]at h3;have h3':=h3.wk (args:=[exJ.av, .full 1 [[I 1],[I 2]]]) (by rfl);have h4:=m_Open exJ hf hj;have e0:openS exJ=exS 0:=rfl;rw[e0]at h4;have ho:=jnB_ok hj;have hti:∀k:Nat,k≤20→MutCall Tryz.prog 43 [.ptr 0 0 0, .full 1 [[I 1]], .v (.slice none 0 0)] [sgRow exJ (exS k) exJ.n exJ.Phases.length .any .any] [rRow (exS k).ls,kRow (exS k).sk] (I 0) [sgRow exJ (exS (k+1)) exJ.n exJ.Phases.length .any .any] [rRow (exS (k+1)).ls,kRow (exS (k+1)).sk]:=by
  intro k hk;have hin:=exS_in k;have:=m_Tick exJ [1] [] (exS k) hf ho (hin.ok (by omega) (by omega)) (by simp) (by simp) (by decide+kernel);rw[hin.l,hin.k]at this;exact MutCall.wkA this ⟨Or.inl rfl,Or.inr (Or.inr ⟨1,_,rfl,rfl⟩),Or.inr (Or.inl ⟨1,rfl,rfl⟩),trivial⟩
 have hp:=fun(R Sk Dm Pr:AV)=>c_Phase exJ (I (exS 14).se) (I (exS 14).si) R Sk Dm Pr (exS 14).ph (exS 14).on;have hl:=m_Lights exJ (exS 14) ((exS_in 14).ok (by omega) (by omega)) (by decide);rw[(exS_in 14).l,(exS_in 14).k]at hl;have e1:(exS 14).ph=1:=by decide+kernel
 have e2:(exS 14).on=true:=by decide+kernel
 have e3:(exS 14).ls=[⟨false,6⟩,⟨true,13⟩,⟨false,6⟩]:=by decide+kernel
 have en:exJ.n=3:=rfl;have ep:exJ.Phases.length=2:=rfl;rw[en,ep]at h4 hti hl;have s1:=(c_rSame [1,2] [1,2] (by simp)).wk (args:=[iL [1,2], .full 1 [[I 1],[I 2]]]) (by rfl);have s2:=(c_rSame [0,10] [0,10] (by simp)).wk (args:=[iL [0,10], .full 1 [[I 0],[I 10]]]) (by rfl);have s3:=(c_rSame [8,6] [8,6] (by simp)).wk (args:=[iL [8,6], .full 1 [[I 8],[I 6]]]) (by rfl);generalize exJ=j at*
 simp only[List.map_cons,List.map_nil]at h2' h3' s1 s2 s3;refine PureCall.of_bodyG Tryz.func33 rfl (by decide) (by simp[Tryz.ntmps33]) ?_;intro J hJ;simp only[Tryz.ntmps33,Tryz.results33];refine gS fun K hK=>?_;simp -dsimp;apply hK;clear hK K;refine gS fun K hK=>?_;simp -dsimp;refine callK_intro _ (h0) (by simp) ?_;simp -dsimp;apply hK;clear hK K;refine gS fun K hK=>?_;simp -dsimp;refine callK_intro _ (h1) (by simp) ?_;simp -dsimp;apply hK;clear hK K;refine gS fun K hK=>?_;simp -dsimp;refine callK_intro _ (h2') (by simp) ?_;simp -dsimp;apply hK;clear hK K;refine gS fun K hK=>?_;simp -dsimp;refine callK_intro _ (h3') (by simp) ?_;simp -dsimp;apply hK;clear hK K;refine gS fun K hK=>?_;simp -dsimp;refine callK_mut [] [] [none,none,some 0,some 1,some 2] (h4) (by decide) rfl (by simp) (by simp) rfl (by simp) ?_;simp -dsimp;apply hK;clear hK K;refine gwp_seq_k fun K1 hK1=>?_;refine gS fun K hK=>?_;simp -dsimp;apply hK;clear hK K;refine gwp_cond rfl (fun hc0=>?_) (fun hc0=>?_)
 ·simp at hc0
 ·refine gwp_skip ?_;simp only[zT,reduceIte,Nat.reduceEqDiff];refine hK1 _ _ ?_;refine gwp_prune [2,4,5,7,9] (Or.inr (by simp)) ?_;simp only[zP,Nat.reduceEqDiff,reduceIte];refine gwp_seq_k fun K2 hK2=>?_;refine gS fun K hK=>?_;simp -dsimp;apply hK;clear hK K;refine gwp_block ?_;refine gwp_prune [2,4,5,7,9,11] (Or.inr (by simp)) ?_;simp only[zP,Nat.reduceEqDiff,reduceIte];refine gwp_loop_l [2,4,5,7,9] (α:=Nat) (fun k=>[(11,I k)]) (fun k=>[some (.els 6 [j.cells]),some (.els 3 [[I 23,iL [0,10],iL [8,6]]]),some (.els 15 [sC j (Bo true) (I (exS k).se) (I (exS k).ph) (Bo (exS k).on) (I (exS k).si) (.row 3 0 3) (.row 4 0 2) .any .any]),rRow (exS k).ls,kRow (exS k).sk]) (fun k=>k≤14) (fun k=>14-k) 0 ?_ ?_ ?_
  ·exact Nat.zero_le _
  ·exact gsub (sub_rb [some 0,some 1,some 2,some 3,some 4] rfl (by simp) (by simp)) (by simp)
  rintro k k1;simp only[zP,Nat.reduceEqDiff,reduceIte];refine gwp_seq_k fun K3 hK3=>?_;refine gS fun K hK=>?_;simp -dsimp;apply hK;clear hK K;refine gwp_cond rfl (fun hc1=>?_) (fun hc1=>?_)
  ·skip
   try simp at hc1
   have wk:=zW k (by omega);refine gwp_skip ?_;simp only[zT,reduceIte,Nat.reduceEqDiff];refine hK3 _ _ ?_;refine gwp_prune [2,4,5,7,9,11] (Or.inr (by simp)) ?_;simp only[zP,Nat.reduceEqDiff,reduceIte];refine gwp_seq_k fun K4 hK4=>?_;refine gwp_block ?_;refine gS fun K hK=>?_;simp -dsimp;refine callK_mut [2] [3,4] [none,none,some 0,none,none,some 1,some 2] (hti k (by omega)) (by decide) rfl (by simp) (by simp) rfl (by simp) ?_;simp -dsimp;apply hK;clear hK K;refine gwp_cond rfl (fun hc2=>?_) (fun hc2=>?_)
   ·simp at hc2
   ·refine gwp_skip ?_;simp only[zT,reduceIte,Nat.reduceEqDiff];refine hK4 _ _ ?_;refine gwp_prune [2,4,5,7,9,11] (Or.inr (by simp)) ?_;simp only[zP,Nat.reduceEqDiff,reduceIte];refine gR fun K hK=>?_;simp -dsimp [wk];apply hK;clear hK K;simp only[zT,reduceIte,Nat.reduceEqDiff];exact⟨k+1,by omega,by omega,gsub (sub_rb [some 0,some 1,some 2,some 5,some 6] rfl (by simp) (by simp)) (by simp)⟩
  ·skip
   try simp at hc1
   have hk14:k=14:=by omega
   subst hk14;have wx:IntKind.i64.wrap 3=3:=wrap_in (by omega) (by omega);refine gwp_exit ?_;simp only[zT,reduceIte,Nat.reduceEqDiff];refine hK2 _ _ ?_;refine gwp_prune [2,4,5,7,9] (Or.inr (by simp)) ?_;simp only[zP,Nat.reduceEqDiff,reduceIte];refine gS fun K hK=>?_;simp -dsimp;refine callK_intro _ (hp _ _ _ _) (by simp) ?_;simp -dsimp;apply hK;clear hK K;refine gS fun K hK=>?_;simp -dsimp;refine callK_mut [2] [3,4] [none,none,some 0,none,none,some 1,some 2,some 3] (hl) (by decide) rfl (by simp) (by simp) rfl (by simp) ?_;simp -dsimp;apply hK;clear hK K;refine gwp_seq_k fun K5 hK5=>?_;refine gS fun K hK=>?_;simp -dsimp;refine callK_may _ (fun hm=>s1) (by simp) ?_;simp -dsimp;refine callK_may _ (fun hm=>s2) (by simp) ?_;simp -dsimp;refine callK_may _ (fun hm=>s3) (by simp) ?_;simp -dsimp;apply hK;clear hK K;refine gwp_cond rfl (fun hc3=>?_) (fun hc3=>?_)
   ·simp at hc3
   ·refine gwp_skip ?_;simp only[zT,reduceIte,Nat.reduceEqDiff];refine hK5 _ _ ?_;refine gwp_prune [2,12,13,14] (Or.inr (by simp)) ?_;simp only[zP,Nat.reduceEqDiff,reduceIte];refine gS fun K hK=>?_;simp -dsimp [e1,e2,e3];apply hK;clear hK K;exact gwp_ret (by simp[e1,e2,e3,resP,tupOf])
end Go.Street
end
section
namespace Go.Street
open Go.AM Go.Proofs
abbrev nS:AV:= .v (.slice none 0 0)
abbrev nP:AV:= .v (.pointer none)
abbrev sg0:List AV:=[nS,nS,nS,nS,I 0,nS,Bo false,I 0,I 0,Bo false,I 0,nS,nS, .v (.map none), .v (.map none)]
theorem sready_nil (w:World):Calls Tryz.prog 106 #[.pointer none] w fun e w'=>e= .returned (.bool false)∧w'=w:=by
 go_enter Tryz.func106,Tryz.ntmps106
 go_wp2
 go_ret
 exact⟨rfl,rfl⟩
theorem c_sready_nil:PureCall Tryz.prog 106 [nP] (Bo false):=Go.Tram.Lk.pureOf Tryz.func106 rfl (by decide) sready_nil
theorem c_sready_zero:PureCall Tryz.prog 106 [.iptr sg0] (Bo false):=by
 refine PureCall.of_body Tryz.func106 rfl (by decide) (by simp[Tryz.ntmps106]) ?_;simp only[Tryz.ntmps106,Tryz.results106];refine aS fun K hK=>?_;simp -dsimp;apply hK;clear hK K;refine aS fun K hK=>?_;simp -dsimp;apply hK;clear hK K;exact awp_ret (by simp)
theorem c_Phase_nil:PureCall Tryz.prog 102 [nP] (.tup [I 0,Bo false]):=by
 have h:=c_sready_nil;refine PureCall.of_body Tryz.func102 rfl (by decide) (by simp[Tryz.ntmps102]) ?_;simp only[Tryz.ntmps102,Tryz.results102];refine aS fun K hK=>?_;simp -dsimp;apply hK;clear hK K;refine awp_seq_k fun K1 hK1=>?_;refine aS fun K hK=>?_;simp -dsimp;refine callK_intro _ (h) (by simp) ?_;simp -dsimp;apply hK;clear hK K;refine awp_cond rfl (fun hc0=>?_) (fun hc0=>?_)
 ·refine aS fun K hK=>?_;simp -dsimp;apply hK;clear hK K;exact awp_ret (by simp)
 ·simp at hc0
theorem c_Second_nil:PureCall Tryz.prog 108 [nP] (I (-1)):=by
 have h:=c_sready_nil;refine PureCall.of_body Tryz.func108 rfl (by decide) (by simp[Tryz.ntmps108]) ?_;simp only[Tryz.ntmps108,Tryz.results108];refine aS fun K hK=>?_;simp -dsimp;apply hK;clear hK K;refine awp_seq_k fun K1 hK1=>?_;refine aS fun K hK=>?_;simp -dsimp;refine callK_intro _ (h) (by simp) ?_;simp -dsimp;apply hK;clear hK K;refine awp_cond rfl (fun hc0=>?_) (fun hc0=>?_)
 ·refine aS fun K hK=>?_;simp -dsimp;apply hK;clear hK K;exact awp_ret (by simp)
 ·simp at hc0
theorem c_Lights_nil:PureCall Tryz.prog 44 [nP] nS:=by
 have h:=c_sready_nil;refine PureCall.of_body Tryz.func44 rfl (by decide) (by simp[Tryz.ntmps44]) ?_;simp only[Tryz.ntmps44,Tryz.results44];refine aS fun K hK=>?_;simp -dsimp;apply hK;clear hK K;refine awp_seq_k fun K1 hK1=>?_;refine aS fun K hK=>?_;simp -dsimp;refine callK_intro _ (h) (by simp) ?_;simp -dsimp;apply hK;clear hK K;refine awp_cond rfl (fun hc0=>?_) (fun hc0=>?_)
 ·refine aS fun K hK=>?_;simp -dsimp;apply hK;clear hK K;exact awp_ret (by simp)
 ·simp at hc0
theorem c_Tick_nil (d:List Int):PureCall Tryz.prog 43 [nP,iL d,nS] (I 1):=by
 have h:=c_sready_nil;refine PureCall.of_body Tryz.func43 rfl (by decide) (by simp[Tryz.ntmps43]) ?_;simp only[Tryz.ntmps43,Tryz.results43];refine aS fun K hK=>?_;simp -dsimp;apply hK;clear hK K;refine awp_seq_k fun K1 hK1=>?_;refine aS fun K hK=>?_;simp -dsimp;refine callK_intro _ (h) (by simp) ?_;simp -dsimp;apply hK;clear hK K;refine awp_cond rfl (fun hc0=>?_) (fun hc0=>?_)
 ·refine aS fun K hK=>?_;simp -dsimp;apply hK;clear hK K;exact awp_ret (by simp)
 ·simp at hc0
theorem c_empty_nil (d:List Int):PureCall Tryz.prog 38 [nP,iL d] (Bo true):=by
 have h1:=c_Phase_nil;have h2:=c_Tick_nil d;have h3:=c_Lights_nil;have h4:=c_Second_nil;refine PureCall.of_body Tryz.func38 rfl (by decide) (by simp[Tryz.ntmps38]) ?_;simp only[Tryz.ntmps38,Tryz.results38];refine aS fun K hK=>?_;simp -dsimp;apply hK;clear hK K;refine aS fun K hK=>?_;simp -dsimp;refine callK_intro _ (h1) (by simp) ?_;simp -dsimp;apply hK;clear hK K;refine aS fun K hK=>?_;simp -dsimp;refine callK_intro _ (h2) (by simp) ?_;simp -dsimp;refine callK_may _ (fun hm=>h3) (by simp) ?_;simp -dsimp;refine callK_may _ (fun hm=>h4) (by simp) ?_;simp -dsimp;apply hK;clear hK K;exact awp_ret (by simp)
theorem c_Ask_nil (K:List AV) (n:Int) (m:Mv):PureCall Tryz.prog 37 [nP, .iptr K,I n, .agg m.cells] (.tup [.agg [I 0,I 0],I 1]):=by
 have h:=c_sready_nil;refine PureCall.of_body Tryz.func37 rfl (by decide) (by simp[Tryz.ntmps37]) ?_;simp only[Tryz.ntmps37,Tryz.results37];refine aS fun K hK=>?_;simp -dsimp;apply hK;clear hK K;refine awp_seq_k fun K1 hK1=>?_;refine aS fun K hK=>?_;simp -dsimp;refine callK_intro _ (h) (by simp) ?_;simp -dsimp;refine callK_may nS (fun hm=>by simp at hm) (by simp) ?_;simp -dsimp;apply hK;clear hK K;refine awp_cond rfl (fun hc0=>?_) (fun hc0=>?_)
 ·refine aS fun K hK=>?_;simp -dsimp;apply hK;clear hK K;exact awp_ret (by simp)
 ·simp at hc0
theorem c_Phase_zero:PureCall Tryz.prog 102 [.iptr sg0] (.tup [I 0,Bo false]):=by
 have h:=c_sready_zero;refine PureCall.of_body Tryz.func102 rfl (by decide) (by simp[Tryz.ntmps102]) ?_;simp only[Tryz.ntmps102,Tryz.results102];refine aS fun K hK=>?_;simp -dsimp;apply hK;clear hK K;refine awp_seq_k fun K1 hK1=>?_;refine aS fun K hK=>?_;simp -dsimp;refine callK_intro _ (h) (by simp) ?_;simp -dsimp;apply hK;clear hK K;refine awp_cond rfl (fun hc0=>?_) (fun hc0=>?_)
 ·refine aS fun K hK=>?_;simp -dsimp;apply hK;clear hK K;exact awp_ret (by simp)
 ·simp at hc0
theorem c_Second_zero:PureCall Tryz.prog 108 [.iptr sg0] (I (-1)):=by
 have h:=c_sready_zero;refine PureCall.of_body Tryz.func108 rfl (by decide) (by simp[Tryz.ntmps108]) ?_;simp only[Tryz.ntmps108,Tryz.results108];refine aS fun K hK=>?_;simp -dsimp;apply hK;clear hK K;refine awp_seq_k fun K1 hK1=>?_;refine aS fun K hK=>?_;simp -dsimp;refine callK_intro _ (h) (by simp) ?_;simp -dsimp;apply hK;clear hK K;refine awp_cond rfl (fun hc0=>?_) (fun hc0=>?_)
 ·refine aS fun K hK=>?_;simp -dsimp;apply hK;clear hK K;exact awp_ret (by simp)
 ·simp at hc0
theorem c_Lights_zero:PureCall Tryz.prog 44 [.iptr sg0] nS:=by
 have h:=c_sready_zero;refine PureCall.of_body Tryz.func44 rfl (by decide) (by simp[Tryz.ntmps44]) ?_;simp only[Tryz.ntmps44,Tryz.results44];refine aS fun K hK=>?_;simp -dsimp;apply hK;clear hK K;refine awp_seq_k fun K1 hK1=>?_;refine aS fun K hK=>?_;simp -dsimp;refine callK_intro _ (h) (by simp) ?_;simp -dsimp;apply hK;clear hK K;refine awp_cond rfl (fun hc0=>?_) (fun hc0=>?_)
 ·refine aS fun K hK=>?_;simp -dsimp;apply hK;clear hK K;exact awp_ret (by simp)
 ·simp at hc0
theorem c_Tick_zero (d:List Int):PureCall Tryz.prog 43 [.iptr sg0,iL d,nS] (I 1):=by
 have h:=c_sready_zero;refine PureCall.of_body Tryz.func43 rfl (by decide) (by simp[Tryz.ntmps43]) ?_;simp only[Tryz.ntmps43,Tryz.results43];refine aS fun K hK=>?_;simp -dsimp;apply hK;clear hK K;refine awp_seq_k fun K1 hK1=>?_;refine aS fun K hK=>?_;simp -dsimp;refine callK_intro _ (h) (by simp) ?_;simp -dsimp;apply hK;clear hK K;refine awp_cond rfl (fun hc0=>?_) (fun hc0=>?_)
 ·refine aS fun K hK=>?_;simp -dsimp;apply hK;clear hK K;exact awp_ret (by simp)
 ·simp at hc0
theorem c_empty_zero (d:List Int):PureCall Tryz.prog 38 [.iptr sg0,iL d] (Bo true):=by
 have h1:=c_Phase_zero;have h2:=c_Tick_zero d;have h3:=c_Lights_zero;have h4:=c_Second_zero;refine PureCall.of_body Tryz.func38 rfl (by decide) (by simp[Tryz.ntmps38]) ?_;simp only[Tryz.ntmps38,Tryz.results38];refine aS fun K hK=>?_;simp -dsimp;apply hK;clear hK K;refine aS fun K hK=>?_;simp -dsimp;refine callK_intro _ (h1) (by simp) ?_;simp -dsimp;apply hK;clear hK K;refine aS fun K hK=>?_;simp -dsimp;refine callK_intro _ (h2) (by simp) ?_;simp -dsimp;refine callK_may _ (fun hm=>h3) (by simp) ?_;simp -dsimp;refine callK_may _ (fun hm=>h4) (by simp) ?_;simp -dsimp;apply hK;clear hK K;exact awp_ret (by simp)
theorem c_Ask_zero (K:List AV) (n:Int) (m:Mv):PureCall Tryz.prog 37 [.iptr sg0, .iptr K,I n, .agg m.cells] (.tup [.agg [I 0,I 0],I 1]):=by
 have h:=c_sready_zero;refine PureCall.of_body Tryz.func37 rfl (by decide) (by simp[Tryz.ntmps37]) ?_;simp only[Tryz.ntmps37,Tryz.results37];refine aS fun K hK=>?_;simp -dsimp;apply hK;clear hK K;refine awp_seq_k fun K1 hK1=>?_;refine aS fun K hK=>?_;simp -dsimp;refine callK_intro _ (h) (by simp) ?_;simp -dsimp;refine callK_may nS (fun hm=>by simp at hm) (by simp) ?_;simp -dsimp;apply hK;clear hK K;refine awp_cond rfl (fun hc0=>?_) (fun hc0=>?_)
 ·refine aS fun K hK=>?_;simp -dsimp;apply hK;clear hK K;exact awp_ret (by simp)
 ·simp at hc0
section
variable (j:Jn) (se ph on si R Sk Dm Pr:AV)
theorem c_Ask_lnil (n:Int) (m:Mv):PureCall Tryz.prog 37 [.iptr (sC j (Bo true) se ph on si R Sk Dm Pr),nP,I n, .agg m.cells] (.tup [.agg [I 0,I 0],I 1]):=by
 have h:=c_ready j se ph on si R Sk Dm Pr true;refine PureCall.of_body Tryz.func37 rfl (by decide) (by simp[Tryz.ntmps37]) ?_;simp only[Tryz.ntmps37,Tryz.results37];refine aS fun K hK=>?_;simp -dsimp;apply hK;clear hK K;refine awp_seq_k fun K1 hK1=>?_;refine aS fun K hK=>?_;simp -dsimp;refine callK_intro _ (h) (by simp) ?_;simp -dsimp;refine⟨fun w=>Go.Tram.Lk.eqgP _ _ _ _ _ _ w,_,fun w=>Go.Tram.Lk.eqP0 _ _ Go.Tram.Lk.upLk w,?_⟩;simp -dsimp;refine callK_may nS (fun hm=>by simp at hm) (by simp) ?_;simp -dsimp;apply hK;clear hK K;refine awp_cond rfl (fun hc0=>?_) (fun hc0=>?_)
 ·refine aS fun K hK=>?_;simp -dsimp;apply hK;clear hK K;exact awp_ret (by simp)
 ·simp at hc0
theorem c_Ask_lzero (n:Int) (m:Mv):PureCall Tryz.prog 37 [.iptr (sC j (Bo true) se ph on si R Sk Dm Pr), .iptr [nP],I n, .agg m.cells] (.tup [.agg [I 0,I 0],I 1]):=by
 have h:=c_ready j se ph on si R Sk Dm Pr true;have h2:=Go.Tram.Lk.c_Points_zero;refine PureCall.of_body Tryz.func37 rfl (by decide) (by simp[Tryz.ntmps37]) ?_;simp only[Tryz.ntmps37,Tryz.results37];refine aS fun K hK=>?_;simp -dsimp;apply hK;clear hK K;refine awp_seq_k fun K1 hK1=>?_;refine aS fun K hK=>?_;simp -dsimp;refine callK_intro _ (h) (by simp) ?_;simp -dsimp;refine callK_may _ (fun hm=>h2) (by simp) ?_;simp -dsimp;apply hK;clear hK K;refine awp_cond rfl (fun hc0=>?_) (fun hc0=>?_)
 ·refine aS fun K hK=>?_;simp -dsimp;apply hK;clear hK K;exact awp_ret (by simp)
 ·simp at hc0
end
theorem c_StreetNil (l:List Int) (n:Int) (m:Mv):PureCall Tryz.prog 8 [iL l,I n, .agg m.cells] (Bo true):=by
 have hk:=c_known;have hex:=Go.Tram.c_Example1;have hnew:=Go.Tram.Lk.m_New_ex;have h0:=c_Example;have hop:=m_Open exJ ex_fit ex_jn;have a1:=fun K=>c_Ask_nil K n m;have a2:=fun K=>c_Ask_zero K n m;have a3:=fun se ph on si R Sk Dm Pr=>c_Ask_lnil exJ se ph on si R Sk Dm Pr n m;have a4:=fun se ph on si R Sk Dm Pr=>c_Ask_lzero exJ se ph on si R Sk Dm Pr n m;have e1:=c_empty_nil l;have e2:=c_empty_zero l;generalize exJ=j at*
 refine PureCall.of_bodyG Tryz.func8 rfl (by decide) (by simp[Tryz.ntmps8]) ?_;intro J hJ;simp only[Tryz.ntmps8,Tryz.results8];refine gS fun K hK=>?_;simp -dsimp;apply hK;clear hK K;refine gwp_seq_k fun K1 hK1=>?_;refine gS fun K hK=>?_;simp -dsimp;apply hK;clear hK K;refine gwp_cond rfl (fun hc0=>?_) (fun hc0=>?_)
 ·skip
  try simp at hc0
  refine gS fun K hK=>?_;simp -dsimp;refine callK_intro _ (hk) (by simp) ?_;simp -dsimp;apply hK;clear hK K;exact gwp_ret (by simp[resP,tupOf])
 ·skip
  try simp at hc0
  refine gwp_skip ?_;simp only[zT,reduceIte,Nat.reduceEqDiff];refine hK1 _ _ ?_;refine gwp_prune [0,1,5] (Or.inr (by simp)) ?_;simp only[zP,Nat.reduceEqDiff,reduceIte];refine gS fun K hK=>?_;simp -dsimp;refine callK_intro _ (hex) (by simp) ?_;simp -dsimp;refine callK_mut [] [] [none,some 0,some 1,some 2,some 3,some 4,some 5,some 6] (hnew) (by decide) rfl (by simp) (by simp) rfl (by simp) ?_;simp -dsimp;apply hK;clear hK K;refine gS fun K hK=>?_;simp -dsimp;refine callK_intro _ (h0) (by simp) ?_;simp -dsimp;refine callK_mut [] [] [none,none,none,none,none,none,none,none,some 0,some 1,some 2] (hop) (by decide) rfl (by simp) (by simp) rfl (by simp) ?_;simp -dsimp;apply hK;clear hK K;refine gwp_seq_k fun K2 hK2=>?_;refine gS fun K hK=>?_;simp -dsimp;apply hK;clear hK K;refine gwp_cond rfl (fun hc1=>?_) (fun hc1=>?_)
  ·simp at hc1
  ·refine gwp_skip ?_;simp only[zT,reduceIte,Nat.reduceEqDiff];refine hK2 _ _ ?_;refine gwp_prune [0,1,5,7,9] (Or.inr (by simp)) ?_;simp only[zP,Nat.reduceEqDiff,reduceIte];refine gS fun K hK=>?_;simp -dsimp;refine callK_intro _ (a1 _) (by simp) ?_;simp -dsimp;apply hK;clear hK K;refine gS fun K hK=>?_;simp -dsimp;refine callK_intro _ (a2 _) (by simp) ?_;simp -dsimp;apply hK;clear hK K;refine gS fun K hK=>?_;simp -dsimp;refine callK_intro _ (a3 _ _ _ _ _ _ _ _) (by simp) ?_;simp -dsimp;apply hK;clear hK K;refine gS fun K hK=>?_;simp -dsimp;refine callK_intro _ (a4 _ _ _ _ _ _ _ _) (by simp) ?_;simp -dsimp;apply hK;clear hK K;refine gS fun K hK=>?_;simp -dsimp;refine callK_may _ (fun hm=>e1) (by simp) ?_;simp -dsimp;refine callK_may _ (fun hm=>e2) (by simp) ?_;simp -dsimp;refine callK_may _ (fun hm=>hk) (by simp) ?_;simp -dsimp;apply hK;clear hK K;exact gwp_ret (by simp[resP,tupOf])
end Go.Street
end
