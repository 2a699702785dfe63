/- The abstract machine, part 13: what simp knows of it. No condition. -/
import Derived.Test.YteodgilndjjgdaaAm12
namespace Go.AM
set_option linter.unusedVariables false

attribute [simp] ct_apply vcOps vcGuard vcStep okAll okm AV.strip evT look constAV aop putT happ hset hget upsIn upsOnce upsM dstOk argT mayw thenA inBlockA
attribute [simp] cnd valM aAppZ aCapN aIdx aMake aLookup aMapSet aLenM mapIn keyK kcs KC.ofAV kcFit KC.fits aElem aAlloc aBox aBuild aLit aLoad aLoadM aStore aNil aBin aUn aConv natOf aSlice aFieldAddr aField aIndex aLen aAppend aCall aBuiltin aPick gval glit mk
attribute [simp] TD.size TD.isAgg TD.zero AV.cells AV.noRef splice bfill litEls srcEls baseEls appEff killed killedR exactOf exactCells intsOf
attribute [simp] retO retQ resP tupOf frzP subT renAV renH renRow newName minI maxI Op.operands Call.operands frz frzRd AV.flat plainEls AV.isFull List.findIdx?_cons

@[simp] theorem impl_nil (m : List Bool) : impl m [] := fun _ => rfl
@[simp] theorem impl_self (m : List Bool) : impl m m := fun h => h
@[simp] theorem impl_append (m l : List Bool) : impl (m ++ l) m := fun h => by rw [List.all_append] at h; exact (Bool.and_eq_true_iff.1 h).1
@[simp] theorem impl_cons (b : Bool) (m : List Bool) : impl (b :: m) [b] := fun h => by simp at h ⊢; exact h.1
@[simp] theorem impl_cons2 (b c : Bool) (m : List Bool) : impl (b :: c :: m) [b, c] := fun h => by simp at h ⊢; exact ⟨h.1, h.2.1⟩
@[simp] theorem impl_cons3 (b c d : Bool) (m : List Bool) : impl (b :: c :: d :: m) [b, c, d] := fun h => by simp at h ⊢; exact ⟨h.1, h.2.1, h.2.2.1⟩
@[simp] theorem impl_cons4 (b c d e : Bool) (m : List Bool) : impl (b :: c :: d :: e :: m) [b, c, d, e] := fun h => by simp at h ⊢; exact ⟨h.1, h.2.1, h.2.2.1, h.2.2.2.1⟩

/-- An int and a bool. -/
abbrev I (n : Int) : AV := .v (.int .i64 n)
abbrev Bo (b : Bool) : AV := .v (.bool b)

theorem callK_intro {P : Program} {f : FuncId} {args : List AV} {fl : Bool} {rd : List Nat} {N : Nat} {K : Eff → Prop} (res : AV) (h : PureCall P f args res) (hn : fl = true ∨ res.flat 3 = true) (hk : K ⟨res, [], rd⟩) : callK P [] f args fl rd N K := Or.inl ⟨res, h, hn, hk⟩
theorem callK_may {P : Program} {m : List Bool} {f : FuncId} {args : List AV} {fl : Bool} {rd : List Nat} {N : Nat} {K : Eff → Prop} (res : AV) (h : m.all id = true → PureCall P f args res) (hn : fl = true ∨ res.flat 3 = true) (hk : K ⟨res, [], rd⟩) : callK P m f args fl rd N K := by
  refine Or.inl ⟨res, ?_, hn, hk⟩
  cases m with
  | nil => exact h rfl
  | cons b m => exact h
theorem callK_own {P : Program} {f : FuncId} {args : List AV} {rd : List Nat} {N : Nat} {K : Eff → Prop} {i k sz : Nat} {es : List (List AV)} (h : OwnCall P f args i k sz es) (hk : K ⟨.row N i k, [(N, some (.els sz es))], []⟩) : callK P [] f args true rd N K := Or.inr ⟨rfl, rfl, i, k, sz, es, h, hk⟩
@[congr] theorem idxK_congr {m m' : List Bool} {els els' : List (List AV)} {n n' : Nat} {K : Eff → Prop} (hm : m = m') (h : els = els') (hn : n = n') : idxK m els n K = idxK m' els' n' K := by rw [hm, h, hn]
theorem idxK_intro {m : List Bool} {els : List (List AV)} {n : Nat} {K : Eff → Prop} (el : List AV) (h : m.all id = true → els[n]? = some el) (hk : K ⟨.iptr el, [], []⟩) : idxK m els n K := ⟨el, h, hk⟩

theorem valK_intro {m : List Bool} {val : AV} {rd : List Nat} {K : Eff → Prop} (av : AV) (h : m.all id = true → val = av) (hk : K ⟨av, [], rd⟩) : valK m val rd K := ⟨av, h, hk⟩

/- What goes on behind a step is left alone until the step is done. -/
section
variable {P : Program} {K : Eff → Prop} {H H' : Nat → Option ARow} {N N' : Nat} {td td' : TD} {x x' y y' : AV} {m m' : List Bool} {ev : Operand → AV}
@[congr] theorem vcOps_congr {nt : Nat} {dsts : List (Option Tmp)} {l : List Oper} {T T' : Tm} {H H' : Hp} {K : Tm → Hp → Prop} (hT : T = T') (hH : H = H') : vcOps P nt dsts l T H K = vcOps P nt dsts l T' H' K := by rw [hT, hH]
@[congr] theorem vcGuard_congr {dsts : List (Option Tmp)} {o : Oper} {T T' : Nat → AV} (hT : T = T') (hH : H = H') (hN : N = N') : vcGuard P dsts o T H N K = vcGuard P dsts o T' H' N' K := by rw [hT, hH, hN]
@[congr] theorem vcStep_congr {op : Op} {T T' : Nat → AV} (hm : m = m') (hT : T = T') (hH : H = H') (hN : N = N') : vcStep P m op T H N K = vcStep P m' op T' H' N' K := by rw [hm, hT, hH, hN]
@[congr] theorem aop_congr {op : Op} (hm : m = m') (hH : H = H') (hN : N = N') : aop P m op ev H N K = aop P m' op ev H' N' K := by rw [hm, hH, hN]
@[congr] theorem aAlloc_congr (h : td = td') (hN : N = N') : aAlloc td N K = aAlloc td' N' K := by rw [h, hN]
@[congr] theorem aBox_congr (h : x = x') (hN : N = N') : aBox x N K = aBox x' N' K := by rw [h, hN]
@[congr] theorem aBuild_congr {ps : List (Nat × Operand)} (h : td = td') : aBuild P td ps ev K = aBuild P td' ps ev K := by rw [h]
@[congr] theorem aLit_congr {n : Nat} {ps : Array (Nat × Operand)} (h : td = td') : aLit P td n ps ev K = aLit P td' n ps ev K := by rw [h]
@[congr] theorem aLoad_congr (h : td = td') (hx : x = x') (hH : H = H') : aLoad td x H K = aLoad td' x' H' K := by rw [h, hx, hH]
@[congr] theorem aLoadM_congr (hm : m = m') (h : td = td') (hx : x = x') (hH : H = H') : aLoadM m td x H K = aLoadM m' td' x' H' K := by rw [hm, h, hx, hH]
@[congr] theorem aStore_congr (h : td = td') (hx : x = x') (hy : y = y') (hH : H = H') : aStore td x y H K = aStore td' x' y' H' K := by rw [h, hx, hy, hH]
@[congr] theorem aNil_congr (hx : x = x') (hH : H = H') : aNil x H K = aNil x' H' K := by rw [hx, hH]
@[congr] theorem aBin_congr {op : BinOp} {t : TypeId} {p q : Operand} (hm : m = m') (hx : x = x') (hy : y = y') : aBin P m op t p q x y K = aBin P m' op t p q x' y' K := by rw [hm, hx, hy]
@[congr] theorem aUn_congr {op : UnOp} (hx : x = x') : aUn op x K = aUn op x' K := by rw [hx]
@[congr] theorem aConv_congr {s d : TypeId} (hx : x = x') : aConv P s d x K = aConv P s d x' K := by rw [hx]
@[congr] theorem natOf_congr {o : Option Operand} {d d' : Nat} {K : Nat → Prop} (hd : d = d') : natOf ev o d K = natOf ev o d' K := by rw [hd]
@[congr] theorem aSlice_congr {lo hi : Option Operand} (h : td = td') (hx : x = x') (hH : H = H') : aSlice P td x lo hi ev H K = aSlice P td' x' lo hi ev H' K := by rw [h, hx, hH]
@[congr] theorem aFieldAddr_congr {f : Nat} (h : td = td') (hx : x = x') (hH : H = H') : aFieldAddr td x f H K = aFieldAddr td' x' f H' K := by rw [h, hx, hH]
@[congr] theorem aField_congr {f : Nat} (h : td = td') (hx : x = x') : aField P td x f K = aField P td' x' f K := by rw [h, hx]
@[congr] theorem aElem_congr {els els' : List (List AV)} {n n' : Nat} (hm : m = m') (h : els = els') (hn : n = n') : aElem m els n K = aElem m' els' n' K := by rw [hm, h, hn]
@[congr] theorem aIndex_congr (hm : m = m') (h : td = td') (hx : x = x') (hy : y = y') (hH : H = H') : aIndex P m td x y H K = aIndex P m' td' x' y' H' K := by rw [hm, h, hx, hy, hH]
@[congr] theorem aLen_congr (h : td = td') (hx : x = x') (hH : H = H') : aLen td x H K = aLen td' x' H' K := by rw [h, hx, hH]
@[congr] theorem aAppend_congr {t t' : TypeId} (h : td = td') (hx : x = x') (hy : y = y') (hH : H = H') (hN : N = N') : aAppend P t t' td x y H N K = aAppend P t t' td' x' y' H' N' K := by rw [h, hx, hy, hH, hN]
@[congr] theorem aBuiltin_congr {b : Builtin} {as as' : List AV} {ts ts' : List TypeId} (ha : as = as') (ht : ts = ts') (hH : H = H') (hN : N = N') : aBuiltin P b as ts H N K = aBuiltin P b as' ts' H' N' K := by rw [ha, ht, hH, hN]
@[congr] theorem valK_congr {m m' : List Bool} {rd rd' : List Nat} (hm : m = m') (hx : x = x') (hr : rd = rd') : valK m x rd K = valK m' x' rd' K := by rw [hm, hx, hr]
@[congr] theorem valM_congr {m m' : List Bool} (hm : m = m') (hx : x = x') : valM m x K = valM m' x' K := by rw [hm, hx]
@[congr] theorem aIdx_congr (hm : m = m') (h : td = td') (hx : x = x') (hy : y = y') : aIdx P m td x y K = aIdx P m' td' x' y' K := by rw [hm, h, hx, hy]
@[congr] theorem aMake_congr {mk mk' : Option (Bool × List KT × Value)} (h : mk = mk') (hN : N = N') : aMake mk N K = aMake mk' N' K := by rw [h, hN]
@[congr] theorem aLookup_congr {mk mk' : Option (Bool × List KT × Value)} {ok : Bool} (hm : m = m') (h : mk = mk') (hx : x = x') (hy : y = y') (hH : H = H') : aLookup m mk x y ok H K = aLookup m' mk' x' y' ok H' K := by rw [hm, h, hx, hy, hH]
@[congr] theorem aMapSet_congr {mk mk' : Option (Bool × List KT × Value)} {v v' : AV} (h : mk = mk') (hx : x = x') (hy : y = y') (hv : v = v') (hH : H = H') : aMapSet mk x y v H K = aMapSet mk' x' y' v' H' K := by rw [h, hx, hy, hv, hH]
@[congr] theorem aLenM_congr {mk mk' : Option (Bool × List KT × Value)} (h : mk = mk') (hx : x = x') (hH : H = H') : aLenM mk x H K = aLenM mk' x' H' K := by rw [h, hx, hH]
@[congr] theorem aPick_congr {c c' : AV} {K : AV → Prop} (hm : m = m') (hc : c = c') (hx : x = x') (hy : y = y') : aPick m c x y K = aPick m' c' x' y' K := by rw [hm, hc, hx, hy]
end
end Go.AM
