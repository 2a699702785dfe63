/- Laws: a plan whose rails are turned around. -/
import Derived.Test.YtdabjdajemiagaaGreatD6
import Derived.Test.YtdabjdajemiagaaGreatP10
import Derived.Test.YtdabjdajemiagaaGreatQA
namespace Go.Tram
open Go.AM Go.Proofs
set_option linter.unusedVariables false
set_option linter.unusedSimpArgs false

def tE (e : REnd) : REnd := ⟨e.Rail, !e.Last⟩
def tN (n : Node) : Node := ⟨n.Spot, n.Kind, n.Ends.map tE, n.Normal⟩
def tR (r : Rail) : Rail := ⟨r.To, r.From, r.Shape.reverse, r.Limit, -r.Slope⟩
def turnP (p : Plan) : Plan := ⟨p.Nodes.map tN, p.Rails.map tR⟩
@[simp] theorem tE_tE (e : REnd) : tE (tE e) = e := by cases e; simp [tE]
theorem tE_inj {a b : REnd} (h : tE a = tE b) : a = b := by rw [← tE_tE a, h, tE_tE]
@[simp] theorem tN_tN (n : Node) : tN (tN n) = n := by
  cases n; simp [tN, List.map_map]
  rw [show tE ∘ tE = id from funext fun e => tE_tE e, List.map_id]
@[simp] theorem tR_tR (r : Rail) : tR (tR r) = r := by cases r; simp [tR]
@[simp] theorem turn_turn (p : Plan) : turnP (turnP p) = p := by
  cases p with
  | mk N R =>
    simp only [turnP, List.map_map]
    rw [show tN ∘ tN = id from funext fun n => tN_tN n, show tR ∘ tR = id from funext fun r => tR_tR r, List.map_id, List.map_id]
theorem t_node (p : Plan) (i : Int) : (turnP p).node i = tN (p.node i) := by
  unfold Plan.node turnP
  simp only [List.getElem?_map]
  cases p.Nodes[i.toNat]? <;> rfl
theorem t_rail (p : Plan) (i : Int) : (turnP p).rail i = tR (p.rail i) := by
  unfold Plan.rail turnP
  simp only [List.getElem?_map]
  cases p.Rails[i.toNat]? <;> rfl
@[simp] theorem t_rails (p : Plan) : (turnP p).Rails.length = p.Rails.length := by simp [turnP]
@[simp] theorem t_nodes (p : Plan) : (turnP p).Nodes.length = p.Nodes.length := by simp [turnP]
theorem t_at (p : Plan) (e : REnd) : (turnP p).at (tE e) = p.at e := by
  obtain ⟨r, l⟩ := e
  unfold Plan.at
  cases l <;> simp [tE, t_rail, tR]
theorem t_lineOf (p : Plan) (r : Rail) : lineOf (turnP p) (tR r) = (lineOf p r).reverse := by simp [lineOf, tR, t_node, tN]
theorem sqd_swap (a b : Spot) : sqd a b = sqd b a := by
  unfold sqd
  rw [show b.X - a.X = -(a.X - b.X) by omega, show b.Y - a.Y = -(a.Y - b.Y) by omega, Int.neg_mul_neg, Int.neg_mul_neg]
theorem segLen_rev {l : List Spot} {k : Nat} (h : k + 1 < l.length) : segLen l.reverse k = segLen l (l.length - 2 - k) := by
  have e : ∀ j, j < l.length → nth l.reverse j = nth l (l.length - 1 - j) := fun j hj => by unfold nth; rw [List.getElem?_reverse hj]
  unfold segLen
  rw [e k (by omega), e (k + 1) h]
  unfold far
  rw [sqd_swap, show l.length - 1 - (k + 1) = l.length - 2 - k by omega, show l.length - 1 - k = l.length - 2 - k + 1 by omega]
theorem sumTo_rev {l : List Spot} {n : Nat} (hn : n + 1 = l.length) : ∀ k, k ≤ n → sumTo l.reverse k + sumTo l (n - k) = sumTo l n
  | 0, _ => by simp [sumTo]
  | k + 1, h => by
    have ih := sumTo_rev hn k (by omega)
    have e : sumTo l (n - k) = sumTo l (n - (k + 1)) + segLen l (n - (k + 1)) := by
      rw [show n - k = (n - (k + 1)) + 1 by omega]; rfl
    have e2 : sumTo l.reverse (k + 1) = sumTo l.reverse k + segLen l.reverse k := rfl
    rw [e2, segLen_rev (by omega), show l.length - 2 - k = n - (k + 1) by omega]
    omega
theorem t_len (p : Plan) (i : Int) : (turnP p).len i = p.len i := by
  unfold Plan.len
  have hl : (turnP p).line i = (p.line i).reverse := by unfold Plan.line; rw [t_rail, t_lineOf]
  have hs : ((turnP p).rail i).Shape.length = (p.rail i).Shape.length := by rw [t_rail]; simp [tR]
  have := sumTo_rev (l := p.line i) (n := (p.rail i).Shape.length + 1) (by rw [line_len]) _ (Nat.le_refl _)
  rw [Nat.sub_self] at this
  simp only [sumTo, Int.add_zero] at this
  rw [hl, hs]
  exact this
theorem t_nodeB (n : Node) : nodeB (tN n) = nodeB n := by unfold nodeB tN; simp only [List.length_map]
theorem t_railB {p : Plan} {r : Rail} (h : railB p r = true) : railB (turnP p) (tR r) = true := by
  simp only [railB, railA, Bool.and_eq_true, decide_eq_true_eq, inr_iff] at h ⊢
  obtain ⟨⟨h1, h2, h3, h4, h5⟩, h6, h7⟩ := h
  rw [List.all_eq_true] at h6 h7
  refine ⟨⟨by simpa [tR] using h2, by simpa [tR] using h1, by simpa [tR] using h3, by simpa [tR] using h4, by simp [tR]; omega⟩, ?_, ?_⟩
  · rw [List.all_eq_true]
    intro s hs
    exact h6 s (by simpa [tR] using hs)
  · rw [List.all_eq_true]
    intro k hk
    have hk : k < r.Shape.length + 1 := by simpa [tR] using hk
    have hll : (lineOf p r).length = r.Shape.length + 2 := by simp [lineOf]
    unfold segB
    rw [t_lineOf, segLen_rev (by omega)]
    exact h7 _ (List.mem_range.2 (by omega))
theorem t_ends (p : Plan) : ∀ n, endsOf (turnP p) n = (endsOf p n).map fun x => (x.1, tE x.2)
  | 0 => rfl
  | n + 1 => by
    simp only [endsOf, t_ends p n, t_node, tN, List.map_append, List.map_map]
    rfl
theorem t_valid {p : Plan} (h : validB p = true) : validB (turnP p) = true := by
  simp only [validB, validA, validE, Bool.and_eq_true, decide_eq_true_eq] at h ⊢
  obtain ⟨⟨⟨⟨h1, h2⟩, h3⟩, h4⟩, h5, h6, h7⟩ := h
  rw [List.all_eq_true] at h3 h4 h5
  rw [t_nodes, t_rails, t_ends]
  refine ⟨⟨⟨⟨h1, h2⟩, ?_⟩, ?_⟩, ?_, ?_, ?_⟩
  · rw [List.all_eq_true]
    intro n hn
    simp only [turnP, List.mem_map] at hn
    obtain ⟨m, hm, rfl⟩ := hn
    rw [t_nodeB]; exact h3 m hm
  · rw [List.all_eq_true]
    intro n hn
    simp only [turnP, List.mem_map] at hn
    obtain ⟨m, hm, rfl⟩ := hn
    exact t_railB (h4 m hm)
  · rw [List.all_eq_true]
    intro x hx
    simp only [List.mem_map] at hx
    obtain ⟨y, hy, rfl⟩ := hx
    have := h5 y hy
    simp only [endB, Bool.and_eq_true, decide_eq_true_eq] at this ⊢
    rw [t_rails, t_at]
    exact ⟨by simpa [tE] using this.1, this.2⟩
  · rw [List.map_map]
    show ((endsOf p p.Nodes.length).map (fun x => tE x.2)).Nodup
    rw [show (fun x : Nat × REnd => tE x.2) = tE ∘ (·.2) from rfl, ← List.map_map]
    unfold List.Nodup at h6 ⊢
    rw [List.pairwise_map]
    exact h6.imp fun {a b} hab e => hab (tE_inj e)
  · rw [List.length_map]; exact h7

theorem idxTo_t (e : REnd) : ∀ (l : List REnd) (i : Int), idxTo (tE e) (l.map tE) i = idxTo e l i
  | [], _ => rfl
  | x :: l, i => by
    simp only [List.map_cons, idxTo]
    rw [idxTo_t e l]
    by_cases h : x = e
    · rw [if_pos h, if_pos (by rw [h])]
    · rw [if_neg h, if_neg (fun g => h (tE_inj g))]
theorem t_nodeAt (p : Plan) (m : Move) : nodeAt (turnP p) (oppM m) = tN (nodeAt p m) := by
  unfold nodeAt
  rw [arr_opp, show leaE m = tE (arrE m) by simp [leaE, arrE, tE], t_at, t_node]
theorem t_rFoll (p : Plan) (m k : Move) : rFoll (turnP p) (oppM m) (oppM k) = rFoll p m k := by
  unfold rFoll
  rw [t_nodeAt, arr_opp, lea_opp, show leaE m = tE (arrE m) by simp [leaE, arrE, tE], show arrE k = tE (leaE k) by simp [leaE, arrE, tE]]
  unfold idxE
  rw [show (tN (nodeAt p m)).Ends = (nodeAt p m).Ends.map tE from rfl, idxTo_t, idxTo_t]
  rfl
theorem t_mov (p : Plan) (m : Move) : movB (turnP p) (oppM m) = movB p m := by
  unfold movB; rw [t_rails]; rfl
theorem t_foll {p : Plan} (hv : validB p = true) {m k : Move} (hm : movB p m = true) (hk : movB p k = true) : follB (turnP p) (oppM m) (oppM k) = follB p m k := by
  rw [foll_eq hv hm hk, foll_eq (t_valid hv) (by rw [t_mov]; exact hm) (by rw [t_mov]; exact hk), t_rFoll]

/-- The opposite move's number. -/
def xk (k : Int) : Int := if k % 2 = 0 then k + 1 else k - 1
theorem xk_bd {k n : Int} (h0 : 0 ≤ k) (h1 : k < 2 * n) : 0 ≤ xk k ∧ xk k < 2 * n := by unfold xk; split <;> omega
theorem xk_half (k : Int) : xk k / 2 = k / 2 := by unfold xk; split <;> omega
@[simp] theorem xk_xk (k : Int) : xk (xk k) = k := by unfold xk; split <;> split <;> omega
theorem move_xk (k : Int) : moveM (xk k) = oppM (moveM k) := by
  unfold moveM oppM
  rw [xk_half]
  simp only [Move.mk.injEq, true_and]
  unfold xk
  split
  · rw [show decide ((k + 1) % 2 = 1) = true by simp; omega, show decide (k % 2 = 1) = false by simp; omega]; rfl
  · rw [show decide ((k - 1) % 2 = 1) = false by simp; omega, show decide (k % 2 = 1) = true by simp; omega]; rfl
theorem num_opp (m : Move) : numM (oppM m) = xk (numM m) := by
  obtain ⟨r, b⟩ := m
  cases b
  · show 2 * r + 1 = xk (2 * r)
    unfold xk; rw [if_pos (by omega)]
  · show 2 * r = xk (2 * r + 1)
    unfold xk; rw [if_neg (by omega)]; omega

theorem pth_t {p : Plan} (hv : validB p = true) {to : Int} (h0 : 0 ≤ to) (h1 : to < 2 * p.Rails.length) {k L n : Int} (h : Pth p to k L n) : Pth (turnP p) (xk to) (xk k) L n := by
  induction h with
  | nil => exact .nil
  | @cons k j L n g0 g1 hf hp ih =>
    have hb := hp.bd hv h0 h1
    have hx := xk_bd g0 g1
    have := Pth.cons (p := turnP p) (k := xk k) hx.1 (by rw [t_rails]; exact hx.2) (by rw [move_xk, move_xk, t_foll hv (mov_of g0 g1) (mov_of hb.1.1 hb.1.2)]; exact hf) ih
    rw [xk_half, t_len] at this
    exact this
theorem pth_t' {p : Plan} (hv : validB p = true) {to : Int} (h0 : 0 ≤ to) (h1 : to < 2 * p.Rails.length) {k L n : Int} (h : Pth (turnP p) (xk to) (xk k) L n) : Pth p to k L n := by
  have hx := xk_bd h0 h1
  have := pth_t (t_valid hv) hx.1 (by rw [t_rails]; exact hx.2) h
  rw [turn_turn, xk_xk, xk_xk] at this
  exact this
theorem dist_t {p : Plan} (hv : validB p = true) {to : Int} (h0 : 0 ≤ to) (h1 : to < 2 * p.Rails.length) {k : Nat} (hk : k < 2 * p.Rails.length) : gd (dEnd (turnP p) (xk to)).ln (xk k).toNat = gd (dEnd p to).ln k := by
  have hx := xk_bd h0 h1
  have hkx := xk_bd (k := (k : Int)) (n := p.Rails.length) (by omega) (by omega)
  have hE := dEnd_ok hv h0 h1
  have hF := dEnd_ok (t_valid hv) hx.1 (by rw [t_rails]; exact hx.2)
  generalize (dEnd p to).ln = a, (dEnd p to).mv = b at hE
  generalize (dEnd (turnP p) (xk to)).ln = c, (dEnd (turnP p) (xk to)).mv = d at hF
  have e1 : ((xk k).toNat : Int) = xk k := by omega
  have A : 0 ≤ gd a k → 0 ≤ gd c (xk k).toNat ∧ gd c (xk k).toNat ≤ gd a k := fun g => by
    have := hF.mn _ _ _ (pth_t hv h0 h1 (hE.sp k hk g))
    omega
  have B : 0 ≤ gd c (xk k).toNat → 0 ≤ gd a k ∧ gd a k ≤ gd c (xk k).toNat := fun g => by
    have hp := hF.sp (xk k).toNat (by rw [t_rails]; omega) g
    rw [e1] at hp
    have := hE.mn _ _ _ (pth_t' hv h0 h1 hp)
    rw [Int.toNat_natCast] at this
    omega
  have hn := hE.neg k hk
  have hm := hF.neg (xk k).toNat (by rw [t_rails]; omega)
  omega

theorem nxI_t {p : Plan} (hv : validB p = true) {k : Int} (h0 : 0 ≤ k) (h1 : k < 2 * p.Rails.length) {y : Int} (h : y ∈ nxI p k) : xk y ∈ nxI (turnP p) (xk k) := by
  have hb := nxI_bd hv h0 h1 h
  have hx := xk_bd h0 h1
  have hy := xk_bd hb.1 hb.2
  have := (nx_mem hv (mov_of h0 h1)).1 (ins_mem'.1 h)
  refine ins_mem'.2 ((nx_mem (t_valid hv) (mov_of hx.1 (by rw [t_rails]; exact hx.2))).2 ⟨hy.1, by rw [t_rails]; exact hy.2, ?_⟩)
  rw [move_xk, move_xk, t_rFoll]
  exact this.2.2
theorem reach_t {p : Plan} (hv : validB p = true) {f : Int} (h0 : 0 ≤ f) (h1 : f < 2 * p.Rails.length) {k : Int} (h : Reach p f k) : Reach (turnP p) (xk f) (xk k) := by
  induction h with
  | one h => exact .one (nxI_t hv h0 h1 h)
  | more hr hk ih =>
    have hb := reach_bd hv h0 h1 hr
    exact .more ih (nxI_t hv hb.1 hb.2 hk)
theorem rB_t {p : Plan} (hv : validB p = true) {f : Int} (h0 : 0 ≤ f) (h1 : f < 2 * p.Rails.length) (k : Int) : rB (turnP p) (xk f) (xk k) = rB p f k := by
  rw [Bool.eq_iff_iff, rB_iff, rB_iff]
  refine ⟨fun h => ?_, reach_t hv h0 h1⟩
  have hx := xk_bd h0 h1
  have := reach_t (t_valid hv) hx.1 (by rw [t_rails]; exact hx.2) h
  rw [turn_turn, xk_xk, xk_xk] at this
  exact this
theorem turnB_t {p : Plan} (hv : validB p = true) {r : Int} (h0 : 0 ≤ r) (h1 : r < p.Rails.length) : turnB (turnP p) r = turnB p r := by
  have e1 : xk (2 * r) = 2 * r + 1 := by unfold xk; rw [if_pos (by omega)]
  have e2 : xk (2 * r + 1) = 2 * r := by unfold xk; rw [if_neg (by omega)]; omega
  have a := rB_t hv (f := 2 * r) (by omega) (by omega) (2 * r + 1)
  have b := rB_t hv (f := 2 * r + 1) (by omega) (by omega) (2 * r)
  rw [e1, e2] at a b
  unfold turnB
  rw [a, b, Bool.or_comm]
end Go.Tram
