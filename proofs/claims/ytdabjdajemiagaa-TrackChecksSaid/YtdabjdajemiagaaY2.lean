/- Walks: the moves that follow a move. -/
import Derived.Test.YtdabjdajemiagaaY1
import Derived.Test.YtdabjdajemiagaaW10
namespace Go.Tram
open Go.AM Go.Proofs
set_option maxRecDepth 10000
set_option maxHeartbeats 4000000
set_option linter.unusedVariables false
set_option linter.unusedSimpArgs false

structure Move where
  Rail : Int
  Back : Bool
  deriving DecidableEq, Inhabited
@[simp] def Move.cells (m : Move) : List AV := [I m.Rail, Bo m.Back]
abbrev Move.av (m : Move) : AV := .agg m.cells
def arrE (m : Move) : REnd := ⟨m.Rail, !m.Back⟩
def leaE (m : Move) : REnd := ⟨m.Rail, m.Back⟩
def numM (m : Move) : Int := if m.Back then 2 * m.Rail + 1 else 2 * m.Rail
def moveM (k : Int) : Move := ⟨k / 2, decide (k % 2 = 1)⟩
def movB (p : Plan) (m : Move) : Bool := inr m.Rail 0 (p.Rails.length - 1)

theorem kvGet_set (q k : List KC) (u : Value) : ∀ kvs : List (List KC × Value), kvGet (kvSet kvs k u) q = if q = k then some u else kvGet kvs q
  | [] => by simp [kvSet, kvGet]
  | (k0, v0) :: r => by
    simp only [kvSet]
    split
    · rename_i e
      subst e
      simp only [kvGet]
      split <;> rfl
    · rename_i e
      simp only [kvGet]
      split
      · rename_i e2
        subst e2
        rw [if_neg (fun h => e h.symm)]
      · exact kvGet_set q k u r

/-- Where an end is in the list of its node. -/
def plcV (p : Plan) (e : REnd) : Value := (kvGet (placesK p p.Nodes.length) [.i .i64 e.Rail, .b e.Last]).getD (.int .i64 0)
def plc (p : Plan) (e : REnd) : Int := match plcV p e with | .int _ n => n | _ => 0

def intsK (kvs : List (List KC × Value)) : Prop := ∀ q v, kvGet kvs q = some v → ∃ n : Nat, n ≤ 1000 ∧ v = .int .i64 n
theorem intsK_put {kvs : List (List KC × Value)} {es : List REnd} (h : intsK kvs) : ∀ j, j ≤ 1000 → intsK (putE kvs es j)
  | 0, _ => h
  | j + 1, hj => by
    intro q v hq
    simp only [putE] at hq
    rw [kvGet_set] at hq
    split at hq
    · simp only [Option.some.injEq] at hq
      exact ⟨j, by omega, hq.symm⟩
    · exact intsK_put h j (by omega) q v hq
theorem intsK_places {p : Plan} (hE : ∀ i : Nat, i < p.Nodes.length → (p.node i).Ends.length ≤ 4) : ∀ i, i ≤ p.Nodes.length → intsK (placesK p i)
  | 0, _ => by intro q v h; simp [placesK, kvGet] at h
  | i + 1, hi => by
    simp only [placesK]
    exact intsK_put (intsK_places hE i (by omega)) _ (by have := hE i (by omega); omega)
theorem node_fine {p : Plan} (hv : validB p = true) {i : Int} (h0 : 0 ≤ i) (h1 : i < p.Nodes.length) : nodeB (p.node i) = true := List.all_eq_true.1 (valid_parts hv).2.2.1 _ (List.mem_of_getElem? (p.node_get h0 h1))
theorem node_kind {n : Node} (h : nodeB n = true) : (1 ≤ n.Kind ∧ n.Kind ≤ 6) ∧ n.Ends.length ≤ 4 ∧ (0 ≤ n.Normal ∧ n.Normal ≤ 2) := by
  simp only [nodeB, Bool.and_eq_true, decide_eq_true_eq] at h
  obtain ⟨h1, _, h2, h3⟩ := h
  unfold endsN at h2 h3
  refine ⟨by omega, by omega, ?_⟩
  split at h1
  · have := inr_iff.1 h1; omega
  · simp only [decide_eq_true_eq] at h1; omega
theorem plc_val {p : Plan} (hv : validB p = true) (e : REnd) : plcV p e = .int .i64 (plc p e) ∧ 0 ≤ plc p e ∧ plc p e ≤ 1000 := by
  have hi := intsK_places (p := p) (fun i hi => (node_kind (node_fine hv (i := i) (by omega) (by omega))).2.1) p.Nodes.length (Nat.le_refl _)
  have key : ∃ n : Nat, n ≤ 1000 ∧ plcV p e = .int .i64 n := by
    unfold plcV
    cases hk : kvGet (placesK p p.Nodes.length) [.i .i64 e.Rail, .b e.Last] with
    | none => exact ⟨0, by omega, rfl⟩
    | some v => obtain ⟨n, h1, h2⟩ := hi _ v hk; exact ⟨n, h1, h2⟩
  obtain ⟨n, h1, h2⟩ := key
  unfold plc
  rw [h2]
  exact ⟨rfl, by show (0 : Int) ≤ n; omega, by show (n : Int) ≤ 1000; omega⟩

/-- Whether a node lets cars go from an end of its list to another one. -/
def letsB (n : Node) (f t : Int) : Bool :=
  if n.Kind = 1 then false else if n.Kind = 2 then decide (f ≠ t) else if n.Kind = 3 then decide (f ≠ t) && decide ((f + t) % 2 = 0)
  else if n.Kind = 4 then decide (f ≠ t) && (decide (f = 0) || decide (t = 0)) else if n.Kind = 5 then (decide (f ≠ 0) && decide (t = 0)) || (decide (f = 0) && decide (t = n.Normal))
  else (decide (f = 0) && decide (t = n.Normal)) || (decide (f = n.Normal) && decide (t = 0))

theorem c_pend (n : Node) (f t : Int) : PureCall Try.prog 63 [.agg n.cells, I f, I t] (Bo false) := by
  refine PureCall.of_body Try.func63 rfl (by decide) (by simp [Try.ntmps63]) ?_
  simp only [Try.ntmps63, Try.results63]
  refine awp_sr rfl fun K hK => ?_
  simp -dsimp
  refine hK _ _ ?_; clear hK K
  refine awp_sr rfl fun K hK => ?_
  simp -dsimp
  refine hK _ _ ?_; clear hK K
  exact awp_ret (by simp)
theorem c_pplain (n : Node) (f t : Int) : PureCall Try.prog 64 [.agg n.cells, I f, I t] (Bo (decide (f ≠ t))) := by
  refine PureCall.of_body Try.func64 rfl (by decide) (by simp [Try.ntmps64]) ?_
  simp only [Try.ntmps64, Try.results64]
  refine awp_sr rfl fun K hK => ?_
  simp -dsimp
  refine hK _ _ ?_; clear hK K
  refine awp_sr rfl fun K hK => ?_
  simp -dsimp
  refine hK _ _ ?_; clear hK K
  refine awp_ret ?_
  simp
  exact Bool.eq_iff_iff.2 (by simp)
theorem c_pcross (n : Node) (f t : Int) (hf : 0 ≤ f ∧ f ≤ 1000) (ht : 0 ≤ t ∧ t ≤ 1000) : PureCall Try.prog 65 [.agg n.cells, I f, I t] (Bo (decide (f ≠ t) && decide ((f + t) % 2 = 0))) := by
  have w : IntKind.i64.wrap (f + t) = f + t := wrap_in (by omega) (by omega)
  have w2 : (f + t).tmod 2 = (f + t) % 2 := Int.tmod_eq_emod_of_nonneg (by omega)
  refine PureCall.of_body Try.func65 rfl (by decide) (by simp [Try.ntmps65]) ?_
  simp only [Try.ntmps65, Try.results65]
  refine awp_sr rfl fun K hK => ?_
  simp -dsimp
  refine hK _ _ ?_; clear hK K
  refine awp_sr rfl fun K hK => ?_
  simp -dsimp [w, w2]
  refine hK _ _ ?_; clear hK K
  refine awp_ret ?_
  simp
  exact Bool.eq_iff_iff.2 (by simp)
theorem c_pset (n : Node) (f t : Int) : PureCall Try.prog 66 [.agg n.cells, I f, I t] (Bo (decide (f ≠ t) && (decide (f = 0) || decide (t = 0)))) := by
  refine PureCall.of_body Try.func66 rfl (by decide) (by simp [Try.ntmps66]) ?_
  simp only [Try.ntmps66, Try.results66]
  refine awp_sr rfl fun K hK => ?_
  simp -dsimp
  refine hK _ _ ?_; clear hK K
  refine awp_sr rfl fun K hK => ?_
  simp -dsimp
  refine hK _ _ ?_; clear hK K
  refine awp_ret ?_
  simp
  exact Bool.eq_iff_iff.2 (by simp)
theorem c_pspring (n : Node) (f t : Int) : PureCall Try.prog 67 [.agg n.cells, I f, I t] (Bo ((decide (f ≠ 0) && decide (t = 0)) || (decide (f = 0) && decide (t = n.Normal)))) := by
  refine PureCall.of_body Try.func67 rfl (by decide) (by simp [Try.ntmps67]) ?_
  simp only [Try.ntmps67, Try.results67]
  refine awp_sr rfl fun K hK => ?_
  simp -dsimp
  refine hK _ _ ?_; clear hK K
  refine awp_sr rfl fun K hK => ?_
  simp -dsimp
  refine hK _ _ ?_; clear hK K
  refine awp_ret ?_
  simp
  exact Bool.eq_iff_iff.2 (by simp)
theorem c_plocked (n : Node) (f t : Int) : PureCall Try.prog 68 [.agg n.cells, I f, I t] (Bo ((decide (f = 0) && decide (t = n.Normal)) || (decide (f = n.Normal) && decide (t = 0)))) := by
  refine PureCall.of_body Try.func68 rfl (by decide) (by simp [Try.ntmps68]) ?_
  simp only [Try.ntmps68, Try.results68]
  refine awp_sr rfl fun K hK => ?_
  simp -dsimp
  refine hK _ _ ?_; clear hK K
  refine awp_sr rfl fun K hK => ?_
  simp -dsimp
  refine hK _ _ ?_; clear hK K
  refine awp_ret ?_
  simp
  exact Bool.eq_iff_iff.2 (by simp)

theorem c_lets1 (n : Node) (f t : Int) (hf : 0 ≤ f ∧ f ≤ 1000) (ht : 0 ≤ t ∧ t ≤ 1000) (hk : n.Kind = 1) : PureCall Try.prog 55 [.agg n.cells, I f, I t] (Bo (letsB n f t)) := by
  have hc := c_pend n f t
  unfold letsB
  simp only [Node.cells, hk, Int.reduceEq, if_false, if_true, reduceIte] at hc ⊢
  refine PureCall.of_body Try.func55 rfl (by decide) (by simp [Try.ntmps55]) ?_
  simp only [Try.ntmps55, Try.results55]
  refine awp_sr rfl fun K hK => ?_
  simp -dsimp
  refine hK _ _ ?_; clear hK K
  refine awp_sr rfl fun K hK => ?_
  simp -dsimp
  refine hK _ _ ?_; clear hK K
  refine awp_sd mixed rfl fun K hK => ?_
  simp -dsimp
  refine callK_intro _ (hc) (by simp) ?_
  simp -dsimp
  refine hK _ _ _ (by decide +kernel) ?_; clear hK K
  exact awp_ret (by simp)
theorem c_lets2 (n : Node) (f t : Int) (hf : 0 ≤ f ∧ f ≤ 1000) (ht : 0 ≤ t ∧ t ≤ 1000) (hk : n.Kind = 2) : PureCall Try.prog 55 [.agg n.cells, I f, I t] (Bo (letsB n f t)) := by
  have hc := c_pplain n f t
  unfold letsB
  simp only [Node.cells, hk, Int.reduceEq, if_false, if_true, reduceIte] at hc ⊢
  refine PureCall.of_body Try.func55 rfl (by decide) (by simp [Try.ntmps55]) ?_
  simp only [Try.ntmps55, Try.results55]
  refine awp_sr rfl fun K hK => ?_
  simp -dsimp
  refine hK _ _ ?_; clear hK K
  refine awp_sr rfl fun K hK => ?_
  simp -dsimp
  refine hK _ _ ?_; clear hK K
  refine awp_sd mixed rfl fun K hK => ?_
  simp -dsimp
  refine callK_intro _ (hc) (by simp) ?_
  simp -dsimp
  refine hK _ _ _ (by decide +kernel) ?_; clear hK K
  exact awp_ret (by simp)
theorem c_lets3 (n : Node) (f t : Int) (hf : 0 ≤ f ∧ f ≤ 1000) (ht : 0 ≤ t ∧ t ≤ 1000) (hk : n.Kind = 3) : PureCall Try.prog 55 [.agg n.cells, I f, I t] (Bo (letsB n f t)) := by
  have hc := c_pcross n f t hf ht
  unfold letsB
  simp only [Node.cells, hk, Int.reduceEq, if_false, if_true, reduceIte] at hc ⊢
  refine PureCall.of_body Try.func55 rfl (by decide) (by simp [Try.ntmps55]) ?_
  simp only [Try.ntmps55, Try.results55]
  refine awp_sr rfl fun K hK => ?_
  simp -dsimp
  refine hK _ _ ?_; clear hK K
  refine awp_sr rfl fun K hK => ?_
  simp -dsimp
  refine hK _ _ ?_; clear hK K
  refine awp_sd mixed rfl fun K hK => ?_
  simp -dsimp
  refine callK_intro _ (hc) (by simp) ?_
  simp -dsimp
  refine hK _ _ _ (by decide +kernel) ?_; clear hK K
  exact awp_ret (by simp)
theorem c_lets4 (n : Node) (f t : Int) (hf : 0 ≤ f ∧ f ≤ 1000) (ht : 0 ≤ t ∧ t ≤ 1000) (hk : n.Kind = 4) : PureCall Try.prog 55 [.agg n.cells, I f, I t] (Bo (letsB n f t)) := by
  have hc := c_pset n f t
  unfold letsB
  simp only [Node.cells, hk, Int.reduceEq, if_false, if_true, reduceIte] at hc ⊢
  refine PureCall.of_body Try.func55 rfl (by decide) (by simp [Try.ntmps55]) ?_
  simp only [Try.ntmps55, Try.results55]
  refine awp_sr rfl fun K hK => ?_
  simp -dsimp
  refine hK _ _ ?_; clear hK K
  refine awp_sr rfl fun K hK => ?_
  simp -dsimp
  refine hK _ _ ?_; clear hK K
  refine awp_sd mixed rfl fun K hK => ?_
  simp -dsimp
  refine callK_intro _ (hc) (by simp) ?_
  simp -dsimp
  refine hK _ _ _ (by decide +kernel) ?_; clear hK K
  exact awp_ret (by simp)
theorem c_lets5 (n : Node) (f t : Int) (hf : 0 ≤ f ∧ f ≤ 1000) (ht : 0 ≤ t ∧ t ≤ 1000) (hk : n.Kind = 5) : PureCall Try.prog 55 [.agg n.cells, I f, I t] (Bo (letsB n f t)) := by
  have hc := c_pspring n f t
  unfold letsB
  simp only [Node.cells, hk, Int.reduceEq, if_false, if_true, reduceIte] at hc ⊢
  refine PureCall.of_body Try.func55 rfl (by decide) (by simp [Try.ntmps55]) ?_
  simp only [Try.ntmps55, Try.results55]
  refine awp_sr rfl fun K hK => ?_
  simp -dsimp
  refine hK _ _ ?_; clear hK K
  refine awp_sr rfl fun K hK => ?_
  simp -dsimp
  refine hK _ _ ?_; clear hK K
  refine awp_sd mixed rfl fun K hK => ?_
  simp -dsimp
  refine callK_intro _ (hc) (by simp) ?_
  simp -dsimp
  refine hK _ _ _ (by decide +kernel) ?_; clear hK K
  exact awp_ret (by simp)
theorem c_lets6 (n : Node) (f t : Int) (hf : 0 ≤ f ∧ f ≤ 1000) (ht : 0 ≤ t ∧ t ≤ 1000) (hk : n.Kind = 6) : PureCall Try.prog 55 [.agg n.cells, I f, I t] (Bo (letsB n f t)) := by
  have hc := c_plocked n f t
  unfold letsB
  simp only [Node.cells, hk, Int.reduceEq, if_false, if_true, reduceIte] at hc ⊢
  refine PureCall.of_body Try.func55 rfl (by decide) (by simp [Try.ntmps55]) ?_
  simp only [Try.ntmps55, Try.results55]
  refine awp_sr rfl fun K hK => ?_
  simp -dsimp
  refine hK _ _ ?_; clear hK K
  refine awp_sr rfl fun K hK => ?_
  simp -dsimp
  refine hK _ _ ?_; clear hK K
  refine awp_sd mixed rfl fun K hK => ?_
  simp -dsimp
  refine callK_intro _ (hc) (by simp) ?_
  simp -dsimp
  refine hK _ _ _ (by decide +kernel) ?_; clear hK K
  exact awp_ret (by simp)
theorem c_lets (n : Node) (f t : Int) (hf : 0 ≤ f ∧ f ≤ 1000) (ht : 0 ≤ t ∧ t ≤ 1000) (hk : 1 ≤ n.Kind ∧ n.Kind ≤ 6) : PureCall Try.prog 55 [.agg n.cells, I f, I t] (Bo (letsB n f t)) := by
  have : n.Kind = 1 ∨ n.Kind = 2 ∨ n.Kind = 3 ∨ n.Kind = 4 ∨ n.Kind = 5 ∨ n.Kind = 6 := by omega
  rcases this with h | h | h | h | h | h
  · exact c_lets1 n f t hf ht h
  · exact c_lets2 n f t hf ht h
  · exact c_lets3 n f t hf ht h
  · exact c_lets4 n f t hf ht h
  · exact c_lets5 n f t hf ht h
  · exact c_lets6 n f t hf ht h

theorem c_arrives (m : Move) : PureCall Try.prog 54 [m.av] (.agg [I m.Rail, Bo (!m.Back)]) := by
  refine PureCall.of_body Try.func54 rfl (by decide) (by simp [Try.ntmps54]) ?_
  simp only [Try.ntmps54, Try.results54]
  refine awp_sr rfl fun K hK => ?_
  simp -dsimp
  refine hK _ _ ?_; clear hK K
  refine awp_sr rfl fun K hK => ?_
  simp -dsimp
  refine hK _ _ ?_; clear hK K
  exact awp_ret (by simp)
theorem c_number (m : Move) (h0 : 0 ≤ m.Rail) (h1 : m.Rail ≤ 100000) : PureCall Try.prog 44 [m.av] (I (numM m)) := by
  have w1 : IntKind.i64.wrap (2 * m.Rail) = 2 * m.Rail := wrap_in (by omega) (by omega)
  have w2 : IntKind.i64.wrap (2 * m.Rail + 1) = 2 * m.Rail + 1 := wrap_in (by omega) (by omega)
  refine PureCall.of_body Try.func44 rfl (by decide) (by simp [Try.ntmps44]) ?_
  simp only [Try.ntmps44, Try.results44]
  refine awp_sr rfl fun K hK => ?_
  simp -dsimp
  refine hK _ _ ?_; clear hK K
  refine awp_seq_k fun K1 hK1 => ?_
  refine awp_sr rfl fun K hK => ?_
  simp -dsimp
  refine hK _ _ ?_; clear hK K
  refine awp_cond rfl (fun hc0 => ?_) (fun hc0 => ?_)
  · skip
    try simp at hc0
    refine awp_sr rfl fun K hK => ?_
    simp -dsimp [w1, w2]
    refine hK _ _ ?_; clear hK K
    exact awp_ret (by simp [numM, hc0])
  · skip
    try simp at hc0
    refine awp_skip ?_
    simp only [thenA, inBlockA, reduceIte, Nat.reduceEqDiff, eq_self]
    refine hK1 _ _ ?_
    refine awp_prune [1] ?_
    simp only [prune, List.map_cons, List.map_nil, Go.AM.look, Nat.reduceEqDiff, reduceIte]
    refine awp_sr rfl fun K hK => ?_
    simp -dsimp [w1]
    refine hK _ _ ?_; clear hK K
    exact awp_ret (by simp [numM, hc0])
theorem c_move (k : Int) (h0 : 0 ≤ k) (h1 : k ≤ 1000000) : PureCall Try.prog 57 [I k] (.agg [I (moveM k).Rail, Bo (moveM k).Back]) := by
  have w1 : k.tdiv 2 = k / 2 := Int.tdiv_eq_ediv_of_nonneg h0
  have w2 : k.tmod 2 = k % 2 := Int.tmod_eq_emod_of_nonneg h0
  have w3 : IntKind.i64.wrap (k / 2) = k / 2 := wrap_in (by omega) (by omega)
  refine PureCall.of_body Try.func57 rfl (by decide) (by simp [Try.ntmps57]) ?_
  simp only [Try.ntmps57, Try.results57]
  refine awp_sr rfl fun K hK => ?_
  simp -dsimp
  refine hK _ _ ?_; clear hK K
  refine awp_sr rfl fun K hK => ?_
  simp -dsimp [w1, w2, w3]
  refine hK _ _ ?_; clear hK K
  refine awp_ret ?_
  simp [moveM]
  exact Bool.eq_iff_iff.2 (by simp)

theorem c_tnext (p : Plan) (m : Move) : PureCall Try.prog 38 [.iptr (net p), m.av] (.clo 53 [.iptr [.iptr (net p)], .iptr m.cells]) := by
  generalize net p = sh
  refine PureCall.of_body Try.func38 rfl (by decide) (by simp [Try.ntmps38]) ?_
  simp only [Try.ntmps38, Try.results38]
  refine awp_sr rfl fun K hK => ?_
  simp -dsimp
  refine hK _ _ ?_; clear hK K
  refine awp_sr rfl fun K hK => ?_
  simp -dsimp
  refine hK _ _ ?_; clear hK K
  exact awp_ret (by simp)
end Go.Tram
