/- Walks: the gates of a junction, and its check. -/
import Derived.Test.YtmenlmioccciiaaZ2
namespace Go.Street
open Go.AM Go.Proofs
set_option maxRecDepth 10000
set_option maxHeartbeats 4000000
set_option linter.unusedVariables false
set_option linter.unusedSimpArgs false

def mkey (m : Mv) : List KC := [.i .i64 m.Rail, .b m.Back]
def gkv (l : List Gt) : List (List KC × Value) := l.map fun g => (mkey g.M, .bool true)
theorem mkey_inj {a b : Mv} : mkey a = mkey b ↔ a = b := by
  obtain ⟨a1, a2⟩ := a; obtain ⟨b1, b2⟩ := b
  simp [mkey]
theorem gkv_get : ∀ (l : List Gt) (m : Mv), kvGet (gkv l) (mkey m) = if (l.any fun g => decide (g.M = m)) = true then some (.bool true) else none
  | [], m => rfl
  | g :: l, m => by
    have ih := gkv_get l m
    simp only [gkv] at ih
    simp only [gkv, List.map_cons, kvGet, List.any_cons, Bool.or_eq_true, decide_eq_true_eq]
    by_cases h : g.M = m
    · rw [if_pos (by rw [h]), if_pos (Or.inl h)]
    · rw [if_neg (fun e => h (mkey_inj.1 e).symm), ih]
      simp only [h, false_or]
theorem gkv_snoc : ∀ (l : List Gt) (g : Gt), (l.any fun x => decide (x.M = g.M)) = false → kvSet (gkv l) (mkey g.M) (.bool true) = gkv (l ++ [g])
  | [], g, _ => rfl
  | x :: l, g, h => by
    simp only [List.any_cons, Bool.or_eq_false_iff, decide_eq_false_iff_not] at h
    have ih := gkv_snoc l g h.2
    simp only [gkv] at ih
    simp only [gkv, List.map_cons, List.cons_append, kvSet]
    rw [if_neg (fun e => h.1 (mkey_inj.1 e).symm), ih]
theorem gkv_look (l : List Gt) (m : Mv) : ((kvGet (gkv l) [.i .i64 m.Rail, .b m.Back]).getD (.bool false)) = .bool (l.any fun g => decide (g.M = m)) := by
  rw [show ([KC.i .i64 m.Rail, KC.b m.Back] : List KC) = mkey m from rfl, gkv_get]
  cases (l.any fun g => decide (g.M = m)) <;> rfl

def gtB (j : Jn) (l : List Gt) (g : Gt) : Bool := !(l.any fun x => decide (x.M = g.M)) && inr g.Stream 0 ((j.n : Int) - 1) && decide ((strm j g.Stream).Kind = 1)
def gatesTo (j : Jn) : Nat → Bool
  | 0 => true
  | k + 1 => gatesTo j k && (match j.Gates[k]? with | some g => gtB j (j.Gates.take k) g | none => true)
def gatesB (j : Jn) : Bool := gatesTo j j.Gates.length && decide (j.Gates.length ≤ 20)
theorem gatesTo_ff {j : Jn} {k : Nat} (h : gatesTo j k = false) : ∀ d, gatesTo j (k + d) = false
  | 0 => h
  | d + 1 => by rw [← Nat.add_assoc]; simp only [gatesTo, gatesTo_ff h d, Bool.false_and]
theorem gatesTo_succ {j : Jn} {k : Nat} {g : Gt} (h : j.Gates[k]? = some g) : gatesTo j (k + 1) = (gatesTo j k && gtB j (j.Gates.take k) g) := by simp only [gatesTo, h]

theorem c_gates (j : Jn) (hf : Fit j) (hst : streamsB j = true) : PureCall Try.prog 77 [j.av] (Bo (gatesB j)) := by
  have f1 := hf.s; have f2 := hf.g
  have hn : 1 ≤ j.n ∧ j.n ≤ 20 := by simp only [streamsB, Bool.and_eq_true, inr_iff] at hst; omega
  have hnl : j.n = j.Streams.length := rfl
  have wn : IntKind.i64.wrap ((j.Streams.length : Int) - 1) = (j.n : Int) - 1 := by rw [← hnl]; exact wrap_in (by omega) (by omega)
  refine PureCall.of_body Try.func77 rfl (by decide) (by simp [Try.ntmps77]) ?_
  simp only [Try.ntmps77, Try.results77]
  refine awp_sr rfl fun K hK => ?_
  simp -dsimp
  refine hK _ _ ?_; clear hK K
  refine awp_sr rfl fun K hK => ?_
  simp -dsimp
  refine hK _ _ ?_; clear hK K
  refine awp_seq_k fun K1 hK1 => ?_
  refine awp_sr rfl fun K hK => ?_
  simp -dsimp
  refine hK _ _ ?_; clear hK K
  refine awp_block ?_
  refine awp_prune [1, 3, 9, 10, 11] ?_
  simp only [prune, List.map_cons, List.map_nil, Go.AM.look, Nat.reduceEqDiff, reduceIte]
  refine awp_loop_l [1, 3, 9, 10] (α := Nat) (fun k => [(11, I k)]) (fun k => [some (.els 6 [j.cells]), some (.map true [.i .i64, .b] (gkv (j.Gates.take k)))]) (fun k => k ≤ j.Gates.length ∧ gatesTo j k = true) (fun k => j.Gates.length - k) 0 ?_ ?_ ?_
  · exact ⟨Nat.zero_le _, rfl⟩
  · exact sub_rb [some 0, some 1] rfl (by simp) (by simp [gkv])
  rintro k ⟨k1, k2⟩
  simp only [List.cons_append, List.nil_append, prune, List.map_cons, List.map_nil, Go.AM.look, Nat.reduceEqDiff, reduceIte]
  refine awp_sr rfl fun K hK => ?_
  simp -dsimp
  refine hK _ _ ?_; clear hK K
  refine awp_seq_k fun K2 hK2 => ?_
  refine awp_cond rfl (fun hc0 => ?_) (fun hc0 => ?_)
  · skip
    try simp at hc0
    obtain ⟨g, hg⟩ : ∃ g, j.Gates[k]? = some g := ⟨_, List.getElem?_eq_getElem hc0⟩
    have wk : IntKind.i64.wrap ((k : Int) + 1) = (k : Int) + 1 := wrap_in (by omega) (by omega)
    refine awp_skip ?_
    simp only [thenA, inBlockA, reduceIte, Nat.reduceEqDiff, eq_self]
    refine hK2 _ _ ?_
    refine awp_prune [1, 3, 9, 10, 11] ?_
    simp only [prune, List.map_cons, List.map_nil, Go.AM.look, Nat.reduceEqDiff, reduceIte]
    refine awp_seq_k fun K3 hK3 => ?_
    refine awp_block ?_
    refine awp_sr rfl fun K hK => ?_
    simp -dsimp [hg]
    refine hK _ _ ?_; clear hK K
    refine awp_seq_k fun K4 hK4 => ?_
    refine awp_sr rfl fun K hK => ?_
    simp -dsimp [wn, gkv_look]
    refine valK_intro (_) (fun hm => rfl) ?_
    simp -dsimp [wn, gkv_look]
    refine callK_may _ (fun hm => c_within g.Stream 0 ((j.n : Int) - 1)) (by simp) ?_
    simp -dsimp [wn, gkv_look]
    refine ⟨by simp only [inr_iff]; intros; omega, idxK_intro (strm j g.Stream).cells (fun hm => by simp at hm; have hr := inr_iff.1 hm.2; simp [strm_get hr.1 (show g.Stream < j.n by omega)]) ?_⟩
    simp -dsimp [wn]
    refine hK _ _ ?_; clear hK K
    refine awp_cond rfl (fun hc1 => ?_) (fun hc1 => ?_)
    · skip
      have hgt : gtB j (j.Gates.take k) g = !(((List.take k j.Gates).any fun x => decide (x.M = g.M)) || !inr g.Stream 0 (↑j.n - 1) || (strm j g.Stream).Kind != 1) := by
        simp only [gtB, bne, beq_d]
        cases ((List.take k j.Gates).any fun x => decide (x.M = g.M)) <;> cases inr g.Stream 0 (↑j.n - 1) <;> cases decide ((strm j g.Stream).Kind = 1) <;> rfl
      refine awp_sr rfl fun K hK => ?_
      simp -dsimp
      refine hK _ _ ?_; clear hK K
      have hfin : gatesB j = false := by
        have h1 : gatesTo j (k + 1) = false := by rw [gatesTo_succ hg, hgt, hc1]; simp
        have h2 := gatesTo_ff h1 (j.Gates.length - (k + 1))
        rw [show k + 1 + (j.Gates.length - (k + 1)) = j.Gates.length by omega] at h2
        simp [gatesB, h2]
      exact awp_ret (by simp [hfin])
    · skip
      have hgt : gtB j (j.Gates.take k) g = !(((List.take k j.Gates).any fun x => decide (x.M = g.M)) || !inr g.Stream 0 (↑j.n - 1) || (strm j g.Stream).Kind != 1) := by
        simp only [gtB, bne, beq_d]
        cases ((List.take k j.Gates).any fun x => decide (x.M = g.M)) <;> cases inr g.Stream 0 (↑j.n - 1) <;> cases decide ((strm j g.Stream).Kind = 1) <;> rfl
      have hg1 : gtB j (j.Gates.take k) g = true := by rw [hgt, hc1]; rfl
      have hany : ((j.Gates.take k).any fun x => decide (x.M = g.M)) = false := by
        simp only [gtB, Bool.and_eq_true, Bool.not_eq_true'] at hg1; exact hg1.1.1
      have hset : kvSet (gkv (j.Gates.take k)) [.i .i64 g.M.Rail, .b g.M.Back] (.bool true) = gkv (j.Gates.take (k + 1)) := by
        have := gkv_snoc (j.Gates.take k) g hany
        rw [List.take_add_one, hg]; exact this
      refine awp_skip ?_
      simp only [thenA, inBlockA, reduceIte, Nat.reduceEqDiff, eq_self]
      refine hK4 _ _ ?_
      refine awp_prune [1, 3, 5, 9, 10, 11] ?_
      simp only [prune, List.map_cons, List.map_nil, Go.AM.look, Nat.reduceEqDiff, reduceIte]
      refine awp_r rfl fun K hK => ?_
      simp -dsimp [hset]
      refine hK _ _ ?_; clear hK K
      simp only [thenA, inBlockA, reduceIte, Nat.reduceEqDiff, eq_self]
      refine hK3 _ _ ?_
      refine awp_prune [1, 3, 9, 10, 11] ?_
      simp only [prune, List.map_cons, List.map_nil, Go.AM.look, Nat.reduceEqDiff, reduceIte]
      refine awp_r rfl fun K hK => ?_
      simp -dsimp [wk]
      refine hK _ _ ?_; clear hK K
      simp only [thenA, inBlockA, reduceIte, Nat.reduceEqDiff, eq_self]
      exact ⟨k + 1, ⟨by omega, by rw [gatesTo_succ hg, k2, hg1]; rfl⟩, by omega, sub_rb [some 0, some 1] rfl (by simp) (by simp)⟩
  · skip
    try simp at hc0
    refine awp_exit ?_
    simp only [thenA, inBlockA, reduceIte, Nat.reduceEqDiff, eq_self]
    refine hK1 _ _ ?_
    refine awp_prune [1] ?_
    simp only [prune, List.map_cons, List.map_nil, Go.AM.look, Nat.reduceEqDiff, reduceIte]
    refine awp_sr rfl fun K hK => ?_
    simp -dsimp
    refine hK _ _ ?_; clear hK K
    have hkk : k = j.Gates.length := by omega
    subst hkk
    have h20 : decide ((j.Gates.length : Int) ≤ 20) = decide (j.Gates.length ≤ 20) := decide_eq_decide.2 (by omega)
    exact awp_ret (by simp only [retQ, resP, tupOf]; simp [gatesB, k2, h20])

def jnB (j : Jn) : Bool := streamsB j && clearsB j && phasesB j && gatesB j
theorem clears_sqr {j : Jn} (h : clearsB j = true) : Sqr j := by
  simp only [clearsB, Bool.and_eq_true, decide_eq_true_eq, List.all_eq_true] at h
  exact ⟨h.1.1, h.1.2⟩

/-- The first checks, one after the other. -/
def chk (j : Jn) : Nat → Bool
  | 0 => true
  | 1 => streamsB j
  | 2 => streamsB j && clearsB j
  | 3 => streamsB j && clearsB j && phasesB j
  | _ => jnB j

theorem c_Check (j : Jn) (hf : Fit j) : PureCall Try.prog 42 [j.av] (I (if jnB j then 0 else 2)) := by
  have w1 : IntKind.i64.wrap 1 = 1 := wrap_in (by omega) (by omega)
  have w2 : IntKind.i64.wrap 2 = 2 := wrap_in (by omega) (by omega)
  have w3 : IntKind.i64.wrap 3 = 3 := wrap_in (by omega) (by omega)
  have w4 : IntKind.i64.wrap 4 = 4 := wrap_in (by omega) (by omega)
  refine PureCall.of_body Try.func42 rfl (by decide) (by simp [Try.ntmps42]) ?_
  simp only [Try.ntmps42, Try.results42]
  refine awp_sr rfl fun K hK => ?_
  simp -dsimp [w1, w2, w3, w4]
  refine hK _ _ ?_; clear hK K
  refine awp_sr rfl fun K hK => ?_
  simp -dsimp [w1, w2, w3, w4]
  refine hK _ _ ?_; clear hK K
  refine awp_sr rfl fun K hK => ?_
  simp -dsimp [w1, w2, w3, w4]
  refine hK _ _ ?_; clear hK K
  refine awp_seq_k fun K1 hK1 => ?_
  refine awp_sr rfl fun K hK => ?_
  simp -dsimp [w1, w2, w3, w4]
  refine hK _ _ ?_; clear hK K
  refine awp_block ?_
  refine awp_prune [18, 19] ?_
  simp only [prune, List.map_cons, List.map_nil, Go.AM.look, Nat.reduceEqDiff, reduceIte]
  refine awp_loop_l [18] (α := Nat) (fun k => [(19, I k)]) (fun _ => [some (.els 6 [j.cells]), some (.els 6 [j.cells])]) (fun k => k ≤ 4 ∧ chk j k = true) (fun k => 4 - k) 0 ?_ ?_ ?_
  · exact ⟨by omega, rfl⟩
  · exact sub_rb [some 0, some 1] rfl (by simp) (by simp)
  rintro k ⟨k1, k2⟩
  have hk : k = 0 ∨ k = 1 ∨ k = 2 ∨ k = 3 ∨ k = 4 := by omega
  rcases hk with rfl | rfl | rfl | rfl | rfl
  · skip
    simp only [List.cons_append, List.nil_append, prune, List.map_cons, List.map_nil, Go.AM.look, Nat.reduceEqDiff, reduceIte]
    refine awp_sr rfl fun K hK => ?_
    simp -dsimp [w1, w2, w3, w4]
    refine hK _ _ ?_; clear hK K
    refine awp_seq_k fun K2 hK2 => ?_
    refine awp_cond rfl (fun hc0 => ?_) (fun hc0 => ?_)
    · skip
      skip
      refine awp_skip ?_
      simp only [thenA, inBlockA, reduceIte, Nat.reduceEqDiff, eq_self]
      refine hK2 _ _ ?_
      refine awp_prune [18, 19] ?_
      simp only [prune, List.map_cons, List.map_nil, Go.AM.look, Nat.reduceEqDiff, reduceIte]
      refine awp_seq_k fun K3 hK3 => ?_
      refine awp_block ?_
      refine awp_sr rfl fun K hK => ?_
      simp -dsimp [w1, w2, w3, w4]
      refine hK _ _ ?_; clear hK K
      refine awp_sr rfl fun K hK => ?_
      simp -dsimp [w1, w2, w3, w4]
      refine callK_intro _ (c_streams j hf) (by simp) ?_
      simp -dsimp [w1, w2, w3, w4]
      refine hK _ _ ?_; clear hK K
      refine awp_cond rfl (fun hc1 => ?_) (fun hc1 => ?_)
      · skip
        try simp at hc1
        refine awp_sr rfl fun K hK => ?_
        simp -dsimp [w1, w2, w3, w4]
        refine hK _ _ ?_; clear hK K
        exact awp_ret (by simp [jnB, hc1])
      · skip
        try simp at hc1
        refine awp_skip ?_
        simp only [thenA, inBlockA, reduceIte, Nat.reduceEqDiff, eq_self]
        refine hK3 _ _ ?_
        refine awp_prune [18, 19] ?_
        simp only [prune, List.map_cons, List.map_nil, Go.AM.look, Nat.reduceEqDiff, reduceIte]
        refine awp_r rfl fun K hK => ?_
        simp -dsimp [w1, w2, w3, w4]
        refine hK _ _ ?_; clear hK K
        simp only [thenA, inBlockA, reduceIte, Nat.reduceEqDiff, eq_self]
        exact ⟨1, ⟨by omega, by simpa [chk] using hc1⟩, by omega, sub_rb [some 0, some 1] rfl (by simp) (by simp)⟩
    · skip
      skip
      simp at hc0
  · skip
    simp only [List.cons_append, List.nil_append, prune, List.map_cons, List.map_nil, Go.AM.look, Nat.reduceEqDiff, reduceIte]
    refine awp_sr rfl fun K hK => ?_
    simp -dsimp [w1, w2, w3, w4]
    refine hK _ _ ?_; clear hK K
    refine awp_seq_k fun K4 hK4 => ?_
    refine awp_cond rfl (fun hc0 => ?_) (fun hc0 => ?_)
    · skip
      skip
      refine awp_skip ?_
      simp only [thenA, inBlockA, reduceIte, Nat.reduceEqDiff, eq_self]
      refine hK4 _ _ ?_
      refine awp_prune [18, 19] ?_
      simp only [prune, List.map_cons, List.map_nil, Go.AM.look, Nat.reduceEqDiff, reduceIte]
      refine awp_seq_k fun K5 hK5 => ?_
      refine awp_block ?_
      refine awp_sr rfl fun K hK => ?_
      simp -dsimp [w1, w2, w3, w4]
      refine hK _ _ ?_; clear hK K
      refine awp_sr rfl fun K hK => ?_
      simp -dsimp [w1, w2, w3, w4]
      refine callK_intro _ (c_clears j hf) (by simp) ?_
      simp -dsimp [w1, w2, w3, w4]
      refine hK _ _ ?_; clear hK K
      refine awp_cond rfl (fun hc1 => ?_) (fun hc1 => ?_)
      · skip
        try simp at hc1
        refine awp_sr rfl fun K hK => ?_
        simp -dsimp [w1, w2, w3, w4]
        refine hK _ _ ?_; clear hK K
        exact awp_ret (by simp [jnB, hc1])
      · skip
        try simp at hc1
        refine awp_skip ?_
        simp only [thenA, inBlockA, reduceIte, Nat.reduceEqDiff, eq_self]
        refine hK5 _ _ ?_
        refine awp_prune [18, 19] ?_
        simp only [prune, List.map_cons, List.map_nil, Go.AM.look, Nat.reduceEqDiff, reduceIte]
        refine awp_r rfl fun K hK => ?_
        simp -dsimp [w1, w2, w3, w4]
        refine hK _ _ ?_; clear hK K
        simp only [thenA, inBlockA, reduceIte, Nat.reduceEqDiff, eq_self]
        exact ⟨2, ⟨by omega, by simp only [chk] at k2 ⊢; rw [k2, hc1]; rfl⟩, by omega, sub_rb [some 0, some 1] rfl (by simp) (by simp)⟩
    · skip
      skip
      simp at hc0
  · skip
    simp only [List.cons_append, List.nil_append, prune, List.map_cons, List.map_nil, Go.AM.look, Nat.reduceEqDiff, reduceIte]
    refine awp_sr rfl fun K hK => ?_
    simp -dsimp [w1, w2, w3, w4]
    refine hK _ _ ?_; clear hK K
    refine awp_seq_k fun K6 hK6 => ?_
    refine awp_cond rfl (fun hc0 => ?_) (fun hc0 => ?_)
    · skip
      skip
      simp only [chk, Bool.and_eq_true] at k2
      refine awp_skip ?_
      simp only [thenA, inBlockA, reduceIte, Nat.reduceEqDiff, eq_self]
      refine hK6 _ _ ?_
      refine awp_prune [18, 19] ?_
      simp only [prune, List.map_cons, List.map_nil, Go.AM.look, Nat.reduceEqDiff, reduceIte]
      refine awp_seq_k fun K7 hK7 => ?_
      refine awp_block ?_
      refine awp_sr rfl fun K hK => ?_
      simp -dsimp [w1, w2, w3, w4]
      refine hK _ _ ?_; clear hK K
      refine awp_sr rfl fun K hK => ?_
      simp -dsimp [w1, w2, w3, w4]
      refine callK_intro _ (c_phases j hf (clears_sqr k2.2) k2.1) (by simp) ?_
      simp -dsimp [w1, w2, w3, w4]
      refine hK _ _ ?_; clear hK K
      refine awp_cond rfl (fun hc1 => ?_) (fun hc1 => ?_)
      · skip
        try simp at hc1
        refine awp_sr rfl fun K hK => ?_
        simp -dsimp [w1, w2, w3, w4]
        refine hK _ _ ?_; clear hK K
        exact awp_ret (by simp [jnB, hc1])
      · skip
        try simp at hc1
        refine awp_skip ?_
        simp only [thenA, inBlockA, reduceIte, Nat.reduceEqDiff, eq_self]
        refine hK7 _ _ ?_
        refine awp_prune [18, 19] ?_
        simp only [prune, List.map_cons, List.map_nil, Go.AM.look, Nat.reduceEqDiff, reduceIte]
        refine awp_r rfl fun K hK => ?_
        simp -dsimp [w1, w2, w3, w4]
        refine hK _ _ ?_; clear hK K
        simp only [thenA, inBlockA, reduceIte, Nat.reduceEqDiff, eq_self]
        exact ⟨3, ⟨by omega, by simp only [chk]; rw [k2.1, k2.2, hc1]; rfl⟩, by omega, sub_rb [some 0, some 1] rfl (by simp) (by simp)⟩
    · skip
      skip
      simp at hc0
  · skip
    simp only [List.cons_append, List.nil_append, prune, List.map_cons, List.map_nil, Go.AM.look, Nat.reduceEqDiff, reduceIte]
    refine awp_sr rfl fun K hK => ?_
    simp -dsimp [w1, w2, w3, w4]
    refine hK _ _ ?_; clear hK K
    refine awp_seq_k fun K8 hK8 => ?_
    refine awp_cond rfl (fun hc0 => ?_) (fun hc0 => ?_)
    · skip
      skip
      simp only [chk, Bool.and_eq_true] at k2
      refine awp_skip ?_
      simp only [thenA, inBlockA, reduceIte, Nat.reduceEqDiff, eq_self]
      refine hK8 _ _ ?_
      refine awp_prune [18, 19] ?_
      simp only [prune, List.map_cons, List.map_nil, Go.AM.look, Nat.reduceEqDiff, reduceIte]
      refine awp_seq_k fun K9 hK9 => ?_
      refine awp_block ?_
      refine awp_sr rfl fun K hK => ?_
      simp -dsimp [w1, w2, w3, w4]
      refine hK _ _ ?_; clear hK K
      refine awp_sr rfl fun K hK => ?_
      simp -dsimp [w1, w2, w3, w4]
      refine callK_intro _ (c_gates j hf k2.1.1) (by simp) ?_
      simp -dsimp [w1, w2, w3, w4]
      refine hK _ _ ?_; clear hK K
      refine awp_cond rfl (fun hc1 => ?_) (fun hc1 => ?_)
      · skip
        try simp at hc1
        refine awp_sr rfl fun K hK => ?_
        simp -dsimp [w1, w2, w3, w4]
        refine hK _ _ ?_; clear hK K
        exact awp_ret (by simp [jnB, hc1])
      · skip
        try simp at hc1
        refine awp_skip ?_
        simp only [thenA, inBlockA, reduceIte, Nat.reduceEqDiff, eq_self]
        refine hK9 _ _ ?_
        refine awp_prune [18, 19] ?_
        simp only [prune, List.map_cons, List.map_nil, Go.AM.look, Nat.reduceEqDiff, reduceIte]
        refine awp_r rfl fun K hK => ?_
        simp -dsimp [w1, w2, w3, w4]
        refine hK _ _ ?_; clear hK K
        simp only [thenA, inBlockA, reduceIte, Nat.reduceEqDiff, eq_self]
        exact ⟨4, ⟨by omega, by simp only [chk, jnB]; rw [k2.1.1, k2.1.2, k2.2, hc1]; rfl⟩, by omega, sub_rb [some 0, some 1] rfl (by simp) (by simp)⟩
    · skip
      skip
      simp at hc0
  · skip
    simp only [List.cons_append, List.nil_append, prune, List.map_cons, List.map_nil, Go.AM.look, Nat.reduceEqDiff, reduceIte]
    refine awp_sr rfl fun K hK => ?_
    simp -dsimp [w1, w2, w3, w4]
    refine hK _ _ ?_; clear hK K
    refine awp_seq_k fun K10 hK10 => ?_
    refine awp_cond rfl (fun hc0 => ?_) (fun hc0 => ?_)
    · skip
      skip
      simp at hc0
    · skip
      skip
      refine awp_exit ?_
      simp only [thenA, inBlockA, reduceIte, Nat.reduceEqDiff, eq_self]
      refine hK1 _ _ ?_
      refine awp_prune [] ?_
      simp only [prune, List.map_cons, List.map_nil, Go.AM.look, Nat.reduceEqDiff, reduceIte]
      refine awp_sr rfl fun K hK => ?_
      simp -dsimp [w1, w2, w3, w4]
      refine hK _ _ ?_; clear hK K
      have hj : jnB j = true := k2
      exact awp_ret (by simp [hj])
end Go.Street
