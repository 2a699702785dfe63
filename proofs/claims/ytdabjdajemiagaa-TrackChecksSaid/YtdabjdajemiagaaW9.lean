/- Walks: the track's check of a plan. -/
import Derived.Test.YtdabjdajemiagaaW7
namespace Go.Tram
open Go.AM Go.Proofs
set_option maxRecDepth 10000
set_option maxHeartbeats 4000000
set_option linter.unusedVariables false
set_option linter.unusedSimpArgs false

def keyOf (e : REnd) : List KC := [.i .i64 e.Rail, .b e.Last]
theorem keyOf_inj {a b : REnd} : keyOf a = keyOf b ↔ a = b := by
  cases a; cases b; simp [keyOf]
def seenK (l : List (Nat × REnd)) : List (List KC × Value) := l.map fun x => (keyOf x.2, Value.bool true)
theorem kvGet_seen (e : REnd) : ∀ l : List (Nat × REnd), kvGet (seenK l) [.i .i64 e.Rail, .b e.Last] = if e ∈ l.map (·.2) then some (.bool true) else none
  | [] => by simp [seenK, kvGet]
  | x :: l => by
    have ih := kvGet_seen e l
    have hk : ([.i .i64 e.Rail, .b e.Last] : List KC) = keyOf x.2 ↔ e = x.2 := keyOf_inj (a := e)
    simp only [seenK, List.map_cons, kvGet, List.mem_cons] at ih ⊢
    by_cases h : e = x.2
    · rw [if_pos (hk.2 h), if_pos (Or.inl h)]
    · rw [if_neg (fun q => h (hk.1 q)), ih]; simp only [h, false_or]
theorem kvSet_seen {e : REnd} {i : Nat} : ∀ {l : List (Nat × REnd)}, e ∉ l.map (·.2) → kvSet (seenK l) [.i .i64 e.Rail, .b e.Last] (.bool true) = seenK (l ++ [(i, e)])
  | [], _ => by simp [seenK, kvSet, keyOf]
  | x :: l, h => by
    simp only [List.map_cons, List.mem_cons, not_or] at h
    have ih := kvSet_seen (i := i) h.2
    have hk : ([.i .i64 e.Rail, .b e.Last] : List KC) = keyOf x.2 ↔ e = x.2 := keyOf_inj (a := e)
    simp only [seenK, List.map_cons, kvSet, List.cons_append] at ih ⊢
    rw [if_neg (fun q => h.1 (hk.1 q)), ih]

theorem c_Check (p : Plan) : PureCall Try.prog 9 [p.av] (I (if validB p then 0 else 2)) := by
  refine PureCall.of_body Try.func9 rfl (by decide) (by simp [Try.ntmps9]) ?_
  simp only [Try.ntmps9, Try.results9]
  refine awp_sr rfl fun K hK => ?_
  simp -dsimp
  refine hK _ _ ?_; clear hK K
  refine awp_seq_k fun K1 hK1 => ?_
  refine awp_sr rfl fun K hK => ?_
  simp -dsimp
  refine callK_intro _ (c_within _ _ _) (by simp) ?_
  simp -dsimp
  refine callK_may _ (fun hm => c_within _ _ _) (by simp) ?_
  simp -dsimp
  refine hK _ _ ?_; clear hK K
  refine awp_cond rfl (fun hc0 => ?_) (fun hc0 => ?_)
  · skip
    try simp at hc0
    have hv : validB p = false := by simp [validB, validA]; intro h1 h2; simp_all
    refine awp_sr rfl fun K hK => ?_
    simp -dsimp
    refine hK _ _ ?_; clear hK K
    exact awp_ret (by simp [hv])
  · skip
    try simp at hc0
    have hN := inr_iff.1 hc0.1
    have hR := inr_iff.1 hc0.2
    refine awp_skip ?_
    simp only [thenA, inBlockA, reduceIte, Nat.reduceEqDiff, eq_self]
    refine hK1 _ _ ?_
    refine awp_prune [1] ?_
    simp only [prune, List.map_cons, List.map_nil, Go.AM.look, Nat.reduceEqDiff, reduceIte]
    refine awp_seq_k fun K2 hK2 => ?_
    refine awp_sr rfl fun K hK => ?_
    simp -dsimp
    refine callK_intro _ (c_Cont_Node p.Nodes 31 [] (fun n => !nodeB n) (fun n _ => c_Check1 n) (by omega)) (by simp) ?_
    simp -dsimp
    refine callK_may _ (fun hm => c_Cont_Rail p.Rails 34 [p.cells] (fun r => !railB p r) (fun r _ => c_Check2 p r (by simp at hm; exact List.all_eq_true.2 hm) (by omega)) (by omega)) (by simp) ?_
    simp -dsimp
    refine hK _ _ ?_; clear hK K
    refine awp_cond rfl (fun hc1 => ?_) (fun hc1 => ?_)
    · skip
      skip
      have hv : validB p = false := by
        cases hq : validB p with
        | false => rfl
        | true =>
          obtain ⟨_, _, hA, hB, _⟩ := valid_parts hq
          rw [List.all_eq_true] at hA hB
          have e1 : (p.Nodes.any fun n => !nodeB n) = false := by rw [List.any_eq_false]; intro x hx; simp [hA x hx]
          have e2 : (p.Rails.any fun r => !railB p r) = false := by rw [List.any_eq_false]; intro x hx; simp [hB x hx]
          simp [e1, e2] at hc1
      refine awp_sr rfl fun K hK => ?_
      simp -dsimp
      refine hK _ _ ?_; clear hK K
      exact awp_ret (by simp [hv])
    · skip
      skip
      have hA : p.Nodes.all nodeB = true := by simp at hc1; exact List.all_eq_true.2 hc1.1
      have hB : p.Rails.all (railB p) = true := by simp at hc1; exact List.all_eq_true.2 hc1.2
      refine awp_skip ?_
      simp only [thenA, inBlockA, reduceIte, Nat.reduceEqDiff, eq_self]
      refine hK2 _ _ ?_
      refine awp_prune [1] ?_
      simp only [prune, List.map_cons, List.map_nil, Go.AM.look, Nat.reduceEqDiff, reduceIte]
      refine awp_sr rfl fun K hK => ?_
      simp -dsimp
      refine hK _ _ ?_; clear hK K
      refine awp_seq_k fun K3 hK3 => ?_
      refine awp_sr rfl fun K hK => ?_
      simp -dsimp
      refine hK _ _ ?_; clear hK K
      refine awp_block ?_
      refine awp_prune [1, 3, 31, 32, 33] ?_
      simp only [prune, List.map_cons, List.map_nil, Go.AM.look, Nat.reduceEqDiff, reduceIte]
      refine awp_loop_l [1, 3, 31, 32] (α := Nat) (fun i => [(33, I i)]) (fun i => [some (.els 2 [p.cells]), some (.map true [.i .i64, .b] (seenK (endsOf p i)))]) (fun i => i ≤ p.Nodes.length ∧ (endsOf p i).all (endB p) = true ∧ ((endsOf p i).map (·.2)).Nodup) (fun i => p.Nodes.length - i) 0 ?_ ?_ ?_
      · simp [endsOf]
      · exact sub_same (by simp [endsOf, seenK])
      rintro i ⟨i1, i2, i3⟩
      simp only [List.cons_append, List.nil_append, prune, List.map_cons, List.map_nil, Go.AM.look, Nat.reduceEqDiff, reduceIte]
      refine awp_sr rfl fun K hK => ?_
      simp -dsimp
      refine hK _ _ ?_; clear hK K
      refine awp_seq_k fun K4 hK4 => ?_
      refine awp_cond rfl (fun hc2 => ?_) (fun hc2 => ?_)
      · skip
        try simp at hc2
        have n0 := p.node_get (i := (i : Int)) (by omega) (by omega)
        simp only [Int.toNat_natCast] at n0
        have wi : IntKind.i64.wrap ((i : Int) + 1) = (i : Int) + 1 := wrap_in (by omega) (by omega)
        have wr : IntKind.i64.wrap ((p.Rails.length : Int) - 1) = (p.Rails.length : Int) - 1 := wrap_in (by omega) (by omega)
        have hle := nodeB_len (node_ends hA (i := (i : Int)) (by omega) (by omega))
        refine awp_skip ?_
        simp only [thenA, inBlockA, reduceIte, Nat.reduceEqDiff, eq_self]
        refine hK4 _ _ ?_
        refine awp_prune [1, 3, 31, 32, 33] ?_
        simp only [prune, List.map_cons, List.map_nil, Go.AM.look, Nat.reduceEqDiff, reduceIte]
        refine awp_seq_k fun K5 hK5 => ?_
        refine awp_block ?_
        refine awp_sr rfl fun K hK => ?_
        simp -dsimp [n0]
        refine hK _ _ ?_; clear hK K
        refine awp_sr rfl fun K hK => ?_
        simp -dsimp
        refine hK _ _ ?_; clear hK K
        refine awp_block ?_
        refine awp_prune [1, 3, 4, 31, 32, 33, 39, 40, 41] ?_
        simp only [prune, List.map_cons, List.map_nil, Go.AM.look, Nat.reduceEqDiff, reduceIte]
        refine awp_loop_l [1, 3, 4, 31, 32, 33, 39, 40] (α := Nat) (fun j => [(41, I j)]) (fun j => [some (.els 2 [p.cells]), some (.map true [.i .i64, .b] (seenK (curE p i j)))]) (fun j => j ≤ (p.node i).Ends.length ∧ (curE p i j).all (endB p) = true ∧ ((curE p i j).map (·.2)).Nodup) (fun j => (p.node i).Ends.length - j) 0 ?_ ?_ ?_
        · rw [curE_zero]; exact ⟨by omega, i2, i3⟩
        · simp only [curE_zero]
          exact sub_rb [some 0, some 1] rfl (by simp) (by simp)
        rintro j ⟨j1, j2, j3⟩
        simp only [List.cons_append, List.nil_append, prune, List.map_cons, List.map_nil, Go.AM.look, Nat.reduceEqDiff, reduceIte]
        refine awp_sr rfl fun K hK => ?_
        simp -dsimp
        refine hK _ _ ?_; clear hK K
        refine awp_seq_k fun K6 hK6 => ?_
        refine awp_cond rfl (fun hc3 => ?_) (fun hc3 => ?_)
        · skip
          try simp at hc3
          obtain ⟨e, he⟩ : ∃ e, (p.node i).Ends[j]? = some e := ⟨_, List.getElem?_eq_getElem hc3⟩
          have wj : IntKind.i64.wrap ((j : Int) + 1) = (j : Int) + 1 := wrap_in (by omega) (by omega)
          refine awp_skip ?_
          simp only [thenA, inBlockA, reduceIte, Nat.reduceEqDiff, eq_self]
          refine hK6 _ _ ?_
          refine awp_prune [1, 3, 4, 31, 32, 33, 39, 40, 41] ?_
          simp only [prune, List.map_cons, List.map_nil, Go.AM.look, Nat.reduceEqDiff, reduceIte]
          refine awp_seq_k fun K7 hK7 => ?_
          refine awp_block ?_
          refine awp_sr rfl fun K hK => ?_
          simp -dsimp [he]
          refine hK _ _ ?_; clear hK K
          refine awp_seq_k fun K8 hK8 => ?_
          refine awp_sr rfl fun K hK => ?_
          simp -dsimp [wr]
          refine callK_intro _ (c_within _ _ _) (by simp) ?_
          simp -dsimp [wr]
          refine valK_intro (Bo (decide (e ∈ (curE p i j).map (·.2)))) (fun hm => by rw [kvGet_seen]; split <;> simp_all) ?_
          simp -dsimp [wr]
          refine callK_may _ (fun hm => c_ending p e (by simp [inr_iff] at hm; omega) (by simp [inr_iff] at hm; omega)) (by simp) ?_
          simp -dsimp [wr]
          refine hK _ _ ?_; clear hK K
          refine awp_cond rfl (fun hc4 => ?_) (fun hc4 => ?_)
          · skip
            skip
            have hv : validB p = false := by
              by_cases hb : endB p (i, e) = true
              · have hb' := hb
                simp only [endB, Bool.and_eq_true, decide_eq_true_eq] at hb'
                simp [hb'.1, hb'.2] at hc4
                obtain ⟨a, ha⟩ := hc4
                obtain ⟨m, hm⟩ := List.getElem?_of_mem ha
                exact valid_ff_dup hc2 he hm rfl
              · exact valid_ff_end hc2 he (by simpa using hb)
            refine awp_sr rfl fun K hK => ?_
            simp -dsimp
            refine hK _ _ ?_; clear hK K
            exact awp_ret (by simp [hv])
          · skip
            skip
            have hc4' : inr e.Rail 0 (p.Rails.length - 1) = true ∧ e ∉ (curE p i j).map (·.2) ∧ p.at e = (i : Int) := by simp at hc4; simp; grind
            obtain ⟨q1, q2, q3⟩ := hc4'
            have hset := kvSet_seen (i := i) q2
            refine awp_skip ?_
            simp only [thenA, inBlockA, reduceIte, Nat.reduceEqDiff, eq_self]
            refine hK8 _ _ ?_
            refine awp_prune [1, 3, 4, 7, 31, 32, 33, 39, 40, 41] ?_
            simp only [prune, List.map_cons, List.map_nil, Go.AM.look, Nat.reduceEqDiff, reduceIte]
            refine awp_r rfl fun K hK => ?_
            simp -dsimp [hset]
            refine hK _ _ ?_; clear hK K
            simp only [thenA, inBlockA, reduceIte, Nat.reduceEqDiff, eq_self]
            refine hK7 _ _ ?_
            refine awp_prune [1, 3, 4, 31, 32, 33, 39, 40, 41] ?_
            simp only [prune, List.map_cons, List.map_nil, Go.AM.look, Nat.reduceEqDiff, reduceIte]
            refine awp_r rfl fun K hK => ?_
            simp -dsimp [wj]
            refine hK _ _ ?_; clear hK K
            simp only [thenA, inBlockA, reduceIte, Nat.reduceEqDiff, eq_self]
            refine ⟨j + 1, ⟨by omega, ?_, ?_⟩, by omega, sub_rb [some 0, some 1] rfl (by simp) (by simp [curE_succ he])⟩
            · rw [curE_succ he, List.all_append, j2]; simp [endB, q1, q3]
            · rw [curE_succ he, List.map_append, List.nodup_append]
              refine ⟨j3, by simp, ?_⟩
              intro a ha b hb
              simp only [List.map_cons, List.map_nil, List.mem_singleton] at hb
              subst hb
              intro hab
              exact q2 (hab ▸ ha)
        · skip
          try simp at hc3
          have hce := curE_all (p := p) (i := i) (j := j) (by omega)
          refine awp_exit ?_
          simp only [thenA, inBlockA, reduceIte, Nat.reduceEqDiff, eq_self]
          refine hK5 _ _ ?_
          refine awp_prune [1, 3, 31, 32, 33] ?_
          simp only [prune, List.map_cons, List.map_nil, Go.AM.look, Nat.reduceEqDiff, reduceIte]
          refine awp_r rfl fun K hK => ?_
          simp -dsimp [wi]
          refine hK _ _ ?_; clear hK K
          simp only [thenA, inBlockA, reduceIte, Nat.reduceEqDiff, eq_self]
          exact ⟨i + 1, ⟨by omega, by rw [← hce]; exact j2, by rw [← hce]; exact j3⟩, by omega, by simp only [← hce]; exact sub_same (by simp)⟩
      · skip
        try simp at hc2
        have hii : i = p.Nodes.length := by omega
        subst hii
        have hle := endsOf_len hA p.Nodes.length (Nat.le_refl _)
        have w2 : IntKind.i64.wrap (2 * (p.Rails.length : Int)) = 2 * (p.Rails.length : Int) := wrap_in (by omega) (by omega)
        have hsl : (seenK (endsOf p p.Nodes.length)).length = (endsOf p p.Nodes.length).length := by simp [seenK]
        refine awp_exit ?_
        simp only [thenA, inBlockA, reduceIte, Nat.reduceEqDiff, eq_self]
        refine hK3 _ _ ?_
        refine awp_prune [1, 3] ?_
        simp only [prune, List.map_cons, List.map_nil, Go.AM.look, Nat.reduceEqDiff, reduceIte]
        refine awp_seq_k fun K9 hK9 => ?_
        refine awp_sr rfl fun K hK => ?_
        simp -dsimp [w2, hsl]
        refine hK _ _ ?_; clear hK K
        refine awp_cond rfl (fun hc5 => ?_) (fun hc5 => ?_)
        · skip
          have hv : validB p = decide ((endsOf p p.Nodes.length).length = 2 * p.Rails.length) := by simp [validB, validA, validE, hc0, hA, hB, i2, i3]
          try simp at hc5
          refine awp_sr rfl fun K hK => ?_
          simp -dsimp
          refine hK _ _ ?_; clear hK K
          exact awp_ret (by simp [hv]; omega)
        · skip
          have hv : validB p = decide ((endsOf p p.Nodes.length).length = 2 * p.Rails.length) := by simp [validB, validA, validE, hc0, hA, hB, i2, i3]
          try simp at hc5
          refine awp_skip ?_
          simp only [thenA, inBlockA, reduceIte, Nat.reduceEqDiff, eq_self]
          refine hK9 _ _ ?_
          refine awp_prune [] ?_
          simp only [prune, List.map_cons, List.map_nil, Go.AM.look, Nat.reduceEqDiff, reduceIte]
          refine awp_sr rfl fun K hK => ?_
          simp -dsimp
          refine hK _ _ ?_; clear hK K
          exact awp_ret (by simp [hv]; omega)
end Go.Tram
