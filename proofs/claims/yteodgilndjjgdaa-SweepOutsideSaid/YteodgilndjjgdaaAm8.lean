/- The abstract machine, part 8: append is sound. No condition. -/
import Derived.Test.YteodgilndjjgdaaAm7
namespace Go.AM
set_option linter.unusedVariables false
set_option linter.unusedSimpArgs false

section
variable {P : Program} {o : Oper} {ev : Operand → AV} {H : Nat → Option ARow} {N : Nat}

/-- A list of values stands for a list of cells. -/
def VsRep (w : World) (S : Nat → Prop) (ρ : Nat → Option Loc) (L : Nat → Prop) (cs : List AV) (vs : List Value) : Prop :=
  vs.length = cs.length ∧ ∀ (j : Nat) c u, cs[j]? = some c → vs[j]? = some u → u.oneCell' = true ∧ RepV w S ρ L c u

theorem Lies.vs {w : World} {S : Nat → Prop} {ρ : Nat → Option Loc} {L : Nat → Prop} {sz : Nat} {els : List (List AV)} {ad : Option Addr} (h : Lies w S ρ L sz els ad) :
    ∃ vs : List Value, VsRep w S ρ L els.flatten vs ∧ vs.length = els.length * sz ∧ (els.length = 0 ∨ ∃ b o, ad = some ⟨b, o, none⟩ ∧ ∀ (j : Nat) u, vs[j]? = some u → w.cell? ⟨b, o + j, none⟩ = some u) ∧ ∀ u ∈ vs, u.oneCell' = true := by
  obtain ⟨h1, h2⟩ := h
  rcases h2 with rfl | ⟨b, off, vs, rfl, hl, hv, hr⟩
  · exact ⟨[], ⟨rfl, by simp⟩, by simp, Or.inl rfl, by simp⟩
  · refine ⟨vs, ⟨by rw [length_flatten h1, hl], fun j c u hc hu => ⟨(hv j u hu).2, hr j c u hc hu⟩⟩, hl, Or.inr ⟨b, off, rfl, fun j u hu => (hv j u hu).1⟩, fun u hu => ?_⟩
    obtain ⟨j, hj, rfl⟩ := List.getElem_of_mem hu
    exact (hv j _ (List.getElem?_eq_getElem hj)).2

theorem rowrep_app {w' : World} {S' : Nat → Prop} {ρ' : Nat → Option Loc} {L' : Nat → Prop} {sz g off : Nat} {b s : List (List AV)} {olds news : List Value} {c : Array Value} {t : TypeId}
    (hb : ∀ e ∈ b, e.length = sz) (hs : ∀ e ∈ s, e.length = sz) (hold : VsRep w' S' ρ' L' b.flatten olds) (hnew : VsRep w' S' ρ' L' s.flatten news)
    (hheap : w'.heap[g]? = some (.cells c t (0, 0))) (hcells : ∀ (j : Nat) u, (olds ++ news)[j]? = some u → c[off + j]? = some u) (hfit : off + (b.length + s.length) * sz ≤ c.size) :
    RowRep w' S' ρ' L' ⟨some g, off, sz, c.size⟩ (.els sz (b ++ s)) := by
  refine ⟨rfl, ?_, by simp, fun k hk => ?_⟩
  · intro e he
    rcases List.mem_append.1 he with h | h
    · exact hb e h
    · exact hs e h
  · simp only [Option.some.injEq] at hk
    subst hk
    refine ⟨c, t, hheap, rfl, by simpa using hfit, fun j av hj => ?_⟩
    rw [List.flatten_append, List.getElem?_append] at hj
    split at hj
    · rename_i hlt
      have hlt' : j < olds.length := by rw [hold.1]; exact hlt
      obtain ⟨q1, q2⟩ := hold.2 j av _ hj (List.getElem?_eq_getElem hlt')
      exact ⟨_, hcells j _ (by rw [List.getElem?_append_left hlt']; exact List.getElem?_eq_getElem hlt'), q1, q2⟩
    · rename_i hge
      have hlt : j - b.flatten.length < s.flatten.length := (List.getElem?_eq_some_iff.1 hj).1
      have hlt' : j - b.flatten.length < news.length := by rw [hnew.1]; exact hlt
      obtain ⟨q1, q2⟩ := hnew.2 _ av _ hj (List.getElem?_eq_getElem hlt')
      refine ⟨_, hcells j _ ?_, q1, q2⟩
      rw [List.getElem?_append_right (by rw [hold.1]; omega), hold.1]
      exact List.getElem?_eq_getElem hlt'

theorem VsRep.keep {w w' : World} {S S' : Nat → Prop} {ρ ρ' : Nat → Option Loc} {L L' : Nat → Prop} {cs : List AV} {vs : List Value} (h : VsRep w S ρ L cs vs)
    (hk : ∀ x y, RepV w S ρ L x y → RepV w' S' ρ' L' x y) : VsRep w' S' ρ' L' cs vs := ⟨h.1, fun j c u h1 h2 => ⟨(h.2 j c u h1 h2).1, hk _ _ (h.2 j c u h1 h2).2⟩⟩

theorem full_lies {w : World} {S : Nat → Prop} {ρ : Nat → Option Loc} {L : Nat → Prop} {sz : Nat} {els : List (List AV)} {y : Value} (h : RepV w S ρ L (.full sz els) y) :
    ∃ b off, y = .slice (some ⟨b, off, none⟩) els.length els.length ∧ Lies w S ρ L sz els (some ⟨b, off, none⟩) := by
  cases h with
  | pure _ _ h => cases h with
    | full _ _ b0 o0 vs hS hlt hel hl hv hrep =>
      exact ⟨b0, o0, rfl, hel, Or.inr ⟨b0, o0, vs, rfl, by rw [← hl, length_flatten hel], hv, fun j c u h1 h2 => .pure _ _ (hrep j c u h1 h2)⟩⟩

/-- The three ends of an append. -/
theorem ok_append {t ty e : TypeId} {x y : Operand} {sz : Nat} {b s : List (List AV)} {kill : Option Nat} {rd : List Nat} (ho : o.op = .call { callee := .builtin .append, args := #[x, y], argTypes := #[t, t] })
    (ht : tdOf P t = .slice e) (he : (tdOf P e).size = sz) (hsz : sz ≠ 0) (hs : srcEls H sz (ev y) = some (s, rd)) (hb : baseEls H sz s (ev x) = some (b, kill))
    (hbig : (b.length + s.length) * (P.bytesOf e + 1) ≤ 140737488355328) : OpOk P o ev H N (appEff N sz b s kill rd) := by
  obtain ⟨info, q1, q2, _⟩ := tdOf_slice ht
  have hbad : tdOf P e ≠ .bad := by intro h; rw [h] at he; exact hsz he.symm
  intro B S0 a w ρ L hw hN hops hrd K Q hK
  replace hN : ¬ L N := hN ⟨some (.els sz (b ++ s)), by simp [appEff]⟩
  obtain ⟨ie, hie, hie2, hie3⟩ := td_size (P := P) (t := e) (w := w) hbad
  obtain ⟨z, hz⟩ := Option.isSome_iff_exists.1 hie3
  have hzsz : z.cells.size = sz := by
    obtain ⟨z', r1, r2, r3, _⟩ := run_zero (P := P) (t := e) (w := w) hbad
    have : (zeroValue e).run P w = .ok z w := by simp [zeroValue, typeInfo, hie, hz]
    rw [this] at r1
    simp only [Result.ok.injEq] at r1
    obtain ⟨rfl, _⟩ := r1
    rw [← Array.length_toList, r2, r3, he]
  have hbytes : P.bytesOf e = ie.bytes := by simp [Program.bytesOf, hie]
  rw [Nat.mul_add, Nat.mul_one, hbytes] at hbig
  have hx := hops x (by simp [ho, Op.operands, Call.operands])
  have hy := hops y (by simp [ho, Op.operands, Call.operands])
  obtain ⟨ad, cap2, hyv, hlies⟩ := src_is hsz hs hy (fun r hr => hrd r (by simp [appEff, hr]))
  obtain ⟨news, n1, n2, n3, n4⟩ := hlies.vs
  have hexec : ∀ v w', (Builtin.append_ #[t, t] o.type #[a.eval x, a.eval y]).run P w = .ok v w' → (execOp a.eval o).run P w = .ok (.value v) w' := by
    intro v w' h
    simp [execOp, ho, resolve, invoke, builtin, h]
  have hend : ∀ v w' ρ', (Builtin.append_ #[t, t] o.type #[a.eval x, a.eval y]).run P w = .ok v w' → Post B S0 w ρ L N (appEff N sz b s kill rd) w' ρ' v → o.wp P a w K Q := by
    intro v w' ρ' h1 h2
    unfold Oper.wp
    rw [hexec v w' h1]
    exact hK v w' ρ' h2
  -- nothing under it
  have hnil : a.eval x = .slice none 0 0 → b = [] → (∀ r, kill = some r → ∃ l, ρ r = some l) → o.wp P a w K Q := by
    intro hxv hb0 hkill
    subst hb0
    by_cases hs0 : s.length = 0
    · have hsn : s = [] := List.eq_nil_of_length_eq_zero hs0
      subst hsn
      refine hend (.slice none 0 0) w (appρ ρ N ⟨none, 0, sz, 0⟩ kill) ?_ (post_app hw hN hkill (by intro k hk; cases hk) (Ext.refl _ _) ?_)
      · have : (Builtin.firstCells ie.size 0 (.slice ad 0 cap2)).run P w = .ok #[] w := by
          cases ad with
          | none => exact run_firstCells_none (P := P) w _ _ _ _
          | some ad => exact run_firstCells_some (P := P) w _ 0 ad 0 cap2 [] (by simp) (by simp)
        rw [hxv, hyv]
        simp [Builtin.append_, run_underlying q2, sizeOf, typeInfo, hie, Builtin.lenOf, this]
      · rintro ρ' L' rfl rfl hk
        refine ⟨.row _ _ _ _ (Or.inr rfl) rfl (fun l hl => ?_), rfl, by simp, by simp, by intro k hk; cases hk⟩
        simp only [appρ, if_true, Option.some.injEq] at hl
        subst hl
        exact ⟨fun _ => ⟨rfl, rfl, rfl⟩, fun k hk => by cases hk⟩
    · obtain ⟨b2, o2, rfl, n3'⟩ := n3.resolve_left hs0
      have hrun := run_append_nil (P := P) w t o.type e ie z q2 hie hz ⟨b2, o2, none⟩ s.length cap2 news (by rw [n2, hie2, he]) (by intro j u hj; rw [Addr.add_lit]; exact n3' j u hj) (by omega) (by simp at hbig; omega) (by simp at hbig; omega)
      have hC := grownCap_ge w s.length 0 e
      refine hend _ _ (appρ ρ N ⟨some w.heap.size, 0, sz, (news.toArray ++ Builtin.zeroCells z.cells (grownCap w s.length 0 e - s.length)).size⟩ kill) (by rw [hxv, hyv]; exact hrun) (post_app hw hN hkill ?_ ?_ ?_)
      · intro k hk; simp only [Option.some.injEq] at hk; subst hk; left; exact ⟨Nat.le_refl _, by show _ < (w.heap.push _).size; simp⟩
      · exact ⟨rfl, rfl, rfl, by show _ ≤ (w.heap.push _).size; simp, fun k hk _ => by show (w.heap.push _)[k]? = _; rw [Array.getElem?_push, if_neg (by omega)]⟩
      · rintro ρ' L' rfl rfl hk
        have hcsz : (news.toArray ++ Builtin.zeroCells z.cells (grownCap w s.length 0 e - s.length)).size = grownCap w s.length 0 e * sz := by
          rw [Array.size_append, size_zeroCells, hzsz, List.size_toArray, n2, ← Nat.add_mul]; congr 1; omega
        refine ⟨.row _ _ _ _ (Or.inr rfl) rfl (fun l hl => ?_), rowrep_app (olds := []) (news := news) (t := e) (by simp) hlies.1 ⟨rfl, by simp⟩ (n1.keep hk) (by show (w.heap.push _)[w.heap.size]? = _; simp) ?_ ?_⟩
        · simp only [appρ, if_true, Option.some.injEq] at hl
          subst hl
          refine ⟨fun h => (by cases h), fun k hk => ?_⟩
          simp only [Option.some.injEq] at hk; subst hk
          refine ⟨0, grownCap w s.length 0 e, by simp, by simpa using hC, Or.inr ⟨by simp, ?_⟩⟩
          simp only [Nat.zero_add]; rw [hcsz]; exact Nat.le_refl _
        · intro j u hj
          simp only [List.nil_append, Nat.zero_add] at hj ⊢
          have hjl : j < news.length := (List.getElem?_eq_some_iff.1 hj).1
          rw [Array.getElem?_append_left (by simpa using hjl)]; simpa using hj
        · rw [hcsz]; simp only [List.length_nil, Nat.zero_add]; exact Nat.mul_le_mul_right _ hC
  -- what grows
  have hgrow : ∀ (ab : Option Addr) (cap : Nat), a.eval x = .slice ab b.length cap → b.length ≤ cap → Lies w (Sx S0 ρ) ρ L sz b ab → cap < b.length + s.length → (∃ b0 o0, ab = some ⟨b0, o0, none⟩) → (∀ r, kill = some r → ∃ l, ρ r = some l) → o.wp P a w K Q := by
    rintro ab cap hxv hle hlb hcap ⟨b0, o0, rfl⟩ hkill
    obtain ⟨olds, m1, m2, m3, m4⟩ := hlb.vs
    by_cases hs0 : s.length = 0
    · -- nothing is put behind it: there is room
      omega
    · obtain ⟨b2, o2, rfl, n3'⟩ := n3.resolve_left hs0
      have hfit : Builtin.nextslicecap (b.length + s.length) cap * ie.bytes ≤ 281474976710656 := growslice_fits hcap (by omega)
      have hrun := run_append_grow (P := P) w t o.type e ie z q2 hie hz ⟨b0, o0, none⟩ b.length cap olds (by rw [m2, hie2, he]) (by
        intro j u hj
        rw [Addr.add_lit]
        rcases m3 with h0 | ⟨b', o', h', m3'⟩
        · have : olds = [] := List.eq_nil_of_length_eq_zero (by rw [m2, h0]; simp)
          subst this; simp at hj
        · simp only [Option.some.injEq, Addr.mk.injEq] at h'
          obtain ⟨rfl, rfl, _⟩ := h'
          exact m3' j u hj) ⟨b2, o2, none⟩ s.length cap2 news (by rw [n2, hie2, he]) (by intro j u hj; rw [Addr.add_lit]; exact n3' j u hj) hcap (by omega) hfit
      have hC := grownCap_ge w (b.length + s.length) cap e
      refine hend _ _ (appρ ρ N ⟨some w.heap.size, 0, sz, (olds.toArray ++ news.toArray ++ Builtin.zeroCells z.cells (grownCap w (b.length + s.length) cap e - (b.length + s.length))).size⟩ kill) (by rw [hxv, hyv]; exact hrun) (post_app hw hN hkill ?_ ?_ ?_)
      · intro k hk; simp only [Option.some.injEq] at hk; subst hk; left; exact ⟨Nat.le_refl _, by show _ < (w.heap.push _).size; simp⟩
      · exact ⟨rfl, rfl, rfl, by show _ ≤ (w.heap.push _).size; simp, fun k hk _ => by show (w.heap.push _)[k]? = _; rw [Array.getElem?_push, if_neg (by omega)]⟩
      · rintro ρ' L' rfl rfl hk
        have hcsz : (olds.toArray ++ news.toArray ++ Builtin.zeroCells z.cells (grownCap w (b.length + s.length) cap e - (b.length + s.length))).size = grownCap w (b.length + s.length) cap e * sz := by
          rw [Array.size_append, Array.size_append, size_zeroCells, hzsz, List.size_toArray, List.size_toArray, m2, n2, ← Nat.add_mul, ← Nat.add_mul]; congr 1; omega
        refine ⟨.row _ _ _ _ (Or.inr rfl) rfl (fun l hl => ?_), rowrep_app (olds := olds) (news := news) (t := e) hlb.1 hlies.1 (m1.keep hk) (n1.keep hk) (by show (w.heap.push _)[w.heap.size]? = _; simp) ?_ ?_⟩
        · simp only [appρ, if_true, Option.some.injEq] at hl
          subst hl
          refine ⟨fun h => (by cases h), fun k hk => ?_⟩
          simp only [Option.some.injEq] at hk; subst hk
          refine ⟨0, grownCap w (b.length + s.length) cap e, by simp, by simpa using hC, Or.inr ⟨by simp, ?_⟩⟩
          simp only [Nat.zero_add]; rw [hcsz]; exact Nat.le_refl _
        · intro j u hj
          simp only [Nat.zero_add]
          have hjl : j < (olds ++ news).length := (List.getElem?_eq_some_iff.1 hj).1
          rw [Array.getElem?_append_left (by simpa using hjl)]
          simpa using hj
        · rw [hcsz]; simp only [Nat.zero_add]; exact Nat.mul_le_mul_right _ hC
  unfold baseEls at hb
  split at hb
  · rename_i heq
    simp only [Option.some.injEq, Prod.mk.injEq] at hb
    obtain ⟨rfl, rfl⟩ := hb
    rw [heq] at hx
    exact hnil (exact_v hx) rfl (by intro r hr; cases hr)
  · rename_i s' els heq
    split at hb
    · rename_i hc
      obtain ⟨hse, hne⟩ := hc
      replace hse := hse.symm
      subst hse
      simp only [Option.some.injEq, Prod.mk.injEq] at hb
      obtain ⟨rfl, rfl⟩ := hb
      rw [heq] at hx
      have hslen : 0 < s.length := by cases s with | nil => exact absurd rfl hne | cons _ _ => simp
      obtain ⟨b0, o0, hxv, hl⟩ := full_lies hx
      exact hgrow _ _ hxv (Nat.le_refl _) hl (by omega) ⟨b0, o0, rfl⟩ (by intro r hr; cases hr)
    · cases hb
  · rename_i r i n heq
    split at hb
    · rename_i s' es hH
      split at hb
      · rename_i hc
        obtain ⟨hse, hin⟩ := hc
        replace hse := hse.symm
        subst hse
        simp only [Option.some.injEq, Prod.mk.injEq] at hb
        obtain ⟨rfl, rfl⟩ := hb
        obtain ⟨l, hl, hrow⟩ := hrd r (by simp [appEff, killedR]) _ hH
        have hkill : ∀ r', some r = some r' → ∃ l, ρ r' = some l := by rintro r' h; simp only [Option.some.injEq] at h; subst h; exact ⟨l, hl⟩
        have hlen : ((es.drop i).take n).length = n := by rw [List.length_take, List.length_drop, Nat.min_eq_left]; omega
        rw [heq] at hx
        cases hx with
        | pure _ _ h => cases h
        | row _ _ _ yv g1 g2 g3 =>
          obtain ⟨g4, g5⟩ := g3 l hl
          cases hlb : l.b with
          | none =>
            obtain ⟨hxv, rfl, rfl⟩ := g4 hlb
            exact hnil hxv (by simp) hkill
          | some g =>
            obtain ⟨off, cap, hxv, hcap, hoff⟩ := g5 g hlb
            have hlies' := row_lies hrow hsz hin hlb
            by_cases hroom : n + s.length ≤ cap
            · -- in place
              obtain ⟨h1, h2, h3, h4⟩ := hrow
              obtain ⟨cur, ct, k1, k2, k3, k4⟩ := h4 g hlb
              by_cases hc0 : cap = 0
              · have hn0 : n = 0 := by omega
                have hs0 : s.length = 0 := by omega
                have hsn : s = [] := List.eq_nil_of_length_eq_zero hs0
                subst hsn; subst hn0; subst hc0
                refine hend (.slice (some ⟨g, off, none⟩) 0 0) w (appρ ρ N ⟨some g, l.o, sz, l.m⟩ (some r)) ?_ (post_app hw hN hkill ?_ (Ext.refl _ _) ?_)
                · have : (Builtin.firstCells ie.size 0 (.slice ad 0 cap2)).run P w = .ok #[] w := by
                    cases ad with
                    | none => exact run_firstCells_none (P := P) w _ _ _ _
                    | some ad => exact run_firstCells_some (P := P) w _ 0 ad 0 cap2 [] (by simp) (by simp)
                  rw [hxv, hyv]
                  simp [Builtin.append_, run_underlying q2, sizeOf, typeInfo, hie, Builtin.lenOf, this, storeCells]
                · intro k hk; simp only [Option.some.injEq] at hk; subst hk; exact Or.inr ⟨r, l, rfl, hl, hlb⟩
                · rintro ρ' L' rfl rfl hk
                  refine ⟨.row _ _ _ _ (Or.inr rfl) rfl (fun l' hl' => ?_), rfl, by simp, by simp, ?_⟩
                  · simp only [appρ, if_true, Option.some.injEq] at hl'
                    subst hl'
                    refine ⟨fun h => (by cases h), fun k hk => ?_⟩
                    simp only [Option.some.injEq] at hk; subst hk
                    exact ⟨off, 0, by simp, by simp, Or.inl rfl⟩
                  · intro k hk; simp only [Option.some.injEq] at hk; subst hk
                    exact ⟨cur, ct, k1, k2, by simp; omega, by simp⟩
              · obtain ⟨rfl, hoff2⟩ := hoff.resolve_left hc0
                obtain ⟨olds, m1, m2, m3, m4⟩ := hlies'.vs
                rw [hlen] at m2
                have hmul : (i + cap) * sz = i * sz + cap * sz := Nat.add_mul _ _ _
                have hmul2 : (n + s.length) * sz ≤ cap * sz := Nat.mul_le_mul_right _ hroom
                have hmul3 : (n + s.length) * sz = n * sz + s.length * sz := Nat.add_mul _ _ _
                rw [h1] at hoff2
                have hfit : l.o + i * sz + n * sz + news.length ≤ cur.size := by rw [n2]; omega
                have hrun := run_append_place (P := P) (w := w) (t := t) (ty := o.type) (a := ad) (c := cap2) q2 hbad he k1 (by rw [n2]) (by
                  rcases n3 with h0 | h0
                  · exact Or.inl h0
                  · exact Or.inr h0) n4 hroom hfit
                have hsize : (cur.toList.take (l.o + i * sz + n * sz) ++ news ++ cur.toList.drop (l.o + i * sz + n * sz + news.length)).toArray.size = cur.size := by
                  simp only [List.size_toArray, List.length_append, List.length_take, List.length_drop, Array.length_toList]; omega
                refine hend _ _ (appρ ρ N ⟨some g, l.o + i * sz, sz, (cur.toList.take (l.o + i * sz + n * sz) ++ news ++ cur.toList.drop (l.o + i * sz + n * sz + news.length)).toArray.size⟩ (some r)) (by rw [hxv, hyv, h1]; exact hrun) (post_app hw hN hkill ?_ ?_ ?_)
                · intro k hk; simp only [Option.some.injEq] at hk; subst hk; exact Or.inr ⟨r, l, rfl, hl, hlb⟩
                · refine ⟨rfl, rfl, rfl, by simp [World.setRow], fun k hk hm => ?_⟩
                  simp only [World.setRow, Array.getElem?_modify]
                  rw [if_neg]
                  rintro rfl
                  exact hm ⟨r, l, rfl, hl, hlb⟩
                · rintro ρ' L' rfl rfl hk
                  refine ⟨.row _ _ _ _ (Or.inr rfl) rfl (fun l' hl' => ?_), rowrep_app (olds := olds) (news := news) (t := ct) hlies'.1 hlies.1 (m1.keep hk) (n1.keep hk) (setRow_heap w g cur _ ct (0, 0) k1) ?_ ?_⟩
                  · simp only [appρ, if_true, Option.some.injEq] at hl'
                    subst hl'
                    refine ⟨fun h => (by cases h), fun k hk => ?_⟩
                    simp only [Option.some.injEq] at hk; subst hk
                    refine ⟨_, cap, by rw [hlen], by rw [hlen]; exact hroom, Or.inr ⟨by simp, ?_⟩⟩
                    rw [hsize]; simp only [Nat.zero_add]; omega
                  · intro j u hj
                    rw [List.getElem?_append] at hj
                    have hbig' : l.o + i * sz + n * sz ≤ cur.toList.length := by simp; omega
                    simp only [List.getElem?_toArray]
                    rw [List.append_assoc, List.getElem?_append, List.length_take, Nat.min_eq_left hbig']
                    split at hj
                    · rename_i hjl
                      rw [m2] at hjl
                      rw [if_pos (by omega), List.getElem?_take, if_pos (by omega)]
                      rcases m3 with h0 | ⟨b', o', h', m3'⟩
                      · rw [hlen] at h0; subst h0; simp at hjl
                      · simp only [Option.some.injEq, Addr.mk.injEq] at h'
                        obtain ⟨rfl, rfl, _⟩ := h'
                        have := m3' j u hj
                        simp only [World.cell?, k1, Option.isSome_none, Bool.false_eq_true, if_false] at this
                        rw [Array.getElem?_toList]; exact this
                    · rename_i hjl
                      rw [m2] at hjl hj
                      rw [if_neg (by omega), List.getElem?_append_left (by have := (List.getElem?_eq_some_iff.1 hj).1; omega)]
                      rw [show l.o + i * sz + j - (l.o + i * sz + n * sz) = j - n * sz by omega]; exact hj
                  · rw [hsize, hlen]; omega
            · -- it grows
              by_cases hn0 : n = 0
              · -- an empty slice with no room: its address does not matter
                subst hn0
                refine hgrow (some ⟨g, off, none⟩) cap (by rw [hlen]; exact hxv) (by rw [hlen]; exact hcap) ⟨by simp, Or.inl (by simp)⟩ (by rw [hlen]; omega) ⟨g, off, rfl⟩ hkill
              · obtain ⟨rfl, _⟩ := hoff.resolve_left (by omega)
                refine hgrow (some ⟨g, l.o + i * l.sz, none⟩) cap (by rw [hlen]; exact hxv) (by rw [hlen]; exact hcap) (by rw [hrow.1]; exact hlies') (by rw [hlen]; omega) ⟨g, _, rfl⟩ hkill
      · cases hb
    · cases hb
  · cases hb


/-- Nothing onto a literal: it stays as it is. -/
theorem ok_append_same {t ty e : TypeId} {x y : Operand} {sz : Nat} {els : List (List AV)} {rd : List Nat} (ho : o.op = .call { callee := .builtin .append, args := #[x, y], argTypes := #[t, t] })
    (ht : tdOf P t = .slice e) (he : (tdOf P e).size = sz) (hsz : sz ≠ 0) (hs : srcEls H sz (ev y) = some ([], rd)) (hx : ev x = .full sz els) : OpOk P o ev H N ⟨.full sz els, [], rd⟩ := by
  obtain ⟨info, q1, q2, _⟩ := tdOf_slice ht
  have hbad : tdOf P e ≠ .bad := by intro h; rw [h] at he; exact hsz he.symm
  refine OpOk.of_pure fun B S0 a w ρ L hw hops hrd => ?_
  obtain ⟨ie, hie, hie2, hie3⟩ := td_size (P := P) (t := e) (w := w) hbad
  have hxr := hops x (by simp [ho, Op.operands, Call.operands])
  have hyr := hops y (by simp [ho, Op.operands, Call.operands])
  rw [hx] at hxr
  obtain ⟨ad, cap2, hyv, hlies⟩ := src_is hsz hs hyr hrd
  obtain ⟨b, off, hxv, _⟩ := full_lies hxr
  refine ⟨a.eval x, Or.inl ?_, hxr⟩
  have hf : (Builtin.firstCells ie.size 0 (.slice ad 0 cap2)).run P w = .ok #[] w := by
    cases ad with
    | none => exact run_firstCells_none (P := P) w _ _ _ _
    | some ad => exact run_firstCells_some (P := P) w _ 0 ad 0 cap2 [] (by simp) (by simp)
  have hrun : (Builtin.append_ #[t, t] o.type #[a.eval x, a.eval y]).run P w = .ok (a.eval x) w := by
    rw [hxv, hyv]
    simp [Builtin.append_, run_underlying q2, sizeOf, typeInfo, hie, Builtin.lenOf, hf, storeCells]
  simp [execOp, ho, resolve, invoke, builtin, hrun]
end
end Go.AM
