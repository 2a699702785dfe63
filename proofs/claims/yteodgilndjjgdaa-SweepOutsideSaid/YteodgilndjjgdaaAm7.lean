/- The abstract machine, part 7: append. No condition. -/
import Derived.Test.YteodgilndjjgdaaAm6
namespace Go.AM
set_option linter.unusedVariables false
set_option linter.unusedSimpArgs false

/-- The elements that an append takes over: those of a value, and the rows that are read for them. -/
def srcEls (H : Nat → Option ARow) (sz : Nat) : AV → Option (List (List AV) × List Nat)
  | .lst s els => if s = sz then some (els, []) else none
  | .full s els => if s = sz then some (els, []) else none
  | .v (.slice none 0 0) => some ([], [])
  | .row r i n => match H r with
    | some (.els s es) => if s = sz ∧ i + n ≤ es.length then some ((es.drop i).take n, [r]) else none
    | _ => none
  | _ => none

/-- What an append goes onto: its elements, and the row that is gone behind it. -/
def baseEls (H : Nat → Option ARow) (sz : Nat) (src : List (List AV)) : AV → Option (List (List AV) × Option Nat)
  | .v (.slice none 0 0) => some ([], none)
  | .full s els => if s = sz ∧ src ≠ [] then some (els, none) else none
  | .row r i n => match H r with
    | some (.els s es) => if s = sz ∧ i + n ≤ es.length then some ((es.drop i).take n, some r) else none
    | _ => none
  | _ => none

def killed : Option Nat → List (Nat × Option ARow)
  | some r => [(r, none)]
  | none => []

def killedR : Option Nat → List Nat
  | some r => [r]
  | none => []

/-- The places behind an append. -/
def appρ (ρ : Nat → Option Loc) (N : Nat) (l : Loc) (kill : Option Nat) : Nat → Option Loc := fun x => if x = N then some l else if kill = some x then none else ρ x

theorem drop_take_flatten {α : Type} {es : List (List α)} {sz : Nat} (hsz : ∀ e ∈ es, e.length = sz) (hpos : sz ≠ 0) {i n : Nat} (hin : i + n ≤ es.length) {j : Nat} (hj : j < n * sz) :
    ((es.drop i).take n).flatten[j]? = es.flatten[i * sz + j]? := by
  have hsz' : 0 < sz := by omega
  have hdm := Nat.div_add_mod j sz
  have hmod := Nat.mod_lt j hsz'
  have hdiv : j / sz < n := by rw [Nat.div_lt_iff_lt_mul hsz']; exact hj
  have hsub : ∀ e ∈ (es.drop i).take n, e.length = sz := fun e he => hsz e (List.mem_of_mem_drop (List.mem_of_mem_take he))
  have hget : ((es.drop i).take n)[j / sz]? = es[i + j / sz]? := by rw [List.getElem?_take, if_pos hdiv, List.getElem?_drop]
  have he := List.getElem?_eq_getElem (l := es) (i := i + j / sz) (by omega)
  have f1 := flatten_get hsub (hget.trans he) (j % sz) hmod
  have f2 := flatten_get hsz he (j % sz) hmod
  rw [show j / sz * sz + j % sz = j by rw [Nat.mul_comm]; exact hdm] at f1
  rw [show (i + j / sz) * sz + j % sz = i * sz + j by rw [Nat.add_mul, Nat.add_assoc, Nat.mul_comm (j / sz), hdm]] at f2
  rw [f1, f2]

section
variable {P : Program} {o : Oper} {ev : Operand → AV} {H : Nat → Option ARow} {N : Nat}

/-- A slice's cells as they lie in the world. -/
def Lies (w : World) (S : Nat → Prop) (ρ : Nat → Option Loc) (L : Nat → Prop) (sz : Nat) (els : List (List AV)) (ad : Option Addr) : Prop :=
  (∀ e ∈ els, e.length = sz) ∧ (els = [] ∨ ∃ (b off : Nat) (vs : List Value), ad = some ⟨b, off, none⟩ ∧ vs.length = els.length * sz ∧
    (∀ (j : Nat) u, vs[j]? = some u → w.cell? ⟨b, off + j, none⟩ = some u ∧ u.oneCell' = true) ∧ ∀ (j : Nat) c u, els.flatten[j]? = some c → vs[j]? = some u → RepV w S ρ L c u)

theorem row_lies {w : World} {S : Nat → Prop} {ρ : Nat → Option Loc} {L : Nat → Prop} {l : Loc} {sz : Nat} {es : List (List AV)} (h : RowRep w S ρ L l (.els sz es)) (hsz : sz ≠ 0) {i n : Nat} (hin : i + n ≤ es.length)
    {b : Nat} (hb : l.b = some b) : Lies w S ρ L sz ((es.drop i).take n) (some ⟨b, l.o + i * sz, none⟩) := by
  obtain ⟨h1, h2, h3, h4⟩ := h
  obtain ⟨c, t, k1, k2, k3, k4⟩ := h4 b hb
  have hle : (i + n) * sz ≤ es.length * sz := Nat.mul_le_mul_right _ hin
  rw [Nat.add_mul] at hle
  have hlen : ((es.drop i).take n).length = n := by rw [List.length_take, List.length_drop, Nat.min_eq_left]; omega
  refine ⟨fun e he => h2 e (List.mem_of_mem_drop (List.mem_of_mem_take he)), Or.inr ⟨b, l.o + i * sz, (c.toList.drop (l.o + i * sz)).take (n * sz), rfl, ?_, ?_, ?_⟩⟩
  · rw [hlen, List.length_take, List.length_drop, Array.length_toList, Nat.min_eq_left]; omega
  · intro j u hj
    rw [List.getElem?_take] at hj
    split at hj
    · rename_i hjn
      rw [List.getElem?_drop] at hj
      have hfl : i * sz + j < es.flatten.length := by rw [length_flatten h2]; omega
      obtain ⟨x, q1, q2, q3⟩ := k4 (i * sz + j) _ (List.getElem?_eq_getElem hfl)
      rw [← Nat.add_assoc] at q1
      have hju : c[l.o + i * sz + j]? = some u := by simpa using hj
      rw [hju] at q1
      simp only [Option.some.injEq] at q1
      subst q1
      exact ⟨by simp [World.cell?, k1, hju], q2⟩
    · cases hj
  · intro j av u hj hu
    rw [List.getElem?_take] at hu
    split at hu
    · rename_i hjn
      rw [List.getElem?_drop] at hu
      rw [drop_take_flatten h2 hsz hin hjn] at hj
      obtain ⟨x, q1, q2, q3⟩ := k4 _ av hj
      rw [← Nat.add_assoc] at q1
      have hju : c[l.o + i * sz + j]? = some u := by simpa using hu
      rw [hju] at q1
      simp only [Option.some.injEq] at q1
      subst q1
      exact q3
    · cases hu

theorem lst_lies {w : World} {S : Nat → Prop} {ρ : Nat → Option Loc} {L : Nat → Prop} {sz : Nat} {els : List (List AV)} {x : AV} {y : Value} (hx : x = .lst sz els ∨ x = .full sz els) (h : RepV w S ρ L x y) :
    ∃ ad cap, y = .slice ad els.length cap ∧ Lies w S ρ L sz els ad := by
  obtain ⟨ad, cap, hy, hcap, hrest⟩ := lst_parts hx h
  refine ⟨ad, cap, hy, ?_⟩
  rcases hrest with rfl | ⟨b, off, vs, rfl, hS, hb, hall, hl, hv, hrep⟩
  · exact ⟨by simp, Or.inl rfl⟩
  · exact ⟨hall, Or.inr ⟨b, off, vs, rfl, by rw [← hl, length_flatten hall], hv, fun j c u h1 h2 => .pure _ _ (hrep j c u h1 h2)⟩⟩

theorem src_is {w : World} {S : Nat → Prop} {ρ : Nat → Option Loc} {L : Nat → Prop} {sz : Nat} (hsz : sz ≠ 0) {x : AV} {y : Value} {els : List (List AV)} {rd : List Nat} (hs : srcEls H sz x = some (els, rd)) (h : RepV w S ρ L x y)
    (hrd : ∀ r ∈ rd, ∀ row, H r = some row → ∃ l, ρ r = some l ∧ RowRep w S ρ L l row) : ∃ ad cap, y = .slice ad els.length cap ∧ Lies w S ρ L sz els ad := by
  unfold srcEls at hs
  split at hs
  · split at hs
    · rename_i e; subst e
      simp only [Option.some.injEq, Prod.mk.injEq] at hs
      obtain ⟨rfl, rfl⟩ := hs
      exact lst_lies (Or.inl rfl) h
    · cases hs
  · split at hs
    · rename_i e; subst e
      simp only [Option.some.injEq, Prod.mk.injEq] at hs
      obtain ⟨rfl, rfl⟩ := hs
      exact lst_lies (Or.inr rfl) h
    · cases hs
  · simp only [Option.some.injEq, Prod.mk.injEq] at hs
    obtain ⟨rfl, rfl⟩ := hs
    exact ⟨none, 0, exact_v h, by simp, Or.inl rfl⟩
  · rename_i r i n
    split at hs
    · rename_i s es hH
      split at hs
      · rename_i hc
        obtain ⟨rfl, hin⟩ := hc
        simp only [Option.some.injEq, Prod.mk.injEq] at hs
        obtain ⟨rfl, rfl⟩ := hs
        obtain ⟨l, hl, hrow⟩ := hrd r (by simp) _ hH
        have hlen : ((es.drop i).take n).length = n := by rw [List.length_take, List.length_drop, Nat.min_eq_left]; omega
        cases h with
        | pure _ _ h => cases h
        | row _ _ _ y q1 q2 q3 =>
          obtain ⟨q4, q5⟩ := q3 l hl
          cases hb : l.b with
          | none =>
            obtain ⟨rfl, rfl, rfl⟩ := q4 hb
            exact ⟨none, 0, by simp, by simp, Or.inl (by simp)⟩
          | some b =>
            obtain ⟨off, cap, hy, hcap, hoff⟩ := q5 b hb
            by_cases hn : n = 0
            · subst hn
              exact ⟨_, cap, by rw [hy, hlen], by simp, Or.inl (by simp)⟩
            · obtain ⟨rfl, _⟩ := hoff.resolve_left (by omega)
              exact ⟨_, cap, by rw [hy, hlen], by rw [hrow.1]; exact row_lies hrow hsz hin hb⟩
      · cases hs
    · cases hs
  · cases hs

/-- The effect of an append. -/
def appEff (N sz : Nat) (b s : List (List AV)) (kill : Option Nat) (rd : List Nat) : Eff :=
  ⟨.row N 0 (b.length + s.length), killed kill ++ [(N, some (.els sz (b ++ s)))], killedR kill ++ rd⟩

theorem post_app {B S0 : Nat → Prop} {w w' : World} {ρ : Nat → Option Loc} {L : Nat → Prop} (hw : WF B S0 w ρ L) (hN : ¬ L N) {sz : Nat} {b s : List (List AV)} {kill : Option Nat} {rd : List Nat} {l' : Loc} {v : Value}
    (hkill : ∀ r, kill = some r → ∃ l, ρ r = some l)
    (hb : ∀ k, l'.b = some k → (w.heap.size ≤ k ∧ k < w'.heap.size) ∨ ∃ r l, kill = some r ∧ ρ r = some l ∧ l.b = some k)
    (hext : Ext (fun k => ∃ r l, kill = some r ∧ ρ r = some l ∧ l.b = some k) w w')
    (hrep : ∀ ρ' L', ρ' = appρ ρ N l' kill → L' = (fun r => L r ∨ r = N) → (∀ x y, RepV w (Sx S0 ρ) ρ L x y → RepV w' (Sx S0 ρ') ρ' L' x y) →
      RepV w' (Sx S0 ρ') ρ' L' (.row N 0 (b.length + s.length)) v ∧ RowRep w' (Sx S0 ρ') ρ' L' l' (.els sz (b ++ s))) :
    Post B S0 w ρ L N (appEff N sz b s kill rd) w' (appρ ρ N l' kill) v := by
  have hkN : ∀ r, kill = some r → r ≠ N := by
    rintro r hr rfl
    obtain ⟨l, hl⟩ := hkill _ hr
    exact hN (hw.given _ l hl)
  have hLL : ∀ r, (L r ∨ r = N) → nL L (appEff N sz b s kill rd) r := by
    rintro r (h1 | rfl)
    · exact Or.inl h1
    · exact Or.inr ⟨some (.els sz (b ++ s)), by simp [appEff]⟩
  have hlive : ∀ r l, appρ ρ N l' kill r = some l → (r = N ∧ l = l') ∨ (ρ r = some l ∧ r ≠ N ∧ kill ≠ some r) := by
    intro r l h
    simp only [appρ] at h
    split at h
    · rename_i e; simp only [Option.some.injEq] at h; exact Or.inl ⟨e, h.symm⟩
    · split at h
      · cases h
      · exact Or.inr ⟨h, by assumption, by assumption⟩
  have hwf : WF B S0 w' (appρ ρ N l' kill) (fun r => L r ∨ r = N) := by
    refine ⟨?_, ?_, ?_, fun k hk => Nat.lt_of_lt_of_le (hw.low k hk) hext.size, fun k hk => hw.new k (Nat.le_trans hext.size hk)⟩
    · intro r r' l1 l2 k h1 h2 k1 k2
      have cross : ∀ r' l2, ρ r' = some l2 → kill ≠ some r' → l'.b = some k → l2.b = some k → False := by
        intro r' l2 h2 hne k1 k2
        rcases hb k k1 with h3 | ⟨r0, l0, q1, q2, q3⟩
        · have := (hw.own r' l2 k h2 k2).1; omega
        · have := hw.inj r' r0 l2 l0 k h2 q2 k2 q3
          subst this
          exact hne q1
      rcases hlive r l1 h1 with ⟨e1, e2⟩ | ⟨g1, n1, m1⟩ <;> rcases hlive r' l2 h2 with ⟨e3, e4⟩ | ⟨g2, n2, m2⟩
      · rw [e1, e3]
      · subst e2; exact (cross r' l2 g2 m2 k1 k2).elim
      · subst e4; exact (cross r l1 g1 m1 k2 k1).elim
      · exact hw.inj r r' l1 l2 k g1 g2 k1 k2
    · intro r l1 k h1 k1
      rcases hlive r l1 h1 with ⟨rfl, rfl⟩ | ⟨h1, n1, m1⟩
      · rcases hb k k1 with h3 | ⟨r0, l0, q1, q2, q3⟩
        · exact ⟨h3.2, fun h => by have := hw.low k h; omega, hw.new k h3.1⟩
        · have := hw.own r0 l0 k q2 q3
          exact ⟨Nat.lt_of_lt_of_le this.1 hext.size, this.2⟩
      · have := hw.own r l1 k h1 k1
        exact ⟨Nat.lt_of_lt_of_le this.1 hext.size, this.2⟩
    · intro r l1 h1
      rcases hlive r l1 h1 with ⟨rfl, rfl⟩ | ⟨h1, n1, m1⟩
      · exact Or.inr rfl
      · exact Or.inl (hw.given r l1 h1)
  have hkeep : ∀ x y, RepV w (Sx S0 ρ) ρ L x y → RepV w' (Sx S0 (appρ ρ N l' kill)) (appρ ρ N l' kill) (fun r => L r ∨ r = N) x y := by
    intro x y k
    refine k.ext hext.size (fun c hc hn => ⟨hext.block c hc ?_, ?_⟩) (fun r => Or.inl) ?_
    · rintro ⟨r, l, _, h1, h2⟩; exact hn (Or.inr ⟨r, l, h1, h2⟩)
    · rintro (h1 | ⟨r, l, h1, h2⟩)
      · exact hn (Or.inl h1)
      · rcases hlive r l h1 with ⟨rfl, rfl⟩ | ⟨h1, _, _⟩
        · rcases hb c h2 with h3 | ⟨r0, l0, q1, q2, q3⟩
          · omega
          · exact hn (Or.inr ⟨r0, l0, q2, q3⟩)
        · exact hn (Or.inr ⟨r, l, h1, h2⟩)
    · intro r l hr hl
      rcases hlive r l hl with ⟨rfl, rfl⟩ | ⟨h1, _, _⟩
      · exact absurd hr hN
      · exact h1
  obtain ⟨hav, hrow⟩ := hrep _ _ rfl rfl hkeep
  refine { wf := hwf.more hLL, rep := hav.ext (Nat.le_refl _) (fun b _ hn => ⟨rfl, hn⟩) hLL (fun r l _ hl => hl), ups := ?_, others := ?_, only := ?_, ext := hext.mono ?_ }
  · intro r q hm
    simp only [appEff, List.mem_append, List.mem_singleton, Prod.mk.injEq] at hm
    rcases hm with hm | ⟨rfl, rfl⟩
    · cases hk : kill with
      | none => rw [hk] at hm; cases hm
      | some r0 =>
        rw [hk] at hm
        simp only [killed, List.mem_singleton, Prod.mk.injEq] at hm
        obtain ⟨rfl, rfl⟩ := hm
        show (if r = N then some l' else if some r = some r then none else ρ r) = none
        rw [if_neg (hkN r hk), if_pos rfl]
    · exact ⟨l', by simp [appρ], hrow.ext (Nat.le_refl _) (fun b _ hn => ⟨rfl, hn⟩) hLL (fun r l _ hl => hl) (fun _ _ => rfl)⟩
  · intro r hr
    have h1 : r ≠ N := by rintro rfl; exact hr (some (.els sz (b ++ s))) (by simp [appEff])
    have h2 : kill ≠ some r := by rintro hk; exact hr none (by simp [appEff, hk, killed])
    simp [appρ, h1, h2]
  · intro r l h1
    rcases hlive r l h1 with ⟨rfl, rfl⟩ | ⟨h1, _, _⟩
    · refine Or.inr ⟨rfl, ⟨_, by simp [appEff]; exact Or.inr rfl⟩, fun c hc => ?_⟩
      rcases hb c hc with h3 | ⟨r0, l0, q1, q2, q3⟩
      · exact Or.inl h3.1
      · exact Or.inr ⟨r0, l0, q2, q3⟩
    · exact Or.inl h1
  · rintro k hk ⟨r, l, h1, h2, h3⟩
    exact ⟨r, l, none, by simp [appEff, h1, killed], h2, h3⟩

theorem run_append_place {w : World} {t ty e : TypeId} {sz g off sLen sCap : Nat} {cur : Array Value} {ct : TypeId} {a : Option Addr} {m c : Nat} {news : List Value} (ht : P.underlying t = some (.slice e)) (he : tdOf P e ≠ .bad) (hes : (tdOf P e).size = sz)
    (hg : w.heap[g]? = some (.cells cur ct (0, 0))) (hl : news.length = m * sz) (hnews : m = 0 ∨ ∃ b o, a = some ⟨b, o, none⟩ ∧ ∀ (j : Nat) u, news[j]? = some u → w.cell? ⟨b, o + j, none⟩ = some u) (h1 : ∀ u ∈ news, u.oneCell' = true)
    (hroom : sLen + m ≤ sCap) (hfit : off + sLen * sz + news.length ≤ cur.size) :
    (Builtin.append_ #[t, t] ty #[.slice (some ⟨g, off, none⟩) sLen sCap, .slice a m c]).run P w =
      .ok (.slice (some ⟨g, off, none⟩) (sLen + m) sCap) (w.setRow g (cur.toList.take (off + sLen * sz) ++ news ++ cur.toList.drop (off + sLen * sz + news.length)).toArray) := by
  obtain ⟨i, hi, hi2, _⟩ := td_size (P := P) (t := e) (w := w) he
  rw [hes] at hi2
  have hf : (Builtin.firstCells i.size m (.slice a m c)).run P w = .ok news.toArray w := by
    rcases hnews with rfl | ⟨b, o, rfl, hn⟩
    · have : news = [] := by apply List.eq_nil_of_length_eq_zero; rw [hl]; simp
      subst this
      cases a with
      | none => exact run_firstCells_none (P := P) w _ _ _ _
      | some a => exact run_firstCells_some (P := P) w _ 0 a 0 c [] (by simp) (by simp)
    · exact run_firstCells_some (P := P) w i.size m ⟨b, o, none⟩ m c news (by rw [hl, hi2]) (by intro j u hj; rw [Addr.add_lit]; exact hn j u hj)
  rw [hi2] at hf
  have hst := run_storeCells_at P g (off + sLen * sz) ct news 0 cur w hg (by simpa using hfit) h1
  simp only [Nat.add_zero] at hst
  simp only [List.append_assoc] at hst ⊢
  simp [Builtin.append_, run_underlying ht, sizeOf, typeInfo, hi, Builtin.lenOf, hroom, hf, Addr.add_lit, hi2, hst]

end
end Go.AM
