/- What an argument reads as: its cells by content. No condition. -/
import Derived.Test.YtmenlmioccciiaaRows
import Derived.WalkKit
import Derived.ProofKit
import Derived.OpenShut
import Derived.Test.YtmenlmioccciiaaTds
namespace Go.Tram
open Go.AM Go.Proofs
set_option linter.unusedVariables false
set_option linter.unusedSimpArgs false

def RC (w : World) (avs : List AV) (cs : List Value) : Prop := avs.length = cs.length ∧ ∀ (i : Nat) c x, avs[i]? = some c → cs[i]? = some x → RepP w (fun _ => False) c x ∧ isCell x = true

theorem RC.one {w : World} {a : AV} {x : Value} (h : RepP w (fun _ => False) a x) (hc : isCell x = true) : RC w [a] [x] := by
  refine ⟨rfl, fun i c y h1 h2 => ?_⟩
  cases i with
  | zero => simp at h1 h2; subst h1 h2; exact ⟨h, hc⟩
  | succ i => simp at h1
theorem RC.app {w : World} {a b : List AV} {x y : List Value} (h : RC w a x) (k : RC w b y) : RC w (a ++ b) (x ++ y) := by
  refine ⟨by simp [h.1, k.1], fun i c u h1 h2 => ?_⟩
  by_cases hi : i < a.length
  · rw [List.getElem?_append_left hi] at h1
    rw [List.getElem?_append_left (by rw [← h.1]; exact hi)] at h2
    exact h.2 i c u h1 h2
  · rw [List.getElem?_append_right (by omega)] at h1
    rw [List.getElem?_append_right (by rw [← h.1]; omega), ← h.1] at h2
    exact k.2 _ c u h1 h2

def layB : List (Nat × Nat × TypeId) → Nat → Nat → Bool
  | [], o, n => o == n
  | (off, sz, _) :: r, o, n => off == o && layB r (o + sz) n
theorem layB_le : ∀ (fs : List (Nat × Nat × TypeId)) (o n : Nat), layB fs o n = true → o ≤ n
  | [], o, n, h => by simp [layB] at h; omega
  | (off, sz, t) :: r, o, n, h => by
    simp only [layB, Bool.and_eq_true] at h
    have := layB_le r _ _ h.2
    omega
theorem layB_off : ∀ (fs : List (Nat × Nat × TypeId)) (o n : Nat), layB fs o n = true → ∀ f ∈ fs, o ≤ f.1
  | [], o, n, h, f, hf => by cases hf
  | (off, sz, t) :: r, o, n, h, f, hf => by
    simp only [layB, Bool.and_eq_true, beq_iff_eq] at h
    rcases List.mem_cons.1 hf with rfl | hf
    · simp only []; omega
    · have := layB_off r _ _ h.2 f hf; omega

theorem assemble {w : World} {Q : (Nat × Nat × TypeId) → List AV → Prop} : ∀ (fs : List (Nat × Nat × TypeId)) (o N : Nat) (cs : List Value), layB fs o N = true → cs.length = N →
    (∀ f ∈ fs, ∃ a, RC w a ((cs.drop f.1).take f.2.1) ∧ Q f a) → ∃ avs, RC w avs (cs.drop o) ∧ ∀ f ∈ fs, Q f ((avs.drop (f.1 - o)).take f.2.1)
  | [], o, N, cs, h, hl, _ => by
    simp only [layB, beq_iff_eq] at h
    refine ⟨[], ⟨by simp; omega, fun i c x h1 => by simp at h1⟩, fun f hf => by cases hf⟩
  | (off, sz, t) :: r, o, N, cs, h, hl, hq => by
    simp only [layB, Bool.and_eq_true, beq_iff_eq] at h
    obtain ⟨rfl, h2⟩ := h
    have hle := layB_le r _ _ h2
    obtain ⟨a, ha, hqa⟩ := hq _ (List.mem_cons_self ..)
    obtain ⟨b, hb, hqb⟩ := assemble r (off + sz) N cs h2 hl (fun f hf => hq f (List.mem_cons_of_mem _ hf))
    have hal : a.length = sz := by rw [ha.1]; simp; omega
    have hsplit : cs.drop off = (cs.drop off).take sz ++ cs.drop (off + sz) := by rw [← List.drop_drop, List.take_append_drop]
    refine ⟨a ++ b, by rw [hsplit]; exact ha.app hb, fun f hf => ?_⟩
    rcases List.mem_cons.1 hf with rfl | hf
    · simp only [Nat.sub_self, List.drop_zero]
      rw [List.take_append_of_le_length (by omega), List.take_of_length_le (by omega)]
      exact hqa
    · have ho := layB_off r _ _ h2 f hf
      have := hqb f hf
      rw [List.drop_append, List.drop_eq_nil_of_le (by omega), List.nil_append, hal, show f.1 - off - sz = f.1 - (off + sz) by omega]
      exact this

section
variable {P : Program}

def goodB (P : Program) : Nat → TypeId → Bool
  | 0, _ => false
  | n + 1, t => match ktOf P t with
    | some _ => true
    | none => match tdOf P t with
      | .slice e => decide ((tdOf P e).size ≠ 0) && goodB P n e
      | .agg z fs => layB fs 0 z.length && fs.all fun f => goodB P n f.2.2
      | _ => false

def Shaped (P : Program) : Nat → TypeId → List AV → Prop
  | 0, _, _ => False
  | n + 1, t, avs => match ktOf P t with
    | some (.i k) => ∃ m, avs = [.v (.int k m)] ∧ (Lit.int k m).wf = true
    | some .b => ∃ b, avs = [.v (.bool b)]
    | none => match tdOf P t with
      | .slice e => ∃ els, avs = [.lst (tdOf P e).size els] ∧ els.length ≤ maxLen ∧ ∀ el ∈ els, Shaped P n e el
      | .agg z fs => avs.length = z.length ∧ ∀ f ∈ fs, Shaped P n f.2.2 ((avs.drop f.1).take f.2.1)
      | _ => False

theorem cellsOf_td (w : World) {e : TypeId} (h : tdOf P e ≠ .bad) : P.cellsOf e = (tdOf P e).size := by
  obtain ⟨i, h1, h2, _⟩ := td_size (P := P) (w := w) h
  simp [Program.cellsOf, h1, h2]

/-- The elements of a slice, one by one. -/
theorem elems_of {w : World} {R : List AV → List Value → Prop} {g : Nat → Option (List Value)} : ∀ n, (∀ i, i < n → ∃ cs, g i = some cs ∧ ∃ a, R a cs) →
    ∃ (els : List (List AV)) (css : List (List Value)), els.length = n ∧ css.length = n ∧ ∀ (i : Nat) a cs, els[i]? = some a → css[i]? = some cs → g i = some cs ∧ R a cs
  | 0, _ => ⟨[], [], rfl, rfl, fun i a cs h => by simp at h⟩
  | n + 1, h => by
    obtain ⟨els, css, h1, h2, h3⟩ := elems_of (w := w) (R := R) (g := g) n (fun i hi => h i (by omega))
    obtain ⟨cs, hg, a, ha⟩ := h n (by omega)
    refine ⟨els ++ [a], css ++ [cs], by simp [h1], by simp [h2], fun i b ds k1 k2 => ?_⟩
    by_cases hi : i < n
    · rw [List.getElem?_append_left (by omega)] at k1 k2
      exact h3 i b ds k1 k2
    · have hn : i = n := by
        have := (List.getElem?_eq_some_iff.1 k1).1
        simp [h1] at this; omega
      subst hn
      rw [List.getElem?_append_right (by omega)] at k1 k2
      simp [h1, h2] at k1 k2
      subst k1 k2
      exact ⟨hg, ha⟩

theorem trod_rc {H : Type} {enc : TypeId × Value → H} {w : World} {spare : Nat → Bool} {held : Bool} : ∀ (n : Nat) (fuel : Nat) (t : TypeId) (cs : List Value) (x : DataW H × List MemPlace), goodB P n t = true →
    DataW.trod enc P w 0 spare held fuel t cs = some x → ∃ avs, RC w avs cs ∧ Shaped P n t avs := by
  intro n
  induction n with
  | zero => intro fuel t cs x h; simp [goodB] at h
  | succ n ih =>
    intro fuel t cs x hg h
    unfold goodB at hg
    unfold Shaped
    cases hk : ktOf P t with
    | some kt =>
      have hu := (ktOf_cell hk).2.2.2
      cases kt with
      | i k =>
        obtain ⟨m, rfl, rfl, hw⟩ := DataW.trod_int hu h
        exact ⟨[.v (.int k m)], RC.one (.v _) rfl, m, rfl, hw⟩
      | b =>
        obtain ⟨b, rfl, rfl⟩ := DataW.trod_bool hu h
        exact ⟨[.v (.bool b)], RC.one (.v _) rfl, b, rfl⟩
    | none =>
      rw [hk] at hg
      simp only at hg ⊢
      cases ht : tdOf P t with
      | cell z => rw [ht] at hg; simp at hg
      | arr z m e => rw [ht] at hg; simp at hg
      | bad => rw [ht] at hg; simp at hg
      | slice e =>
        rw [ht] at hg
        simp only [Bool.and_eq_true, decide_eq_true_eq] at hg ⊢
        obtain ⟨hsz, hge⟩ := hg
        have hne : tdOf P e ≠ .bad := by intro hb; rw [hb] at hsz; exact hsz rfl
        have hc := cellsOf_td w hne
        obtain ⟨info, h1, h2, _⟩ := tdOf_slice ht
        rcases DataW.trod_slice h2 h with ⟨rfl, rfl⟩ | ⟨a, len, cap, elems, rest, n', rfl, rfl, rfl, hb, hl, hcap, hel, hall, _⟩
        · exact ⟨[.lst (tdOf P e).size []], RC.one (.lstNil _ _ _) rfl, [], rfl, by simp, by simp⟩
        · rw [hc] at hall
          obtain ⟨els, css, e1, e2, e3⟩ := elems_of (w := w) (R := fun a cs => RC w a cs ∧ Shaped P n e a) (g := fun i => w.cells? 0 (a.add (i * (tdOf P e).size)) (tdOf P e).size) len (fun i hi => by
            have h3 := hall i hi
            obtain ⟨y, hy⟩ : ∃ y, elems[i]? = some y := ⟨_, List.getElem?_eq_getElem (by omega)⟩
            rw [hy, Option.bind_eq_some_iff] at h3
            obtain ⟨cs, q1, q2⟩ := h3
            obtain ⟨av, r1, r2⟩ := ih _ _ _ _ hge q2
            exact ⟨cs, q1, av, r1, r2⟩)
          refine ⟨[.lst (tdOf P e).size els], ?_, els, rfl, by omega, ?_⟩
          · refine RC.one ?_ rfl
            by_cases hlen : len = 0
            · have : els = [] := List.eq_nil_of_length_eq_zero (by omega)
              subst this
              subst hlen
              exact .lstNil _ _ _
            · have hcell : ∀ (i j : Nat) cs, css[i]? = some cs → j < (tdOf P e).size → w.cell? ((a.add (i * (tdOf P e).size)).add j) = cs[j]? ∧ cs.length = (tdOf P e).size := by
                intro i j cs hi hj
                have hil := (List.getElem?_eq_some_iff.1 hi).1
                obtain ⟨av, hav⟩ : ∃ av, els[i]? = some av := ⟨_, List.getElem?_eq_getElem (by omega)⟩
                have := World.cells?_some (e3 i av cs hav hi).1
                exact ⟨this.2.2 j hj, this.2.1⟩
              have hspot : a.spot = none := by
                obtain ⟨cs, hcs⟩ : ∃ cs, css[0]? = some cs := ⟨_, List.getElem?_eq_getElem (by omega)⟩
                obtain ⟨k1, k2⟩ := hcell 0 0 cs hcs (by omega)
                rw [List.getElem?_eq_getElem (by omega)] at k1
                have ha : (a.add (0 * (tdOf P e).size)).add 0 = a := by simp [Addr.add]
                rw [ha] at k1
                exact World.cell?_spot k1
              obtain ⟨b, off, sp⟩ := a
              simp only at hspot
              subst hspot
              have hcl : ∀ c ∈ css, c.length = (tdOf P e).size := by
                intro c hc'
                obtain ⟨i, hi⟩ := List.getElem?_of_mem hc'
                exact (hcell i 0 c hi (by omega)).2
              have hell : ∀ c ∈ els, c.length = (tdOf P e).size := by
                intro c hc'
                obtain ⟨i, hi⟩ := List.getElem?_of_mem hc'
                have hil := (List.getElem?_eq_some_iff.1 hi).1
                obtain ⟨cs, hcs⟩ : ∃ cs, css[i]? = some cs := ⟨_, List.getElem?_eq_getElem (by omega)⟩
                rw [(e3 i c cs hi hcs).2.1.1]
                exact hcl cs (List.mem_of_getElem? hcs)
              have key : ∀ (i : Nat) (x : Value), css.flatten[i]? = some x → ∃ q j cs, i = q * (tdOf P e).size + j ∧ j < (tdOf P e).size ∧ css[q]? = some cs ∧ cs[j]? = some x := by
                intro i x hx
                have hil := (List.getElem?_eq_some_iff.1 hx).1
                rw [length_flatten hcl] at hil
                have hq : i / (tdOf P e).size < css.length := by rw [Nat.div_lt_iff_lt_mul (by omega)]; exact hil
                have hj := Nat.mod_lt i (show (tdOf P e).size > 0 by omega)
                have hme : i = i / (tdOf P e).size * (tdOf P e).size + i % (tdOf P e).size := by rw [Nat.mul_comm]; exact (Nat.div_add_mod i _).symm
                obtain ⟨cs, hcs⟩ : ∃ cs, css[i / (tdOf P e).size]? = some cs := ⟨_, List.getElem?_eq_getElem hq⟩
                refine ⟨_, _, cs, hme, hj, hcs, ?_⟩
                have := flatten_get hcl hcs (i % (tdOf P e).size) hj
                rw [← hme] at this
                rw [← this]; exact hx
              have hre : els.length = len := e1
              rw [← hre]
              have hblk : b < w.heap.size := by
                obtain ⟨cs, hcs⟩ : ∃ cs, css[0]? = some cs := ⟨_, List.getElem?_eq_getElem (by omega)⟩
                obtain ⟨k1, k2⟩ := hcell 0 0 cs hcs (by omega)
                rw [List.getElem?_eq_getElem (by omega)] at k1
                simp only [Nat.zero_mul, Addr.add_lit, Nat.add_zero] at k1
                rcases Nat.lt_or_ge b w.heap.size with hlt | hge
                · exact hlt
                · simp [World.cell?, Array.getElem?_eq_none hge] at k1
              refine RepP.lst _ els b off cap css.flatten (fun h => h) hblk (by omega) hell (by rw [length_flatten hell, length_flatten hcl, e1, e2]) ?_ ?_
              · intro i x hx
                obtain ⟨q, j, cs, rfl, hj, hcs, hxj⟩ := key i x hx
                obtain ⟨k1, _⟩ := hcell q j cs hcs hj
                rw [Addr.add_lit, Addr.add_lit, hxj] at k1
                obtain ⟨av, hav⟩ : ∃ av, els[q]? = some av := ⟨_, List.getElem?_eq_getElem (by have := (List.getElem?_eq_some_iff.1 hcs).1; omega)⟩
                have hr := (e3 q av cs hav hcs).2.1
                obtain ⟨c, hc'⟩ : ∃ c, av[j]? = some c := ⟨_, List.getElem?_eq_getElem (by rw [hr.1]; exact (List.getElem?_eq_some_iff.1 hxj).1)⟩
                refine ⟨?_, (hr.2 j c x hc' hxj).2⟩
                rw [← Nat.add_assoc]; exact k1
              · intro i c x hc' hx
                obtain ⟨q, j, cs, rfl, hj, hcs, hxj⟩ := key i x hx
                obtain ⟨av, hav⟩ : ∃ av, els[q]? = some av := ⟨_, List.getElem?_eq_getElem (by have := (List.getElem?_eq_some_iff.1 hcs).1; omega)⟩
                rw [flatten_get hell hav j hj] at hc'
                exact ((e3 q av cs hav hcs).2.1.2 j c x hc' hxj).1
          · intro el hel'
            obtain ⟨i, hi⟩ := List.getElem?_of_mem hel'
            have hil := (List.getElem?_eq_some_iff.1 hi).1
            obtain ⟨cs, hcs⟩ : ∃ cs, css[i]? = some cs := ⟨_, List.getElem?_eq_getElem (by omega)⟩
            exact (e3 i el cs hi hcs).2.2
      | agg z fs =>
        rw [ht] at hg
        simp only [Bool.and_eq_true] at hg ⊢
        obtain ⟨hlay, hgf⟩ := hg
        obtain ⟨info, fa, h1, h2, h3, h4, hfs, _, hall⟩ := tdOf_agg ht
        obtain ⟨xs, n', rfl, rfl, hl, hxl, hf⟩ := DataW.trod_struct h2 h
        have hcl : cs.length = z.length := by rw [hl]; simp [Program.cellsOf, h1, h4]
        obtain ⟨avs, hr, hq⟩ := assemble (w := w) (Q := fun f a => Shaped P n f.2.2 a) fs 0 z.length cs hlay hcl (fun f hff => by
          have hff' := hff
          rw [hfs, List.mem_map] at hff'
          obtain ⟨fd, hfd, rfl⟩ := hff'
          obtain ⟨i, hi⟩ := List.getElem?_of_mem hfd
          have hia : fa[i]? = some fd := by simpa using hi
          have htr := hf i fd hia
          have hil : i < xs.length := by rw [hxl]; exact (Array.getElem?_eq_some_iff.1 hia).1
          rw [List.getElem?_eq_getElem hil] at htr
          exact ih _ _ _ _ (List.all_eq_true.1 hgf _ hff) htr)
        rw [List.drop_zero] at hr
        refine ⟨avs, hr, by rw [hr.1, hcl], fun f hff => ?_⟩
        have := hq f hff
        rwa [Nat.sub_zero] at this
end
end Go.Tram
