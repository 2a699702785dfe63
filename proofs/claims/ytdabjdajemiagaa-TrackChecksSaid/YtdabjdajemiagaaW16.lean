/- Walks: what is foul of a rail. -/
import Derived.Test.YtdabjdajemiagaaW15
namespace Go.Tram
open Go.AM Go.Proofs
set_option maxRecDepth 10000
set_option maxHeartbeats 4000000
set_option linter.unusedVariables false
set_option linter.unusedSimpArgs false

theorem flat_cov (l : List Cover) : (l.map Cover.cells).all (fun e => e.all flatC) = true := by simp [flatC]
@[simp high] theorem flat_cov_ren (l : List Cover) (g : List (Option Nat)) (n : Nat) : (l.map Cover.cells).map (fun e => e.map (renAV g n)) = l.map Cover.cells := map_flatC (fun x h => flatC_ren h g n) (flat_cov l)
@[simp high] theorem flat_cov_frzP (l : List Cover) (H : Hp) (n : Nat) : (l.map Cover.cells).map (fun e => e.map (frzP H n)) = l.map Cover.cells := map_flatC (fun x h => flatC_frzP h H n) (flat_cov l)
theorem cov_take (l : List Cover) : (l.map Cover.cells).take l.length = l.map Cover.cells := List.take_of_length_le (by simp)

theorem zoneL_take {p : Plan} {a : Int} {x : Profile} {b : Int} {y : Profile} {l : List SS} {k : Nat} {s : SS} (h : l[k]? = some s) :
    zoneL p a x b y (l.take (k + 1)) = if zoneHit p x b y s then zoneStep a (zoneL p a x b y (l.take k)) s else zoneL p a x b y (l.take k) := by
  rw [List.take_add_one, h]
  simp [zoneL]
theorem zoneStep_len (a : Int) (out : List Cover) (s : SS) : (zoneStep a out s).length ≤ out.length + 1 := by
  rcases List.eq_nil_or_concat out with rfl | ⟨i, c, rfl⟩
  · simp [zoneStep]
  · simp only [zoneStep, List.concat_eq_append, List.getLast?_append, List.getLast?_singleton, Option.some_or]
    split <;> simp
theorem zoneStep_nil (a : Int) (s : SS) : zoneStep a [] s = [⟨a, s.From, s.To⟩] := rfl
theorem zoneStep_on {a : Int} {i : List Cover} {c : Cover} {s : SS} (h : c.To = s.From) : zoneStep a (i ++ [c]) s = i ++ [⟨c.Rail, c.From, s.To⟩] := by
  simp [zoneStep, h]
theorem zoneStep_new {a : Int} {i : List Cover} {c : Cover} {s : SS} (h : ¬ c.To = s.From) : zoneStep a (i ++ [c]) s = i ++ [c] ++ [⟨a, s.From, s.To⟩] := by
  simp [zoneStep, h]
theorem snoc_get (i : List Cover) (c : Cover) : (i.map Cover.cells ++ [[I c.Rail, I c.From, I c.To]])[i.length]? = some [I c.Rail, I c.From, I c.To] := by
  rw [List.getElem?_append_right (by simp)]; simp
theorem snoc_set (i : List Cover) (c e : List AV) : (i.map Cover.cells ++ [c]).set i.length e = i.map Cover.cells ++ [e] := by
  rw [List.set_append, if_neg (by simp)]; simp
theorem snoc_take (i : List Cover) (c : List AV) : (i.map Cover.cells ++ [c]).take (i.length + 1) = i.map Cover.cells ++ [c] := List.take_of_length_le (by simp)
theorem fits1 : Fits 1 25 := fits_of (by omega) (by omega)
theorem wrap_small (m : Nat) (h : m ≤ 1000) : IntKind.i64.wrap (m : Int) = m := wrap_in (by omega) (by omega)
theorem nil_or_snoc (l : List Cover) : l = [] ∨ ∃ i c, l = i ++ [c] := by
  rcases List.eq_nil_or_concat l with h | ⟨i, c, h⟩
  · exact Or.inl h
  · exact Or.inr ⟨i, c, by rw [h, List.concat_eq_append]⟩

end Go.Tram
