/- Turns: how courses read. -/
import Derived.Test.YtomkjfhepfinhaaTuRd
set_option linter.unusedSimpArgs false
set_option linter.unusedVariables false
namespace Go.Proofs.Ytomkjfhepfinhaa
open Go.RowKit Go.ChangeShapes Go.WideShapes Go.Deep

section
variable {H : Type} {enc : TypeId × Value → H} {w : World} {base : Nat} {held : Bool}
theorem csz2 : Try.prog.cellsOf 37 = 1 ∧ Try.prog.cellsOf 39 = 2 := by
  refine ⟨?_, ?_⟩ <;> kernel_rfl
theorem rt_rows {n : Nat} {cs : List Value} {y : DataW H × List MemPlace} (h : DataW.trod enc Try.prog w base (fun _ => true) held n 37 cs = some y) : ∃ (z : Bool) (l : List (Bool × List Int)), (l.length ≤ 9223372036854775807 ∧ ∀ x ∈ l, True) ∧ CellsAre w cs 1 (fun _ => .sl z false l.length 1 (fun k _ => aInts (l.getD k (true, [])).1 false (l.getD k (true, [])).2)) :=
  rdr_slice (fun (x : Bool × List Int) _ => aInts x.1 false x.2) (fun _ => True) (true, []) Try.underlying37 csz.2.1 (by omega) (fun h => by
    obtain ⟨z, l, _, c⟩ := rt_ints h
    exact ⟨(z, l), trivial, c⟩) h
theorem rt_course {n : Nat} {cs : List Value} {y : DataW H × List MemPlace} (h : DataW.trod enc Try.prog w base (fun _ => true) held n 39 cs = some y) : ∃ (cf : CFl) (c : Course), True ∧ CellsAre w cs 2 (cCourse cf c) := by
  obtain ⟨hl, ⟨_, _, h0⟩, ⟨_, _, h1⟩, _⟩ := rdr_fields Try.underlying39 h
  simp only [csz.2.1, csz2.1] at h0 h1
  obtain ⟨z0, a, _, c0⟩ := rt_ints h0
  obtain ⟨z1, b, _, c1⟩ := rt_rows h1
  have hb : ∀ k, (b.map Prod.snd).getD k [] = (b.getD k (true, [])).2 := fun k => by
    simp only [List.getD, List.getElem?_map]
    cases b[k]? <;> rfl
  refine ⟨⟨z0, false, z1, false, fun k => (b.getD k (true, [])).1, fun _ => false⟩, ⟨a, b.map Prod.snd⟩, trivial, by rw [hl]; exact csz2.2, fun o ho => ?_⟩
  rcases (show o = 0 ∨ o = 1 by omega) with rfl | rfl
  · exact c0.sub (o := 0) (by omega)
  · have := c1.sub (o := 0) (by omega)
    simp only [cCourse, ofL, List.length_map, hb]
    exact this
end
end Go.Proofs.Ytomkjfhepfinhaa
