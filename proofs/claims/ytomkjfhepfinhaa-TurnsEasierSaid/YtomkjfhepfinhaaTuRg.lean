/- Turns: how an ease reads. -/
import Derived.Test.YtomkjfhepfinhaaTuRd
import Derived.Test.YtomkjfhepfinhaaTuZg
set_option linter.unusedSimpArgs false
set_option linter.unusedVariables false
namespace Go.Proofs.Ytomkjfhepfinhaa
open Go.RowKit Go.ChangeShapes Go.WideShapes Go.Deep

section
variable {H : Type} {enc : TypeId × Value → H} {w : World} {base : Nat} {held : Bool}
theorem csz3 : Try.prog.cellsOf 49 = 7 := by kernel_rfl
theorem rt_ease {n : Nat} {cs : List Value} {y : DataW H × List MemPlace} (h : DataW.trod enc Try.prog w base (fun _ => true) held n 49 cs = some y) : ∃ x : Eas, True ∧ CellsAre w cs 7 (ofL [AI x.hand, AI x.start, AI x.tire, AI x.ease, AI x.slip, AI x.limit, AI x.rest]) := by
  obtain ⟨hl, ⟨_, _, h0⟩, ⟨_, _, h1⟩, ⟨_, _, h2⟩, ⟨_, _, h3⟩, ⟨_, _, h4⟩, ⟨_, _, h5⟩, ⟨_, _, h6⟩, _⟩ := rdr_fields Try.underlying49 h
  simp only [csz.1] at h0 h1 h2 h3 h4 h5 h6
  obtain ⟨a0, _, c0⟩ := rt_int h0
  obtain ⟨a1, _, c1⟩ := rt_int h1
  obtain ⟨a2, _, c2⟩ := rt_int h2
  obtain ⟨a3, _, c3⟩ := rt_int h3
  obtain ⟨a4, _, c4⟩ := rt_int h4
  obtain ⟨a5, _, c5⟩ := rt_int h5
  obtain ⟨a6, _, c6⟩ := rt_int h6
  refine ⟨⟨a0, a1, a2, a3, a4, a5, a6⟩, trivial, by rw [hl]; exact csz3, fun o ho => ?_⟩
  rcases (show o = 0 ∨ o = 1 ∨ o = 2 ∨ o = 3 ∨ o = 4 ∨ o = 5 ∨ o = 6 by omega) with rfl | rfl | rfl | rfl | rfl | rfl | rfl
  · exact c0.sub (o := 0) (by omega)
  · exact c1.sub (o := 0) (by omega)
  · exact c2.sub (o := 0) (by omega)
  · exact c3.sub (o := 0) (by omega)
  · exact c4.sub (o := 0) (by omega)
  · exact c5.sub (o := 0) (by omega)
  · exact c6.sub (o := 0) (by omega)
end
end Go.Proofs.Ytomkjfhepfinhaa
