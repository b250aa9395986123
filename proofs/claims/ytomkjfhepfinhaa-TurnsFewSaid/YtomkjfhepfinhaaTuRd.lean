/- Turns: how tasks, hands, rotas, courses read. -/
import Derived.Test.YtomkjfhepfinhaaRep
import Derived.Test.YtomkjfhepfinhaaTuF
set_option linter.unusedSimpArgs false
set_option linter.unusedVariables false
namespace Go.Proofs.Ytomkjfhepfinhaa
open Go.RowKit Go.ChangeShapes Go.WideShapes Go.Deep

section
variable {H : Type} {enc : TypeId × Value → H} {w : World} {base : Nat} {held : Bool}
theorem csz : Try.prog.cellsOf 3 = 1 ∧ Try.prog.cellsOf 23 = 1 ∧ Try.prog.cellsOf 47 = 2 ∧ Try.prog.cellsOf 52 = 7 ∧ Try.prog.cellsOf 22 = 1 ∧ Try.prog.cellsOf 25 = 5 := by
  refine ⟨?_, ?_, ?_, ?_, ?_, ?_⟩ <;> kernel_rfl
theorem rt_int {n : Nat} {cs : List Value} {y : DataW H × List MemPlace} (h : DataW.trod enc Try.prog w base (fun _ => true) held n 3 cs = some y) : ∃ i : Int, I64 i ∧ CellsAre w cs 1 (fun _ => AI i) := rdr_int Try.underlying3 h
theorem rt_ints {n : Nat} {cs : List Value} {y : DataW H × List MemPlace} (h : DataW.trod enc Try.prog w base (fun _ => true) held n 23 cs = some y) : ∃ (z : Bool) (l : List Int), (l.length ≤ 9223372036854775807 ∧ ∀ x ∈ l, I64 x) ∧ CellsAre w cs 1 (fun _ => aInts z false l) :=
  rdr_slice (fun (x : Int) _ => AI x) I64 0 Try.underlying23 csz.1 (by omega) rt_int h
theorem rt_span {n : Nat} {cs : List Value} {y : DataW H × List MemPlace} (h : DataW.trod enc Try.prog w base (fun _ => true) held n 47 cs = some y) : ∃ l h : Int, (I64 l ∧ I64 h) ∧ CellsAre w cs 2 (ofL [AI l, AI h]) := by
  obtain ⟨hl, ⟨_, _, h0⟩, ⟨_, _, h1⟩, _⟩ := rdr_fields Try.underlying47 h
  simp only [csz.1] at h0 h1
  obtain ⟨a, ha, c0⟩ := rt_int h0
  obtain ⟨b, hb, c1⟩ := rt_int h1
  refine ⟨a, b, ⟨ha, hb⟩, by rw [hl]; exact csz.2.2.1, fun o ho => ?_⟩
  rcases (show o = 0 ∨ o = 1 by omega) with rfl | rfl
  · exact c0.sub (Nat.lt_succ_self 0)
  · exact c1.sub (Nat.lt_succ_self 0)
theorem rt_hand {n : Nat} {cs : List Value} {y : DataW H × List MemPlace} (h : DataW.trod enc Try.prog w base (fun _ => true) held n 52 cs = some y) : ∃ x : Hand, True ∧ CellsAre w cs 7 (cHand x) := by
  obtain ⟨hl, ⟨_, _, h0⟩, ⟨_, _, h1⟩, ⟨_, _, h2⟩, ⟨_, _, h3⟩, _⟩ := rdr_fields Try.underlying52 h
  simp only [csz.1, csz.2.2.1] at h0 h1 h2 h3
  obtain ⟨a, a', _, c0⟩ := rt_span h0
  obtain ⟨b, b', _, c1⟩ := rt_span h1
  obtain ⟨c, c', _, c2⟩ := rt_span h2
  obtain ⟨d, _, c3⟩ := rt_int h3
  refine ⟨⟨a, a', b, b', c, c', d⟩, trivial, by rw [hl]; exact csz.2.2.2.1, fun o ho => ?_⟩
  rcases (show o = 0 ∨ o = 1 ∨ o = 2 ∨ o = 3 ∨ o = 4 ∨ o = 5 ∨ o = 6 by omega) with rfl | rfl | rfl | rfl | rfl | rfl | rfl
  · exact c0.sub (o := 0) (by omega)
  · exact c0.sub (o := 1) (by omega)
  · exact c1.sub (o := 0) (by omega)
  · exact c1.sub (o := 1) (by omega)
  · exact c2.sub (o := 0) (by omega)
  · exact c2.sub (o := 1) (by omega)
  · exact c3.sub (o := 0) (by omega)
theorem rt_hands {n : Nat} {cs : List Value} {y : DataW H × List MemPlace} (h : DataW.trod enc Try.prog w base (fun _ => true) held n 22 cs = some y) : ∃ (z : Bool) (l : List Hand), (l.length ≤ 9223372036854775807 ∧ ∀ x ∈ l, True) ∧ CellsAre w cs 1 (fun _ => aHands z false l) :=
  rdr_slice cHand (fun _ => True) hd0 Try.underlying22 csz.2.2.2.1 (by omega) rt_hand h
theorem rt_task {n : Nat} {cs : List Value} {y : DataW H × List MemPlace} (h : DataW.trod enc Try.prog w base (fun _ => true) held n 25 cs = some y) : ∃ (f : TFl) (t : Task), (I64 t.limit ∧ I64 t.rest ∧ I64 t.swap) ∧ CellsAre w cs 5 (cTask f t) := by
  obtain ⟨hl, ⟨_, _, h0⟩, ⟨_, _, h1⟩, ⟨_, _, h2⟩, ⟨_, _, h3⟩, ⟨_, _, h4⟩, _⟩ := rdr_fields Try.underlying25 h
  simp only [csz.1, csz.2.1, csz.2.2.2.2.1] at h0 h1 h2 h3 h4
  obtain ⟨z0, a, _, c0⟩ := rt_hands h0
  obtain ⟨z1, b, _, c1⟩ := rt_ints h1
  obtain ⟨c, hc, c2⟩ := rt_int h2
  obtain ⟨d, hd, c3⟩ := rt_int h3
  obtain ⟨e, he, c4⟩ := rt_int h4
  refine ⟨⟨z0, false, z1, false⟩, ⟨a, b, c, d, e⟩, ⟨hc, hd, he⟩, by rw [hl]; exact csz.2.2.2.2.2, fun o ho => ?_⟩
  rcases (show o = 0 ∨ o = 1 ∨ o = 2 ∨ o = 3 ∨ o = 4 by omega) with rfl | rfl | rfl | rfl | rfl
  · exact c0.sub (o := 0) (by omega)
  · exact c1.sub (o := 0) (by omega)
  · exact c2.sub (o := 0) (by omega)
  · exact c3.sub (o := 0) (by omega)
  · exact c4.sub (o := 0) (by omega)
end
end Go.Proofs.Ytomkjfhepfinhaa
