/- Exams: how papers, judges, items read. -/
import Derived.Test.YtbpilgflejdhaaaRead
import Derived.Test.YtbpilgflejdhaaaExX
namespace Go.Proofs.Ytbpilgflejdhaaa
open Go.RowKit Go.ChangeShapes Go.WideShapes Go.Deep

section
variable {H : Type} {enc : TypeId × Value → H} {w : World} {base : Nat} {held : Bool}
theorem rdx_int {n : Nat} {cs : List Value} {y : DataW H × List MemPlace} (h : DataW.trod enc Try.prog w base (fun _ => true) held n 3 cs = some y) : ∃ i : Int, cs = [.int .i64 i] ∧ I64 i := rd_int Try.underlying3 h
theorem rdx_ints {n : Nat} {v : Value} {y : DataW H × List MemPlace} (h : DataW.trod enc Try.prog w base (fun _ => true) held n 24 [v] = some y) :
    ∃ A c, ∃ l : List Int, v = .slice A l.length c ∧ Ints w A l ∧ l.length ≤ 9223372036854775807 ∧ (A = none → l = []) ∧ ∀ x ∈ l, I64 x := rd_ints Try.underlying24 Try.underlying3 (by kernel_rfl) h
theorem cells_sizes : Try.prog.cellsOf 3 = 1 ∧ Try.prog.cellsOf 24 = 1 ∧ Try.prog.cellsOf 90 = 2 ∧ Try.prog.cellsOf 35 = 2 ∧ Try.prog.cellsOf 37 = 4 ∧ Try.prog.cellsOf 26 = 4 ∧ Try.prog.cellsOf 22 = 1 ∧ Try.prog.cellsOf 23 = 1 := by
  refine ⟨?_, ?_, ?_, ?_, ?_, ?_, ?_, ?_⟩ <;> kernel_rfl

theorem rdx_items {n : Nat} {v : Value} {y : DataW H × List MemPlace} (h : DataW.trod enc Try.prog w base (fun _ => true) held n 22 [v] = some y) :
    ∃ A c, ∃ l : List Item, v = .slice A l.length c ∧ ItemsAt w A l ∧ l.length ≤ 9223372036854775807 := by
  obtain ⟨k1, k2, k3, k4, k5, k6, k7, k8⟩ := cells_sizes
  obtain ⟨A, len, cap, rfl, hl, hn, hx⟩ := rd_slice Try.underlying22 k3 (by omega) h
  have key : ∀ i, i < len → ∃ x : Item, ∃ b off, A = some ⟨b, off, none⟩ ∧ b < w.heap.size ∧ w.cell? ⟨b, off + i * 2, none⟩ = some (.int .i64 x.weight) ∧ w.cell? ⟨b, off + i * 2 + 1, none⟩ = some (.int .i64 x.most) := by
    intro i hi
    obtain ⟨b, off, m, cs, z, hA, hb, hlen, hcell, ht'⟩ := hx i hi
    obtain ⟨y0, y1, q, _, _, h0, h1⟩ := trod_struct2 Try.underlying90 ht'
    simp only [k1] at h0 h1
    obtain ⟨a, ha, _⟩ := rdx_int h0
    obtain ⟨b', hb', _⟩ := rdx_int h1
    match cs, hlen with
    | [c0, c1], _ =>
      simp at ha hb'
      subst ha; subst hb'
      exact ⟨⟨a, b'⟩, b, off, hA, hb, hcell 0 (by omega), hcell 1 (by omega)⟩
  obtain ⟨f, hf⟩ := choose_lt key
  have hlen : ((List.range len).map f).length = len := by simp
  refine ⟨A, cap, (List.range len).map f, by rw [hlen], fun k hk => ?_, by omega⟩
  rw [hlen] at hk
  obtain ⟨b, off, h1, h2, h3, h4⟩ := hf k hk
  refine ⟨b, off, h1, h2, ?_, ?_⟩
  · rw [h3]; simp [List.getD, hk]
  · rw [h4]; simp [List.getD, hk]

/-- A judge's four cells. -/
theorem rdx_judge {n : Nat} {cs : List Value} {y : DataW H × List MemPlace} (h : DataW.trod enc Try.prog w base (fun _ => true) held n 37 cs = some y) :
    ∃ x : Judge, ∃ mA mc, cs = [.int .i64 x.lo, .int .i64 x.hi, .int .i64 x.err, .slice mA x.marks.length mc] ∧ Ints w mA x.marks ∧ x.marks.length ≤ 9223372036854775807 := by
  obtain ⟨k1, k2, k3, k4, k5, k6, k7, k8⟩ := cells_sizes
  obtain ⟨y0, y1, y2, q, _, hlen, h0, h1, h2⟩ := trod_struct3 Try.underlying37 h
  rw [k5] at hlen
  simp only [k1, k2, k4] at h0 h1 h2
  match cs, hlen with
  | [c0, c1, c2, c3], _ =>
    simp only [List.drop_zero, List.take_succ_cons, List.take_zero, List.drop_succ_cons] at h0 h1 h2
    obtain ⟨z0, z1, q', _, _, g0, g1⟩ := trod_struct2 Try.underlying35 h0
    simp only [k1, List.drop_zero, List.take_succ_cons, List.take_zero, List.drop_succ_cons] at g0 g1
    obtain ⟨lo, e0, _⟩ := rdx_int g0
    obtain ⟨hi, e1, _⟩ := rdx_int g1
    obtain ⟨er, e2, _⟩ := rdx_int h1
    obtain ⟨A, c, l, e3, hI, hl, _⟩ := rdx_ints h2
    injection e0 with e0
    injection e1 with e1
    injection e2 with e2
    exact ⟨⟨lo, hi, er, l⟩, A, c, by rw [e0, e1, e2, e3], hI, hl⟩
theorem rdx_judges {n : Nat} {v : Value} {y : DataW H × List MemPlace} (h : DataW.trod enc Try.prog w base (fun _ => true) held n 23 [v] = some y) :
    ∃ A c, ∃ l : List Judge, v = .slice A l.length c ∧ JudgesAt w A l ∧ l.length ≤ 9223372036854775807 := by
  obtain ⟨k1, k2, k3, k4, k5, k6, k7, k8⟩ := cells_sizes
  obtain ⟨A, len, cap, rfl, hl, hn, hx⟩ := rd_slice Try.underlying23 k5 (by omega) h
  have key : ∀ i, i < len → ∃ x : Judge, ∃ b off, A = some ⟨b, off, none⟩ ∧ b < w.heap.size ∧ JudgeAt w b (off + i * 4) x := by
    intro i hi
    obtain ⟨b, off, m, cs, z, hA, hb, hlen, hcell, ht'⟩ := hx i hi
    obtain ⟨x, mA, mc, rfl, hI, hl⟩ := rdx_judge ht'
    exact ⟨x, b, off, hA, hb, hcell 0 (by omega), hcell 1 (by omega), hcell 2 (by omega), mA, mc, hcell 3 (by omega), hI, hl⟩
  obtain ⟨f, hf⟩ := choose_lt key
  have hlen : ((List.range len).map f).length = len := by simp
  refine ⟨A, cap, (List.range len).map f, by rw [hlen], fun k hk => ?_, by omega⟩
  rw [hlen] at hk
  obtain ⟨b, off, h1, h2, h3⟩ := hf k hk
  refine ⟨b, off, h1, h2, ?_⟩
  have : ((List.range len).map f).getD k default = f k := by simp [List.getD, hk]
  rw [this]
  exact h3

/-- A paper's four cells. -/
theorem rdx_paper {n : Nat} {cs : List Value} {y : DataW H × List MemPlace} (h : DataW.trod enc Try.prog w base (fun _ => true) held n 26 cs = some y) :
    ∃ p : Paper, ∃ iA jA gA ic jc gc, cs = [.slice iA p.items.length ic, .slice jA p.judges.length jc, .int .i64 p.wrong, .slice gA p.grades.length gc] ∧ PaperAt w iA jA gA p ∧ I64 p.wrong := by
  obtain ⟨k1, k2, k3, k4, k5, k6, k7, k8⟩ := cells_sizes
  obtain ⟨y0, y1, y2, y3, q, _, hlen, h0, h1, h2, h3⟩ := Joins.trod_struct4 Try.underlying26 h
  rw [k6] at hlen
  simp only [k1, k2, k7, k8] at h0 h1 h2 h3
  match cs, hlen with
  | [c0, c1, c2, c3], _ =>
    simp only [List.drop_zero, List.take_succ_cons, List.take_zero, List.drop_succ_cons] at h0 h1 h2 h3
    obtain ⟨iA, ic, li, e0, hi, hil⟩ := rdx_items h0
    obtain ⟨jA, jc, lj, e1, hj, hjl⟩ := rdx_judges h1
    obtain ⟨wr, e2, hwr⟩ := rdx_int h2
    obtain ⟨gA, gc, lg, e3, hg, hgl, _⟩ := rdx_ints h3
    injection e2 with e2
    exact ⟨⟨li, lj, wr, lg⟩, iA, jA, gA, ic, jc, gc, by rw [e0, e1, e2, e3], ⟨hi, hj, hg, hil, hjl, hgl⟩, hwr⟩
end
end Go.Proofs.Ytbpilgflejdhaaa
