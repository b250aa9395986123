/- Exams: plain data, and how they read in memory. -/
import Derived.Test.YtbpilgflejdhaaaMem
namespace Go.Proofs.Ytbpilgflejdhaaa
open Go.RowKit

structure Item where
  weight : Int
  most : Int
  deriving Inhabited, DecidableEq
structure Judge where
  lo : Int
  hi : Int
  err : Int
  marks : List Int
  deriving Inhabited, DecidableEq
structure Paper where
  items : List Item
  judges : List Judge
  wrong : Int
  grades : List Int
  deriving Inhabited, DecidableEq

def ItemsAt (w : World) (A : Option Addr) (l : List Item) : Prop :=
  ∀ k, k < l.length → ∃ b off, A = some ⟨b, off, none⟩ ∧ b < w.heap.size ∧ w.cell? ⟨b, off + k * 2, none⟩ = some (.int .i64 (l.getD k default).weight) ∧ w.cell? ⟨b, off + k * 2 + 1, none⟩ = some (.int .i64 (l.getD k default).most)
theorem ItemsAt.ext {w w' : World} {A : Option Addr} {l : List Item} (h : ItemsAt w A l) (e : Ext w w') : ItemsAt w' A l := fun k hk => by
  obtain ⟨b, off, hA, hb, h1, h2⟩ := h k hk
  exact ⟨b, off, hA, Nat.lt_of_lt_of_le hb e.size, (e.cellOf (p := ⟨b, _, none⟩) hb).trans h1, (e.cellOf (p := ⟨b, _, none⟩) hb).trans h2⟩

/-- The four cells of a judge. -/
def JudgeAt (w : World) (b o : Nat) (x : Judge) : Prop :=
  w.cell? ⟨b, o, none⟩ = some (.int .i64 x.lo) ∧ w.cell? ⟨b, o + 1, none⟩ = some (.int .i64 x.hi) ∧ w.cell? ⟨b, o + 2, none⟩ = some (.int .i64 x.err) ∧
    ∃ mA mc, w.cell? ⟨b, o + 3, none⟩ = some (.slice mA x.marks.length mc) ∧ Ints w mA x.marks ∧ x.marks.length ≤ 9223372036854775807
def JudgesAt (w : World) (A : Option Addr) (l : List Judge) : Prop :=
  ∀ k, k < l.length → ∃ b off, A = some ⟨b, off, none⟩ ∧ b < w.heap.size ∧ JudgeAt w b (off + k * 4) (l.getD k default)
theorem JudgeAt.ext {w w' : World} {b : Nat} {o : Nat} {x : Judge} (h : JudgeAt w b o x) (hb : b < w.heap.size) (e : Ext w w') : JudgeAt w' b o x := by
  obtain ⟨h1, h2, h3, mA, mc, h4, h5, h6⟩ := h
  have k : ∀ i, w'.cell? ⟨b, i, none⟩ = w.cell? ⟨b, i, none⟩ := fun i => e.cellOf (p := ⟨b, i, none⟩) hb
  exact ⟨(k _).trans h1, (k _).trans h2, (k _).trans h3, mA, mc, (k _).trans h4, h5.ext e, h6⟩
theorem JudgesAt.ext {w w' : World} {A : Option Addr} {l : List Judge} (h : JudgesAt w A l) (e : Ext w w') : JudgesAt w' A l := fun k hk => by
  obtain ⟨b, off, hA, hb, h1⟩ := h k hk
  exact ⟨b, off, hA, Nat.lt_of_lt_of_le hb e.size, h1.ext hb e⟩

/-- A paper as a value. -/
structure PaperAt (w : World) (iA jA gA : Option Addr) (p : Paper) : Prop where
  items : ItemsAt w iA p.items
  judges : JudgesAt w jA p.judges
  grades : Ints w gA p.grades
  il : p.items.length ≤ 9223372036854775807
  jl : p.judges.length ≤ 9223372036854775807
  gl : p.grades.length ≤ 9223372036854775807
theorem PaperAt.ext {w w' : World} {iA jA gA : Option Addr} {p : Paper} (h : PaperAt w iA jA gA p) (e : Ext w w') : PaperAt w' iA jA gA p :=
  ⟨h.items.ext e, h.judges.ext e, h.grades.ext e, h.il, h.jl, h.gl⟩

/-- GradeOf: how many of the first k grades are at most r. -/
def gradeTo (l : List Int) (r : Int) (k : Nat) : Nat := (l.take k).countP (fun g => decide (g ≤ r))
theorem gradeTo_succ (l : List Int) (r : Int) (k : Nat) (h : k < l.length) : gradeTo l r (k + 1) = gradeTo l r k + if l.getD k 0 ≤ r then 1 else 0 := by
  unfold gradeTo
  rw [List.take_succ_eq_append_getElem h, List.countP_append]
  simp [List.countP_cons, h]
theorem gradeTo_le (l : List Int) (r : Int) (k : Nat) : gradeTo l r k ≤ k := by
  unfold gradeTo
  have := List.countP_le_length (p := fun g => decide (g ≤ r)) (l := l.take k)
  have := List.length_take_le k l
  omega
def gradeOf (p : Paper) (r : Int) : Int := gradeTo p.grades r p.grades.length
end Go.Proofs.Ytbpilgflejdhaaa
