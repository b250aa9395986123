/- Exams: end, whole; rows of spans of a call's own. -/
import Derived.Test.YtbpilgflejdhaaaExM
import Derived.Test.YtbpilgflejdhaaaExM2
import Derived.Test.YtbpilgflejdhaaaExN
namespace Go.Proofs.Ytbpilgflejdhaaa
open Go.RowKit

theorem spanCells_set (l : List (Int × Int)) (k : Nat) (x y : Int) : ((spanCells l).set (k * 2) (.int .i64 x)).set (k * 2 + 1) (.int .i64 y) = spanCells (l.set k (x, y)) := by
  induction l generalizing k with
  | nil => simp [spanCells]
  | cons s l ih =>
    cases k with
    | zero => simp [spanCells]
    | succ k =>
      have := ih k
      simp only [spanCells, List.flatMap_cons, List.set_cons_succ] at this ⊢
      rw [show (k + 1) * 2 = k * 2 + 1 + 1 by omega, show k * 2 + 1 + 1 + 1 = k * 2 + 1 + 1 + 1 by omega]
      simp only [List.cons_append, List.nil_append, List.set_cons_succ]
      rw [this]
/-- A row of spans of the call's own, as a slice. -/
theorem own_form {w : World} {base n size : Nat} {e : TypeId} {v : Value} {xs : List Value} (h : w.ownsRow base e size v n xs) :
    ∃ A c, v = .slice A n c ∧ (A = none → n = 0) ∧ (∀ b off, A = some ⟨b, off, none⟩ → base ≤ b ∧ off = 0) ∧ (0 < n → ∃ g, A = some ⟨g, 0, none⟩) := by
  rcases h.2 with ⟨hv, hn⟩ | ⟨g, cap, cur, hv, hb, _⟩
  · exact ⟨none, 0, by rw [hv, hn], fun _ => hn, (fun b off h => by cases h), (fun h => by omega)⟩
  · exact ⟨some ⟨g, 0, none⟩, cap, hv, (fun h => by cases h), (fun b off h => by injection h with h; injection h with h1 h2; exact ⟨by omega, h2.symm⟩), fun _ => ⟨g, rfl⟩⟩
theorem ownSpans_set {w : World} {base n c g k : Nat} {e : TypeId} {l : List (Int × Int)} (h : w.ownsRow base e 2 (.slice (some ⟨g, 0, none⟩) n c) n (spanCells l)) (x y : Int) :
    ((w.setCell ⟨g, k * 2, none⟩ (.int .i64 x)).setCell ⟨g, k * 2 + 1, none⟩ (.int .i64 y)).ownsRow base e 2 (.slice (some ⟨g, 0, none⟩) n c) n (spanCells (l.set k (x, y))) := by
  rw [← spanCells_set]
  exact ((h.stored _ _).1.stored _ _).1
theorem ownSpans_get {w : World} {base n c g k : Nat} {e : TypeId} {l : List (Int × Int)} (h : w.ownsRow base e 2 (.slice (some ⟨g, 0, none⟩) n c) n (spanCells l)) (hk : k < n) :
    ∃ x y, w.cell? ⟨g, k * 2, none⟩ = some (.int .i64 x) ∧ w.cell? ⟨g, k * 2 + 1, none⟩ = some (.int .i64 y) ∧ Hid (l.getD k (0, 0) = (x, y)) := by
  have hl : l.length = n := by have := h.1; rw [spanCells_length] at this; omega
  have hg := spanCells_get l k
  have hkl : k < l.length := by omega
  rw [List.getElem?_eq_getElem hkl] at hg
  refine ⟨(l[k]).1, (l[k]).2, ?_, ?_, ?_⟩
  · rw [h.cellAt (k * 2) (by omega), hg.1]; rfl
  · rw [h.cellAt (k * 2 + 1) (by omega), hg.2]; rfl
  · show l.getD k (0, 0) = _
    simp [List.getD, show k < l.length by omega]
theorem own_alloc {w : World} {base n size : Nat} {e : TypeId} {v : Value} {xs : List Value} (h : w.ownsRow base e size v n xs) (o : Obj) : (w.alloc o).ownsRow base e size v n xs := h.alloc o
theorem own_block {w : World} {base n size g c : Nat} {e : TypeId} {xs : List Value} (h : w.ownsRow base e size (.slice (some ⟨g, 0, none⟩) n c) n xs) : base ≤ g ∧ g < w.heap.size := h.lt g rfl
theorem own_ext {w w' : World} {base n size : Nat} {e : TypeId} {v : Value} {xs : List Value} (h : w.ownsRow base e size v n xs) (k : Ext w w') : w'.ownsRow base e size v n xs := by
  refine h.kept (k.grown none) ?_
  cases hv : v.ownBlock
  · exact .inl rfl
  · exact .inr (by simp)

theorem end_any (L : Loc) (p : Paper) (S : Surv) (a b c d r : Int) (A : Option Addr) (cc : Nat) (bs : List (Int × Int)) (w0 W : World) (h : SurvAt W L p S) (hb : Bias L W A bs) (hjl : bs.length = p.judges.length) (hbl : bs.length ≤ 4)
    (hil : p.items.length ≤ 4) (ht : ∀ k, k < p.items.length → 0 ≤ [a, b, c, d].getD k 0 ∧ [a, b, c, d].getD k 0 ≤ 30) (hP : PaperAt w0 L.iA L.jA L.gA p) (hE0 : Ext w0 W) (hB0 : w0.heap.size ≤ L.B) (hM0 : w0.heap.size ≤ L.M) (hR0 : w0.heap.size ≤ L.R) (hgl : p.grades.length ≤ 5) :
    Calls Try.prog 77 #[.pointer (some ⟨L.B, 0, none⟩), .agg #[.int .i64 a, .int .i64 b, .int .i64 c, .int .i64 d], .int .i64 r, .slice A bs.length cc] W fun e W' => e = .returned (.tuple #[]) ∧
      SurvAt W' L p (endM p [a, b, c, d] r bs S) ∧ Only L W W' := by
  by_cases hw : p.wrong < wrongN bs bs.length
  · have := end_no L p S a b c d r A cc bs W h hb hbl hw
    unfold endM
    simp only [if_pos hw]
    exact this
  · by_cases hm : S.fewest ≤ (wrongN bs bs.length : Int)
    · exact end_yes1 L p S a b c d r A cc bs w0 W h hb hjl hbl (by omega) hil ht hP hE0 hB0 hM0 hR0 hgl hm
    · exact end_yes2 L p S a b c d r A cc bs w0 W h hb hjl hbl (by omega) hil ht hP hE0 hB0 hM0 hR0 hgl (by omega)
end Go.Proofs.Ytbpilgflejdhaaa
