/- Exams: Far, ready, span, Example. -/
import Derived.Test.YtbpilgflejdhaaaExE
import Derived.Test.YtbpilgflejdhaaaExQ
import Derived.Test.YtbpilgflejdhaaaExS
namespace Go.Proofs.Ytbpilgflejdhaaa
open Go.RowKit

theorem spanL_any (lo hi : Int) (w : World) : Calls Try.prog 21 #[.int .i64 lo, .int .i64 hi] w fun e w' => e = .returned (.agg #[.int .i64 lo, .int .i64 hi]) ∧ Ext w w' := by
  go_enter Try.func21, Try.ntmps21
  go_wp2
  refine bodyPost_ret (v := .agg #[.int .i64 lo, .int .i64 hi]) (by simp [results, Try.results21, go_sem]) rfl ⟨rfl, Ext.of_alloc _ _⟩

def farM (p : Paper) : Bool := decide (20 < p.items.length) || (decide (20 < p.judges.length) || (decide (20 < p.grades.length) || (p.judges.any (fun x => decide (20 < x.marks.length)) || (validB p && decide (3 < p.judges.length)))))
theorem farM_true {p : Paper} (h : 20 < p.items.length ∨ 20 < p.judges.length ∨ 20 < p.grades.length ∨ (∃ k, k < p.judges.length ∧ 20 < (p.judges.getD k default).marks.length) ∨ (validB p = true ∧ 3 < p.judges.length)) : farM p = true := by
  unfold farM
  rcases h with h | h | h | ⟨k, hk, h⟩ | ⟨h, h'⟩
  · simp [h]
  · simp [h]
  · simp [h]
  · have : p.judges.any (fun x => decide (20 < x.marks.length)) = true := by
      rw [List.any_eq_true]
      refine ⟨p.judges.getD k default, ?_, by simpa using h⟩
      rw [List.getD, List.getElem?_eq_getElem hk]
      exact List.getElem_mem hk
    simp [this]
  · simp [h, h']
theorem farM_false {p : Paper} (h1 : ¬ 20 < p.items.length) (h2 : ¬ 20 < p.judges.length) (h3 : ¬ 20 < p.grades.length) (h4 : ∀ k, k < p.judges.length → ¬ 20 < (p.judges.getD k default).marks.length) (h5 : validB p = true → ¬ 3 < p.judges.length) : farM p = false := by
  unfold farM
  have h6 : p.judges.any (fun x => decide (20 < x.marks.length)) = false := by
    rw [List.any_eq_false]
    intro x hx
    obtain ⟨k, hk, rfl⟩ := List.getElem_of_mem hx
    have := h4 k hk
    rw [List.getD, List.getElem?_eq_getElem hk] at this
    simpa using this
  have h7 : (validB p && decide (3 < p.judges.length)) = false := by
    cases hv : validB p
    · rfl
    · have := h5 hv; simp only [Bool.true_and, decide_eq_false_iff_not]; exact this
  rw [h6, h7]
  simp only [Bool.or_false, Bool.or_eq_false_iff, decide_eq_false_iff_not]
  exact ⟨h1, h2, h3⟩
end Go.Proofs.Ytbpilgflejdhaaa
