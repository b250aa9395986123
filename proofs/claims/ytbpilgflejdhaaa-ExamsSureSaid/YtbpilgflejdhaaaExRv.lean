/- Exams: what ready and known say of a paper. -/
import Derived.Test.YtbpilgflejdhaaaExX2
namespace Go.Proofs.Ytbpilgflejdhaaa
open Go.RowKit
theorem ready_valid {p : Paper} (h : readyM p = true) : validB p = true ∧ p.judges.length ≤ 3 ∧ p.items.length ≤ 20 ∧ p.judges.length ≤ 20 ∧ p.grades.length ≤ 20 := by
  unfold readyM farM at h
  simp only [Bool.and_eq_true, Bool.not_eq_true', Bool.or_eq_false_iff, decide_eq_false_iff_not] at h
  obtain ⟨⟨h1, h2, h3, _, h5⟩, hv⟩ := h
  rw [hv, Bool.true_and, decide_eq_false_iff_not] at h5
  exact ⟨hv, by omega, by omega, by omega, by omega⟩

theorem known_true {p : Paper} (hv : validB p = true) : knownE p true = (if (openM p).poss then 0 else 3) := by simp [knownE, hv]
end Go.Proofs.Ytbpilgflejdhaaa
