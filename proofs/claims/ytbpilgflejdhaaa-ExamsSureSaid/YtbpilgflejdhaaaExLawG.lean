/- Exams: the plain law of grades and of shown truths. No program in sight. -/
import Derived.Test.YtbpilgflejdhaaaExLaw3
namespace Go.Proofs.Ytbpilgflejdhaaa
open Go.RowKit

theorem gradeP_le (l : List Int) (r : Int) : gradeP l r ≤ l.length := by
  unfold gradeP
  exact (List.takeWhile_sublist _).length_le
theorem gradeP_mono (l : List Int) {a b : Int} (h : a ≤ b) : gradeP l a ≤ gradeP l b := by
  unfold gradeP
  induction l with
  | nil => simp
  | cons x l ih =>
    simp only [List.takeWhile_cons]
    by_cases hx : x ≤ a
    · have hxb : x ≤ b := by omega
      simp [hx, hxb, ih]
    · simp [hx]
theorem gradeP_count {l : List Int} (h : l.Pairwise (· < ·)) (r : Int) : gradeP l r = l.countP (fun g => decide (g ≤ r)) := by
  unfold gradeP
  induction l with
  | nil => rfl
  | cons x l ih =>
    obtain ⟨h1, h2⟩ := List.pairwise_cons.1 h
    simp only [List.takeWhile_cons, List.countP_cons]
    by_cases hx : x ≤ r
    · simp [hx, ih h2]
    · have : l.countP (fun g => decide (g ≤ r)) = 0 := by
        rw [List.countP_eq_zero]
        intro y hy
        have := h1 y hy
        simp only [decide_eq_true_eq]
        omega
      simp [hx, this]
theorem grades_pairwise {p : Paper} (hV : Valid p) : p.grades.Pairwise (· < ·) := by
  have key : ∀ j, j < p.grades.length → ∀ i, i < j → p.grades.getD i 0 < p.grades.getD j 0 := by
    intro j
    induction j with
    | zero => intro _ i hi; omega
    | succ j ih =>
      intro hj i hi
      have h1 := (hV.gr (j + 1) hj).2.2
      rcases h1 with h1 | h1
      · omega
      · rw [Nat.add_sub_cancel] at h1
        by_cases e : i = j
        · subst e; exact h1
        · have := ih (by omega) i (by omega); omega
  rw [List.pairwise_iff_getElem]
  intro i j hi hj hij
  have := key j hj i hij
  simpa [List.getD, hi, hj] using this
theorem gradeP_gradeOf {p : Paper} (hV : Valid p) (r : Int) : (gradeP p.grades r : Int) = gradeOf p r := by
  unfold gradeOf gradeTo
  rw [List.take_length, gradeP_count (grades_pairwise hV)]
theorem take_pad {p : Paper} {t : List Int} (h : t.length = p.items.length) : (padT t).take p.items.length = t := by
  unfold padT
  rw [← h, List.take_left]
/-- A truth that Show gives. -/
theorem show_some {p : Paper} (hV : Valid p) {g : Int} {v : List Int} (h : getS (openM p).shown g = some v) :
    isPossible p (v.take p.items.length) = true ∧ gradeOf p (resultOf p (v.take p.items.length)) = g ∧ (gradeP p.grades (openM p).res.1 : Int) ≤ g ∧ g ≤ (gradeP p.grades (openM p).res.2 : Int) := by
  obtain ⟨t, ht, hg, rfl⟩ := (open_shown hV g).1 v h
  rw [take_pad (isTruth_iff.1 (possible_truth ht)).1]
  have hr := open_res_in hV ht
  have m1 := gradeP_mono p.grades hr.1
  have m2 := gradeP_mono p.grades hr.2
  exact ⟨ht, by rw [← gradeP_gradeOf hV]; exact hg, by omega, by omega⟩
theorem show_none {p : Paper} (hV : Valid p) (hp : (openM p).poss = true) {g : Int} (h : getS (openM p).shown g = none) : g ≠ (gradeP p.grades (openM p).res.1 : Int) ∧ g ≠ (gradeP p.grades (openM p).res.2 : Int) := by
  obtain ⟨⟨t, ht, h1⟩, ⟨u, hu, h2⟩⟩ := open_res_ex hV hp
  have a := (open_shown hV g).2 h t ht
  have b := (open_shown hV g).2 h u hu
  rw [h1] at a
  rw [h2] at b
  exact ⟨fun e => a e.symm, fun e => b e.symm⟩
end Go.Proofs.Ytbpilgflejdhaaa
