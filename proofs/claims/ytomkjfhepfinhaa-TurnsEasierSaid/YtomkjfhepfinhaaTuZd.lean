/- Turns: a run of a course is between those of its extremes. No program in sight. -/
import Derived.Test.YtomkjfhepfinhaaTuZ
import Derived.Test.YtomkjfhepfinhaaTuZc
set_option linter.unusedSimpArgs false
set_option linter.unusedVariables false
namespace Go.Proofs.Ytomkjfhepfinhaa

/-- One run does not exceed another. -/
structure RunLe (t u : Task) (r : List Int) (c d : Course) : Prop where
  n : t.hands.length = u.hands.length
  p : t.parts = u.parts
  s : t.swap = u.swap
  l : ∀ h, h < t.hands.length → (t.hands.getD h hd0).slip ≤ (u.hands.getD h hd0).slip
  b : ∀ h, h < t.hands.length → c.start.getD h 0 ≤ d.start.getD h 0
  e : ∀ i, i < r.length → ∀ h, h < t.hands.length → if r.getD i 0 = (h : Int) then (c.steps.getD i []).getD h 0 ≤ (d.steps.getD i []).getD h 0 else (d.steps.getD i []).getD h 0 ≤ (c.steps.getD i []).getD h 0
theorem run_le {t u : Task} {r : List Int} {c d : Course} (kc : RunOk t r c) (kd : RunOk u r d) (L : RunLe t u r c d) : ∀ i, i ≤ r.length → (∀ h, h < t.hands.length → (runTo t r c i).now.getD h 0 ≤ (runTo u r d i).now.getD h 0) ∧ (runTo t r c i).bad ≤ (runTo u r d i).bad
  | 0, _ => ⟨L.b, Int.le_refl _⟩
  | i + 1, hi => by
    obtain ⟨h1, h2⟩ := run_le kc kd L i (by omega)
    have I := runTo_in kc i (by omega)
    have J := runTo_in kd i (by omega)
    have hr := kc.rb i (by omega)
    refine ⟨fun h hh => ?_, ?_⟩
    · simp only [runTo, runStep]
      rw [nextW_get (by rw [I.len]; exact hh), nextW_get (by rw [J.len, ← L.n]; exact hh)]
      have a := h1 h hh
      have b := L.e i (by omega) h hh
      split
      · rename_i e; rw [if_pos e] at b; omega
      · rename_i e; rw [if_neg e] at b; omega
    · simp only [runTo, runStep]
      have a := h1 (r.getD i 0).toNat (by omega)
      have b := L.l (r.getD i 0).toNat (by omega)
      have hp := (kc.pb i (by omega)).1
      have m := Int.mul_le_mul_of_nonneg_left (c := t.parts.getD i 0) (Int.add_le_add b a) hp
      rw [← L.p, ← L.s]
      omega
theorem course_run {t : Task} {r : List Int} {c : Course} (k : TaskOk t) (q : RotaIn t r) (C : CourseOk t r c) : RunOk t r c := by
  have hn := k.hn
  have hp := k.pn
  refine ⟨by omega, C.st, ⟨by have := q.len; omega, q.len⟩, C.sl, C.sn, fun h hh => ?_, fun i hi h hh => ?_, q.el, fun i hi => k.part i (by have := q.len; omega), fun h hh => ?_, k.swap⟩
  · have := C.sb h hh
    have := k.hand h hh
    unfold startOk at *
    omega
  · have := C.tb i hi h hh
    have := k.hand h hh
    unfold inSpan at *
    split at * <;> omega
  · have := k.hand h hh; omega
theorem extreme_start {t : Task} {r : List Int} {b : Bool} {h : Nat} (hh : h < t.hands.length) : (extreme t r b).start.getD h 0 = endOf (t.hands.getD h hd0).sl (t.hands.getD h hd0).sh b := by
  simp only [extreme]; rw [getD_map' (d := hd0) hh]
theorem extreme_step {t : Task} {r : List Int} {b : Bool} {h i : Nat} (hi : i < r.length) (hh : h < t.hands.length) : ((extreme t r b).steps.getD i []).getD h 0 = stepAt t (r.getD i 0) b h := by
  simp only [extreme]
  rw [getD_map' (d := 0) hi]
  simp [stepsOf, List.getD, hh]
theorem run_lo {t : Task} {r : List Int} {c : Course} (k : TaskOk t) (q : RotaIn t r) (C : CourseOk t r c) : RunLe t t r (extreme t r false) c := by
  refine ⟨rfl, rfl, rfl, fun _ _ => Int.le_refl _, fun h hh => ?_, fun i hi h hh => ?_⟩
  · rw [extreme_start hh]; exact (C.sb h hh).1
  · rw [extreme_step hi hh]
    have := C.tb i hi h hh
    unfold inSpan at this
    unfold stepAt
    split
    · rename_i e; rw [if_pos e] at this; exact this.1
    · rename_i e; rw [if_neg e] at this; exact this.2
theorem run_hi {t : Task} {r : List Int} {c : Course} (k : TaskOk t) (q : RotaIn t r) (C : CourseOk t r c) : RunLe t t r c (extreme t r true) := by
  refine ⟨rfl, rfl, rfl, fun _ _ => Int.le_refl _, fun h hh => ?_, fun i hi h hh => ?_⟩
  · rw [extreme_start hh]; exact (C.sb h hh).2
  · rw [extreme_step hi hh]
    have := C.tb i hi h hh
    unfold inSpan at this
    unfold stepAt
    split
    · rename_i e; rw [if_pos e] at this; exact this.2
    · rename_i e; rw [if_neg e] at this; exact this.1
end Go.Proofs.Ytomkjfhepfinhaa
