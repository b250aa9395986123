/- Turns: with_plan: the worst mistakes of the plan over some hands are those of Plan of With. No program in sight. -/
import Derived.Test.YtomkjfhepfinhaaTuZm
set_option linter.unusedSimpArgs false
set_option linter.unusedVariables false
namespace Go.Proofs.Ytomkjfhepfinhaa
open Go.RowKit

theorem getD_memI {l : List Int} {i : Nat} (h : i < l.length) : l.getD i 0 ∈ l := by
  simp only [List.getD, List.getElem?_eq_getElem h, Option.getD_some]; exact List.getElem_mem h
theorem subl_mem {t : Task} {l : List Int} (S : SubL t l) {v : Int} (h : v ∈ l) : 0 ≤ v ∧ v < t.hands.length := by
  obtain ⟨i, hi, rfl⟩ := List.getElem_of_mem h
  have := S.inr i hi
  simpa [List.getD, List.getElem?_eq_getElem hi] using this
theorem every_sub {t : Task} {l x : List Int} (k : TaskOk t) (S : SubL t l) : x ∈ everyP t l t.parts.length [] ↔ x.length = t.parts.length ∧ (∀ j, j < x.length → x.getD j 0 ∈ l) ∧ isRight t x = true := by
  rw [every_mem]
  simp only [List.length_nil, List.take_zero, true_and, Nat.zero_add, Nat.zero_le, forall_const]
  constructor
  · rintro ⟨a, b⟩
    refine ⟨a, fun j hj => (b j hj).1, ?_⟩
    rw [← rightP_eq k x fun j hj => subl_mem S (b j hj).1]
    unfold rightP rightTo
    rw [List.all_eq_true]
    intro j hj
    exact (b j (List.mem_range.1 hj)).2
  · rintro ⟨a, b, c⟩
    refine ⟨a, fun j hj => ⟨b j hj, ?_⟩⟩
    rw [← rightP_eq k x fun j hj => subl_mem S (b j hj)] at c
    unfold rightP rightTo at c
    rw [List.all_eq_true] at c
    exact c j (List.mem_range.2 hj)
theorem rota_in {t : Task} {l r : List Int} (h : isRota (withT t l) r = true) : r.length = t.parts.length ∧ RotaIn (withT t l) r := isRota_e h
theorem mp_every {t : Task} {l r : List Int} (k : TaskOk t) (S : SubL t l) (h1 : isRota (withT t l) r = true) (h2 : isRight (withT t l) r = true) : mpL l r ∈ everyP t l t.parts.length [] := by
  obtain ⟨a, q⟩ := rota_in h1
  refine (every_sub k S).2 ⟨by rw [mp_len, a], fun j hj => ?_, (right_with S q).1 h2⟩
  rw [mp_len] at hj
  have := q.el j hj
  rw [withT_len] at this
  rw [mp_get hj]
  have hj2 : (r.getD j 0).toNat < l.length := by omega
  exact getD_memI hj2
theorem every_mp {t : Task} {l x : List Int} (k : TaskOk t) (S : SubL t l) (h : x ∈ everyP t l t.parts.length []) : ∃ r, isRota (withT t l) r = true ∧ isRight (withT t l) r = true ∧ mpL l r = x := by
  obtain ⟨a, b, c⟩ := (every_sub k S).1 h
  have hx : ∀ v ∈ x, ∃ i : Nat, i < l.length ∧ l.getD i 0 = v := fun v hv => by
    obtain ⟨j, hj, rfl⟩ := List.getElem_of_mem hv
    have := b j hj
    simp only [List.getD, List.getElem?_eq_getElem hj, Option.getD_some] at this
    obtain ⟨i, hi, e⟩ := List.getElem_of_mem this
    exact ⟨i, hi, by simp only [List.getD, List.getElem?_eq_getElem hi, Option.getD_some]; exact e⟩
  obtain ⟨r, hr1, hr2⟩ : ∃ r : List Int, (∀ v ∈ r, 0 ≤ v ∧ v < (l.length : Int)) ∧ mpL l r = x := by
    clear a b c h
    induction x with
    | nil => exact ⟨[], fun v hv => by (cases hv), rfl⟩
    | cons v xs ih =>
      obtain ⟨r, h1, h2⟩ := ih fun w hw => hx w (List.mem_cons_of_mem _ hw)
      obtain ⟨i, hi, e⟩ := hx v List.mem_cons_self
      refine ⟨(i : Int) :: r, fun w hw => ?_, ?_⟩
      · rcases List.mem_cons.1 hw with rfl | hw
        · omega
        · exact h1 w hw
      · show l.getD ((i : Int)).toNat 0 :: mpL l r = _
        rw [h2, Int.toNat_natCast, e]
  have hl : r.length = t.parts.length := by rw [← a, ← hr2, mp_len]
  have hro : isRota (withT t l) r = true := by
    unfold isRota
    rw [Bool.and_eq_true, List.all_eq_true, withT_len]
    refine ⟨fun v hv => ?_, decide_eq_true (show r.length = (withT t l).parts.length from hl)⟩
    have := hr1 v hv
    simp only [decide_eq_true_eq]
    omega
  exact ⟨r, hro, (right_with S (isRota_e hro).2).2 (by rw [hr2]; exact c), hr2⟩
theorem task_ok {t : Task} (k : TaskOk t) : t.ok = true := by
  simp only [Task.ok, Bool.and_eq_true, decide_eq_true_eq]
  refine ⟨⟨⟨⟨⟨⟨k.hn, k.pn⟩, k.lim⟩, k.rest⟩, k.swap⟩, ?_⟩, ?_⟩
  · rw [List.all_eq_true]
    intro x hx
    obtain ⟨h, hh, rfl⟩ := List.getElem_of_mem hx
    have := k.hand h hh
    simp only [List.getD, List.getElem?_eq_getElem hh, Option.getD_some] at this
    simp only [Hand.ok, spanOk, Bool.and_eq_true, decide_eq_true_eq]
    omega
  · rw [List.all_eq_true]
    intro x hx
    obtain ⟨h, hh, rfl⟩ := List.getElem_of_mem hx
    have := k.part h hh
    simp only [List.getD, List.getElem?_eq_getElem hh, Option.getD_some] at this
    simpa using this
theorem with_plan {t : Task} {l : List Int} (k : TaskOk t) (S : SubL t l) (hs : l.Pairwise (· < ·)) : (planS t l = none ∧ planE (withT t l) = [nilS, AI 0, AI 3]) ∨ ∃ r w l', planS t l = some (r, w) ∧ planE (withT t l) = [aInts false false l', AI w, AI 0] := by
  have kw := withT_ok k S
  have okw : (withT t l).ok = true := task_ok kw
  rcases planS_spec k (fun h hh => subl_mem S hh) hs with ⟨p1, p2⟩ | ⟨r0, p1, p2, p3⟩
  · refine .inl ⟨p1, ?_⟩
    rcases plan_two kw with ⟨u1, _⟩ | ⟨l', _, m1, m2, _⟩
    · exact planE_no okw u1
    · have := mp_every k S m1 m2
      rw [p2] at this; cases this
  · refine .inr ?_
    obtain ⟨r, e1, e2, e3⟩ := every_mp k S p2
    rcases plan_two kw with ⟨_, u2⟩ | ⟨l', u1, m1, m2, m3⟩
    · exact (u2 r e1 e2).elim
    · refine ⟨r0, badOf t r0, l', p1, ?_⟩
      have a1 := p3 _ (mp_every k S m1 m2)
      have a2 := m3 r e1 e2
      rw [bad_with k S (isRota_e m1).2] at a2
      rw [bad_with k S (isRota_e e1).2, e3] at a2
      have : badOf (withT t l) l' = badOf t r0 := by rw [bad_with k S (isRota_e m1).2]; omega
      rw [← this]
      exact planE_yes okw u1
end Go.Proofs.Ytomkjfhepfinhaa
