/- Turns: the plan over some hands is the plan of the task with just these hands. No program in sight. -/
import Derived.Test.YtomkjfhepfinhaaTuZl
import Derived.Test.YtomkjfhepfinhaaTuY
set_option linter.unusedSimpArgs false
set_option linter.unusedVariables false
namespace Go.Proofs.Ytomkjfhepfinhaa
open Go.RowKit

/-- Some hands of a task. -/
structure SubL (t : Task) (l : List Int) : Prop where
  pos : 0 < l.length ∧ l.length ≤ 3
  inr : ∀ i, i < l.length → 0 ≤ l.getD i 0 ∧ l.getD i 0 < t.hands.length
  inj : ∀ i j, i < l.length → j < l.length → l.getD i 0 = l.getD j 0 → i = j
def mpL (l r : List Int) : List Int := r.map fun i => l.getD i.toNat 0
theorem mp_get {l r : List Int} {j : Nat} (hj : j < r.length) : (mpL l r).getD j 0 = l.getD (r.getD j 0).toNat 0 := by
  unfold mpL; rw [getD_map (d := 0) hj]
theorem mp_len {l r : List Int} : (mpL l r).length = r.length := by simp [mpL]
theorem withT_ok {t : Task} {l : List Int} (k : TaskOk t) (S : SubL t l) : TaskOk (withT t l) := by
  refine ⟨by rw [withT_len]; have := S.pos; omega, k.pn, k.lim, k.rest, k.swap, fun h hh => ?_, k.part⟩
  rw [withT_len] at hh
  rw [withT_get hh]
  have := S.inr h hh
  exact k.hand _ (by omega)
theorem with_in {t : Task} {l r : List Int} (S : SubL t l) (q : RotaIn (withT t l) r) : RotaIn t (mpL l r) :=
  ⟨by rw [mp_len]; exact q.len, fun i hi => by
    rw [mp_len] at hi
    have := q.el i hi
    rw [withT_len] at this
    rw [mp_get hi]
    exact S.inr _ (by omega)⟩
theorem cTo_with {t : Task} {l r : List Int} {b : Bool} (k : TaskOk t) (S : SubL t l) (q : RotaIn (withT t l) r) : ∀ i, i ≤ r.length → (cTo (withT t l) b r i).bad = (cTo t b (mpL l r) i).bad ∧ ∀ h, h < l.length → (cTo (withT t l) b r i).now.getD h 0 = (cTo t b (mpL l r) i).now.getD (l.getD h 0).toNat 0
  | 0, _ => by
    refine ⟨rfl, fun h hh => ?_⟩
    have := S.inr h hh
    simp only [cTo, startL]
    rw [getD_map (d := hd0) (by rw [withT_len]; exact hh), getD_map (d := hd0) (by omega), withT_get hh]
  | i + 1, hi => by
    obtain ⟨h1, h2⟩ := cTo_with (b := b) k S q i (by omega)
    have q2 := with_in S q
    have hx := q.el i (by omega)
    rw [withT_len] at hx
    have hm : (mpL l r).getD i 0 = l.getD (r.getD i 0).toNat 0 := mp_get (by omega)
    have hxi := S.inr (r.getD i 0).toNat (by omega)
    obtain ⟨c1, _⟩ := cTo_bd (b := b) (withT_ok k S) q i (by omega)
    obtain ⟨c2, _⟩ := cTo_bd (b := b) k q2 i (by rw [mp_len]; omega)
    obtain ⟨_, _, e1⟩ := cTo_eq (b := b) q i (by omega)
    obtain ⟨_, _, e2⟩ := cTo_eq (b := b) q2 i (by rw [mp_len]; omega)
    refine ⟨?_, fun h hh => ?_⟩
    · simp only [cTo, signBad, h1, e1, e2, hm]
      rw [withT_get (by omega), h2 _ (by omega)]
      congr 1
      by_cases e0 : i = 0
      · subst e0; simp
      · have hy := q.el (i - 1) (by omega)
        rw [withT_len] at hy
        have hyi := S.inr (r.getD (i - 1) 0).toNat (by omega)
        rw [if_neg e0, if_neg e0, mp_get (by omega)]
        by_cases e : r.getD (i - 1) 0 = r.getD i 0
        · rw [if_neg (fun h => h.2 e), if_neg (fun h => h.2 (by rw [e]))]
        · rw [if_pos ⟨by omega, e⟩, if_pos ⟨by omega, fun h => e (by have := S.inj _ _ (by omega) (by omega) h; omega)⟩]; rfl
    · have hhi := S.inr h hh
      simp only [cTo, signNow]
      rw [nextW_get (by rw [c1, withT_len]; exact hh), nextW_get (by rw [c2]; omega), h2 h hh]
      have s1 : (stepsOf (withT t l) (r.getD i 0) b).getD h 0 = stepAt (withT t l) (r.getD i 0) b h := by rw [stepsOf, getD_range (by rw [withT_len]; exact hh)]
      have s2 : (stepsOf t ((mpL l r).getD i 0) b).getD (l.getD h 0).toNat 0 = stepAt t ((mpL l r).getD i 0) b (l.getD h 0).toNat := by rw [stepsOf, getD_range (by omega)]
      have ex : r.getD i 0 = (h : Int) ↔ (mpL l r).getD i 0 = (((l.getD h 0).toNat : Nat) : Int) := by
        rw [hm]
        constructor
        · intro e; rw [e]; simp only [Int.toNat_natCast]; omega
        · intro e
          have := S.inj (r.getD i 0).toNat h (by omega) hh (by omega)
          omega
      rw [s1, s2]
      unfold stepAt
      rw [withT_get hh]
      by_cases e : r.getD i 0 = (h : Int)
      · rw [if_pos e, if_pos (ex.1 e), if_pos e, if_pos (ex.1 e)]
      · rw [if_neg e, if_neg (fun a => e (ex.2 a)), if_neg e, if_neg (fun a => e (ex.2 a))]
theorem bad_with {t : Task} {l r : List Int} (k : TaskOk t) (S : SubL t l) (q : RotaIn (withT t l) r) : badOf (withT t l) r = badOf t (mpL l r) := by
  unfold badOf
  rw [mp_len]
  exact (cTo_with (b := true) k S q r.length (Nat.le_refl _)).1
theorem rightH_map {t : Task} {l : List Int} {h : Nat} (S : SubL t l) (hh : h < l.length) : ∀ {r : List Int} {row rest : Int}, (∀ x ∈ r, 0 ≤ x ∧ x < (l.length : Int)) → rightH t (l.getD h 0) (mpL l r) row rest = rightH (withT t l) (h : Int) r row rest
  | [], _, _, _ => rfl
  | x :: xs, row, rest, H => by
    have hx := H x List.mem_cons_self
    have ih := fun row rest => rightH_map (row := row) (rest := rest) S hh (r := xs) fun y hy => H y (List.mem_cons_of_mem _ hy)
    have ex : l.getD x.toNat 0 = l.getD h 0 ↔ x = (h : Int) := by
      constructor
      · intro e; have := S.inj _ _ (by omega) hh e; omega
      · intro e; rw [e]; rfl
    show rightH t (l.getD h 0) (l.getD x.toNat 0 :: mpL l xs) row rest = _
    rw [rightH, rightH, ih, ih]
    by_cases e : x = (h : Int)
    · rw [if_pos e, if_pos (ex.2 e)]; rfl
    · rw [if_neg e, if_neg (fun a => e (ex.1 a))]
theorem right_with {t : Task} {l r : List Int} (S : SubL t l) (q : RotaIn (withT t l) r) : isRight (withT t l) r = true ↔ isRight t (mpL l r) = true := by
  have hr : ∀ x ∈ r, 0 ≤ x ∧ x < (l.length : Int) := fun x hx => by
    obtain ⟨i, hi, rfl⟩ := List.getElem_of_mem hx
    have := q.el i hi
    rw [withT_len] at this
    simpa [List.getD, List.getElem?_eq_getElem hi] using this
  rw [isRight_all, isRight_all, withT_len]
  constructor
  · intro H h h0 h1
    by_cases e : ∃ j, j < l.length ∧ l.getD j 0 = h
    · obtain ⟨j, hj, rfl⟩ := e
      rw [rightH_map S hj hr]
      exact H j (by omega) (by omega)
    · refine rightH_none fun i hi a => e ⟨(r.getD i 0).toNat, ?_, ?_⟩
      · rw [mp_len] at hi
        have := q.el i hi
        rw [withT_len] at this
        omega
      · rw [mp_len] at hi
        rw [← mp_get hi]; exact a
  · intro H h h0 h1
    obtain ⟨j, rfl⟩ : ∃ j : Nat, h = j := ⟨h.toNat, by omega⟩
    rw [← rightH_map S (by omega) hr]
    have := S.inr j (by omega)
    exact H _ this.1 this.2
end Go.Proofs.Ytomkjfhepfinhaa
