/- Turns: an easier task has no more mistakes, and keeps what is right. No program in sight. -/
import Derived.Test.YtomkjfhepfinhaaTuZd
import Derived.Test.YtomkjfhepfinhaaTuY
set_option linter.unusedSimpArgs false
set_option linter.unusedVariables false
namespace Go.Proofs.Ytomkjfhepfinhaa

/-- By how much a task is easier. -/
structure Eas where
  hand : Int
  start : Int
  tire : Int
  ease : Int
  slip : Int
  limit : Int
  rest : Int
structure Eas.ok (x : Eas) : Prop where
  s : 0 ≤ x.start ∧ x.start ≤ 100
  t : 0 ≤ x.tire ∧ x.tire ≤ 20
  e : 0 ≤ x.ease ∧ x.ease ≤ 20
  l : 0 ≤ x.slip ∧ x.slip ≤ 100
  m : 0 ≤ x.limit ∧ x.limit ≤ 10
  r : 0 ≤ x.rest ∧ x.rest ≤ 10
def easeH (y : Hand) (x : Eas) : Hand := ⟨max 0 (y.sl - x.start), max 0 (y.sh - x.start), max 0 (y.tl - x.tire), max 0 (y.th - x.tire), min 20 (y.el + x.ease), min 20 (y.eh + x.ease), max 0 (y.slip - x.slip)⟩
def easeL (l : List Hand) (x : Eas) : List Hand := (List.range l.length).map fun (h : Nat) => if x.hand = (h : Int) then easeH (l.getD h hd0) x else l.getD h hd0
def easeT (t : Task) (x : Eas) : Task := ⟨easeL t.hands x, t.parts, min 10 (t.limit + x.limit), max 1 (t.rest - x.rest), t.swap⟩
theorem easeL_len (l : List Hand) (x : Eas) : (easeL l x).length = l.length := by simp [easeL]
theorem easeL_get {l : List Hand} {x : Eas} {h : Nat} (hh : h < l.length) : (easeL l x).getD h hd0 = if x.hand = (h : Int) then easeH (l.getD h hd0) x else l.getD h hd0 := by
  simp [easeL, List.getD, hh]
theorem easeT_hands {t : Task} {x : Eas} : (easeT t x).hands = easeL t.hands x := rfl
theorem taskOk_e {t : Task} (k : TaskOk t) : t.ok = true := by
  simp only [Task.ok, Bool.and_eq_true, decide_eq_true_eq]
  refine ⟨⟨⟨⟨⟨⟨k.hn, k.pn⟩, k.lim⟩, k.rest⟩, k.swap⟩, ?_⟩, ?_⟩
  · rw [List.all_eq_true]
    intro x hx
    obtain ⟨h, hh, rfl⟩ := List.getElem_of_mem hx
    have := k.hand h hh
    simp only [List.getD, List.getElem?_eq_getElem hh, Option.getD_some] at this
    simp only [Hand.ok, spanOk, Bool.and_eq_true, decide_eq_true_eq]
    omega
  · rw [List.all_eq_true]
    intro x hx
    obtain ⟨h, hh, rfl⟩ := List.getElem_of_mem hx
    have := k.part h hh
    simp only [List.getD, List.getElem?_eq_getElem hh, Option.getD_some] at this
    simpa using this
theorem easeT_ok {t : Task} {x : Eas} (k : TaskOk t) (o : x.ok) : TaskOk (easeT t x) := by
  have h1 := o.s
  have h2 := o.t
  have h3 := o.e
  have h4 := o.l
  have h5 := o.m
  have h6 := o.r
  have h7 := k.lim
  have h8 := k.rest
  refine ⟨by rw [easeT_hands, easeL_len]; exact k.hn, k.pn, ?_, ?_, k.swap, fun h hh => ?_, k.part⟩
  · show 1 ≤ min 10 (t.limit + x.limit) ∧ min 10 (t.limit + x.limit) ≤ 10
    omega
  · show 1 ≤ max 1 (t.rest - x.rest) ∧ max 1 (t.rest - x.rest) ≤ 10
    omega
  · rw [easeT_hands, easeL_len] at hh
    rw [easeT_hands, easeL_get hh]
    have := k.hand h hh
    split
    · simp only [easeH]; omega
    · exact this
theorem ease_rota {t : Task} {x : Eas} {r : List Int} : isRota (easeT t x) r = isRota t r := by
  unfold isRota; rw [easeT_hands, easeL_len]; rfl
theorem ease_in {t : Task} {x : Eas} {r : List Int} (q : RotaIn t r) : RotaIn (easeT t x) r := ⟨q.len, by rw [easeT_hands, easeL_len]; exact q.el⟩
theorem endOf_le {l h l' h' : Int} {b : Bool} (h1 : l' ≤ l) (h2 : h' ≤ h) : endOf l' h' b ≤ endOf l h b := by
  unfold endOf; split <;> assumption
theorem ease_le {t : Task} {x : Eas} {r : List Int} {b : Bool} (k : TaskOk t) (q : RotaIn t r) (o : x.ok) : RunLe (easeT t x) t r (extreme (easeT t x) r b) (extreme t r b) := by
  have h1 := o.s
  have h2 := o.t
  have h3 := o.e
  have h4 := o.l
  have el : (easeT t x).hands.length = t.hands.length := by rw [easeT_hands, easeL_len]
  refine ⟨el, rfl, rfl, fun h hh => ?_, fun h hh => ?_, fun i hi h hh => ?_⟩
  · rw [el] at hh
    have := k.hand h hh
    rw [easeT_hands, easeL_get hh]
    split
    · simp only [easeH]; omega
    · exact Int.le_refl _
  · rw [extreme_start hh, extreme_start (by omega)]
    rw [el] at hh
    have := k.hand h hh
    rw [easeT_hands, easeL_get hh]
    split
    · simp only [easeH]; exact endOf_le (by omega) (by omega)
    · exact Int.le_refl _
  · rw [extreme_step hi hh, extreme_step hi (by omega)]
    rw [el] at hh
    have := k.hand h hh
    unfold stepAt
    rw [easeT_hands, easeL_get hh]
    split
    · split
      · simp only [easeH]; exact endOf_le (by omega) (by omega)
      · exact Int.le_refl _
    · split
      · simp only [easeH]; exact endOf_le (by omega) (by omega)
      · exact Int.le_refl _
theorem ease_bad {t : Task} {x : Eas} {r : List Int} {b : Bool} (k : TaskOk t) (q : RotaIn t r) (o : x.ok) : (runC (easeT t x) r (extreme (easeT t x) r b)).bad ≤ (runC t r (extreme t r b)).bad :=
  (run_le (extreme_run (easeT_ok k o) (ease_in q)) (extreme_run k q) (ease_le k q o) r.length (Nat.le_refl _)).2
theorem rightH_ease {t u : Task} {h : Int} (h1 : t.limit ≤ u.limit) (h2 : u.rest ≤ t.rest) (h3 : 0 ≤ t.limit) : ∀ {r : List Int} {row a b : Int}, row ≤ t.limit → a - t.rest ≤ b - u.rest → rightH t h r row a = true → rightH u h r row b = true
  | [], _, _, _, _, _, _ => rfl
  | x :: xs, row, a, b, hr, hb, H => by
    rw [rightH] at H ⊢
    by_cases e : x = h
    · rw [if_pos e] at H ⊢
      by_cases g : (row = 0 ∧ a < t.rest) ∨ row = t.limit
      · rw [if_pos g] at H; cases H
      · rw [if_neg g] at H
        rw [if_neg (by omega)]
        exact rightH_ease h1 h2 h3 (by omega) (by omega) H
    · rw [if_neg e] at H ⊢
      exact rightH_ease h1 h2 h3 (by omega) (by omega) H
theorem ease_right {t : Task} {x : Eas} {r : List Int} (k : TaskOk t) (o : x.ok) (h : isRight t r = true) : isRight (easeT t x) r = true := by
  have h5 := o.m
  have h6 := o.r
  have h7 := k.lim
  have h8 := k.rest
  have el : (easeT t x).hands.length = t.hands.length := by rw [easeT_hands, easeL_len]
  unfold isRight at h ⊢
  rw [List.all_eq_true] at h ⊢
  rw [el]
  intro y hy
  refine rightH_ease ?_ ?_ (by omega) (by omega) ?_ (h y hy)
  · show t.limit ≤ min 10 (t.limit + x.limit); omega
  · show max 1 (t.rest - x.rest) ≤ t.rest; omega
  · exact Int.le_of_eq (by omega)
end Go.Proofs.Ytomkjfhepfinhaa
