/- Turns: what a run of a course keeps within bounds. No program in sight. -/
import Derived.Test.YtomkjfhepfinhaaTuS
set_option linter.unusedSimpArgs false
set_option linter.unusedVariables false
namespace Go.Proofs.Ytomkjfhepfinhaa

theorem getD_ge {l : List Int} {j : Nat} (h : l.length ≤ j) : l.getD j 0 = 0 := by simp [List.getD, List.getElem?_eq_none h]
theorem nextW_len (now step : List Int) (x : Int) : (nextW now step x).length = now.length := by simp [nextW]
theorem nextW_get {now step : List Int} {x : Int} {h : Nat} (hh : h < now.length) : (nextW now step x).getD h 0 = if x = (h : Int) then now.getD h 0 + step.getD h 0 else max 0 (now.getD h 0 - step.getD h 0) := by
  simp [nextW, List.getD, hh]
/-- What a run asks of a task, (the beginning of) a rota, and a course. -/
structure RunOk (t : Task) (r : List Int) (c : Course) : Prop where
  hn : 0 < t.hands.length ∧ t.hands.length ≤ 3
  st : c.start.length = t.hands.length
  rl : r.length ≤ 10 ∧ r.length ≤ t.parts.length
  sl : c.steps.length = r.length
  sn : ∀ i, i < r.length → (c.steps.getD i []).length = t.hands.length
  sb : ∀ h, h < t.hands.length → 0 ≤ c.start.getD h 0 ∧ c.start.getD h 0 ≤ 100
  tb : ∀ i, i < r.length → ∀ h, h < t.hands.length → 0 ≤ (c.steps.getD i []).getD h 0 ∧ (c.steps.getD i []).getD h 0 ≤ 20
  rb : ∀ i, i < r.length → 0 ≤ r.getD i 0 ∧ r.getD i 0 < t.hands.length
  pb : ∀ i, i < r.length → 0 ≤ t.parts.getD i 0 ∧ t.parts.getD i 0 ≤ 10
  lb : ∀ h, h < t.hands.length → 0 ≤ (t.hands.getD h hd0).slip ∧ (t.hands.getD h hd0).slip ≤ 100
  wb : 0 ≤ t.swap ∧ t.swap ≤ 100
structure RunIn (t : Task) (i : Nat) (s : RunS) : Prop where
  len : s.now.length = t.hands.length
  wb : ∀ h, h < t.hands.length → 0 ≤ s.now.getD h 0 ∧ s.now.getD h 0 ≤ 100 + 20 * (i : Int)
  bb : 0 ≤ s.bad ∧ s.bad ≤ 4100 * (i : Int)
  al : s.all.length = i + 1
theorem mul_bd {p q : Int} (hp : 0 ≤ p ∧ p ≤ 10) (hq : 0 ≤ q) : 0 ≤ p * q ∧ p * q ≤ 10 * q := ⟨Int.mul_nonneg hp.1 hq, Int.mul_le_mul_of_nonneg_right hp.2 hq⟩
theorem runTo_in {t : Task} {r : List Int} {c : Course} (k : RunOk t r c) : ∀ i, i ≤ r.length → RunIn t i (runTo t r c i)
  | 0, _ => ⟨k.st, fun h hh => by have := k.sb h hh; simp only [runTo]; omega, by simp [runTo], by simp [runTo]⟩
  | i + 1, hi => by
    have ih := runTo_in k i (by omega)
    have hr := k.rb i (by omega)
    have hl := k.rl
    refine ⟨?_, fun h hh => ?_, ?_, ?_⟩
    · simp only [runTo, runStep, nextW_len]; exact ih.len
    · simp only [runTo, runStep]
      rw [nextW_get (by rw [ih.len]; exact hh)]
      have h1 := ih.wb h hh
      have h2 := k.tb i (by omega) h hh
      split <;> omega
    · simp only [runTo, runStep]
      have h0 := k.lb (r.getD i 0).toNat (by omega)
      have h1 := ih.wb (r.getD i 0).toNat (by omega)
      have h2 := mul_bd (k.pb i (by omega)) (q := (t.hands.getD (r.getD i 0).toNat hd0).slip + (runTo t r c i).now.getD (r.getD i 0).toNat 0) (by omega)
      have h3 := ih.bb
      have h4 := k.wb
      split <;> omega
    · simp only [runTo, runStep, List.length_append, ih.al, List.length_singleton]
theorem all_getD {α : Type} {p : α → Bool} {l : List α} (h : l.all p = true) {k : Nat} {d : α} (hk : k < l.length) : p (l.getD k d) = true := by
  rw [List.all_eq_true] at h
  refine h _ ?_
  simp only [List.getD, List.getElem?_eq_getElem hk, Option.getD_some]
  exact List.getElem_mem hk
structure TaskOk (t : Task) : Prop where
  hn : 1 ≤ t.hands.length ∧ t.hands.length ≤ 3
  pn : 1 ≤ t.parts.length ∧ t.parts.length ≤ 10
  lim : 1 ≤ t.limit ∧ t.limit ≤ 10
  rest : 1 ≤ t.rest ∧ t.rest ≤ 10
  swap : 0 ≤ t.swap ∧ t.swap ≤ 100
  hand : ∀ h, h < t.hands.length → 0 ≤ (t.hands.getD h hd0).sl ∧ (t.hands.getD h hd0).sl ≤ (t.hands.getD h hd0).sh ∧ (t.hands.getD h hd0).sh ≤ 100 ∧ 0 ≤ (t.hands.getD h hd0).tl ∧ (t.hands.getD h hd0).tl ≤ (t.hands.getD h hd0).th ∧ (t.hands.getD h hd0).th ≤ 20 ∧ 0 ≤ (t.hands.getD h hd0).el ∧ (t.hands.getD h hd0).el ≤ (t.hands.getD h hd0).eh ∧ (t.hands.getD h hd0).eh ≤ 20 ∧ 0 ≤ (t.hands.getD h hd0).slip ∧ (t.hands.getD h hd0).slip ≤ 100
  part : ∀ i, i < t.parts.length → 0 ≤ t.parts.getD i 0 ∧ t.parts.getD i 0 ≤ 10
theorem taskOk {t : Task} (h : t.ok = true) : TaskOk t := by
  simp only [Task.ok, Bool.and_eq_true, decide_eq_true_eq] at h
  obtain ⟨⟨⟨⟨⟨⟨h1, h2⟩, h3⟩, h4⟩, h5⟩, h6⟩, h7⟩ := h
  refine ⟨by omega, by omega, h3, h4, h5, fun k hk => ?_, fun i hi => ?_⟩
  · have := all_getD h6 (d := hd0) hk
    simp only [Hand.ok, spanOk, Bool.and_eq_true, decide_eq_true_eq] at this
    omega
  · have := all_getD h7 (d := 0) hi
    simpa using this
/-- (The beginning of) a rota. -/
structure RotaIn (t : Task) (r : List Int) : Prop where
  len : r.length ≤ t.parts.length
  el : ∀ i, i < r.length → 0 ≤ r.getD i 0 ∧ r.getD i 0 < t.hands.length
theorem isRota_e {t : Task} {r : List Int} (h : isRota t r = true) : r.length = t.parts.length ∧ RotaIn t r := by
  simp only [isRota, Bool.and_eq_true, decide_eq_true_eq] at h
  refine ⟨h.2, by omega, fun i hi => ?_⟩
  have := all_getD h.1 (d := 0) hi
  simp only [decide_eq_true_eq] at this
  omega
theorem checkRota_0 {t : Task} {r : List Int} (h : checkRota t r = 0) : t.ok = true ∧ isRota t r = true := by
  unfold checkRota at h
  split at h
  · rename_i h1
    split at h
    · rename_i h2; exact ⟨h1, h2⟩
    · omega
  · omega
theorem getD_map' {α β : Type} {f : α → β} {l : List α} {k : Nat} {d : α} {d' : β} (h : k < l.length) : (l.map f).getD k d' = f (l.getD k d) := by
  simp [List.getD, h]
theorem endOf_bd {l h m : Int} {b : Bool} (h0 : 0 ≤ l) (h1 : l ≤ h) (h2 : h ≤ m) : 0 ≤ endOf l h b ∧ endOf l h b ≤ m := by
  unfold endOf; split <;> omega
theorem extreme_run {t : Task} {r : List Int} {b : Bool} (k : TaskOk t) (q : RotaIn t r) : RunOk t r (extreme t r b) := by
  have hn := k.hn
  have hp := k.pn
  refine ⟨by omega, by simp [extreme], ⟨by have := q.len; omega, q.len⟩, by simp [extreme], fun i hi => ?_, fun h hh => ?_, fun i hi h hh => ?_, q.el, fun i hi => k.part i (by have := q.len; omega), fun h hh => ?_, k.swap⟩
  · simp only [extreme]
    rw [getD_map' (d := 0) hi]
    simp [stepsOf]
  · simp only [extreme]
    rw [getD_map' (d := hd0) hh]
    have := k.hand h hh
    exact endOf_bd (by omega) (by omega) (by omega)
  · simp only [extreme]
    rw [getD_map' (d := 0) hi]
    have : (stepsOf t (r.getD i 0) b).getD h 0 = stepAt t (r.getD i 0) b h := by simp [stepsOf, List.getD, hh]
    rw [this]
    have := k.hand h hh
    unfold stepAt
    split
    · exact endOf_bd (by omega) (by omega) (by omega)
    · exact endOf_bd (by omega) (by omega) (by omega)
  · have := k.hand h hh; omega
end Go.Proofs.Ytomkjfhepfinhaa
