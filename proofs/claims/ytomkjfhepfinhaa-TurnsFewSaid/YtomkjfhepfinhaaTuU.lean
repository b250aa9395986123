/- Turns: the program's right rotas are the reference's; what a right rota keeps. -/
import Derived.Test.YtomkjfhepfinhaaTuP
set_option linter.unusedSimpArgs false
set_option linter.unusedVariables false
namespace Go.Proofs.Ytomkjfhepfinhaa

/-- A hand's row and rest behind some parts. -/
def stH (t : Task) (h : Int) : List Int → Int × Int → Int × Int
  | [], s => s
  | x :: xs, (row, rest) => stH t h xs (if x = h then (row + 1, 0) else (0, rest + 1))
theorem stH_snoc {t : Task} {h x : Int} : ∀ {b : List Int} {s : Int × Int}, stH t h (b ++ [x]) s = (if x = h then ((stH t h b s).1 + 1, 0) else (0, (stH t h b s).2 + 1))
  | [], (a, c) => by simp [stH]
  | y :: b, (a, c) => by simp only [List.cons_append, stH]; exact stH_snoc
theorem rightH_snoc {t : Task} {h x : Int} : ∀ {b : List Int} {row rest : Int}, rightH t h (b ++ [x]) row rest = (rightH t h b row rest && (if x = h then !decide (((stH t h b (row, rest)).1 = 0 ∧ (stH t h b (row, rest)).2 < t.rest) ∨ (stH t h b (row, rest)).1 = t.limit) else true))
  | [], row, rest => by
    simp only [List.nil_append, rightH, Bool.true_and]
    show _ = (if x = h then !decide ((row = 0 ∧ rest < t.rest) ∨ row = t.limit) else true)
    by_cases e : x = h
    · rw [if_pos e, if_pos e]
      by_cases e2 : (row = 0 ∧ rest < t.rest) ∨ row = t.limit
      · rw [if_pos e2, decide_eq_true e2]; rfl
      · rw [if_neg e2, decide_eq_false e2]; rfl
    · rw [if_neg e, if_neg e]
  | y :: b, row, rest => by
    simp only [List.cons_append, rightH, stH]
    by_cases e : y = h
    · simp only [if_pos e]
      split
      · simp
      · exact rightH_snoc
    · simp only [if_neg e]; exact rightH_snoc
theorem trail_snoc {h x : Int} {b : List Int} : trailTo h (b ++ [x]) (b ++ [x]).length = if x = h then trailTo h b b.length + 1 else 0 := by
  have e : (b ++ [x]).length = b.length + 1 := by simp
  rw [e, trailTo]
  have : (b ++ [x]).getD b.length 0 = x := by rw [getD_snoc, if_neg (by omega), if_pos rfl]
  rw [this]
  have key : ∀ i, i ≤ b.length → trailTo h (b ++ [x]) i = trailTo h b i := by
    intro i
    induction i with
    | zero => intro _; rfl
    | succ i ih => intro hi; rw [trailTo, trailTo, getD_app_l (by omega), ih (by omega)]
  rw [key _ (Nat.le_refl _)]
theorem last_snoc {h x : Int} {b : List Int} : lastTo h (b ++ [x]) (b ++ [x]).length = if x = h then (b.length : Int) else lastTo h b b.length := by
  have e : (b ++ [x]).length = b.length + 1 := by simp
  rw [e, lastTo]
  have : (b ++ [x]).getD b.length 0 = x := by rw [getD_snoc, if_neg (by omega), if_pos rfl]
  rw [this]
  have key : ∀ i, i ≤ b.length → lastTo h (b ++ [x]) i = lastTo h b i := by
    intro i
    induction i with
    | zero => intro _; rfl
    | succ i ih => intro hi; rw [lastTo, lastTo, getD_app_l (by omega), ih (by omega)]
  rw [key _ (Nat.le_refl _)]
theorem snoc_ind {p : List Int → Prop} (h0 : p []) (h1 : ∀ b x, p b → p (b ++ [x])) : ∀ b, p b := by
  intro b
  have : ∀ n (b : List Int), b.length = n → p b := by
    intro n
    induction n with
    | zero => intro b hb; rw [List.length_eq_zero_iff.1 hb]; exact h0
    | succ n ih =>
      intro b hb
      have hne : b ≠ [] := by intro e; subst e; simp at hb
      rw [← List.dropLast_concat_getLast hne]
      exact h1 _ _ (ih _ (by simp; omega))
  exact this _ b rfl
theorem stH_eq {t : Task} {h : Int} : ∀ (b : List Int), (stH t h b (0, t.rest)).1 = trailTo h b b.length ∧ (stH t h b (0, t.rest)).2 = if lastTo h b b.length < 0 then t.rest + b.length else (b.length : Int) - 1 - lastTo h b b.length := by
  refine snoc_ind ⟨rfl, by simp [stH, lastTo]⟩ fun b x ih => ?_
  rw [stH_snoc, trail_snoc, last_snoc]
  by_cases e : x = h
  · simp only [if_pos e]
    refine ⟨by rw [ih.1]; simp, ?_⟩
    rw [if_neg (by omega)]; simp
  · simp only [if_neg e]
    refine ⟨by simp, ?_⟩
    rw [ih.2]
    split <;> simp <;> omega
theorem trail_last {h : Int} {b : List Int} (h0 : 0 < b.length) : (0 < trailTo h b b.length ↔ lastTo h b b.length = (b.length : Int) - 1) := by
  obtain ⟨n, hn⟩ : ∃ n, b.length = n + 1 := ⟨b.length - 1, by omega⟩
  rw [hn, trailTo, lastTo]
  have := lastTo_bd h b n
  by_cases e : b.getD n 0 = h
  · rw [if_pos e, if_pos e]; constructor <;> intro <;> omega
  · rw [if_neg e, if_neg e]; constructor <;> intro <;> omega
/-- The row of a hand at the end of a right rota. -/
theorem right_trail {t : Task} {h : Int} (h1 : 1 ≤ t.limit) : ∀ (b : List Int), rightH t h b 0 t.rest = true → (trailTo h b b.length : Int) ≤ t.limit := by
  refine snoc_ind (fun _ => by simp [trailTo]; omega) fun b x ih hr => ?_
  rw [rightH_snoc, Bool.and_eq_true] at hr
  have := ih hr.1
  rw [trail_snoc]
  by_cases e : x = h
  · rw [if_pos e]
    have h2 := hr.2
    rw [if_pos e, (stH_eq b).1] at h2
    simp only [Bool.not_eq_true', decide_eq_false_iff_not] at h2
    omega
  · rw [if_neg e]; omega
theorem step_follows {t : Task} {b : List Int} {x : Int} (h1 : 1 ≤ t.limit) (h2 : 1 ≤ t.rest) (hr : rightH t x b 0 t.rest = true) : rightH t x (b ++ [x]) 0 t.rest = followsP t b x := by
  rw [rightH_snoc, hr, Bool.true_and, if_pos rfl, (stH_eq b).1, (stH_eq b).2]
  have hb := lastTo_bd x b b.length
  have ht := right_trail (h := x) h1 b hr
  unfold followsP
  by_cases hb0 : b.length = 0
  · have e0 : b = [] := List.length_eq_zero_iff.1 hb0
    subst e0
    have e1 : trailTo x [] ([] : List Int).length = 0 := rfl
    have e2 : lastTo x [] ([] : List Int).length = -1 := rfl
    have h3 : ¬ (0 ≤ (-1 : Int) ∧ 0 < ((([] : List Int).length : Nat) : Int) - 1 - -1) := by simp
    rw [e1, e2, if_pos (show (-1 : Int) < 0 by omega), if_neg h3, Bool.eq_iff_iff]
    simp only [Bool.not_eq_true', decide_eq_false_iff_not, decide_eq_true_eq, List.length_nil]
    omega
  · have htl := trail_last (h := x) (b := b) (by omega)
    by_cases hc : 0 ≤ lastTo x b b.length ∧ 0 < (b.length : Int) - 1 - lastTo x b b.length
    · rw [if_pos hc, if_neg (by omega)]
      have : trailTo x b b.length = 0 := by
        rcases Nat.eq_zero_or_pos (trailTo x b b.length) with h | h
        · exact h
        · have := htl.1 h; omega
      rw [this, Bool.eq_iff_iff]
      simp only [Bool.not_eq_true', decide_eq_false_iff_not, decide_eq_true_eq]
      omega
    · rw [if_neg hc, Bool.eq_iff_iff]
      simp only [Bool.not_eq_true', decide_eq_false_iff_not, decide_eq_true_eq]
      split
      · have : trailTo x b b.length = 0 := by
          rcases Nat.eq_zero_or_pos (trailTo x b b.length) with h | h
          · exact h
          · have := htl.1 h; omega
        rw [this]
        omega
      · have := htl.2 (by omega)
        omega
theorem isRight_all {t : Task} {r : List Int} : isRight t r = true ↔ ∀ h : Int, 0 ≤ h → h < t.hands.length → rightH t h r 0 t.rest = true := by
  unfold isRight
  rw [List.all_eq_true]
  constructor
  · intro h x hx0 hx
    have := h x.toNat (List.mem_range.2 (by omega))
    rwa [show ((x.toNat : Nat) : Int) = x by omega] at this
  · intro h x hx
    exact h x (by omega) (by have := List.mem_range.1 hx; omega)
theorem isRight_snoc {t : Task} {b : List Int} {x : Int} (k : TaskOk t) (hx : 0 ≤ x ∧ x < t.hands.length) : isRight t (b ++ [x]) = (isRight t b && followsP t b x) := by
  have k1 := k.lim
  have k2 := k.rest
  rw [Bool.eq_iff_iff, Bool.and_eq_true, isRight_all, isRight_all]
  constructor
  · intro h
    have hb : ∀ h' : Int, 0 ≤ h' → h' < t.hands.length → rightH t h' b 0 t.rest = true := fun h' a b' => by
      have := h h' a b'
      rw [rightH_snoc, Bool.and_eq_true] at this
      exact this.1
    exact ⟨hb, by rw [← step_follows (by omega) (by omega) (hb x hx.1 hx.2)]; exact h x hx.1 hx.2⟩
  · rintro ⟨h1, h2⟩ h' a b'
    by_cases e : x = h'
    · subst e
      rw [step_follows (by omega) (by omega) (h1 x a b')]; exact h2
    · rw [rightH_snoc, if_neg e, h1 h' a b']; rfl
theorem rightP_snoc {t : Task} {b : List Int} {x : Int} : rightP t (b ++ [x]) = (rightP t b && followsP t b x) := by
  unfold rightP rightTo
  rw [show (b ++ [x]).length = b.length + 1 by simp, List.range_succ, List.all_append, List.all_cons, List.all_nil, Bool.and_true]
  congr 1
  · rw [Bool.eq_iff_iff, List.all_eq_true, List.all_eq_true]
    have : ∀ j, j < b.length → followsP t ((b ++ [x]).take j) ((b ++ [x]).getD j 0) = followsP t (b.take j) (b.getD j 0) := fun j hj => by
      rw [getD_app_l hj, List.take_append_of_le_length (by omega)]
    constructor
    · intro h j hj; rw [← this j (List.mem_range.1 hj)]; exact h j hj
    · intro h j hj; rw [this j (List.mem_range.1 hj)]; exact h j hj
  · rw [List.take_left', getD_snoc, if_neg (by omega), if_pos rfl]
    rfl
theorem rightP_eq {t : Task} (k : TaskOk t) : ∀ (b : List Int), (∀ i, i < b.length → 0 ≤ b.getD i 0 ∧ b.getD i 0 < t.hands.length) → rightP t b = isRight t b := by
  refine snoc_ind (fun _ => by
    have : isRight t [] = true := isRight_all.2 fun h _ _ => rfl
    rw [this]; rfl) fun b x ih hb => ?_
  have hx := hb b.length (by simp)
  rw [getD_snoc, if_neg (by omega), if_pos rfl] at hx
  rw [rightP_snoc, isRight_snoc k hx, ih fun i hi => by have := hb i (by simp; omega); rwa [getD_app_l hi] at this]
/-- The rotas of the search are the right ones. -/
theorem every_right {t : Task} {x : List Int} (k : TaskOk t) : x ∈ everyP t (allL t.hands.length) t.parts.length [] ↔ isRota t x = true ∧ isRight t x = true := by
  rw [every_mem]
  simp only [List.length_nil, List.take_zero, true_and, Nat.zero_add, Nat.zero_le, forall_const, allL_mem]
  have hro : isRota t x = true ↔ x.length = t.parts.length ∧ ∀ j, j < x.length → 0 ≤ x.getD j 0 ∧ x.getD j 0 < t.hands.length := by
    unfold isRota
    rw [Bool.and_eq_true, all_getD2 (0 : Int)]
    simp only [decide_eq_true_eq]
    constructor
    · rintro ⟨a, b⟩; exact ⟨b, fun j hj => by have := a j hj; omega⟩
    · rintro ⟨a, b⟩; exact ⟨fun j hj => by have := b j hj; omega, a⟩
  rw [hro]
  constructor
  · rintro ⟨a, b⟩
    refine ⟨⟨a, fun j hj => (b j hj).1⟩, ?_⟩
    rw [← rightP_eq k x fun j hj => (b j hj).1]
    unfold rightP rightTo
    rw [List.all_eq_true]
    exact fun j hj => (b j (List.mem_range.1 hj)).2
  · rintro ⟨⟨a, b⟩, c⟩
    rw [← rightP_eq k x b] at c
    unfold rightP rightTo at c
    rw [List.all_eq_true] at c
    exact ⟨a, fun j hj => ⟨b j hj, c j (List.mem_range.2 hj)⟩⟩
end Go.Proofs.Ytomkjfhepfinhaa
