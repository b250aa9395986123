/- Turns: what the search of plans finds: of all right rotas with some hands that with the fewest worst mistakes, of several the lowest. No program in sight but its plain reading. -/
import Derived.Test.YtomkjfhepfinhaaTuR
set_option linter.unusedSimpArgs false
set_option linter.unusedVariables false
namespace Go.Proofs.Ytomkjfhepfinhaa

theorem getD_app_l {r x : List Int} {i : Nat} (h : i < r.length) : (r ++ x).getD i 0 = r.getD i 0 := by
  simp [List.getD, List.getElem?_append_left h]
theorem cTo_app {t : Task} {b : Bool} {r x : List Int} : ∀ i, i ≤ r.length → cTo t b (r ++ x) i = cTo t b r i
  | 0, _ => rfl
  | i + 1, hi => by
    simp only [cTo]
    rw [cTo_app i (by omega), getD_app_l (by omega)]
theorem bad_step {t : Task} {r : List Int} {h : Int} (k : TaskOk t) (q : RotaIn t (r ++ [h])) : badOf t r ≤ badOf t (r ++ [h]) := by
  have hl : (r ++ [h]).length = r.length + 1 := by simp
  have hx := q.el r.length (by omega)
  have hg : (r ++ [h]).getD r.length 0 = h := by rw [getD_snoc, if_neg (by omega), if_pos rfl]
  rw [hg] at hx
  have hql := q.len
  have qr : RotaIn t r := ⟨by omega, fun i hi => by have := q.el i (by omega); rwa [getD_app_l hi] at this⟩
  obtain ⟨c1, c2, c3⟩ := cTo_bd (b := true) k qr r.length (Nat.le_refl _)
  unfold badOf
  rw [hl]
  simp only [cTo]
  rw [cTo_app r.length (Nat.le_refl _), hg]
  have h1 := k.hand h.toNat (by omega)
  have h2 := c2 h.toNat (by omega)
  have h3 := mul_bd (k.part r.length (by omega)) (q := (t.hands.getD h.toNat hd0).slip + (cTo t true r r.length).now.getD h.toNat 0) (by omega)
  have h4 := k.swap
  unfold signBad
  split <;> omega
theorem followsP_take {t : Task} {r : List Int} {h : Int} : True := trivial

def everyP (t : Task) (hands : List Int) : Nat → List Int → List (List Int)
  | 0, r => [r]
  | n + 1, r => hands.flatMap fun h => if followsP t r h then everyP t hands n (r ++ [h]) else []
def better (t : Task) (s : PSt) (x : List Int) : PSt := if PSt.no s (badOf t x) then s else some (x, badOf t x)
theorem every_mem {t : Task} {hands : List Int} : ∀ {n : Nat} {r x : List Int}, x ∈ everyP t hands n r ↔ x.length = r.length + n ∧ x.take r.length = r ∧ ∀ j, r.length ≤ j → j < x.length → x.getD j 0 ∈ hands ∧ followsP t (x.take j) (x.getD j 0) = true
  | 0, r, x => by
    simp only [everyP, List.mem_singleton]
    constructor
    · rintro rfl; exact ⟨rfl, List.take_length, fun j h1 h2 => by omega⟩
    · rintro ⟨h1, h2, _⟩
      rw [← h2, List.take_of_length_le (by omega)]
  | n + 1, r, x => by
    simp only [everyP, List.mem_flatMap]
    constructor
    · rintro ⟨h, hh, hx⟩
      split at hx
      · rename_i hf
        obtain ⟨h1, h2, h3⟩ := every_mem.1 hx
        simp only [List.length_append, List.length_singleton] at h1 h2 h3
        have h4 : x.take r.length = r := by
          have := congrArg (List.take r.length) h2
          rw [List.take_take, Nat.min_eq_left (by omega), List.take_left'] at this
          · exact this
          · rfl
        have h5 : x.getD r.length 0 = h := by
          have : (x.take (r.length + 1)).getD r.length 0 = (r ++ [h]).getD r.length 0 := by rw [h2]
          rwa [getD_take (by omega), getD_snoc, if_neg (by omega), if_pos rfl] at this
        refine ⟨by omega, h4, fun j j1 j2 => ?_⟩
        by_cases e : j = r.length
        · subst e; rw [h4, h5]; exact ⟨hh, hf⟩
        · exact h3 j (by omega) j2
      · cases hx
    · rintro ⟨h1, h2, h3⟩
      obtain ⟨a, b⟩ := h3 r.length (Nat.le_refl _) (by omega)
      rw [h2] at b
      refine ⟨_, a, ?_⟩
      rw [if_pos b]
      refine every_mem.2 ⟨by simp; omega, ?_, fun j j1 j2 => h3 j (by simp at j1; omega) j2⟩
      simp only [List.length_append, List.length_singleton]
      have : x.take (r.length + 1) = x.take r.length ++ [x.getD r.length 0] := by
        rw [List.take_add_one, List.getD, List.getElem?_eq_getElem (by omega)]; rfl
      rw [this, h2]
theorem bad_ext {t : Task} {hands : List Int} (k : TaskOk t) (hin : ∀ h ∈ hands, 0 ≤ h ∧ h < t.hands.length) : ∀ {n : Nat} {r x : List Int}, r.length + n ≤ t.parts.length → RotaIn t r → x ∈ everyP t hands n r → badOf t r ≤ badOf t x
  | 0, r, x, _, _, hx => by
    simp only [everyP, List.mem_singleton] at hx
    subst hx; exact Int.le_refl _
  | n + 1, r, x, hl, q, hx => by
    simp only [everyP, List.mem_flatMap] at hx
    obtain ⟨h, hh, hx⟩ := hx
    split at hx
    · have q2 : RotaIn t (r ++ [h]) := by
        refine ⟨by simp; omega, fun i hi => ?_⟩
        rw [getD_snoc]
        split
        · rename_i h1; exact q.el i h1
        · rw [if_pos (by simp at hi; omega)]; exact hin h hh
      exact Int.le_trans (bad_step k q2) (bad_ext k hin (by simp; omega) q2 hx)
    · cases hx
theorem better_stay {t : Task} {s : PSt} : ∀ {L : List (List Int)}, (∀ x ∈ L, PSt.no s (badOf t x) = true) → L.foldl (better t) s = s
  | [], _ => rfl
  | x :: L, h => by
    rw [List.foldl_cons]
    have : better t s x = s := by unfold better; rw [if_pos (h x List.mem_cons_self)]
    rw [this]
    exact better_stay fun y hy => h y (List.mem_cons_of_mem _ hy)
theorem no_mono {s : PSt} {a b : Int} (h : PSt.no s a = true) (hab : a ≤ b) : PSt.no s b = true := by
  cases s with
  | none => cases h
  | some p => simp only [PSt.no, decide_eq_true_eq] at h ⊢; omega
theorem dfs_eq {t : Task} {hands : List Int} (k : TaskOk t) (hin : ∀ h ∈ hands, 0 ≤ h ∧ h < t.hands.length) : ∀ {n : Nat} {r : List Int} {s : PSt}, r.length + n ≤ t.parts.length → RotaIn t r → dfs t hands n r s = (everyP t hands n r).foldl (better t) s
  | 0, r, s, _, _ => by simp only [everyP, dfs, List.foldl_cons, List.foldl_nil, better]
  | n + 1, r, s, hl, q => by
    unfold dfs
    by_cases hno : PSt.no s (badOf t r) = true
    · rw [if_pos hno, better_stay]
      intro x hx
      exact no_mono hno (bad_ext k hin hl q hx)
    · rw [if_neg hno]
      simp only [everyP]
      clear hno
      have key : ∀ (l : List Int), (∀ h ∈ l, 0 ≤ h ∧ h < t.hands.length) → ∀ s : PSt, l.foldl (fun s h => if followsP t r h then dfs t hands n (r ++ [h]) s else s) s = (l.flatMap fun h => if followsP t r h then everyP t hands n (r ++ [h]) else []).foldl (better t) s := by
        intro l
        induction l with
        | nil => intro _ s; rfl
        | cons h l ih =>
          intro hl2 s
          rw [List.foldl_cons, List.flatMap_cons, List.foldl_append, ih (fun x hx => hl2 x (List.mem_cons_of_mem _ hx))]
          congr 1
          by_cases hf : followsP t r h = true
          · rw [if_pos hf, if_pos hf]
            refine dfs_eq k hin (by simp; omega) ⟨by simp; omega, fun i hi => ?_⟩
            rw [getD_snoc]
            split
            · rename_i h1; exact q.el i h1
            · rw [if_pos (by simp at hi; omega)]; exact hl2 h List.mem_cons_self
          · rw [if_neg hf, if_neg hf]; rfl
      exact key hands hin s
/-- The least of a list, the first of several. -/
theorem best_of {t : Task} {R : List Int → List Int → Prop} : ∀ {L : List (List Int)} {l0 : List Int} {w0 : Int}, L.Pairwise R → (∀ x ∈ L, R l0 x) → w0 = badOf t l0 →
    ∃ l, L.foldl (better t) (some (l0, w0)) = some (l, badOf t l) ∧ (l = l0 ∨ l ∈ L) ∧ badOf t l ≤ w0 ∧ (l = l0 ∨ badOf t l < w0) ∧ ∀ x ∈ L, badOf t l < badOf t x ∨ (badOf t l = badOf t x ∧ (x = l ∨ R l x))
  | [], l0, w0, _, _, hw => ⟨l0, by rw [hw]; rfl, .inl rfl, by omega, .inl rfl, fun x hx => by cases hx⟩
  | y :: L, l0, w0, hp, h0, hw => by
    rw [List.pairwise_cons] at hp
    by_cases hno : w0 ≤ badOf t y
    · have e : better t (some (l0, w0)) y = some (l0, w0) := by unfold better; rw [if_pos (by simpa [PSt.no] using hno)]
      rw [List.foldl_cons, e]
      obtain ⟨l, a1, a2, a3, a4, a5⟩ := best_of hp.2 (fun x hx => h0 x (List.mem_cons_of_mem _ hx)) hw
      refine ⟨l, a1, a2.imp id (List.mem_cons_of_mem _), a3, a4, fun x hx => ?_⟩
      rcases List.mem_cons.1 hx with rfl | hx
      · rcases a4 with rfl | h
        · by_cases e1 : badOf t l = badOf t x
          · exact .inr ⟨e1, .inr (h0 x List.mem_cons_self)⟩
          · left; omega
        · left; omega
      · exact a5 x hx
    · have e : better t (some (l0, w0)) y = some (y, badOf t y) := by unfold better; rw [if_neg (by simpa [PSt.no] using hno)]
      rw [List.foldl_cons, e]
      obtain ⟨l, a1, a2, a3, a4, a5⟩ := best_of hp.2 hp.1 rfl
      refine ⟨l, a1, .inr (by rcases a2 with rfl | h <;> simp_all), by omega, .inr (by omega), fun x hx => ?_⟩
      rcases List.mem_cons.1 hx with rfl | hx
      · rcases a4 with rfl | h
        · exact .inr ⟨rfl, .inl rfl⟩
        · exact .inl h
      · exact a5 x hx
theorem best_none {t : Task} {R : List Int → List Int → Prop} {L : List (List Int)} (hp : L.Pairwise R) :
    (L = [] ∧ L.foldl (better t) none = none) ∨ ∃ l, L.foldl (better t) none = some (l, badOf t l) ∧ l ∈ L ∧ ∀ x ∈ L, badOf t l < badOf t x ∨ (badOf t l = badOf t x ∧ (x = l ∨ R l x)) := by
  cases L with
  | nil => exact .inl ⟨rfl, rfl⟩
  | cons y L =>
    right
    rw [List.pairwise_cons] at hp
    obtain ⟨l, a1, a2, a3, a4, a5⟩ := best_of (t := t) hp.2 hp.1 rfl
    refine ⟨l, by rw [List.foldl_cons]; exact a1, by rcases a2 with rfl | h <;> simp_all, fun x hx => ?_⟩
    rcases List.mem_cons.1 hx with rfl | hx
    · rcases a4 with rfl | h
      · exact .inr ⟨rfl, .inl rfl⟩
      · exact .inl h
    · exact a5 x hx
theorem lower_app {a x y : List Int} : lowerL (a ++ x) (a ++ y) = lowerL x y := by
  induction a with
  | nil => rfl
  | cons z a ih => simp only [List.cons_append, lowerL, if_true]; exact ih
theorem every_pre {t : Task} {hands : List Int} {n : Nat} {r x : List Int} (h : x ∈ everyP t hands n r) : ∃ y, x = r ++ y := by
  obtain ⟨_, h2, _⟩ := every_mem.1 h
  exact ⟨x.drop r.length, by conv => lhs; rw [← List.take_append_drop r.length x, h2]⟩
theorem every_sorted {t : Task} {hands : List Int} (hs : hands.Pairwise (· < ·)) : ∀ (n : Nat) (r : List Int), (everyP t hands n r).Pairwise (fun a b => lowerL a b = true)
  | 0, r => by simp [everyP]
  | n + 1, r => by
    simp only [everyP]
    rw [List.pairwise_flatMap]
    refine ⟨fun h hh => ?_, ?_⟩
    · split
      · exact every_sorted hs n _
      · exact List.Pairwise.nil
    · refine hs.imp fun {a b} hab x hx y hy => ?_
      split at hx
      · split at hy
        · obtain ⟨x', rfl⟩ := every_pre hx
          obtain ⟨y', rfl⟩ := every_pre hy
          rw [List.append_assoc, List.append_assoc, lower_app]
          simp only [List.singleton_append, lowerL]
          rw [if_neg (by omega)]
          simpa using hab
        · cases hy
      · cases hx
theorem lower_irr : ∀ {a b : List Int}, lowerL a b = true → lowerL b a = false
  | [], b, h => by cases b <;> cases h
  | x :: a, [], h => by cases h
  | x :: a, y :: b, h => by
    simp only [lowerL] at h ⊢
    by_cases e : x = y
    · subst e; rw [if_pos rfl] at h ⊢; exact lower_irr h
    · rw [if_neg e] at h
      rw [if_neg (Ne.symm e)]
      simp only [decide_eq_true_eq] at h
      simp; omega
theorem lower_self : ∀ {a : List Int}, lowerL a a = false
  | [] => rfl
  | x :: a => by simp only [lowerL, if_true]; exact lower_self
theorem allL_sorted (n : Nat) : (allL n).Pairwise (· < ·) := by
  unfold allL
  rw [List.pairwise_map]
  exact List.pairwise_lt_range.imp fun h => by omega
theorem allL_mem {n : Nat} {h : Int} : h ∈ allL n ↔ 0 ≤ h ∧ h < n := by
  unfold allL
  rw [List.mem_map]
  constructor
  · rintro ⟨i, hi, rfl⟩; have := List.mem_range.1 hi; omega
  · intro hh; exact ⟨h.toNat, List.mem_range.2 (by omega), by omega⟩
/-- What plan finds. -/
theorem planS_spec {t : Task} {hands : List Int} (k : TaskOk t) (hin : ∀ h ∈ hands, 0 ≤ h ∧ h < t.hands.length) (hs : hands.Pairwise (· < ·)) :
    (planS t hands = none ∧ everyP t hands t.parts.length [] = []) ∨ ∃ l, planS t hands = some (l, badOf t l) ∧ l ∈ everyP t hands t.parts.length [] ∧ ∀ x ∈ everyP t hands t.parts.length [], badOf t l < badOf t x ∨ (badOf t l = badOf t x ∧ lowerL x l = false) := by
  unfold planS
  rw [dfs_eq k hin (by simp) (rota_nil t)]
  rcases best_none (t := t) (every_sorted (t := t) hs t.parts.length []) with ⟨h1, h2⟩ | ⟨l, h1, h2, h3⟩
  · exact .inl ⟨h2, h1⟩
  · refine .inr ⟨l, h1, h2, fun x hx => (h3 x hx).imp id fun ⟨a, b⟩ => ⟨a, ?_⟩⟩
    rcases b with rfl | b
    · exact lower_self
    · exact lower_irr b
end Go.Proofs.Ytomkjfhepfinhaa
