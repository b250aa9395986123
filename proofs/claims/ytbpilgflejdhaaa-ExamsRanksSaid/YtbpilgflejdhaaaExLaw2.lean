/- Exams: the plain law: what the survey of all truths is. No program in sight. -/
import Derived.Test.YtbpilgflejdhaaaExLaw
namespace Go.Proofs.Ytbpilgflejdhaaa
open Go.RowKit

def wrL (x : Leaf) : Int := wrongN x.2.2 x.2.2.length
def posL (p : Paper) (x : Leaf) : Bool := decide (wrL x ≤ p.wrong)
theorem endL_fewest (p : Paper) (S : Surv) (x : Leaf) : (endL p S x).fewest = min S.fewest (wrL x) := by
  unfold endL endM wrL; simp only []; split <;> rfl
theorem endL_poss (p : Paper) (S : Surv) (x : Leaf) : (endL p S x).poss = (S.poss || posL p x) := by
  unfold endL endM posL wrL; simp only []; split
  · rename_i h
    have : ¬ ((wrongN x.2.2 x.2.2.length : Int) ≤ p.wrong) := by omega
    simp [this]
  · rename_i h
    have : (wrongN x.2.2 x.2.2.length : Int) ≤ p.wrong := by omega
    simp [this]
theorem endL_no (p : Paper) (S : Surv) (x : Leaf) (h : posL p x = false) : (endL p S x).res = S.res ∧ (endL p S x).it = S.it ∧ (endL p S x).right = S.right ∧ (endL p S x).shown = S.shown := by
  unfold posL wrL at h
  have h : ¬ ((wrongN x.2.2 x.2.2.length : Int) ≤ p.wrong) := by simpa using h
  unfold endL endM; simp only []
  rw [if_pos (by omega)]
  exact ⟨rfl, rfl, rfl, rfl⟩
theorem endL_yes (p : Paper) (S : Surv) (x : Leaf) (h : posL p x = true) : (endL p S x).res = addSpan S.res x.2.1 ∧ (endL p S x).it = itTo x.1 x.2.1 p.items.length S.it ∧ (endL p S x).right = rightTo x.2.2 x.2.2.length S.right ∧ (endL p S x).shown = putS S.shown (gradeP p.grades x.2.1) x.1 := by
  unfold posL wrL at h
  have h : ((wrongN x.2.2 x.2.2.length : Int) ≤ p.wrong) := by simpa using h
  unfold endL endM; simp only []
  rw [if_neg (by omega)]
  exact ⟨rfl, rfl, rfl, rfl⟩
theorem itTo_get (t : List Int) (r : Int) (f : Nat → Nat → Int × Int) (i n : Nat) : ∀ k, itTo t r k f i n = if i < k ∧ n = (t.getD i 0).toNat then addSpan (f i n) r else f i n := by
  intro k
  induction k with
  | zero => simp [itTo]
  | succ k ih =>
    rw [itTo]
    unfold setIt
    by_cases h : i = k ∧ n = (t.getD k 0).toNat
    · rw [if_pos h]
      obtain ⟨rfl, rfl⟩ := h
      rw [ih, if_neg (by omega), if_pos ⟨by omega, rfl⟩]
    · rw [if_neg h, ih]
      by_cases h2 : i < k ∧ n = (t.getD i 0).toNat
      · rw [if_pos h2, if_pos ⟨by omega, h2.2⟩]
      · rw [if_neg h2, if_neg]
        rintro ⟨a, b⟩
        by_cases e : i = k
        · subst e; exact h ⟨rfl, b⟩
        · exact h2 ⟨by omega, b⟩
theorem rightTo_get (bs : List (Int × Int)) (l : List Bool) (j : Nat) (hj : j < l.length) : ∀ k, (rightTo bs k l).getD j false = if j < k then (l.getD j false || okSpan (bs.getD j (0, 0))) else l.getD j false := by
  intro k
  induction k with
  | zero => simp [rightTo]
  | succ k ih =>
    have hlen := rightTo_length bs k l
    rw [rightTo]
    by_cases e : j = k
    · subst e
      rw [List.getD, List.getElem?_set_self (by omega), ih, if_neg (by omega), if_pos (by omega)]
      rfl
    · rw [List.getD, List.getElem?_set_ne (by omega), ← List.getD, ih]
      by_cases h : j < k
      · rw [if_pos h, if_pos (by omega)]
      · rw [if_neg h, if_neg (by omega)]
def getS (l : List (Int × List Int)) (k : Int) : Option (List Int) := (l.find? (fun x => x.1 == k)).map (·.2)
theorem getS_put (l : List (Int × List Int)) (k : Int) (v : List Int) (q : Int) : getS (putS l k v) q = if q = k then some v else getS l q := by
  induction l with
  | nil =>
    simp only [putS, getS]
    by_cases h : q = k
    · subst h; simp
    · have h' : (k == q) = false := by simpa using fun e => h e.symm
      simp [h, h']
  | cons x l ih =>
    simp only [putS]
    by_cases hx : x.1 = k
    · rw [if_pos hx]
      by_cases h : q = k
      · subst h; simp [getS]
      · have h1 : (k == q) = false := by simpa using fun e => h e.symm
        have h2 : (x.1 == q) = false := by simpa using fun e => h (e.symm.trans hx)
        simp [getS, h, h1, h2]
    · rw [if_neg hx]
      by_cases h : x.1 = q
      · subst h; simp [getS, hx]
      · have h1 : (x.1 == q) = false := by simpa using h
        simp only [getS, List.find?_cons, h1] at ih ⊢
        exact ih

theorem fold_fewest (p : Paper) : ∀ (l : List Leaf) (S : Surv), (l.foldl (endL p) S).fewest ≤ S.fewest ∧ (∀ x ∈ l, (l.foldl (endL p) S).fewest ≤ wrL x) ∧ ((l.foldl (endL p) S).fewest = S.fewest ∨ ∃ x ∈ l, (l.foldl (endL p) S).fewest = wrL x) := by
  intro l
  induction l with
  | nil => intro S; simp
  | cons a l ih =>
    intro S
    obtain ⟨h1, h2, h3⟩ := ih (endL p S a)
    rw [endL_fewest] at h1 h3
    simp only [List.foldl_cons]
    refine ⟨by omega, fun x hx => ?_, ?_⟩
    · rcases List.mem_cons.1 hx with rfl | hx
      · omega
      · exact h2 x hx
    · rcases h3 with h3 | ⟨x, hx, h3⟩
      · by_cases h : S.fewest ≤ wrL a
        · left; omega
        · right; exact ⟨a, List.mem_cons_self, by omega⟩
      · right; exact ⟨x, List.mem_cons_of_mem _ hx, h3⟩
theorem fold_poss (p : Paper) : ∀ (l : List Leaf) (S : Surv), (l.foldl (endL p) S).poss = true ↔ S.poss = true ∨ ∃ x ∈ l, posL p x = true := by
  intro l
  induction l with
  | nil => intro S; simp
  | cons a l ih =>
    intro S
    simp only [List.foldl_cons]
    rw [ih, endL_poss]
    simp [or_assoc]
/-- A span that gathers the results of some leaves. -/
theorem fold_span (p : Paper) (g : Surv → Int × Int) (c : Leaf → Bool) (hg : ∀ S x, g (endL p S x) = if c x then addSpan (g S) x.2.1 else g S) : ∀ (l : List Leaf) (S : Surv),
    ((g (l.foldl (endL p) S)).1 ≤ (g S).1 ∧ (∀ x ∈ l, c x = true → (g (l.foldl (endL p) S)).1 ≤ x.2.1) ∧ ((g (l.foldl (endL p) S)).1 = (g S).1 ∨ ∃ x ∈ l, c x = true ∧ (g (l.foldl (endL p) S)).1 = x.2.1)) ∧
    ((g S).2 ≤ (g (l.foldl (endL p) S)).2 ∧ (∀ x ∈ l, c x = true → x.2.1 ≤ (g (l.foldl (endL p) S)).2) ∧ ((g (l.foldl (endL p) S)).2 = (g S).2 ∨ ∃ x ∈ l, c x = true ∧ (g (l.foldl (endL p) S)).2 = x.2.1)) := by
  intro l
  induction l with
  | nil => intro S; simp
  | cons a l ih =>
    intro S
    obtain ⟨⟨h1, h2, h3⟩, ⟨k1, k2, k3⟩⟩ := ih (endL p S a)
    rw [hg] at h1 h3 k1 k3
    simp only [List.foldl_cons]
    cases hc : c a
    · rw [hc] at h1 h3 k1 k3
      simp only [Bool.false_eq_true, if_false] at h1 h3 k1 k3
      refine ⟨⟨h1, fun x hx hcx => ?_, ?_⟩, ⟨k1, fun x hx hcx => ?_, ?_⟩⟩
      · rcases List.mem_cons.1 hx with rfl | hx
        · rw [hc] at hcx; cases hcx
        · exact h2 x hx hcx
      · exact h3.imp id fun ⟨x, hx, q⟩ => ⟨x, List.mem_cons_of_mem _ hx, q⟩
      · rcases List.mem_cons.1 hx with rfl | hx
        · rw [hc] at hcx; cases hcx
        · exact k2 x hx hcx
      · exact k3.imp id fun ⟨x, hx, q⟩ => ⟨x, List.mem_cons_of_mem _ hx, q⟩
    · rw [hc] at h1 h3 k1 k3
      simp only [if_true, addSpan] at h1 h3 k1 k3
      refine ⟨⟨Int.le_trans h1 (Int.min_le_left _ _), fun x hx hcx => ?_, ?_⟩, ⟨Int.le_trans (Int.le_max_left _ _) k1, fun x hx hcx => ?_, ?_⟩⟩
      · rcases List.mem_cons.1 hx with rfl | hx
        · exact Int.le_trans h1 (Int.min_le_right _ _)
        · exact h2 x hx hcx
      · rcases h3 with h3 | ⟨x, hx, q⟩
        · by_cases h : (g S).1 ≤ a.2.1
          · left; rw [h3]; exact Int.min_eq_left h
          · right; exact ⟨a, List.mem_cons_self, hc, by rw [h3]; exact Int.min_eq_right (Int.le_of_lt (Int.not_le.1 h))⟩
        · right; exact ⟨x, List.mem_cons_of_mem _ hx, q⟩
      · rcases List.mem_cons.1 hx with rfl | hx
        · exact Int.le_trans (Int.le_max_right _ _) k1
        · exact k2 x hx hcx
      · rcases k3 with k3 | ⟨x, hx, q⟩
        · by_cases h : a.2.1 ≤ (g S).2
          · left; rw [k3]; exact Int.max_eq_left h
          · right; exact ⟨a, List.mem_cons_self, hc, by rw [k3]; exact Int.max_eq_right (Int.le_of_lt (Int.not_le.1 h))⟩
        · right; exact ⟨x, List.mem_cons_of_mem _ hx, q⟩
theorem hg_res (p : Paper) (S : Surv) (x : Leaf) : (endL p S x).res = if posL p x then addSpan S.res x.2.1 else S.res := by
  cases h : posL p x
  · simpa using (endL_no p S x h).1
  · simpa using (endL_yes p S x h).1
theorem hg_it (p : Paper) (i n : Nat) (hi : i < p.items.length) (S : Surv) (x : Leaf) : (endL p S x).it i n = if (posL p x && decide (n = (x.1.getD i 0).toNat)) then addSpan (S.it i n) x.2.1 else S.it i n := by
  cases h : posL p x
  · simp [(endL_no p S x h).2.1]
  · rw [(endL_yes p S x h).2.1, itTo_get]
    simp [hi]
theorem fold_right (p : Paper) (j : Nat) : ∀ (l : List Leaf) (S : Surv), j < S.right.length → (∀ x ∈ l, j < x.2.2.length) →
    ((l.foldl (endL p) S).right.getD j false = true ↔ S.right.getD j false = true ∨ ∃ x ∈ l, posL p x = true ∧ okSpan (x.2.2.getD j (0, 0)) = true) := by
  intro l
  induction l with
  | nil => intro S _ _; simp
  | cons a l ih =>
    intro S hj hl
    simp only [List.foldl_cons]
    have hlen : (endL p S a).right.length = S.right.length := by
      cases h : posL p a
      · rw [(endL_no p S a h).2.2.1]
      · rw [(endL_yes p S a h).2.2.1, rightTo_length]
    rw [ih _ (by omega) (fun x hx => hl x (List.mem_cons_of_mem _ hx))]
    have hget : (endL p S a).right.getD j false = (S.right.getD j false || (posL p a && okSpan (a.2.2.getD j (0, 0)))) := by
      cases h : posL p a
      · rw [(endL_no p S a h).2.2.1]; simp
      · rw [(endL_yes p S a h).2.2.1, rightTo_get _ _ _ hj, if_pos (hl a List.mem_cons_self)]; simp
    rw [hget]
    simp only [Bool.or_eq_true, Bool.and_eq_true, List.mem_cons, or_assoc]
    constructor
    · rintro (h | h | ⟨x, hx, h⟩)
      · exact .inl h
      · exact .inr ⟨a, .inl rfl, h⟩
      · exact .inr ⟨x, .inr hx, h⟩
    · rintro (h | ⟨x, rfl | hx, h⟩)
      · exact .inl h
      · exact .inr (.inl h)
      · exact .inr (.inr ⟨x, hx, h⟩)
theorem fold_shown (p : Paper) (q : Int) : ∀ (l : List Leaf) (S : Surv),
    (∀ t, getS (l.foldl (endL p) S).shown q = some t → getS S.shown q = some t ∨ ∃ x ∈ l, posL p x = true ∧ (gradeP p.grades x.2.1 : Int) = q ∧ x.1 = t) ∧
    (getS (l.foldl (endL p) S).shown q = none → getS S.shown q = none ∧ ∀ x ∈ l, posL p x = true → (gradeP p.grades x.2.1 : Int) ≠ q) := by
  intro l
  induction l with
  | nil => intro S; exact ⟨fun t h => .inl h, fun h => ⟨h, by simp⟩⟩
  | cons a l ih =>
    intro S
    obtain ⟨h1, h2⟩ := ih (endL p S a)
    simp only [List.foldl_cons]
    cases h : posL p a
    · rw [(endL_no p S a h).2.2.2] at h1 h2
      refine ⟨fun t ht => (h1 t ht).imp id fun ⟨x, hx, q⟩ => ⟨x, List.mem_cons_of_mem _ hx, q⟩, fun hn => ⟨(h2 hn).1, fun x hx hp => ?_⟩⟩
      rcases List.mem_cons.1 hx with rfl | hx
      · rw [h] at hp; cases hp
      · exact (h2 hn).2 x hx hp
    · rw [(endL_yes p S a h).2.2.2, getS_put] at h1 h2
      by_cases hq : q = (gradeP p.grades a.2.1 : Int)
      · simp only [if_pos hq] at h1 h2
        refine ⟨fun t ht => ?_, fun hn => ?_⟩
        · rcases h1 t ht with h1 | ⟨x, hx, q⟩
          · injection h1 with h1
            exact .inr ⟨a, List.mem_cons_self, h, hq.symm, h1⟩
          · exact .inr ⟨x, List.mem_cons_of_mem _ hx, q⟩
        · cases (h2 hn).1
      · simp only [if_neg hq] at h1 h2
        refine ⟨fun t ht => (h1 t ht).imp id fun ⟨x, hx, q⟩ => ⟨x, List.mem_cons_of_mem _ hx, q⟩, fun hn => ⟨(h2 hn).1, fun x hx hp => ?_⟩⟩
        rcases List.mem_cons.1 hx with rfl | hx
        · exact fun e => hq e.symm
        · exact (h2 hn).2 x hx hp
end Go.Proofs.Ytbpilgflejdhaaa
