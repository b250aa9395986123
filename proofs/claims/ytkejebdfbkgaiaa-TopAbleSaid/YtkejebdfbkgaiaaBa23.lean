/- Exams: the plain law: what open's survey is / Exams: the plain law: what the survey of all truths is / Exams: the plain law: the survey is that of all truths -/
import Derived.Test.YtkejebdfbkgaiaaBa22

namespace Go.Proofs.Ytkejebdfbkgaiaa
open Go.RowKit

abbrev Leaf := List Int × Int × List (Int × Int)
/-- All that visit comes to, in its order. -/
def leaves (p : Paper) : Nat → List Int → Int → List (Int × Int) → List Leaf
  | 0, t, r, bs => [(t, r, bs)]
  | m + 1, t, r, bs =>
    (List.range ((p.items.getD (p.items.length - (m + 1)) default).most + 1).toNat).flatMap (fun n : Nat => leaves p m (t.set (p.items.length - (m + 1)) n) (r + n * (p.items.getD (p.items.length - (m + 1)) default).weight) (cutTo p (p.items.length - (m + 1)) n p.judges.length bs))
def endL (p : Paper) (S : Surv) (x : Leaf) : Surv := endM p x.1 x.2.1 x.2.2 S
theorem foldTo_eq (f : Nat → Surv → Surv) (k : Nat) (S : Surv) : foldTo f k S = (List.range k).foldl (fun S n => f n S) S := by
  induction k with
  | zero => rfl
  | succ k ih => rw [List.range_succ, List.foldl_append, ← ih]; rfl
theorem visitM_eq (p : Paper) : ∀ (m : Nat) (t : List Int) (r : Int) (bs : List (Int × Int)) (S : Surv), visitM p m t r bs S = (leaves p m t r bs).foldl (endL p) S := by
  intro m
  induction m with
  | zero => intro t r bs S; rfl
  | succ m ih =>
    intro t r bs S
    rw [visitM, leaves, List.foldl_flatMap, foldTo_eq]
    congr 1
    funext S n
    exact ih _ _ _ _

def resFrom (p : Paper) (t : List Int) : Nat → Nat → Int
  | _, 0 => 0
  | i, m + 1 => t.getD i 0 * (p.items.getD i default).weight + resFrom p t (i + 1) m
def cutFrom (p : Paper) (t : List Int) : Nat → Nat → List (Int × Int) → List (Int × Int)
  | _, 0, bs => bs
  | i, m + 1, bs => cutFrom p t (i + 1) m (cutTo p i (t.getD i 0) p.judges.length bs)

theorem leaves_mem (p : Paper) (h4 : p.items.length ≤ 4) : ∀ (m : Nat) (t : List Int) (r : Int) (bs : List (Int × Int)) (x : Leaf), m ≤ p.items.length → t.length = 4 →
    (x ∈ leaves p m t r bs ↔ x.1.length = 4 ∧ (∀ k, k < p.items.length - m ∨ p.items.length ≤ k → x.1.getD k 0 = t.getD k 0) ∧
      (∀ k, p.items.length - m ≤ k → k < p.items.length → 0 ≤ x.1.getD k 0 ∧ x.1.getD k 0 ≤ (p.items.getD k default).most) ∧
      x.2.1 = r + resFrom p x.1 (p.items.length - m) m ∧ x.2.2 = cutFrom p x.1 (p.items.length - m) m bs) := by
  intro m
  induction m with
  | zero =>
    intro t r bs x _ ht
    simp only [leaves, List.mem_singleton, resFrom, cutFrom, Nat.sub_zero]
    constructor
    · rintro rfl
      exact ⟨ht, fun _ _ => rfl, fun k h1 h2 => by omega, by simp, rfl⟩
    · rintro ⟨h1, h2, -, h3, h4⟩
      obtain ⟨a, b, c⟩ := x
      simp only at h1 h2 h3 h4
      have : a = t := by
        apply List.ext_getElem? 
        intro k
        by_cases hk : k < 4
        · have := h2 k (by omega)
          rw [List.getElem?_eq_getElem (by omega), List.getElem?_eq_getElem (by omega)]
          simp [List.getD, show k < a.length by omega, show k < t.length by omega] at this
          rw [this]
        · rw [List.getElem?_eq_none (by omega), List.getElem?_eq_none (by omega)]
      rw [this, h3, h4, Int.add_zero]
  | succ m ih =>
    intro t r bs x hm ht
    have hi : p.items.length - m = p.items.length - (m + 1) + 1 := by omega
    generalize hI : p.items.length - (m + 1) = i at *
    have hil : i < 4 := by omega
    simp only [leaves, List.mem_flatMap, List.mem_range, hI]
    constructor
    · rintro ⟨n, hn, hx⟩
      rw [ih _ _ _ _ (by omega) (by simpa using ht), hi] at hx
      obtain ⟨h1, h2, h3, h4, h5⟩ := hx
      have hti : x.1.getD i 0 = n := by
        rw [h2 i (by omega)]
        simp [List.getD, show i < t.length by omega]
      refine ⟨h1, fun k hk => ?_, fun k hk1 hk2 => ?_, ?_, ?_⟩
      · rw [h2 k (by omega)]
        simp only [List.getD, List.getElem?_set_ne (show i ≠ k by omega)]
      · by_cases e : k = i
        · subst e; rw [hti]; omega
        · exact h3 k (by omega) hk2
      · rw [h4, resFrom, hti, Int.add_assoc]
      · rw [h5, cutFrom, hti]
    · rintro ⟨h1, h2, h3, h4, h5⟩
      obtain ⟨q1, q2⟩ := h3 i (Nat.le_refl _) (by omega)
      obtain ⟨n, hn⟩ : ∃ n : Nat, x.1.getD i 0 = n := ⟨(x.1.getD i 0).toNat, by omega⟩
      refine ⟨n, by omega, ?_⟩
      rw [ih _ _ _ _ (by omega) (by simpa using ht), hi]
      refine ⟨h1, fun k hk => ?_, fun k hk1 hk2 => h3 k (by omega) hk2, ?_, ?_⟩
      · by_cases e : k = i
        · subst e; rw [hn]; simp [List.getD, show k < t.length by omega]
        · rw [h2 k (by omega)]
          simp only [List.getD, List.getElem?_set_ne (show i ≠ k by omega)]
      · rw [h4, resFrom, hn, Int.add_assoc]
      · rw [h5, cutFrom, hn]

/-- A judge's biases that are left after the first k items. -/
def spanTo (x : Judge) (t : List Int) : Nat → Int × Int
  | 0 => (x.lo, x.hi)
  | k + 1 => cut1 x k (t.getD k 0) (spanTo x t k)
theorem cutTo_map (p : Paper) (i : Nat) (n : Int) (f : Judge → Int × Int) : ∀ k, k ≤ p.judges.length → cutTo p i n k (p.judges.map f) = (p.judges.take k).map (fun x => cut1 x i n (f x)) ++ (p.judges.drop k).map f := by
  intro k
  induction k with
  | zero => intro _; simp [cutTo]
  | succ k ih =>
    intro hk
    have hlt : k < p.judges.length := by omega
    rw [cutTo, ih (by omega)]
    have hl : ((p.judges.take k).map (fun x => cut1 x i n (f x))).length = k := by simp; omega
    rw [List.drop_eq_getElem_cons hlt, List.map_cons]
    have hg : (List.map (fun x => cut1 x i n (f x)) (List.take k p.judges) ++ f p.judges[k] :: List.map f (List.drop (k + 1) p.judges)).getD k (0, 0) = f p.judges[k] := by
      rw [List.getD, List.getElem?_append_right (by omega), hl]; simp
    rw [hg, List.set_append_right _ _ (by omega), hl, Nat.sub_self, List.set_cons_zero, List.take_succ_eq_append_getElem hlt, List.map_append]
    simp [List.getD, hlt]
theorem cutFrom_map (p : Paper) (t : List Int) : ∀ (m i : Nat), cutFrom p t i m (p.judges.map (fun x => spanTo x t i)) = p.judges.map (fun x => spanTo x t (i + m)) := by
  intro m
  induction m with
  | zero => intro i; rfl
  | succ m ih =>
    intro i
    rw [cutFrom, cutTo_map p i _ _ _ (Nat.le_refl _), List.take_length, List.drop_length, List.map_nil, List.append_nil]
    rw [show i + (m + 1) = i + 1 + m by omega, ← ih (i + 1)]
    rfl
theorem spanTo_iff {n : Nat} (x : Judge) (t : List Int) (hm : ∀ k, k < n → -1 ≤ x.marks.getD k 0) (b : Int) : ∀ k, k ≤ n → ((spanTo x t k).1 ≤ b ∧ b ≤ (spanTo x t k).2 ↔ x.lo ≤ b ∧ b ≤ x.hi ∧ ∀ i, i < k → agree1 x t b i = true) := by
  intro k
  induction k with
  | zero => intro _; simp [spanTo]
  | succ k ih =>
    intro hk
    have ih := ih (by omega)
    have h1 := hm k (by omega)
    have hag : agree1 x t b k = true ↔ (x.marks.getD k 0 = -1 ∨ (-x.err ≤ x.marks.getD k 0 - t.getD k 0 - b ∧ x.marks.getD k 0 - t.getD k 0 - b ≤ x.err)) := by
      unfold agree1 wi
      simp
    have hall : (∀ i, i < k + 1 → agree1 x t b i = true) ↔ (∀ i, i < k → agree1 x t b i = true) ∧ agree1 x t b k = true :=
      ⟨fun h => ⟨fun i hi => h i (by omega), h k (by omega)⟩, fun h i hi => by
        by_cases e : i = k
        · subst e; exact h.2
        · exact h.1 i (by omega)⟩
    rw [hall, hag, spanTo, cut1]
    generalize x.marks.getD k 0 = mk at *
    generalize spanTo x t k = s at *
    by_cases h0 : 0 ≤ mk
    · rw [if_pos h0]
      constructor
      · rintro ⟨h2, h3⟩
        obtain ⟨a, b', c⟩ := ih.1 ⟨by omega, by omega⟩
        exact ⟨a, b', c, .inr ⟨by omega, by omega⟩⟩
      · rintro ⟨a, b', c, d⟩
        have := ih.2 ⟨a, b', c⟩
        rcases d with d | d
        · omega
        · constructor <;> simp only <;> omega
    · rw [if_neg h0]
      constructor
      · intro h
        obtain ⟨a, b', c⟩ := ih.1 h
        exact ⟨a, b', c, .inl (by omega)⟩
      · rintro ⟨a, b', c, _⟩
        exact ih.2 ⟨a, b', c⟩
theorem okSpan_right {x : Judge} {t : List Int} (hm : ∀ k, k < t.length → -1 ≤ x.marks.getD k 0) : okSpan (spanTo x t t.length) = isRight x t := by
  rw [Bool.eq_iff_iff, isRight_iff]
  have key := fun b => spanTo_iff x t hm b t.length (Nat.le_refl _)
  unfold okSpan agree
  simp only [decide_eq_true_eq, range_all]
  constructor
  · intro h
    obtain ⟨a, b, c⟩ := (key (spanTo x t t.length).1).1 ⟨Int.le_refl _, h⟩
    exact ⟨_, a, b, c⟩
  · rintro ⟨b, h1, h2, h3⟩
    have := (key b).2 ⟨h1, h2, h3⟩
    omega
end Go.Proofs.Ytkejebdfbkgaiaa

namespace Go.Proofs.Ytkejebdfbkgaiaa
open Go.RowKit

def wrL (x : Leaf) : Int := wrongN x.2.2 x.2.2.length
def posL (p : Paper) (x : Leaf) : Bool := decide (wrL x ≤ p.wrong)
theorem endL_fewest (p : Paper) (S : Surv) (x : Leaf) : (endL p S x).fewest = min S.fewest (wrL x) := by
  unfold endL endM wrL; simp only []; split <;> rfl
theorem endL_poss (p : Paper) (S : Surv) (x : Leaf) : (endL p S x).poss = (S.poss || posL p x) := by
  unfold endL endM posL wrL; simp only []; split
  · rename_i h
    have : ¬ ((wrongN x.2.2 x.2.2.length : Int) ≤ p.wrong) := by omega
    simp [this]
  · rename_i h
    have : (wrongN x.2.2 x.2.2.length : Int) ≤ p.wrong := by omega
    simp [this]
theorem endL_no (p : Paper) (S : Surv) (x : Leaf) (h : posL p x = false) : (endL p S x).res = S.res ∧ (endL p S x).it = S.it ∧ (endL p S x).right = S.right ∧ (endL p S x).shown = S.shown := by
  unfold posL wrL at h
  have h : ¬ ((wrongN x.2.2 x.2.2.length : Int) ≤ p.wrong) := by simpa using h
  unfold endL endM; simp only []
  rw [if_pos (by omega)]
  exact ⟨rfl, rfl, rfl, rfl⟩
theorem endL_yes (p : Paper) (S : Surv) (x : Leaf) (h : posL p x = true) : (endL p S x).res = addSpan S.res x.2.1 ∧ (endL p S x).it = itTo x.1 x.2.1 p.items.length S.it ∧ (endL p S x).right = rightTo x.2.2 x.2.2.length S.right ∧ (endL p S x).shown = putS S.shown (gradeP p.grades x.2.1) x.1 := by
  unfold posL wrL at h
  have h : ((wrongN x.2.2 x.2.2.length : Int) ≤ p.wrong) := by simpa using h
  unfold endL endM; simp only []
  rw [if_neg (by omega)]
  exact ⟨rfl, rfl, rfl, rfl⟩
theorem itTo_get (t : List Int) (r : Int) (f : Nat → Nat → Int × Int) (i n : Nat) : ∀ k, itTo t r k f i n = if i < k ∧ n = (t.getD i 0).toNat then addSpan (f i n) r else f i n := by
  intro k
  induction k with
  | zero => simp [itTo]
  | succ k ih =>
    rw [itTo]
    unfold setIt
    by_cases h : i = k ∧ n = (t.getD k 0).toNat
    · rw [if_pos h]
      obtain ⟨rfl, rfl⟩ := h
      rw [ih, if_neg (by omega), if_pos ⟨by omega, rfl⟩]
    · rw [if_neg h, ih]
      by_cases h2 : i < k ∧ n = (t.getD i 0).toNat
      · rw [if_pos h2, if_pos ⟨by omega, h2.2⟩]
      · rw [if_neg h2, if_neg]
        rintro ⟨a, b⟩
        by_cases e : i = k
        · subst e; exact h ⟨rfl, b⟩
        · exact h2 ⟨by omega, b⟩
theorem rightTo_get (bs : List (Int × Int)) (l : List Bool) (j : Nat) (hj : j < l.length) : ∀ k, (rightTo bs k l).getD j false = if j < k then (l.getD j false || okSpan (bs.getD j (0, 0))) else l.getD j false := by
  intro k
  induction k with
  | zero => simp [rightTo]
  | succ k ih =>
    have hlen := rightTo_length bs k l
    rw [rightTo]
    by_cases e : j = k
    · subst e
      rw [List.getD, List.getElem?_set_self (by omega), ih, if_neg (by omega), if_pos (by omega)]
      rfl
    · rw [List.getD, List.getElem?_set_ne (by omega), ← List.getD, ih]
      by_cases h : j < k
      · rw [if_pos h, if_pos (by omega)]
      · rw [if_neg h, if_neg (by omega)]
def getS (l : List (Int × List Int)) (k : Int) : Option (List Int) := (l.find? (fun x => x.1 == k)).map (·.2)
theorem getS_put (l : List (Int × List Int)) (k : Int) (v : List Int) (q : Int) : getS (putS l k v) q = if q = k then some v else getS l q := by
  induction l with
  | nil =>
    simp only [putS, getS]
    by_cases h : q = k
    · subst h; simp
    · have h' : (k == q) = false := by simpa using fun e => h e.symm
      simp [h, h']
  | cons x l ih =>
    simp only [putS]
    by_cases hx : x.1 = k
    · rw [if_pos hx]
      by_cases h : q = k
      · subst h; simp [getS]
      · have h1 : (k == q) = false := by simpa using fun e => h e.symm
        have h2 : (x.1 == q) = false := by simpa using fun e => h (e.symm.trans hx)
        simp [getS, h, h1, h2]
    · rw [if_neg hx]
      by_cases h : x.1 = q
      · subst h; simp [getS, hx]
      · have h1 : (x.1 == q) = false := by simpa using h
        simp only [getS, List.find?_cons, h1] at ih ⊢
        exact ih

theorem fold_fewest (p : Paper) : ∀ (l : List Leaf) (S : Surv), (l.foldl (endL p) S).fewest ≤ S.fewest ∧ (∀ x ∈ l, (l.foldl (endL p) S).fewest ≤ wrL x) ∧ ((l.foldl (endL p) S).fewest = S.fewest ∨ ∃ x ∈ l, (l.foldl (endL p) S).fewest = wrL x) := by
  intro l
  induction l with
  | nil => intro S; simp
  | cons a l ih =>
    intro S
    obtain ⟨h1, h2, h3⟩ := ih (endL p S a)
    rw [endL_fewest] at h1 h3
    simp only [List.foldl_cons]
    refine ⟨by omega, fun x hx => ?_, ?_⟩
    · rcases List.mem_cons.1 hx with rfl | hx
      · omega
      · exact h2 x hx
    · rcases h3 with h3 | ⟨x, hx, h3⟩
      · by_cases h : S.fewest ≤ wrL a
        · left; omega
        · right; exact ⟨a, List.mem_cons_self, by omega⟩
      · right; exact ⟨x, List.mem_cons_of_mem _ hx, h3⟩
theorem fold_poss (p : Paper) : ∀ (l : List Leaf) (S : Surv), (l.foldl (endL p) S).poss = true ↔ S.poss = true ∨ ∃ x ∈ l, posL p x = true := by
  intro l
  induction l with
  | nil => intro S; simp
  | cons a l ih =>
    intro S
    simp only [List.foldl_cons]
    rw [ih, endL_poss]
    simp [or_assoc]
/-- A span that gathers the results of some leaves. -/
theorem fold_span (p : Paper) (g : Surv → Int × Int) (c : Leaf → Bool) (hg : ∀ S x, g (endL p S x) = if c x then addSpan (g S) x.2.1 else g S) : ∀ (l : List Leaf) (S : Surv),
    ((g (l.foldl (endL p) S)).1 ≤ (g S).1 ∧ (∀ x ∈ l, c x = true → (g (l.foldl (endL p) S)).1 ≤ x.2.1) ∧ ((g (l.foldl (endL p) S)).1 = (g S).1 ∨ ∃ x ∈ l, c x = true ∧ (g (l.foldl (endL p) S)).1 = x.2.1)) ∧
    ((g S).2 ≤ (g (l.foldl (endL p) S)).2 ∧ (∀ x ∈ l, c x = true → x.2.1 ≤ (g (l.foldl (endL p) S)).2) ∧ ((g (l.foldl (endL p) S)).2 = (g S).2 ∨ ∃ x ∈ l, c x = true ∧ (g (l.foldl (endL p) S)).2 = x.2.1)) := by
  intro l
  induction l with
  | nil => intro S; simp
  | cons a l ih =>
    intro S
    obtain ⟨⟨h1, h2, h3⟩, ⟨k1, k2, k3⟩⟩ := ih (endL p S a)
    rw [hg] at h1 h3 k1 k3
    simp only [List.foldl_cons]
    cases hc : c a
    · rw [hc] at h1 h3 k1 k3
      simp only [Bool.false_eq_true, if_false] at h1 h3 k1 k3
      refine ⟨⟨h1, fun x hx hcx => ?_, ?_⟩, ⟨k1, fun x hx hcx => ?_, ?_⟩⟩
      · rcases List.mem_cons.1 hx with rfl | hx
        · rw [hc] at hcx; cases hcx
        · exact h2 x hx hcx
      · exact h3.imp id fun ⟨x, hx, q⟩ => ⟨x, List.mem_cons_of_mem _ hx, q⟩
      · rcases List.mem_cons.1 hx with rfl | hx
        · rw [hc] at hcx; cases hcx
        · exact k2 x hx hcx
      · exact k3.imp id fun ⟨x, hx, q⟩ => ⟨x, List.mem_cons_of_mem _ hx, q⟩
    · rw [hc] at h1 h3 k1 k3
      simp only [if_true, addSpan] at h1 h3 k1 k3
      refine ⟨⟨Int.le_trans h1 (Int.min_le_left _ _), fun x hx hcx => ?_, ?_⟩, ⟨Int.le_trans (Int.le_max_left _ _) k1, fun x hx hcx => ?_, ?_⟩⟩
      · rcases List.mem_cons.1 hx with rfl | hx
        · exact Int.le_trans h1 (Int.min_le_right _ _)
        · exact h2 x hx hcx
      · rcases h3 with h3 | ⟨x, hx, q⟩
        · by_cases h : (g S).1 ≤ a.2.1
          · left; rw [h3]; exact Int.min_eq_left h
          · right; exact ⟨a, List.mem_cons_self, hc, by rw [h3]; exact Int.min_eq_right (Int.le_of_lt (Int.not_le.1 h))⟩
        · right; exact ⟨x, List.mem_cons_of_mem _ hx, q⟩
      · rcases List.mem_cons.1 hx with rfl | hx
        · exact Int.le_trans (Int.le_max_right _ _) k1
        · exact k2 x hx hcx
      · rcases k3 with k3 | ⟨x, hx, q⟩
        · by_cases h : a.2.1 ≤ (g S).2
          · left; rw [k3]; exact Int.max_eq_left h
          · right; exact ⟨a, List.mem_cons_self, hc, by rw [k3]; exact Int.max_eq_right (Int.le_of_lt (Int.not_le.1 h))⟩
        · right; exact ⟨x, List.mem_cons_of_mem _ hx, q⟩
theorem hg_res (p : Paper) (S : Surv) (x : Leaf) : (endL p S x).res = if posL p x then addSpan S.res x.2.1 else S.res := by
  cases h : posL p x
  · simpa using (endL_no p S x h).1
  · simpa using (endL_yes p S x h).1
theorem hg_it (p : Paper) (i n : Nat) (hi : i < p.items.length) (S : Surv) (x : Leaf) : (endL p S x).it i n = if (posL p x && decide (n = (x.1.getD i 0).toNat)) then addSpan (S.it i n) x.2.1 else S.it i n := by
  cases h : posL p x
  · simp [(endL_no p S x h).2.1]
  · rw [(endL_yes p S x h).2.1, itTo_get]
    simp [hi]
theorem fold_right (p : Paper) (j : Nat) : ∀ (l : List Leaf) (S : Surv), j < S.right.length → (∀ x ∈ l, j < x.2.2.length) →
    ((l.foldl (endL p) S).right.getD j false = true ↔ S.right.getD j false = true ∨ ∃ x ∈ l, posL p x = true ∧ okSpan (x.2.2.getD j (0, 0)) = true) := by
  intro l
  induction l with
  | nil => intro S _ _; simp
  | cons a l ih =>
    intro S hj hl
    simp only [List.foldl_cons]
    have hlen : (endL p S a).right.length = S.right.length := by
      cases h : posL p a
      · rw [(endL_no p S a h).2.2.1]
      · rw [(endL_yes p S a h).2.2.1, rightTo_length]
    rw [ih _ (by omega) (fun x hx => hl x (List.mem_cons_of_mem _ hx))]
    have hget : (endL p S a).right.getD j false = (S.right.getD j false || (posL p a && okSpan (a.2.2.getD j (0, 0)))) := by
      cases h : posL p a
      · rw [(endL_no p S a h).2.2.1]; simp
      · rw [(endL_yes p S a h).2.2.1, rightTo_get _ _ _ hj, if_pos (hl a List.mem_cons_self)]; simp
    rw [hget]
    simp only [Bool.or_eq_true, Bool.and_eq_true, List.mem_cons, or_assoc]
    constructor
    · rintro (h | h | ⟨x, hx, h⟩)
      · exact .inl h
      · exact .inr ⟨a, .inl rfl, h⟩
      · exact .inr ⟨x, .inr hx, h⟩
    · rintro (h | ⟨x, rfl | hx, h⟩)
      · exact .inl h
      · exact .inr (.inl h)
      · exact .inr (.inr ⟨x, hx, h⟩)
theorem fold_shown (p : Paper) (q : Int) : ∀ (l : List Leaf) (S : Surv),
    (∀ t, getS (l.foldl (endL p) S).shown q = some t → getS S.shown q = some t ∨ ∃ x ∈ l, posL p x = true ∧ (gradeP p.grades x.2.1 : Int) = q ∧ x.1 = t) ∧
    (getS (l.foldl (endL p) S).shown q = none → getS S.shown q = none ∧ ∀ x ∈ l, posL p x = true → (gradeP p.grades x.2.1 : Int) ≠ q) := by
  intro l
  induction l with
  | nil => intro S; exact ⟨fun t h => .inl h, fun h => ⟨h, by simp⟩⟩
  | cons a l ih =>
    intro S
    obtain ⟨h1, h2⟩ := ih (endL p S a)
    simp only [List.foldl_cons]
    cases h : posL p a
    · rw [(endL_no p S a h).2.2.2] at h1 h2
      refine ⟨fun t ht => (h1 t ht).imp id fun ⟨x, hx, q⟩ => ⟨x, List.mem_cons_of_mem _ hx, q⟩, fun hn => ⟨(h2 hn).1, fun x hx hp => ?_⟩⟩
      rcases List.mem_cons.1 hx with rfl | hx
      · rw [h] at hp; cases hp
      · exact (h2 hn).2 x hx hp
    · rw [(endL_yes p S a h).2.2.2, getS_put] at h1 h2
      by_cases hq : q = (gradeP p.grades a.2.1 : Int)
      · simp only [if_pos hq] at h1 h2
        refine ⟨fun t ht => ?_, fun hn => ?_⟩
        · rcases h1 t ht with h1 | ⟨x, hx, q⟩
          · injection h1 with h1
            exact .inr ⟨a, List.mem_cons_self, h, hq.symm, h1⟩
          · exact .inr ⟨x, List.mem_cons_of_mem _ hx, q⟩
        · cases (h2 hn).1
      · simp only [if_neg hq] at h1 h2
        refine ⟨fun t ht => (h1 t ht).imp id fun ⟨x, hx, q⟩ => ⟨x, List.mem_cons_of_mem _ hx, q⟩, fun hn => ⟨(h2 hn).1, fun x hx hp => ?_⟩⟩
        rcases List.mem_cons.1 hx with rfl | hx
        · exact fun e => hq e.symm
        · exact (h2 hn).2 x hx hp
end Go.Proofs.Ytkejebdfbkgaiaa

namespace Go.Proofs.Ytkejebdfbkgaiaa
open Go.RowKit

def showM (p : Paper) (g : Int) : List Int × Int :=
  if knownE p (wi g 0 p.grades.length) = 0 then (match getS (openM p).shown g with | some v => (v.take p.items.length, 0) | none => ([], 3)) else ([], knownE p (wi g 0 p.grades.length))

def padT (t : List Int) : List Int := t ++ List.replicate (4 - t.length) 0
theorem padT_len {t : List Int} (h : t.length ≤ 4) : (padT t).length = 4 := by simp [padT]; omega
theorem padT_get (t : List Int) (k : Nat) : (padT t).getD k 0 = t.getD k 0 := by
  unfold padT
  by_cases h : k < t.length
  · simp [List.getD, List.getElem?_append_left h]
  · simp only [List.getD, List.getElem?_append_right (show t.length ≤ k by omega), List.getElem?_eq_none (show t.length ≤ k by omega), List.getElem?_replicate]
    split <;> rfl
def leafOf (p : Paper) (t : List Int) : Leaf := (padT t, resultOf p t, p.judges.map (fun x => spanTo x t t.length))
def allL (p : Paper) : List Leaf := leaves p p.items.length [0, 0, 0, 0] 0 (bias0 p)
theorem resultTo_congr (p : Paper) {t u : List Int} : ∀ n, (∀ k, k < n → t.getD k 0 = u.getD k 0) → resultTo p t n = resultTo p u n := by
  intro n
  induction n with
  | zero => intro _; rfl
  | succ n ih => intro h; rw [resultTo, resultTo, ih (fun k hk => h k (by omega)), h n (by omega)]
theorem spanTo_congr (x : Judge) {t u : List Int} : ∀ n, (∀ k, k < n → t.getD k 0 = u.getD k 0) → spanTo x t n = spanTo x u n := by
  intro n
  induction n with
  | zero => intro _; rfl
  | succ n ih => intro h; rw [spanTo, spanTo, ih (fun k hk => h k (by omega)), h n (by omega)]
theorem resFrom_eq (p : Paper) (t : List Int) : ∀ m i, resultTo p t i + resFrom p t i m = resultTo p t (i + m) := by
  intro m
  induction m with
  | zero => intro i; simp [resFrom]
  | succ m ih =>
    intro i
    rw [resFrom, show i + (m + 1) = i + 1 + m by omega, ← ih (i + 1), resultTo]
    omega
theorem isTruth_iff {p : Paper} {t : List Int} : isTruth p t = true ↔ t.length = p.items.length ∧ ∀ k, k < t.length → 0 ≤ t.getD k 0 ∧ t.getD k 0 ≤ (p.items.getD k default).most := by
  unfold isTruth
  simp only [Bool.and_eq_true, decide_eq_true_eq, range_all]
  constructor
  · rintro ⟨h1, h2⟩; exact ⟨h1, fun k hk => wi_true (h2 k hk)⟩
  · rintro ⟨h1, h2⟩; exact ⟨h1, fun k hk => wi_of (h2 k hk)⟩
theorem getD_ext {a b : List Int} (hl : a.length = b.length) (h : ∀ k, k < a.length → a.getD k 0 = b.getD k 0) : a = b := eq_of_sameTo hl h

theorem mem_allL {p : Paper} (hV : Valid p) (x : Leaf) : x ∈ allL p ↔ ∃ t, isTruth p t = true ∧ x = leafOf p t := by
  have h4 := hV.il.2
  unfold allL
  rw [leaves_mem p h4 _ _ _ _ _ (Nat.le_refl _) rfl, Nat.sub_self]
  have hz : ∀ k, ([0, 0, 0, 0] : List Int).getD k 0 = 0 := fun k => by
    match k with
    | 0 => rfl
    | 1 => rfl
    | 2 => rfl
    | 3 => rfl
    | k + 4 => rfl
  have hb : ∀ u, bias0 p = p.judges.map (fun x => spanTo x u 0) := fun u => rfl
  constructor
  · rintro ⟨h1, h2, h3, h5, h6⟩
    have hlen : (x.1.take p.items.length).length = p.items.length := by simp; omega
    have hget : ∀ k, k < p.items.length → (x.1.take p.items.length).getD k 0 = x.1.getD k 0 := fun k hk => by
      simp [List.getD, hk]
    refine ⟨x.1.take p.items.length, isTruth_iff.2 ⟨hlen, fun k hk => ?_⟩, ?_⟩
    · rw [hlen] at hk
      rw [hget k hk]; exact h3 k (by omega) hk
    · obtain ⟨a, b, c⟩ := x
      simp only at h1 h2 h3 h5 h6 hlen hget ⊢
      unfold leafOf
      rw [hlen]
      refine Prod.ext ?_ (Prod.ext ?_ ?_)
      · simp only
        refine getD_ext (by rw [padT_len (by omega)]; exact h1) (fun k hk => ?_)
        rw [padT_get]
        by_cases hk2 : k < p.items.length
        · rw [hget k hk2]
        · rw [h2 k (by omega), hz]
          rw [List.getD, List.getElem?_eq_none (by omega)]; rfl
      · simp only
        rw [h5]
        have := resFrom_eq p a p.items.length 0
        simp only [resultTo, Nat.zero_add] at this
        rw [this]
        unfold resultOf
        rw [hlen]
        exact resultTo_congr p _ (fun k hk => (hget k hk).symm)
      · simp only
        rw [h6, hb a, cutFrom_map, Nat.zero_add]
        apply List.map_congr_left
        intro y _
        exact spanTo_congr y _ (fun k hk => (hget k hk).symm)
  · rintro ⟨t, ht, rfl⟩
    obtain ⟨hl, hr⟩ := isTruth_iff.1 ht
    unfold leafOf
    simp only
    refine ⟨padT_len (by omega), fun k hk => ?_, fun k _ hk => ?_, ?_, ?_⟩
    · rw [padT_get, hz, List.getD, List.getElem?_eq_none (by omega)]; rfl
    · rw [padT_get]; exact hr k (by omega)
    · have := resFrom_eq p (padT t) p.items.length 0
      simp only [resultTo, Nat.zero_add] at this
      rw [this]
      unfold resultOf
      rw [hl]
      exact (resultTo_congr p _ (fun k _ => padT_get t k)).symm
    · rw [hb (padT t), cutFrom_map, Nat.zero_add, hl]
      apply List.map_congr_left
      intro y _
      exact (spanTo_congr y _ (fun k _ => padT_get t k)).symm

theorem judge_mem {p : Paper} {x : Judge} (h : x ∈ p.judges) : ∃ k, k < p.judges.length ∧ p.judges.getD k default = x := by
  obtain ⟨k, hk, rfl⟩ := List.getElem_of_mem h
  exact ⟨k, hk, by simp [List.getD, hk]⟩
theorem okSpan_leaf {p : Paper} (hV : Valid p) {t : List Int} (ht : isTruth p t = true) {x : Judge} (hx : x ∈ p.judges) : okSpan (spanTo x t t.length) = isRight x t := by
  obtain ⟨k, hk, rfl⟩ := judge_mem hx
  exact okSpan_right (fun i hi => (hV.ma k hk i (by have := (isTruth_iff.1 ht).1; omega)).1)
theorem wrL_leaf {p : Paper} (hV : Valid p) {t : List Int} (ht : isTruth p t = true) : wrL (leafOf p t) = wrongs p t := by
  unfold wrL leafOf wrongN wrongs wrongsTo
  simp only [List.take_length, List.countP_map]
  congr 1
  apply List.countP_congr
  intro x hx
  simp only [Function.comp_apply, okSpan_leaf hV ht hx]
theorem posL_leaf {p : Paper} (hV : Valid p) {t : List Int} (ht : isTruth p t = true) : posL p (leafOf p t) = isPossible p t := by
  unfold posL isPossible
  rw [wrL_leaf hV ht, ht, Bool.true_and]
theorem possible_truth {p : Paper} {t : List Int} (h : isPossible p t = true) : isTruth p t = true := by
  unfold isPossible at h; simp at h; exact h.1
theorem openM_eq (p : Paper) : openM p = (allL p).foldl (endL p) (survO p) := visitM_eq _ _ _ _ _ _

section
variable {p : Paper} (hV : Valid p)
include hV
theorem open_fewest : (∀ t, isTruth p t = true → (openM p).fewest ≤ wrongs p t) ∧ (∃ t, isTruth p t = true ∧ (openM p).fewest = wrongs p t) := by
  obtain ⟨h1, h2, h3⟩ := fold_fewest p (allL p) (survO p)
  rw [← openM_eq] at h1 h2 h3
  have hA : ∀ t, isTruth p t = true → (openM p).fewest ≤ wrongs p t := fun t ht => by
    rw [← wrL_leaf hV ht]; exact h2 _ ((mem_allL hV _).2 ⟨t, ht, rfl⟩)
  refine ⟨hA, ?_⟩
  rcases h3 with h3 | ⟨x, hx, h3⟩
  · have hz : isTruth p (List.replicate p.items.length 0) = true := isTruth_iff.2 ⟨by simp, fun k hk => by
      have := (hV.it k (by simpa using hk)).2.2.1
      simp at hk
      simp [List.getD, hk]
      simpa [List.getD, hk] using this⟩
    have q1 := hA _ hz
    have q2 := wrongsTo_le p (List.replicate p.items.length 0) p.judges.length
    have q3 : (survO p).fewest = p.judges.length := rfl
    exact ⟨_, hz, by unfold wrongs at q1 ⊢; omega⟩
  · obtain ⟨t, ht, rfl⟩ := (mem_allL hV _).1 hx
    exact ⟨t, ht, by rw [h3, wrL_leaf hV ht]⟩
theorem open_poss : (openM p).poss = true ↔ ∃ t, isPossible p t = true := by
  rw [openM_eq, fold_poss]
  have h0 : ¬ (survO p).poss = true := by simp [survO, survZ]
  constructor
  · rintro (h | ⟨x, hx, h⟩)
    · exact absurd h h0
    · obtain ⟨t, ht, rfl⟩ := (mem_allL hV _).1 hx
      rw [posL_leaf hV ht] at h
      exact ⟨t, h⟩
  · rintro ⟨t, h⟩
    have ht := possible_truth h
    exact .inr ⟨_, (mem_allL hV _).2 ⟨t, ht, rfl⟩, by rw [posL_leaf hV ht]; exact h⟩
theorem open_res_in {t : List Int} (h : isPossible p t = true) : (openM p).res.1 ≤ resultOf p t ∧ resultOf p t ≤ (openM p).res.2 := by
  have ht := possible_truth h
  obtain ⟨⟨_, h2, _⟩, ⟨_, k2, _⟩⟩ := fold_span p (fun S => S.res) (posL p) (hg_res p) (allL p) (survO p)
  rw [← openM_eq] at h2 k2
  have hm := (mem_allL hV _).2 ⟨t, ht, rfl⟩
  have hp : posL p (leafOf p t) = true := by rw [posL_leaf hV ht]; exact h
  exact ⟨h2 _ hm hp, k2 _ hm hp⟩
theorem result_bd {t : List Int} (ht : isTruth p t = true) : 0 ≤ resultOf p t ∧ resultOf p t ≤ 1200 := by
  obtain ⟨hl, hr⟩ := isTruth_iff.1 ht
  have := resultTo_le (p := p) (t := t) (fun k hk => ⟨(hV.it k (by omega)).1, (hV.it k (by omega)).2.1⟩) (fun k hk => by
    have a := hr k hk; have b := hV.it k (by omega); omega) t.length (Nat.le_refl _)
  have h4 := hV.il.2
  unfold resultOf
  omega
theorem open_res_ex (h : (openM p).poss = true) : (∃ t, isPossible p t = true ∧ resultOf p t = (openM p).res.1) ∧ (∃ t, isPossible p t = true ∧ resultOf p t = (openM p).res.2) := by
  obtain ⟨u, hu⟩ := (open_poss hV).1 h
  have hb := result_bd hV (possible_truth hu)
  have hin := open_res_in hV hu
  obtain ⟨⟨_, _, h3⟩, ⟨_, _, k3⟩⟩ := fold_span p (fun S => S.res) (posL p) (hg_res p) (allL p) (survO p)
  rw [← openM_eq] at h3 k3
  have q1 : (survO p).res.1 = 1073741824 := rfl
  have q2 : (survO p).res.2 = -1073741824 := rfl
  constructor
  · rcases h3 with h3 | ⟨x, hx, hp, h3⟩
    · omega
    · obtain ⟨t, ht, rfl⟩ := (mem_allL hV _).1 hx
      rw [posL_leaf hV ht] at hp
      exact ⟨t, hp, h3.symm⟩
  · rcases k3 with k3 | ⟨x, hx, hp, k3⟩
    · omega
    · obtain ⟨t, ht, rfl⟩ := (mem_allL hV _).1 hx
      rw [posL_leaf hV ht] at hp
      exact ⟨t, hp, k3.symm⟩
theorem open_it_in {i : Nat} (hi : i < p.items.length) {t : List Int} (h : isPossible p t = true) : ((openM p).it i (t.getD i 0).toNat).1 ≤ resultOf p t ∧ resultOf p t ≤ ((openM p).it i (t.getD i 0).toNat).2 := by
  have ht := possible_truth h
  obtain ⟨⟨_, h2, _⟩, ⟨_, k2, _⟩⟩ := fold_span p (fun S => S.it i (t.getD i 0).toNat) _ (hg_it p i (t.getD i 0).toNat hi) (allL p) (survO p)
  rw [← openM_eq] at h2 k2
  have hm := (mem_allL hV _).2 ⟨t, ht, rfl⟩
  have hp : (posL p (leafOf p t) && decide ((t.getD i 0).toNat = ((leafOf p t).1.getD i 0).toNat)) = true := by
    rw [posL_leaf hV ht, h]
    simp only [Bool.true_and, decide_eq_true_eq, leafOf, padT_get]
  exact ⟨h2 _ hm hp, k2 _ hm hp⟩
theorem open_it_ex {i n : Nat} (hi : i < p.items.length) : ((openM p).it i n = noSpan ∨ ∃ t, isPossible p t = true ∧ t.getD i 0 = n) ∧
    (((openM p).it i n).1 = 1073741824 ∨ ∃ t, isPossible p t = true ∧ t.getD i 0 = n ∧ resultOf p t = ((openM p).it i n).1) ∧ (((openM p).it i n).2 = -1073741824 ∨ ∃ t, isPossible p t = true ∧ t.getD i 0 = n ∧ resultOf p t = ((openM p).it i n).2) := by
  obtain ⟨⟨_, _, h3⟩, ⟨_, _, k3⟩⟩ := fold_span p (fun S => S.it i n) _ (hg_it p i n hi) (allL p) (survO p)
  rw [← openM_eq] at h3 k3
  have key : ∀ x ∈ allL p, (posL p x && decide (n = (x.1.getD i 0).toNat)) = true → ∃ t, isPossible p t = true ∧ t.getD i 0 = n ∧ x.2.1 = resultOf p t := by
    intro x hx hp
    obtain ⟨t, ht, rfl⟩ := (mem_allL hV _).1 hx
    rw [posL_leaf hV ht] at hp
    simp only [Bool.and_eq_true, decide_eq_true_eq, leafOf, padT_get] at hp
    have := (isTruth_iff.1 ht).2 i (by have := (isTruth_iff.1 ht).1; omega)
    exact ⟨t, hp.1, by omega, rfl⟩
  have q1 : ((survO p).it i n).1 = 1073741824 := rfl
  have q2 : ((survO p).it i n).2 = -1073741824 := rfl
  refine ⟨?_, ?_, ?_⟩
  · rcases h3 with h3 | ⟨x, hx, hp, h3⟩
    · rcases k3 with k3 | ⟨x, hx, hp, k3⟩
      · left; exact Prod.ext (h3.trans q1) (k3.trans q2)
      · obtain ⟨t, a, b, _⟩ := key x hx hp; exact .inr ⟨t, a, b⟩
    · obtain ⟨t, a, b, _⟩ := key x hx hp; exact .inr ⟨t, a, b⟩
  · rcases h3 with h3 | ⟨x, hx, hp, h3⟩
    · exact .inl (h3.trans q1)
    · obtain ⟨t, a, b, c⟩ := key x hx hp; exact .inr ⟨t, a, b, by rw [← c]; exact h3.symm⟩
  · rcases k3 with k3 | ⟨x, hx, hp, k3⟩
    · exact .inl (k3.trans q2)
    · obtain ⟨t, a, b, c⟩ := key x hx hp; exact .inr ⟨t, a, b, by rw [← c]; exact k3.symm⟩
theorem open_right {j : Nat} (hj : j < p.judges.length) : (openM p).right.getD j false = true ↔ ∃ t, isPossible p t = true ∧ isRight (p.judges.getD j default) t = true := by
  have hx : p.judges.getD j default ∈ p.judges := by rw [List.getD, List.getElem?_eq_getElem hj]; exact List.getElem_mem hj
  have hgj : ∀ t, (leafOf p t).2.2.getD j (0, 0) = spanTo (p.judges.getD j default) t t.length := fun t => by
    simp [leafOf, List.getD, hj]
  rw [openM_eq, fold_right p j (allL p) (survO p) (by simp [survO, survZ, hj]) (fun x hx => by
    obtain ⟨t, ht, rfl⟩ := (mem_allL hV _).1 hx
    simpa [leafOf] using hj)]
  have h0 : ¬ (survO p).right.getD j false = true := by simp [survO, survZ, List.getD, hj]
  constructor
  · rintro (h | ⟨x, hx', hp, ho⟩)
    · exact absurd h h0
    · obtain ⟨t, ht, rfl⟩ := (mem_allL hV _).1 hx'
      rw [posL_leaf hV ht] at hp
      rw [hgj, okSpan_leaf hV ht hx] at ho
      exact ⟨t, hp, ho⟩
  · rintro ⟨t, hp, ho⟩
    have ht := possible_truth hp
    exact .inr ⟨_, (mem_allL hV _).2 ⟨t, ht, rfl⟩, by rw [posL_leaf hV ht]; exact hp, by rw [hgj, okSpan_leaf hV ht hx]; exact ho⟩
theorem open_shown (q : Int) : (∀ v, getS (openM p).shown q = some v → ∃ t, isPossible p t = true ∧ (gradeP p.grades (resultOf p t) : Int) = q ∧ v = padT t) ∧
    (getS (openM p).shown q = none → ∀ t, isPossible p t = true → (gradeP p.grades (resultOf p t) : Int) ≠ q) := by
  obtain ⟨h1, h2⟩ := fold_shown p q (allL p) (survO p)
  rw [← openM_eq] at h1 h2
  constructor
  · intro v hv
    rcases h1 v hv with h | ⟨x, hx, hp, hg, hxv⟩
    · cases h
    · obtain ⟨t, ht, rfl⟩ := (mem_allL hV _).1 hx
      rw [posL_leaf hV ht] at hp
      exact ⟨t, hp, hg, hxv.symm⟩
  · intro hn t hp
    have ht := possible_truth hp
    exact (h2 hn).2 _ ((mem_allL hV _).2 ⟨t, ht, rfl⟩) (by rw [posL_leaf hV ht]; exact hp)
theorem small_open : SmallS (openM p) := by
  intro i n hi hn
  by_cases hil : i < p.items.length
  · obtain ⟨_, h1, h2⟩ := open_it_ex (n := n) hV hil
    have b1 : -1073741824 ≤ ((openM p).it i n).1 ∧ ((openM p).it i n).1 ≤ 1073741824 := by
      rcases h1 with h1 | ⟨t, hp, _, h1⟩
      · omega
      · have := result_bd hV (possible_truth hp); omega
    have b2 : -1073741824 ≤ ((openM p).it i n).2 ∧ ((openM p).it i n).2 ≤ 1073741824 := by
      rcases h2 with h2 | ⟨t, hp, _, h2⟩
      · omega
      · have := result_bd hV (possible_truth hp); omega
    exact ⟨b1.1, b1.2, b2.1, b2.2⟩
  · have key : ∀ (l : List Leaf) (S : Surv), (l.foldl (endL p) S).it i n = S.it i n := by
      intro l
      induction l with
      | nil => intro S; rfl
      | cons a l ih =>
        intro S
        rw [List.foldl_cons, ih]
        cases h : posL p a
        · rw [(endL_no p S a h).2.1]
        · rw [(endL_yes p S a h).2.1, itTo_get, if_neg (by omega)]
    rw [openM_eq, key]
    simp [survO, survZ, noSpan]
end
end Go.Proofs.Ytkejebdfbkgaiaa
