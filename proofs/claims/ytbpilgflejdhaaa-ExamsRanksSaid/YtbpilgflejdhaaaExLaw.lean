/- Exams: the plain law: what open's survey is. No program in sight. -/
import Derived.Test.YtbpilgflejdhaaaExPl
namespace Go.Proofs.Ytbpilgflejdhaaa
open Go.RowKit

abbrev Leaf := List Int × Int × List (Int × Int)
/-- All that visit comes to, in its order. -/
def leaves (p : Paper) : Nat → List Int → Int → List (Int × Int) → List Leaf
  | 0, t, r, bs => [(t, r, bs)]
  | m + 1, t, r, bs =>
    (List.range ((p.items.getD (p.items.length - (m + 1)) default).most + 1).toNat).flatMap (fun n : Nat => leaves p m (t.set (p.items.length - (m + 1)) n) (r + n * (p.items.getD (p.items.length - (m + 1)) default).weight) (cutTo p (p.items.length - (m + 1)) n p.judges.length bs))
def endL (p : Paper) (S : Surv) (x : Leaf) : Surv := endM p x.1 x.2.1 x.2.2 S
theorem foldTo_eq (f : Nat → Surv → Surv) (k : Nat) (S : Surv) : foldTo f k S = (List.range k).foldl (fun S n => f n S) S := by
  induction k with
  | zero => rfl
  | succ k ih => rw [List.range_succ, List.foldl_append, ← ih]; rfl
theorem visitM_eq (p : Paper) : ∀ (m : Nat) (t : List Int) (r : Int) (bs : List (Int × Int)) (S : Surv), visitM p m t r bs S = (leaves p m t r bs).foldl (endL p) S := by
  intro m
  induction m with
  | zero => intro t r bs S; rfl
  | succ m ih =>
    intro t r bs S
    rw [visitM, leaves, List.foldl_flatMap, foldTo_eq]
    congr 1
    funext S n
    exact ih _ _ _ _

def resFrom (p : Paper) (t : List Int) : Nat → Nat → Int
  | _, 0 => 0
  | i, m + 1 => t.getD i 0 * (p.items.getD i default).weight + resFrom p t (i + 1) m
def cutFrom (p : Paper) (t : List Int) : Nat → Nat → List (Int × Int) → List (Int × Int)
  | _, 0, bs => bs
  | i, m + 1, bs => cutFrom p t (i + 1) m (cutTo p i (t.getD i 0) p.judges.length bs)

theorem leaves_mem (p : Paper) (h4 : p.items.length ≤ 4) : ∀ (m : Nat) (t : List Int) (r : Int) (bs : List (Int × Int)) (x : Leaf), m ≤ p.items.length → t.length = 4 →
    (x ∈ leaves p m t r bs ↔ x.1.length = 4 ∧ (∀ k, k < p.items.length - m ∨ p.items.length ≤ k → x.1.getD k 0 = t.getD k 0) ∧
      (∀ k, p.items.length - m ≤ k → k < p.items.length → 0 ≤ x.1.getD k 0 ∧ x.1.getD k 0 ≤ (p.items.getD k default).most) ∧
      x.2.1 = r + resFrom p x.1 (p.items.length - m) m ∧ x.2.2 = cutFrom p x.1 (p.items.length - m) m bs) := by
  intro m
  induction m with
  | zero =>
    intro t r bs x _ ht
    simp only [leaves, List.mem_singleton, resFrom, cutFrom, Nat.sub_zero]
    constructor
    · rintro rfl
      exact ⟨ht, fun _ _ => rfl, fun k h1 h2 => by omega, by simp, rfl⟩
    · rintro ⟨h1, h2, -, h3, h4⟩
      obtain ⟨a, b, c⟩ := x
      simp only at h1 h2 h3 h4
      have : a = t := by
        apply List.ext_getElem? 
        intro k
        by_cases hk : k < 4
        · have := h2 k (by omega)
          rw [List.getElem?_eq_getElem (by omega), List.getElem?_eq_getElem (by omega)]
          simp [List.getD, show k < a.length by omega, show k < t.length by omega] at this
          rw [this]
        · rw [List.getElem?_eq_none (by omega), List.getElem?_eq_none (by omega)]
      rw [this, h3, h4, Int.add_zero]
  | succ m ih =>
    intro t r bs x hm ht
    have hi : p.items.length - m = p.items.length - (m + 1) + 1 := by omega
    generalize hI : p.items.length - (m + 1) = i at *
    have hil : i < 4 := by omega
    simp only [leaves, List.mem_flatMap, List.mem_range, hI]
    constructor
    · rintro ⟨n, hn, hx⟩
      rw [ih _ _ _ _ (by omega) (by simpa using ht), hi] at hx
      obtain ⟨h1, h2, h3, h4, h5⟩ := hx
      have hti : x.1.getD i 0 = n := by
        rw [h2 i (by omega)]
        simp [List.getD, show i < t.length by omega]
      refine ⟨h1, fun k hk => ?_, fun k hk1 hk2 => ?_, ?_, ?_⟩
      · rw [h2 k (by omega)]
        simp only [List.getD, List.getElem?_set_ne (show i ≠ k by omega)]
      · by_cases e : k = i
        · subst e; rw [hti]; omega
        · exact h3 k (by omega) hk2
      · rw [h4, resFrom, hti, Int.add_assoc]
      · rw [h5, cutFrom, hti]
    · rintro ⟨h1, h2, h3, h4, h5⟩
      obtain ⟨q1, q2⟩ := h3 i (Nat.le_refl _) (by omega)
      obtain ⟨n, hn⟩ : ∃ n : Nat, x.1.getD i 0 = n := ⟨(x.1.getD i 0).toNat, by omega⟩
      refine ⟨n, by omega, ?_⟩
      rw [ih _ _ _ _ (by omega) (by simpa using ht), hi]
      refine ⟨h1, fun k hk => ?_, fun k hk1 hk2 => h3 k (by omega) hk2, ?_, ?_⟩
      · by_cases e : k = i
        · subst e; rw [hn]; simp [List.getD, show k < t.length by omega]
        · rw [h2 k (by omega)]
          simp only [List.getD, List.getElem?_set_ne (show i ≠ k by omega)]
      · rw [h4, resFrom, hn, Int.add_assoc]
      · rw [h5, cutFrom, hn]

/-- A judge's biases that are left after the first k items. -/
def spanTo (x : Judge) (t : List Int) : Nat → Int × Int
  | 0 => (x.lo, x.hi)
  | k + 1 => cut1 x k (t.getD k 0) (spanTo x t k)
theorem cutTo_map (p : Paper) (i : Nat) (n : Int) (f : Judge → Int × Int) : ∀ k, k ≤ p.judges.length → cutTo p i n k (p.judges.map f) = (p.judges.take k).map (fun x => cut1 x i n (f x)) ++ (p.judges.drop k).map f := by
  intro k
  induction k with
  | zero => intro _; simp [cutTo]
  | succ k ih =>
    intro hk
    have hlt : k < p.judges.length := by omega
    rw [cutTo, ih (by omega)]
    have hl : ((p.judges.take k).map (fun x => cut1 x i n (f x))).length = k := by simp; omega
    rw [List.drop_eq_getElem_cons hlt, List.map_cons]
    have hg : (List.map (fun x => cut1 x i n (f x)) (List.take k p.judges) ++ f p.judges[k] :: List.map f (List.drop (k + 1) p.judges)).getD k (0, 0) = f p.judges[k] := by
      rw [List.getD, List.getElem?_append_right (by omega), hl]; simp
    rw [hg, List.set_append_right _ _ (by omega), hl, Nat.sub_self, List.set_cons_zero, List.take_succ_eq_append_getElem hlt, List.map_append]
    simp [List.getD, hlt]
theorem cutFrom_map (p : Paper) (t : List Int) : ∀ (m i : Nat), cutFrom p t i m (p.judges.map (fun x => spanTo x t i)) = p.judges.map (fun x => spanTo x t (i + m)) := by
  intro m
  induction m with
  | zero => intro i; rfl
  | succ m ih =>
    intro i
    rw [cutFrom, cutTo_map p i _ _ _ (Nat.le_refl _), List.take_length, List.drop_length, List.map_nil, List.append_nil]
    rw [show i + (m + 1) = i + 1 + m by omega, ← ih (i + 1)]
    rfl
theorem spanTo_iff {n : Nat} (x : Judge) (t : List Int) (hm : ∀ k, k < n → -1 ≤ x.marks.getD k 0) (b : Int) : ∀ k, k ≤ n → ((spanTo x t k).1 ≤ b ∧ b ≤ (spanTo x t k).2 ↔ x.lo ≤ b ∧ b ≤ x.hi ∧ ∀ i, i < k → agree1 x t b i = true) := by
  intro k
  induction k with
  | zero => intro _; simp [spanTo]
  | succ k ih =>
    intro hk
    have ih := ih (by omega)
    have h1 := hm k (by omega)
    have hag : agree1 x t b k = true ↔ (x.marks.getD k 0 = -1 ∨ (-x.err ≤ x.marks.getD k 0 - t.getD k 0 - b ∧ x.marks.getD k 0 - t.getD k 0 - b ≤ x.err)) := by
      unfold agree1 wi
      simp
    have hall : (∀ i, i < k + 1 → agree1 x t b i = true) ↔ (∀ i, i < k → agree1 x t b i = true) ∧ agree1 x t b k = true :=
      ⟨fun h => ⟨fun i hi => h i (by omega), h k (by omega)⟩, fun h i hi => by
        by_cases e : i = k
        · subst e; exact h.2
        · exact h.1 i (by omega)⟩
    rw [hall, hag, spanTo, cut1]
    generalize x.marks.getD k 0 = mk at *
    generalize spanTo x t k = s at *
    by_cases h0 : 0 ≤ mk
    · rw [if_pos h0]
      constructor
      · rintro ⟨h2, h3⟩
        obtain ⟨a, b', c⟩ := ih.1 ⟨by omega, by omega⟩
        exact ⟨a, b', c, .inr ⟨by omega, by omega⟩⟩
      · rintro ⟨a, b', c, d⟩
        have := ih.2 ⟨a, b', c⟩
        rcases d with d | d
        · omega
        · constructor <;> simp only <;> omega
    · rw [if_neg h0]
      constructor
      · intro h
        obtain ⟨a, b', c⟩ := ih.1 h
        exact ⟨a, b', c, .inl (by omega)⟩
      · rintro ⟨a, b', c, _⟩
        exact ih.2 ⟨a, b', c⟩
theorem okSpan_right {x : Judge} {t : List Int} (hm : ∀ k, k < t.length → -1 ≤ x.marks.getD k 0) : okSpan (spanTo x t t.length) = isRight x t := by
  rw [Bool.eq_iff_iff, isRight_iff]
  have key := fun b => spanTo_iff x t hm b t.length (Nat.le_refl _)
  unfold okSpan agree
  simp only [decide_eq_true_eq, range_all]
  constructor
  · intro h
    obtain ⟨a, b, c⟩ := (key (spanTo x t t.length).1).1 ⟨Int.le_refl _, h⟩
    exact ⟨_, a, b, c⟩
  · rintro ⟨b, h1, h2, h3⟩
    have := (key b).2 ⟨h1, h2, h3⟩
    omega
end Go.Proofs.Ytbpilgflejdhaaa
