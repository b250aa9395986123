/- Exams: the reference's search by boxes, and which truths it finds. No program in sight. / Exams: what the reference reads off its boxes is what the program finds: Range, Points, Grade, Blame, Fewest. No program in sight. / Exams: what the reference reads off its boxes is what the program finds: Next, Show. No program in sight. -/
import Derived.Test.YtbpilgflejdhaaaExLaw3
import Derived.Test.YtbpilgflejdhaaaExLawG
/-! Exams: the reference's search by boxes, and which truths it finds. No program in sight. -/
namespace Go.Proofs.Ytbpilgflejdhaaa
open Go.RowKit

structure Box where
  pts : List (Int × Int)
  right : Nat
  deriving Inhabited

def cutS (x : Judge) (b : Int) (i : Nat) (s : Int × Int) : Int × Int :=
  if x.marks.getD i 0 = -1 then s else (max s.1 (x.marks.getD i 0 - b - x.err), min s.2 (x.marks.getD i 0 - b + x.err))
/-- The first k spans, cut. -/
def cutK (x : Judge) (b : Int) (l : List (Int × Int)) (k : Nat) : List (Int × Int) := (List.range k).map (fun i => cutS x b i (l.getD i (0, 0)))
def cutL (x : Judge) (b : Int) (l : List (Int × Int)) : List (Int × Int) := cutK x b l l.length
def cutOk (x : Judge) (b : Int) (l : List (Int × Int)) : Bool := (List.range l.length).all (fun i => okSpan (cutS x b i (l.getD i (0, 0))))
theorem cutK_len (x : Judge) (b : Int) (l : List (Int × Int)) (k : Nat) : (cutK x b l k).length = k := by simp [cutK]
theorem cutK_succ (x : Judge) (b : Int) (l : List (Int × Int)) (k : Nat) : cutK x b l (k + 1) = cutK x b l k ++ [cutS x b k (l.getD k (0, 0))] := by
  simp [cutK, List.range_succ]
theorem cutL_len (x : Judge) (b : Int) (l : List (Int × Int)) : (cutL x b l).length = l.length := cutK_len _ _ _ _
theorem cutL_get {x : Judge} {b : Int} {l : List (Int × Int)} {i : Nat} (h : i < l.length) : (cutL x b l).getD i (0, 0) = cutS x b i (l.getD i (0, 0)) := by
  simp [cutL, cutK, List.getD, h]

/-- The boxes from some judges on. -/
def boxesM : List Judge → Nat → Int → Box → List Box
  | [], _, _, b => [b]
  | x :: l, k, n, b => (if 0 < n then boxesM l (k + 1) (n - 1) b else []) ++ (biases x).flatMap (fun c => if cutOk x c b.pts then boxesM l (k + 1) n ⟨cutL x c b.pts, b.right ||| 1 <<< k⟩ else [])
def box0 (p : Paper) : Box := ⟨p.items.map (fun i => (0, i.most)), 0⟩
def allM (p : Paper) (n : Int) : List Box := boxesM p.judges 0 n (box0 p)

/-- Points within spans. -/
def inP (t : List Int) (l : List (Int × Int)) : Prop := t.length = l.length ∧ ∀ i, i < t.length → (l.getD i (0, 0)).1 ≤ t.getD i 0 ∧ t.getD i 0 ≤ (l.getD i (0, 0)).2
/-- No span is empty. -/
def neP (l : List (Int × Int)) : Prop := ∀ i, i < l.length → (l.getD i (0, 0)).1 ≤ (l.getD i (0, 0)).2

theorem mem_biases {x : Judge} {b : Int} : b ∈ biases x ↔ x.lo ≤ b ∧ b ≤ x.hi := by
  unfold biases
  rw [List.mem_map]
  constructor
  · rintro ⟨n, hn, rfl⟩
    rw [List.mem_range] at hn
    omega
  · rintro ⟨h1, h2⟩
    exact ⟨(b - x.lo).toNat, by rw [List.mem_range]; omega, by omega⟩
theorem cutOk_iff {x : Judge} {b : Int} {l : List (Int × Int)} : cutOk x b l = true ↔ neP (cutL x b l) := by
  unfold cutOk neP
  rw [range_all, cutL_len]
  constructor
  · intro h i hi
    have := h i hi
    rw [cutL_get hi]
    simpa [okSpan] using this
  · intro h i hi
    have := h i hi
    rw [cutL_get hi] at this
    simpa [okSpan] using this
theorem in_ne {t : List Int} {l : List (Int × Int)} (h : inP t l) : neP l := fun i hi => by
  have := h.2 i (by have := h.1; omega)
  omega
theorem in_cut {x : Judge} {b : Int} {t : List Int} {l : List (Int × Int)} : inP t (cutL x b l) ↔ inP t l ∧ agree x t b = true := by
  unfold inP agree
  rw [cutL_len, range_all]
  constructor
  · rintro ⟨h1, h2⟩
    refine ⟨⟨h1, fun i hi => ?_⟩, fun i hi => ?_⟩
    · have := h2 i hi
      rw [cutL_get (by omega), cutS] at this
      split at this
      · exact this
      · simp only at this; omega
    · have := h2 i hi
      rw [cutL_get (by omega), cutS] at this
      unfold agree1
      split at this
      · rename_i e; rw [decide_eq_true e, Bool.true_or]
      · simp only at this
        rw [Bool.or_eq_true]
        exact .inr (wi_of (by omega))
  · rintro ⟨⟨h1, h2⟩, h3⟩
    refine ⟨h1, fun i hi => ?_⟩
    have a := h2 i hi
    have c := h3 i hi
    unfold agree1 at c
    rw [cutL_get (by omega), cutS]
    split
    · exact a
    · rename_i e
      rw [Bool.or_eq_true, decide_eq_true_eq] at c
      rcases c with c | c
      · exact absurd c e
      · have := wi_true c
        simp only
        omega

theorem boxes_sound (t : List Int) : ∀ (l : List Judge) (k : Nat) (n : Int) (b B : Box), 0 ≤ n → B ∈ boxesM l k n b → inP t B.pts → inP t b.pts ∧ ((l.countP (fun x => !isRight x t) : Nat) : Int) ≤ n ∧
    ∀ j, B.right.testBit j = true → b.right.testBit j = true ∨ (k ≤ j ∧ j < k + l.length ∧ isRight (l.getD (j - k) default) t = true)
  | [], k, n, b, B, hn, hB, ht => by
    simp [boxesM] at hB
    subst hB
    exact ⟨ht, by simpa using hn, fun j hj => .inl hj⟩
  | x :: l, k, n, b, B, hn, hB, ht => by
    rw [boxesM, List.mem_append] at hB
    rcases hB with hB | hB
    · split at hB
      · obtain ⟨h1, h2, h3⟩ := boxes_sound t l (k + 1) (n - 1) b B (by omega) hB ht
        refine ⟨h1, ?_, fun j hj => ?_⟩
        · rw [List.countP_cons]
          split <;> omega
        · rcases h3 j hj with h | ⟨a, c, d⟩
          · exact .inl h
          · refine .inr ⟨by omega, by simp; omega, ?_⟩
            rw [show j - k = (j - (k + 1)) + 1 by omega]
            simpa using d
      · cases hB
    · rw [List.mem_flatMap] at hB
      obtain ⟨c, hc, hB⟩ := hB
      split at hB
      · obtain ⟨h1, h2, h3⟩ := boxes_sound t l (k + 1) n _ B hn hB ht
        obtain ⟨h4, h5⟩ := in_cut.1 h1
        obtain ⟨g1, g2⟩ := mem_biases.1 hc
        have hr : isRight x t = true := isRight_iff.2 ⟨c, g1, g2, h5⟩
        refine ⟨h4, ?_, fun j hj => ?_⟩
        · rw [List.countP_cons]
          simp only [hr, Bool.not_true, Bool.false_eq_true, if_false]
          exact h2
        · rcases h3 j hj with h | ⟨a, c, d⟩
          · simp only [Nat.testBit_or, Bool.or_eq_true] at h
            rcases h with h | h
            · exact .inl h
            · rw [Nat.one_shiftLeft, Nat.testBit_two_pow] at h
              have e : k = j := by simpa using h
              subst e
              exact .inr ⟨by omega, by simp, by simpa using hr⟩
          · refine .inr ⟨by omega, by simp; omega, ?_⟩
            rw [show j - k = (j - (k + 1)) + 1 by omega]
            simpa using d
      · cases hB

theorem boxes_complete (t : List Int) : ∀ (l : List Judge) (k : Nat) (n : Int) (b : Box), inP t b.pts → ((l.countP (fun x => !isRight x t) : Nat) : Int) ≤ n →
    ∃ B ∈ boxesM l k n b, inP t B.pts ∧ (∀ j, b.right.testBit j = true → B.right.testBit j = true) ∧ ∀ j, j < l.length → isRight (l.getD j default) t = true → B.right.testBit (k + j) = true
  | [], k, n, b, hb, hn => ⟨b, by simp [boxesM], hb, fun j h => h, fun j hj => by simp at hj⟩
  | x :: l, k, n, b, hb, hn => by
    rw [List.countP_cons] at hn
    by_cases hr : isRight x t = true
    · obtain ⟨c, g1, g2, g3⟩ := isRight_iff.1 hr
      simp only [hr, Bool.not_true, Bool.false_eq_true, if_false] at hn
      have hin := in_cut.2 ⟨hb, g3⟩
      obtain ⟨B, hB, h1, h2, h3⟩ := boxes_complete t l (k + 1) n ⟨cutL x c b.pts, b.right ||| 1 <<< k⟩ hin hn
      refine ⟨B, ?_, h1, fun j hj => h2 j (by simp only [Nat.testBit_or, hj, Bool.true_or]), fun j hj hrj => ?_⟩
      · rw [boxesM, List.mem_append, List.mem_flatMap]
        exact .inr ⟨c, mem_biases.2 ⟨g1, g2⟩, by rw [if_pos (cutOk_iff.2 (in_ne hin))]; exact hB⟩
      · cases j with
        | zero => exact h2 k (by simp [Nat.testBit_or, Nat.one_shiftLeft])
        | succ j =>
          have := h3 j (by simpa using hj) (by simpa using hrj)
          rw [show k + (j + 1) = k + 1 + j by omega]
          exact this
    · have hf : isRight x t = false := by simpa using hr
      simp only [hf, Bool.not_false, if_true] at hn
      obtain ⟨B, hB, h1, h2, h3⟩ := boxes_complete t l (k + 1) (n - 1) b hb (by omega)
      refine ⟨B, ?_, h1, h2, fun j hj hrj => ?_⟩
      · rw [boxesM, List.mem_append, if_pos (by omega)]
        exact .inl hB
      · cases j with
        | zero => rw [show (x :: l).getD 0 default = x from rfl, hf] at hrj; cases hrj
        | succ j =>
          have := h3 j (by simpa using hj) (by simpa using hrj)
          rw [show k + (j + 1) = k + 1 + j by omega]
          exact this

theorem boxes_shape : ∀ (l : List Judge) (k : Nat) (n : Int) (b B : Box), neP b.pts → B ∈ boxesM l k n b → neP B.pts ∧ B.pts.length = b.pts.length
  | [], k, n, b, B, hb, hB => by
    simp [boxesM] at hB
    subst hB
    exact ⟨hb, rfl⟩
  | x :: l, k, n, b, B, hb, hB => by
    rw [boxesM, List.mem_append] at hB
    rcases hB with hB | hB
    · split at hB
      · exact boxes_shape l (k + 1) (n - 1) b B hb hB
      · cases hB
    · rw [List.mem_flatMap] at hB
      obtain ⟨c, hc, hB⟩ := hB
      split at hB
      · rename_i hok
        obtain ⟨h1, h2⟩ := boxes_shape l (k + 1) n _ B (cutOk_iff.1 hok) hB
        exact ⟨h1, by rw [h2]; exact cutL_len _ _ _⟩
      · cases hB
theorem biases_len {x : Judge} (h1 : -3 ≤ x.lo) (h2 : x.hi ≤ 3) : (biases x).length ≤ 7 := by
  unfold biases
  simp
  omega
theorem flatMap_len {α β : Type} (f : α → List β) (m : Nat) : ∀ l : List α, (∀ x ∈ l, (f x).length ≤ m) → (l.flatMap f).length ≤ l.length * m
  | [], _ => by simp
  | a :: l, h => by
    have h1 := flatMap_len f m l (fun x hx => h x (List.mem_cons_of_mem _ hx))
    have h2 := h a List.mem_cons_self
    simp only [List.flatMap_cons, List.length_append, List.length_cons, Nat.add_mul, Nat.one_mul]
    omega
theorem boxes_len : ∀ (l : List Judge) (k : Nat) (n : Int) (b : Box), (∀ x ∈ l, -3 ≤ x.lo ∧ x.hi ≤ 3) → (boxesM l k n b).length ≤ 8 ^ l.length
  | [], k, n, b, _ => by simp [boxesM]
  | x :: l, k, n, b, h => by
    have hx := h x List.mem_cons_self
    have hl := fun y hy => h y (List.mem_cons_of_mem _ hy)
    rw [boxesM, List.length_append]
    have h1 : (if 0 < n then boxesM l (k + 1) (n - 1) b else []).length ≤ 8 ^ l.length := by
      split
      · exact boxes_len l _ _ _ hl
      · simp
    have h2 := flatMap_len (fun c => if cutOk x c b.pts then boxesM l (k + 1) n ⟨cutL x c b.pts, b.right ||| 1 <<< k⟩ else []) (8 ^ l.length) (biases x) (fun c _ => by
      split
      · exact boxes_len l _ _ _ hl
      · simp)
    have h3 := Nat.mul_le_mul_right (8 ^ l.length) (biases_len hx.1 hx.2)
    rw [List.length_cons, Nat.pow_succ]
    omega
theorem or_lt {a b n : Nat} (ha : a < 2 ^ n) (hb : b < 2 ^ n) : a ||| b < 2 ^ n := Nat.or_lt_two_pow ha hb
theorem boxes_right_lt : ∀ (l : List Judge) (k : Nat) (n : Int) (b B : Box) (m : Nat), k + l.length ≤ m → b.right < 2 ^ m → B ∈ boxesM l k n b → B.right < 2 ^ m
  | [], k, n, b, B, m, _, hb, hB => by
    simp [boxesM] at hB
    subst hB
    exact hb
  | x :: l, k, n, b, B, m, hm, hb, hB => by
    simp only [List.length_cons] at hm
    rw [boxesM, List.mem_append] at hB
    rcases hB with hB | hB
    · split at hB
      · exact boxes_right_lt l (k + 1) (n - 1) b B m (by omega) hb hB
      · cases hB
    · rw [List.mem_flatMap] at hB
      obtain ⟨c, hc, hB⟩ := hB
      split at hB
      · refine boxes_right_lt l (k + 1) n _ B m (by omega) (or_lt hb ?_) hB
        rw [Nat.one_shiftLeft]
        exact Nat.pow_lt_pow_right (by omega) (by omega)
      · cases hB

section
variable {p : Paper}
theorem box0_in {t : List Int} : inP t (box0 p).pts ↔ isTruth p t = true := by
  rw [isTruth_iff]
  unfold inP box0
  simp only [List.length_map]
  constructor
  · rintro ⟨h1, h2⟩
    refine ⟨h1, fun k hk => ?_⟩
    have := h2 k hk
    simpa [List.getD, show k < p.items.length by omega] using this
  · rintro ⟨h1, h2⟩
    refine ⟨h1, fun k hk => ?_⟩
    have := h2 k hk
    simpa [List.getD, show k < p.items.length by omega] using this
variable (hV : Valid p)
include hV
theorem box0_ne : neP (box0 p).pts := fun i hi => by
  have hi' : i < p.items.length := by simpa [box0] using hi
  have := (hV.it i hi').2.2.1
  simp [box0, List.getD, hi'] at this ⊢
  exact this
theorem all_shape {n : Int} {B : Box} (h : B ∈ allM p n) : neP B.pts ∧ B.pts.length = p.items.length := by
  have := boxes_shape _ _ _ _ _ (box0_ne hV) h
  exact ⟨this.1, by rw [this.2]; simp [box0]⟩
theorem judge_bounds : ∀ x ∈ p.judges, -3 ≤ x.lo ∧ x.hi ≤ 3 := fun x hx => by
  obtain ⟨k, hk, rfl⟩ := judge_mem hx
  have := hV.ju k hk
  exact ⟨this.1, this.2.2.1⟩
theorem all_len (n : Int) : (allM p n).length ≤ 4096 := by
  have h1 := boxes_len p.judges 0 n (box0 p) (judge_bounds hV)
  have h2 : 8 ^ p.judges.length ≤ 8 ^ 4 := Nat.pow_le_pow_right (by omega) hV.jl
  unfold allM
  omega
omit hV in
theorem wrongs_count (t : List Int) : wrongs p t = p.judges.countP (fun x => !isRight x t) := by
  unfold wrongs wrongsTo
  rw [List.take_length]
omit hV in
/-- The boxes hold just the truths with at most n wrong judges. -/
theorem all_in {n : Int} (hn : 0 ≤ n) (t : List Int) : (∃ B ∈ allM p n, inP t B.pts) ↔ isTruth p t = true ∧ (wrongs p t : Int) ≤ n := by
  rw [wrongs_count, ← box0_in]
  constructor
  · rintro ⟨B, hB, ht⟩
    obtain ⟨h1, h2, _⟩ := boxes_sound t _ _ _ _ _ hn hB ht
    exact ⟨h1, h2⟩
  · rintro ⟨h1, h2⟩
    obtain ⟨B, hB, h3, _⟩ := boxes_complete t p.judges 0 n _ h1 h2
    exact ⟨B, hB, h3⟩
theorem all_poss (t : List Int) : (∃ B ∈ allM p p.wrong, inP t B.pts) ↔ isPossible p t = true := by
  rw [all_in hV.wr.1]
  unfold isPossible
  simp
omit hV in
/-- A corner of a box. -/
theorem corner_lo {l : List (Int × Int)} (h : neP l) : inP (l.map Prod.fst) l := ⟨by simp, fun i hi => by
  have hi' : i < l.length := by simpa using hi
  have := h i hi'
  simp [List.getD, hi'] at this ⊢
  exact this⟩
omit hV in
theorem corner_hi {l : List (Int × Int)} (h : neP l) : inP (l.map Prod.snd) l := ⟨by simp, fun i hi => by
  have hi' : i < l.length := by simpa using hi
  have := h i hi'
  simp [List.getD, hi'] at this ⊢
  exact this⟩
theorem all_nil {n : Int} (hn : 0 ≤ n) : allM p n = [] ↔ ∀ t, isTruth p t = true → n < wrongs p t := by
  constructor
  · intro h t ht
    rcases Int.lt_or_le n (wrongs p t) with h1 | h1
    · exact h1
    · obtain ⟨B, hB, _⟩ := (all_in hn t).2 ⟨ht, h1⟩
      rw [h] at hB
      cases hB
  · intro h
    rw [List.eq_nil_iff_forall_not_mem]
    intro B hB
    obtain ⟨h1, h2⟩ := all_shape hV hB
    obtain ⟨a, b⟩ := (all_in hn _).1 ⟨B, hB, corner_lo h1⟩
    have := h _ a
    omega
theorem all_nil_fewest {n : Int} (hn : 0 ≤ n) : allM p n = [] ↔ n < (openM p).fewest := by
  obtain ⟨h1, t, ht, h2⟩ := open_fewest hV
  rw [all_nil hV hn]
  constructor
  · intro h
    have := h t ht
    omega
  · intro h u hu
    have := h1 u hu
    omega
theorem all_nil_poss : allM p p.wrong = [] ↔ (openM p).poss = false := by
  have h1 := open_poss hV
  constructor
  · intro h
    cases hp : (openM p).poss
    · rfl
    · obtain ⟨t, ht⟩ := h1.1 hp
      obtain ⟨B, hB, _⟩ := (all_poss hV t).2 ht
      rw [h] at hB
      cases hB
  · intro h
    rw [List.eq_nil_iff_forall_not_mem]
    intro B hB
    obtain ⟨h2, _⟩ := all_shape hV hB
    have := h1.2 ⟨_, (all_poss hV _).1 ⟨B, hB, corner_lo h2⟩⟩
    rw [h] at this
    cases this
end
end Go.Proofs.Ytbpilgflejdhaaa
/-! Exams: what the reference reads off its boxes is what the program finds: Range, Points, Grade, Blame, Fewest. No program in sight. -/
namespace Go.Proofs.Ytbpilgflejdhaaa
open Go.RowKit

/-- One more box in the span of results. -/
def loTo (p : Paper) (B : Box) (k : Nat) : Int := resultTo p (B.pts.map Prod.fst) k
def hiTo (p : Paper) (B : Box) (k : Nat) : Int := resultTo p (B.pts.map Prod.snd) k
def resStep (p : Paper) (o : Int × Int) (B : Box) : Int × Int := (min o.1 (loTo p B p.items.length), max o.2 (hiTo p B p.items.length))
def resK (p : Paper) (l : List Box) (k : Nat) : Int × Int := (l.take k).foldl (resStep p) (1201, -1)
def resB (p : Paper) (l : List Box) : Int × Int := resK p l l.length
theorem foldl_take_succ {α β : Type} (f : β → α → β) (b : β) (l : List α) (k : Nat) (d : α) (h : k < l.length) : (l.take (k + 1)).foldl f b = f ((l.take k).foldl f b) (l.getD k d) := by
  rw [List.take_succ_eq_append_getElem h, List.foldl_append]
  simp [List.getD, h]
theorem resK_succ (p : Paper) (l : List Box) (k : Nat) (h : k < l.length) : resK p l (k + 1) = resStep p (resK p l k) (l.getD k default) := foldl_take_succ _ _ _ _ _ h
theorem loTo_succ {p : Paper} {B : Box} {k : Nat} : loTo p B (k + 1) = loTo p B k + (B.pts.getD k (0, 0)).1 * (p.items.getD k default).weight := by
  unfold loTo
  rw [resultTo]
  congr 2
  by_cases h : k < B.pts.length
  · simp [List.getD, h]
  · simp [List.getD, List.getElem?_eq_none (show B.pts.length ≤ k by omega)]
theorem hiTo_succ {p : Paper} {B : Box} {k : Nat} : hiTo p B (k + 1) = hiTo p B k + (B.pts.getD k (0, 0)).2 * (p.items.getD k default).weight := by
  unfold hiTo
  rw [resultTo]
  congr 2
  by_cases h : k < B.pts.length
  · simp [List.getD, h]
  · simp [List.getD, List.getElem?_eq_none (show B.pts.length ≤ k by omega)]
theorem resultTo_mono {p : Paper} {t u : List Int} : ∀ n, (∀ k, k < n → 0 ≤ (p.items.getD k default).weight ∧ t.getD k 0 ≤ u.getD k 0) → resultTo p t n ≤ resultTo p u n := by
  intro n
  induction n with
  | zero => intro _; exact Int.le_refl _
  | succ n ih =>
    intro h
    rw [resultTo, resultTo]
    have h1 := ih (fun k hk => h k (by omega))
    have h2 := h n (by omega)
    have h3 := Int.mul_le_mul_of_nonneg_right h2.2 h2.1
    omega

section
variable {p : Paper} (hV : Valid p)
include hV
theorem corner_le {t : List Int} {B : Box} (hl : B.pts.length = p.items.length) (h : inP t B.pts) : loTo p B p.items.length ≤ resultOf p t ∧ resultOf p t ≤ hiTo p B p.items.length := by
  have hlen : t.length = p.items.length := by have := h.1; omega
  unfold resultOf loTo hiTo
  rw [hlen]
  constructor
  · refine resultTo_mono _ fun k hk => ⟨(hV.it k hk).1, ?_⟩
    have := (h.2 k (by omega)).1
    have hk' : k < B.pts.length := by omega
    simpa [List.getD, hk'] using this
  · refine resultTo_mono _ fun k hk => ⟨(hV.it k hk).1, ?_⟩
    have := (h.2 k (by omega)).2
    have hk' : k < B.pts.length := by omega
    simpa [List.getD, hk'] using this
omit hV in
theorem corner_res {B : Box} (hl : B.pts.length = p.items.length) : resultOf p (B.pts.map Prod.fst) = loTo p B p.items.length ∧ resultOf p (B.pts.map Prod.snd) = hiTo p B p.items.length := by
  unfold resultOf loTo hiTo
  simp only [List.length_map, hl]
  exact ⟨trivial, trivial⟩
omit hV in
theorem res_fold : ∀ (L : List Box) (o : Int × Int), ((L.foldl (resStep p) o).1 ≤ o.1 ∧ o.2 ≤ (L.foldl (resStep p) o).2) ∧ (∀ B ∈ L, (L.foldl (resStep p) o).1 ≤ loTo p B p.items.length ∧ hiTo p B p.items.length ≤ (L.foldl (resStep p) o).2) ∧
    ((L.foldl (resStep p) o).1 = o.1 ∨ ∃ B ∈ L, (L.foldl (resStep p) o).1 = loTo p B p.items.length) ∧ ((L.foldl (resStep p) o).2 = o.2 ∨ ∃ B ∈ L, (L.foldl (resStep p) o).2 = hiTo p B p.items.length)
  | [], o => ⟨⟨Int.le_refl _, Int.le_refl _⟩, fun B hB => by simp at hB, .inl rfl, .inl rfl⟩
  | B :: L, o => by
    obtain ⟨⟨h1, h2⟩, h3, h4, h5⟩ := res_fold L (resStep p o B)
    rw [List.foldl_cons]
    generalize L.foldl (resStep p) (resStep p o B) = r at *
    simp only [resStep] at h1 h2 h4 h5
    refine ⟨⟨by clear h4 h5; omega, by clear h4 h5; omega⟩, fun B' hB' => ?_, ?_, ?_⟩
    · clear h4 h5
      rcases List.mem_cons.1 hB' with rfl | hB'
      · exact ⟨by omega, by omega⟩
      · exact h3 B' hB'
    · clear h5
      rcases h4 with h4 | ⟨B', hB', h4⟩
      · by_cases hm : o.1 ≤ loTo p B p.items.length
        · exact .inl (by omega)
        · exact .inr ⟨B, List.mem_cons_self, by omega⟩
      · exact .inr ⟨B', List.mem_cons_of_mem _ hB', h4⟩
    · clear h4
      rcases h5 with h5 | ⟨B', hB', h5⟩
      · by_cases hm : hiTo p B p.items.length ≤ o.2
        · exact .inl (by omega)
        · exact .inr ⟨B, List.mem_cons_self, by omega⟩
      · exact .inr ⟨B', List.mem_cons_of_mem _ hB', h5⟩
omit hV in
theorem resB_eq (L : List Box) : resB p L = L.foldl (resStep p) (1201, -1) := by
  unfold resB resK
  rw [List.take_length]
/-- The span of the results of some boxes is that of the truths in them. -/
theorem res_hull (L : List Box) (h : ∀ B ∈ L, neP B.pts ∧ B.pts.length = p.items.length ∧ ∀ t, inP t B.pts → isTruth p t = true) :
    (∀ B ∈ L, ∀ t, inP t B.pts → (resB p L).1 ≤ resultOf p t ∧ resultOf p t ≤ (resB p L).2) ∧
    (L ≠ [] → (∃ B ∈ L, ∃ t, inP t B.pts ∧ resultOf p t = (resB p L).1) ∧ (∃ B ∈ L, ∃ t, inP t B.pts ∧ resultOf p t = (resB p L).2)) := by
  rw [resB_eq]
  obtain ⟨_, h3, h4, h5⟩ := res_fold (p := p) L (1201, -1)
  generalize L.foldl (resStep p) (1201, -1) = r at *
  constructor
  · intro B hB t ht
    have := corner_le hV (h B hB).2.1 ht
    have := h3 B hB
    omega
  · intro hL
    obtain ⟨B0, hB0⟩ := List.exists_mem_of_ne_nil L hL
    have k0 := h3 B0 hB0
    obtain ⟨n0, l0, i0⟩ := h B0 hB0
    have r0 := corner_res l0
    have b1 := result_bd hV (i0 _ (corner_lo n0))
    have b2 := result_bd hV (i0 _ (corner_hi n0))
    constructor
    · rcases h4 with h4 | ⟨B, hB, h4⟩
      · simp only at h4; omega
      · obtain ⟨n1, l1, _⟩ := h B hB
        exact ⟨B, hB, _, corner_lo n1, by rw [h4]; exact (corner_res l1).1⟩
    · rcases h5 with h5 | ⟨B, hB, h5⟩
      · simp only at h5; omega
      · obtain ⟨n1, l1, _⟩ := h B hB
        exact ⟨B, hB, _, corner_hi n1, by rw [h5]; exact (corner_res l1).2⟩
theorem all_ok {n : Int} (hn : 0 ≤ n) : ∀ B ∈ allM p n, neP B.pts ∧ B.pts.length = p.items.length ∧ ∀ t, inP t B.pts → isTruth p t = true := fun B hB =>
  ⟨(all_shape hV hB).1, (all_shape hV hB).2, fun t ht => ((all_in hn t).1 ⟨B, hB, ht⟩).1⟩
/-- Range. -/
theorem range_boxes (h : (openM p).poss = true) : resB p (allM p p.wrong) = (openM p).res := by
  have hL : allM p p.wrong ≠ [] := fun e => by rw [(all_nil_poss hV).1 e] at h; cases h
  obtain ⟨h1, h2⟩ := res_hull hV (allM p p.wrong) (all_ok hV hV.wr.1)
  obtain ⟨⟨B1, hB1, t1, i1, e1⟩, ⟨B2, hB2, t2, i2, e2⟩⟩ := h2 hL
  obtain ⟨⟨u1, v1, g1⟩, ⟨u2, v2, g2⟩⟩ := open_res_ex hV h
  obtain ⟨C1, hC1, j1⟩ := (all_poss hV u1).2 v1
  obtain ⟨C2, hC2, j2⟩ := (all_poss hV u2).2 v2
  have a1 := open_res_in hV ((all_poss hV t1).1 ⟨B1, hB1, i1⟩)
  have a2 := open_res_in hV ((all_poss hV t2).1 ⟨B2, hB2, i2⟩)
  have a3 := h1 C1 hC1 u1 j1
  have a4 := h1 C2 hC2 u2 j2
  exact Prod.ext (by omega) (by omega)

omit hV
/-- A span of the least and the greatest. -/
theorem mm_fold {α : Type} (lo hi : α → Int) : ∀ (L : List α) (o : Int × Int), ((L.foldl (fun o B => (min o.1 (lo B), max o.2 (hi B))) o).1 ≤ o.1 ∧ o.2 ≤ (L.foldl (fun o B => (min o.1 (lo B), max o.2 (hi B))) o).2) ∧
    (∀ B ∈ L, (L.foldl (fun o B => (min o.1 (lo B), max o.2 (hi B))) o).1 ≤ lo B ∧ hi B ≤ (L.foldl (fun o B => (min o.1 (lo B), max o.2 (hi B))) o).2) ∧
    ((L.foldl (fun o B => (min o.1 (lo B), max o.2 (hi B))) o).1 = o.1 ∨ ∃ B ∈ L, (L.foldl (fun o B => (min o.1 (lo B), max o.2 (hi B))) o).1 = lo B) ∧ ((L.foldl (fun o B => (min o.1 (lo B), max o.2 (hi B))) o).2 = o.2 ∨ ∃ B ∈ L, (L.foldl (fun o B => (min o.1 (lo B), max o.2 (hi B))) o).2 = hi B)
  | [], o => ⟨⟨Int.le_refl _, Int.le_refl _⟩, fun B hB => by simp at hB, .inl rfl, .inl rfl⟩
  | B :: L, o => by
    obtain ⟨⟨h1, h2⟩, h3, h4, h5⟩ := mm_fold lo hi L (min o.1 (lo B), max o.2 (hi B))
    rw [List.foldl_cons]
    generalize L.foldl (fun o B => (min o.1 (lo B), max o.2 (hi B))) (min o.1 (lo B), max o.2 (hi B)) = r at *
    simp only at h1 h2 h4 h5
    refine ⟨⟨by clear h4 h5; omega, by clear h4 h5; omega⟩, fun B' hB' => ?_, ?_, ?_⟩
    · clear h4 h5
      rcases List.mem_cons.1 hB' with rfl | hB'
      · exact ⟨by omega, by omega⟩
      · exact h3 B' hB'
    · clear h5
      rcases h4 with h4 | ⟨B', hB', h4⟩
      · by_cases hm : o.1 ≤ lo B
        · exact .inl (by omega)
        · exact .inr ⟨B, List.mem_cons_self, by omega⟩
      · exact .inr ⟨B', List.mem_cons_of_mem _ hB', h4⟩
    · clear h4
      rcases h5 with h5 | ⟨B', hB', h5⟩
      · by_cases hm : hi B ≤ o.2
        · exact .inl (by omega)
        · exact .inr ⟨B, List.mem_cons_self, by omega⟩
      · exact .inr ⟨B', List.mem_cons_of_mem _ hB', h5⟩

/-- Points: the hull of the boxes' spans, the first k of them. -/
def hullStep (o : List (Int × Int)) (B : Box) (k : Nat) : List (Int × Int) := (List.range o.length).map (fun i => if i < k then (min (o.getD i (0, 0)).1 (B.pts.getD i (0, 0)).1, max (o.getD i (0, 0)).2 (B.pts.getD i (0, 0)).2) else o.getD i (0, 0))
theorem hullStep_len (o : List (Int × Int)) (B : Box) (k : Nat) : (hullStep o B k).length = o.length := by simp [hullStep]
theorem hullStep_get {o : List (Int × Int)} {B : Box} {k i : Nat} (h : i < o.length) : (hullStep o B k).getD i (0, 0) = if i < k then (min (o.getD i (0, 0)).1 (B.pts.getD i (0, 0)).1, max (o.getD i (0, 0)).2 (B.pts.getD i (0, 0)).2) else o.getD i (0, 0) := by
  simp only [hullStep, List.getD, List.getElem?_map, List.getElem?_range h, Option.map_some, Option.getD_some]
theorem span_ext {a b : List (Int × Int)} (hl : a.length = b.length) (h : ∀ k, k < a.length → a.getD k (0, 0) = b.getD k (0, 0)) : a = b := by
  apply List.ext_getElem?
  intro j
  by_cases hj : j < a.length
  · have := h j hj
    rw [List.getElem?_eq_getElem hj, List.getElem?_eq_getElem (by omega)]
    simp [List.getD, hj, show j < b.length by omega] at this
    rw [this]
  · rw [List.getElem?_eq_none (by omega), List.getElem?_eq_none (by omega)]
theorem hullStep_zero (o : List (Int × Int)) (B : Box) : hullStep o B 0 = o := span_ext (hullStep_len _ _ _) fun k hk => by
  rw [hullStep_len] at hk
  rw [hullStep_get hk, if_neg (by omega)]
theorem hullStep_succ {o : List (Int × Int)} {B : Box} {k : Nat} (h : k < o.length) : hullStep o B (k + 1) = (hullStep o B k).set k (min ((hullStep o B k).getD k (0, 0)).1 (B.pts.getD k (0, 0)).1, max ((hullStep o B k).getD k (0, 0)).2 (B.pts.getD k (0, 0)).2) :=
  span_ext (by rw [List.length_set, hullStep_len, hullStep_len]) fun i hi => by
    rw [hullStep_len] at hi
    rw [hullStep_get hi, hullStep_get h, if_neg (Nat.lt_irrefl k)]
    by_cases e : i = k
    · subst e
      rw [if_pos (by omega)]
      simp [List.getD, hullStep_len, h]
    · rw [show ((hullStep o B k).set k (min (o.getD k (0, 0)).1 (B.pts.getD k (0, 0)).1, max (o.getD k (0, 0)).2 (B.pts.getD k (0, 0)).2)).getD i (0, 0) = (hullStep o B k).getD i (0, 0) by
        simp only [List.getD, List.getElem?_set_ne (Ne.symm e)], hullStep_get hi]
      by_cases hk : i < k
      · rw [if_pos (by omega), if_pos hk]
      · rw [if_neg (by omega), if_neg hk]
def hullK (L : List Box) (o : List (Int × Int)) (k : Nat) : List (Int × Int) := (L.take k).foldl (fun o B => hullStep o B o.length) o
theorem hullK_succ (L : List Box) (o : List (Int × Int)) (k : Nat) (h : k < L.length) : hullK L o (k + 1) = hullStep (hullK L o k) (L.getD k default) (hullK L o k).length := foldl_take_succ _ _ _ _ _ h
theorem hull_len : ∀ (L : List Box) (o : List (Int × Int)), (L.foldl (fun o B => hullStep o B o.length) o).length = o.length
  | [], _ => rfl
  | B :: L, o => by rw [List.foldl_cons, hull_len L, hullStep_len]
theorem hullK_len (L : List Box) (o : List (Int × Int)) (k : Nat) : (hullK L o k).length = o.length := hull_len _ _
theorem hull_get (i : Nat) : ∀ (L : List Box) (o : List (Int × Int)), i < o.length → (L.foldl (fun o B => hullStep o B o.length) o).getD i (0, 0) = L.foldl (fun o B => (min o.1 (B.pts.getD i (0, 0)).1, max o.2 (B.pts.getD i (0, 0)).2)) (o.getD i (0, 0))
  | [], _, _ => rfl
  | B :: L, o, h => by
    rw [List.foldl_cons, List.foldl_cons, hull_get i L _ (by rw [hullStep_len]; exact h), hullStep_get h, if_pos h]
def ptsB (L : List Box) : List (Int × Int) := hullK L (L.getD 0 default).pts L.length
theorem ptTo_ex (S : Surv) (i : Nat) : ∀ k, k ≤ 1000 → (ptTo S i k = noSpan ∧ ∀ n, n < k → ¬ (S.it i n).1 ≤ (S.it i n).2) ∨ ((∃ n, n < k ∧ (S.it i n).1 ≤ (S.it i n).2 ∧ (ptTo S i k).1 = (n : Int)) ∧ ∃ n, n < k ∧ (S.it i n).1 ≤ (S.it i n).2 ∧ (ptTo S i k).2 = (n : Int))
  | 0, _ => .inl ⟨rfl, fun n h => by omega⟩
  | k + 1, hk => by
    unfold ptTo
    split
    · rename_i he
      right
      simp only [addS]
      rcases ptTo_ex S i k (by omega) with ⟨h, _⟩ | ⟨⟨n, a, b, c⟩, ⟨m, a', b', c'⟩⟩
      · rw [h]
        simp only [noSpan]
        exact ⟨⟨k, by omega, he, by omega⟩, ⟨k, by omega, he, by omega⟩⟩
      · rw [c, c']
        exact ⟨⟨n, by omega, b, by omega⟩, ⟨k, by omega, he, by omega⟩⟩
    · rename_i he
      rcases ptTo_ex S i k (by omega) with ⟨h, h'⟩ | ⟨⟨n, a, b, c⟩, ⟨m, a', b', c'⟩⟩
      · exact .inl ⟨h, fun n hn => by
          by_cases e : n = k
          · subst e; exact he
          · exact h' n (by omega)⟩
      · exact .inr ⟨⟨n, by omega, b, c⟩, ⟨m, by omega, b', c'⟩⟩
theorem orTest {j : Nat} : ∀ (L : List Box) (r : Nat), (L.foldl (fun r B => r ||| B.right) r).testBit j = true ↔ r.testBit j = true ∨ ∃ B ∈ L, B.right.testBit j = true
  | [], r => by simp
  | B :: L, r => by
    rw [List.foldl_cons, orTest L, Nat.testBit_or, Bool.or_eq_true]
    constructor
    · rintro ((h | h) | ⟨B', hB', h⟩)
      · exact .inl h
      · exact .inr ⟨B, List.mem_cons_self, h⟩
      · exact .inr ⟨B', List.mem_cons_of_mem _ hB', h⟩
    · rintro (h | ⟨B', hB', h⟩)
      · exact .inl (.inl h)
      · rcases List.mem_cons.1 hB' with rfl | hB'
        · exact .inl (.inr h)
        · exact .inr ⟨B', hB', h⟩
def orK (L : List Box) (k : Nat) : Nat := (L.take k).foldl (fun r B => r ||| B.right) 0
theorem orK_succ (L : List Box) (k : Nat) (h : k < L.length) : orK L (k + 1) = orK L k ||| (L.getD k default).right := foldl_take_succ _ _ _ _ _ h
def blameB (L : List Box) (k : Nat) : List Int := ((List.range k).filter (fun j => !(orK L L.length).testBit j)).map (fun j : Nat => (j : Int))
theorem blameB_succ (L : List Box) (k : Nat) : blameB L (k + 1) = if (orK L L.length).testBit k then blameB L k else blameB L k ++ [(k : Int)] := by
  unfold blameB
  rw [List.range_succ, List.filter_append, List.map_append]
  cases h : (orK L L.length).testBit k
  · simp only [List.filter_cons, List.filter_nil, h]; rfl
  · simp only [List.filter_cons, List.filter_nil, h]; simp
include hV
theorem it_ne {i n : Nat} (hi : i < p.items.length) : ((openM p).it i n).1 ≤ ((openM p).it i n).2 ↔ ∃ t, isPossible p t = true ∧ t.getD i 0 = n := by
  constructor
  · intro h
    rcases (open_it_ex (n := n) hV hi).1 with h1 | h1
    · rw [h1] at h; exact absurd h (by decide)
    · exact h1
  · rintro ⟨t, ht, hn⟩
    have := open_it_in hV hi ht
    rw [show (t.getD i 0).toNat = n by omega] at this
    omega
theorem points_boxes (h : (openM p).poss = true) : ptsB (allM p p.wrong) = ptsTo (openM p) p.items.length := by
  have hL : allM p p.wrong ≠ [] := fun e => by rw [(all_nil_poss hV).1 e] at h; cases h
  obtain ⟨u, hu⟩ := (open_poss hV).1 h
  have hok := all_ok hV (n := p.wrong) hV.wr.1
  have hin := all_poss hV
  generalize allM p p.wrong = L at *
  have hpos : 0 < L.length := List.length_pos_iff.2 hL
  have h0 : L.getD 0 default ∈ L := by rw [List.getD, List.getElem?_eq_getElem hpos]; exact List.getElem_mem hpos
  have hlen : (L.getD 0 default).pts.length = p.items.length := (hok _ h0).2.1
  unfold ptsB
  refine span_ext (by rw [hullK_len, hlen, ptsTo_len]) fun i hi => ?_
  rw [hullK_len, hlen] at hi
  rw [ptsTo_get _ _ _ hi]
  unfold hullK
  rw [List.take_length, hull_get i L _ (by omega)]
  obtain ⟨_, h3, h4, h5⟩ := mm_fold (fun B : Box => (B.pts.getD i (0, 0)).1) (fun B => (B.pts.getD i (0, 0)).2) L ((L.getD 0 default).pts.getD i (0, 0))
  generalize L.foldl (fun o B => (min o.1 (B.pts.getD i (0, 0)).1, max o.2 (B.pts.getD i (0, 0)).2)) ((L.getD 0 default).pts.getD i (0, 0)) = r at *
  have key1 : ∃ B ∈ L, r.1 = (B.pts.getD i (0, 0)).1 := by
    rcases h4 with h4 | h4
    · exact ⟨_, h0, h4⟩
    · exact h4
  have key2 : ∃ B ∈ L, r.2 = (B.pts.getD i (0, 0)).2 := by
    rcases h5 with h5 | h5
    · exact ⟨_, h0, h5⟩
    · exact h5
  obtain ⟨B1, m1, e1⟩ := key1
  obtain ⟨B2, m2, e2⟩ := key2
  obtain ⟨n1, l1, t1⟩ := hok B1 m1
  obtain ⟨n2, l2, t2⟩ := hok B2 m2
  have p1 := (hin _).1 ⟨B1, m1, corner_lo n1⟩
  have p2 := (hin _).1 ⟨B2, m2, corner_hi n2⟩
  have v1 : (B1.pts.map Prod.fst).getD i 0 = (B1.pts.getD i (0, 0)).1 := by simp [List.getD, show i < B1.pts.length by omega]
  have v2 : (B2.pts.map Prod.snd).getD i 0 = (B2.pts.getD i (0, 0)).2 := by simp [List.getD, show i < B2.pts.length by omega]
  have bound : ∀ t, isPossible p t = true → (0 ≤ t.getD i 0 ∧ t.getD i 0 ≤ 30) ∧ r.1 ≤ t.getD i 0 ∧ t.getD i 0 ≤ r.2 := by
    intro t ht
    obtain ⟨B, hB, hb⟩ := (hin t).2 ht
    have tr := isTruth_iff.1 (possible_truth ht)
    have a1 := tr.2 i (by omega)
    have a2 := hV.it i hi
    have a3 := hb.2 i (by omega)
    have a4 := h3 B hB
    omega
  rcases ptTo_ex (openM p) i 31 (by omega) with ⟨_, hno⟩ | ⟨⟨n, hn, hne, hn1⟩, ⟨m, hm, hme, hm2⟩⟩
  · exfalso
    have := bound u hu
    refine hno (u.getD i 0).toNat (by omega) ((it_ne hV hi).2 ⟨u, hu, by omega⟩)
  · obtain ⟨tn, htn, hvn⟩ := (it_ne hV hi).1 hne
    obtain ⟨tm, htm, hvm⟩ := (it_ne hV hi).1 hme
    have bn := bound tn htn
    have bm := bound tm htm
    have b1 := bound _ p1
    have b2 := bound _ p2
    rw [v1] at b1
    rw [v2] at b2
    have q1 := ptTo_in (openM p) i ((B1.pts.map Prod.fst).getD i 0).toNat ((it_ne hV hi).2 ⟨_, p1, by rw [v1]; omega⟩) 31 (by omega)
    have q2 := ptTo_in (openM p) i ((B2.pts.map Prod.snd).getD i 0).toNat ((it_ne hV hi).2 ⟨_, p2, by rw [v2]; omega⟩) 31 (by omega)
    rw [v1] at q1
    rw [v2] at q2
    exact Prod.ext (by omega) (by omega)
theorem right_boxes (j : Nat) (hj : j < p.judges.length) : (orK (allM p p.wrong) (allM p p.wrong).length).testBit j = (openM p).right.getD j false := by
  unfold orK
  rw [List.take_length, Bool.eq_iff_iff, orTest, open_right hV hj]
  constructor
  · rintro (h | ⟨B, hB, h⟩)
    · simp at h
    · obtain ⟨n1, l1, _⟩ := all_ok hV hV.wr.1 B hB
      have hc := corner_lo n1
      obtain ⟨_, _, h3⟩ := boxes_sound _ _ _ _ _ _ hV.wr.1 hB hc
      rcases h3 j h with h4 | ⟨_, _, h4⟩
      · simp [box0] at h4
      · exact ⟨_, (all_poss hV _).1 ⟨B, hB, hc⟩, by simpa using h4⟩
  · rintro ⟨t, ht, hr⟩
    have h1 := (all_poss hV t).2 ht
    have h2 := (all_in hV.wr.1 t).1 h1
    rw [wrongs_count] at h2
    obtain ⟨B, hB, _, _, h5⟩ := boxes_complete t p.judges 0 p.wrong (box0 p) (box0_in.2 h2.1) h2.2
    exact .inr ⟨B, hB, by have := h5 j hj hr; rwa [Nat.zero_add] at this⟩
theorem blame_boxes : blameB (allM p p.wrong) p.judges.length = blameTo (openM p).right p.judges.length := by
  unfold blameB blameTo
  congr 1
  refine List.filter_congr fun j hj => ?_
  rw [List.mem_range] at hj
  rw [right_boxes hV j hj]
end
end Go.Proofs.Ytbpilgflejdhaaa
/-! Exams: what the reference reads off its boxes is what the program finds: Next, Show. No program in sight. -/
namespace Go.Proofs.Ytbpilgflejdhaaa
open Go.RowKit

def cutI (B : Box) (i : Nat) (s : Int × Int) : Int × Int := (max (B.pts.getD i (0, 0)).1 s.1, min (B.pts.getD i (0, 0)).2 s.2)
def afterOne (B : Box) (i : Nat) (s : Int × Int) : List Box := if (cutI B i s).1 ≤ (cutI B i s).2 then [⟨B.pts.set i (cutI B i s), B.right⟩] else []
def afterK (L : List Box) (i : Nat) (s : Int × Int) (k : Nat) : List Box := (L.take k).flatMap (fun B => afterOne B i s)
def afterB (L : List Box) (i : Nat) (s : Int × Int) : List Box := afterK L i s L.length
theorem afterK_succ (L : List Box) (i : Nat) (s : Int × Int) (k : Nat) (h : k < L.length) : afterK L i s (k + 1) = afterK L i s k ++ afterOne (L.getD k default) i s := by
  unfold afterK
  rw [List.take_succ_eq_append_getElem h, List.flatMap_append]
  simp [List.getD, h]
theorem afterK_len (L : List Box) (i : Nat) (s : Int × Int) (k : Nat) : (afterK L i s k).length ≤ k := by
  have h1 := flatMap_len (fun B => afterOne B i s) 1 (L.take k) (fun B _ => by unfold afterOne; split <;> simp)
  have := List.length_take_le k L
  unfold afterK
  omega
theorem mem_after {L : List Box} {i : Nat} {s : Int × Int} {C : Box} : C ∈ afterB L i s ↔ ∃ B ∈ L, (cutI B i s).1 ≤ (cutI B i s).2 ∧ C = ⟨B.pts.set i (cutI B i s), B.right⟩ := by
  unfold afterB afterK
  rw [List.take_length, List.mem_flatMap]
  constructor
  · rintro ⟨B, hB, h⟩
    unfold afterOne at h
    split at h
    · rename_i hc
      exact ⟨B, hB, hc, by simpa using h⟩
    · cases h
  · rintro ⟨B, hB, hc, h⟩
    exact ⟨B, hB, by unfold afterOne; rw [if_pos hc]; simpa using h⟩
theorem set_getD {l : List (Int × Int)} {i j : Nat} {v : Int × Int} (hi : i < l.length) : (l.set i v).getD j (0, 0) = if j = i then v else l.getD j (0, 0) := by
  by_cases e : j = i
  · subst e; simp [List.getD, hi]
  · rw [if_neg e]; simp only [List.getD, List.getElem?_set_ne (Ne.symm e)]
theorem after_in {L : List Box} {i : Nat} {s : Int × Int} (hi : ∀ B ∈ L, i < B.pts.length) (t : List Int) : (∃ C ∈ afterB L i s, inP t C.pts) ↔ (∃ B ∈ L, inP t B.pts) ∧ s.1 ≤ t.getD i 0 ∧ t.getD i 0 ≤ s.2 := by
  constructor
  · rintro ⟨C, hC, ht⟩
    obtain ⟨B, hB, hc, rfl⟩ := mem_after.1 hC
    have hl := hi B hB
    obtain ⟨h1, h2⟩ := ht
    rw [List.length_set] at h1
    have h3 := h2 i (by omega)
    simp only [set_getD hl, if_true, cutI] at h3
    refine ⟨⟨B, hB, h1, fun j hj => ?_⟩, by omega, by omega⟩
    have h4 := h2 j hj
    simp only [set_getD hl] at h4
    by_cases e : j = i
    · subst e; omega
    · rw [if_neg e] at h4; exact h4
  · rintro ⟨⟨B, hB, h1, h2⟩, h3, h4⟩
    have hl := hi B hB
    have h5 := h2 i (by omega)
    refine ⟨⟨B.pts.set i (cutI B i s), B.right⟩, mem_after.2 ⟨B, hB, by simp only [cutI]; omega, rfl⟩, by rw [List.length_set]; exact h1, fun j hj => ?_⟩
    simp only [set_getD hl]
    by_cases e : j = i
    · subst e
      rw [if_pos rfl]
      simp only [cutI]
      omega
    · rw [if_neg e]; exact h2 j hj
theorem after_ok {L : List Box} {i n : Nat} {s : Int × Int} (h : ∀ B ∈ L, neP B.pts ∧ B.pts.length = n) (hi : i < n) : ∀ C ∈ afterB L i s, neP C.pts ∧ C.pts.length = n := by
  intro C hC
  obtain ⟨B, hB, hc, rfl⟩ := mem_after.1 hC
  obtain ⟨h1, h2⟩ := h B hB
  refine ⟨fun j hj => ?_, by simpa using h2⟩
  have hj' : j < B.pts.length := by simpa using hj
  simp only [set_getD (show i < B.pts.length by omega)]
  by_cases e : j = i
  · rw [if_pos e]; exact hc
  · rw [if_neg e]; exact h1 j hj'

def markB (p : Paper) (L : List Box) (i : Nat) (err mark : Int) : Int := if afterB L i (mark - err, mark + err) = [] then 0 else (resB p (afterB L i (mark - err, mark + err))).2 - (resB p (afterB L i (mark - err, mark + err))).1
/-- The greatest width over the first k marks. -/
def leftB (p : Paper) (L : List Box) (i : Nat) (err : Int) : Nat → Int
  | 0 => 0
  | k + 1 => max (leftB p L i err k) (markB p L i err (-err + k))
theorem leftB_pos (p : Paper) (L : List Box) (i : Nat) (err : Int) : ∀ k, 0 ≤ leftB p L i err k
  | 0 => Int.le_refl _
  | k + 1 => by have := leftB_pos p L i err k; rw [leftB]; omega
def leftP (p : Paper) (i : Nat) (err : Int) : Int := leftB p (allM p p.wrong) i err ((p.items.getD i default).most + 2 * err + 1).toNat
def nextB (p : Paper) (err : Int) : Nat → Int × Int
  | 0 => (0, leftP p 0 err)
  | k + 1 => if leftP p k err < (nextB p err k).2 then ((k : Int), leftP p k err) else nextB p err k
theorem leftTo_ex (S : Surv) (i n0 : Nat) : ∀ k, ((leftTo S i n0 k).1 = 1073741824 ∨ ∃ m, m < k ∧ (leftTo S i n0 k).1 = (S.it i (n0 + m)).1) ∧ ((leftTo S i n0 k).2 = -1073741824 ∨ ∃ m, m < k ∧ (leftTo S i n0 k).2 = (S.it i (n0 + m)).2)
  | 0 => ⟨.inl rfl, .inl rfl⟩
  | k + 1 => by
    obtain ⟨h1, h2⟩ := leftTo_ex S i n0 k
    rw [leftTo]
    simp only [addS]
    constructor
    · by_cases hm : (leftTo S i n0 k).1 ≤ (S.it i (n0 + k)).1
      · rw [show min (leftTo S i n0 k).1 (S.it i (n0 + k)).1 = (leftTo S i n0 k).1 by omega]
        rcases h1 with h1 | ⟨m, hm, h1⟩
        · exact .inl h1
        · exact .inr ⟨m, by omega, h1⟩
      · exact .inr ⟨k, by omega, by omega⟩
    · by_cases hm : (S.it i (n0 + k)).2 ≤ (leftTo S i n0 k).2
      · rw [show max (leftTo S i n0 k).2 (S.it i (n0 + k)).2 = (leftTo S i n0 k).2 by omega]
        rcases h2 with h2 | ⟨m, hm, h2⟩
        · exact .inl h2
        · exact .inr ⟨m, by omega, h2⟩
      · exact .inr ⟨k, by omega, by omega⟩

section
variable {p : Paper} (hV : Valid p)
include hV
theorem in_left {i : Nat} (hi : i < p.items.length) (s : Int × Int) (t : List Int) : (∃ C ∈ afterB (allM p p.wrong) i s, inP t C.pts) ↔ isPossible p t = true ∧ s.1 ≤ t.getD i 0 ∧ t.getD i 0 ≤ s.2 := by
  rw [after_in (fun B hB => by rw [(all_shape hV hB).2]; exact hi), all_poss hV]
theorem left_ok {i : Nat} (hi : i < p.items.length) (s : Int × Int) : ∀ C ∈ afterB (allM p p.wrong) i s, neP C.pts ∧ C.pts.length = p.items.length ∧ ∀ t, inP t C.pts → isTruth p t = true := fun C hC => by
  have := after_ok (fun B hB => all_shape hV hB) hi C hC
  exact ⟨this.1, this.2, fun t ht => possible_truth ((in_left hV hi s t).1 ⟨C, hC, ht⟩).1⟩
theorem markB_eq {i : Nat} (hi : i < p.items.length) {err mark : Int} : markB p (allM p p.wrong) i err mark = markW (openM p) i err mark := by
  have hin := in_left hV hi (mark - err, mark + err)
  have hok := left_ok hV hi (mark - err, mark + err)
  obtain ⟨g1, g2⟩ := leftTo_ex (openM p) i (max 0 (mark - err)).toNat (min 30 (mark + err) + 1 - max 0 (mark - err)).toNat
  have gle := leftTo_le (S := openM p) (i := i) (max 0 (mark - err)).toNat (min 30 (mark + err) + 1 - max 0 (mark - err)).toNat
  unfold markB markW widthM
  generalize afterB (allM p p.wrong) i (mark - err, mark + err) = L at *
  generalize leftTo (openM p) i (max 0 (mark - err)).toNat (min 30 (mark + err) + 1 - max 0 (mark - err)).toNat = r at *
  have key : ∀ m, m < (min 30 (mark + err) + 1 - max 0 (mark - err)).toNat → ((openM p).it i ((max 0 (mark - err)).toNat + m) = noSpan ∨ ∃ t, (∃ C ∈ L, inP t C.pts) ∧ True) ∧
      (((openM p).it i ((max 0 (mark - err)).toNat + m)).1 = 1073741824 ∨ ∃ t, (∃ C ∈ L, inP t C.pts) ∧ resultOf p t = ((openM p).it i ((max 0 (mark - err)).toNat + m)).1) ∧ (((openM p).it i ((max 0 (mark - err)).toNat + m)).2 = -1073741824 ∨ ∃ t, (∃ C ∈ L, inP t C.pts) ∧ resultOf p t = ((openM p).it i ((max 0 (mark - err)).toNat + m)).2) := by
    intro m hm
    obtain ⟨a, b, c⟩ := open_it_ex (n := (max 0 (mark - err)).toNat + m) hV hi
    refine ⟨?_, ?_, ?_⟩
    · clear b c
      rcases a with a | ⟨t, ht, e⟩
      · exact .inl a
      · exact .inr ⟨t, (hin t).2 ⟨ht, by show mark - err ≤ _; omega, by show _ ≤ mark + err; omega⟩, trivial⟩
    · clear a c
      rcases b with b | ⟨t, ht, e, b⟩
      · exact .inl b
      · exact .inr ⟨t, (hin t).2 ⟨ht, by show mark - err ≤ _; omega, by show _ ≤ mark + err; omega⟩, b⟩
    · clear a b
      rcases c with c | ⟨t, ht, e, c⟩
      · exact .inl c
      · exact .inr ⟨t, (hin t).2 ⟨ht, by show mark - err ≤ _; omega, by show _ ≤ mark + err; omega⟩, c⟩
  by_cases hL : L = []
  · rw [if_pos hL]
    have hno : ∀ t, ¬ ∃ C ∈ L, inP t C.pts := by
      rintro t ⟨C, hC, _⟩
      rw [hL] at hC
      cases hC
    have k1 : r.1 = 1073741824 := by
      rcases g1 with h | ⟨m, hm, h⟩
      · exact h
      · rcases (key m hm).2.1 with k | ⟨t, k, _⟩
        · exact h.trans k
        · exact absurd k (hno t)
    have k2 : r.2 = -1073741824 := by
      rcases g2 with h | ⟨m, hm, h⟩
      · exact h
      · rcases (key m hm).2.2 with k | ⟨t, k, _⟩
        · exact h.trans k
        · exact absurd k (hno t)
    clear g1 g2
    omega
  · rw [if_neg hL]
    obtain ⟨h1, h2⟩ := res_hull hV L hok
    obtain ⟨⟨C1, m1, t1, i1, e1⟩, ⟨C2, m2, t2, i2, e2⟩⟩ := h2 hL
    have p1 := (hin t1).1 ⟨C1, m1, i1⟩
    have p2 := (hin t2).1 ⟨C2, m2, i2⟩
    simp only at p1 p2
    have b1 := result_bd hV (possible_truth p1.1)
    have b2 := result_bd hV (possible_truth p2.1)
    have o1 := open_it_in hV hi p1.1
    have o2 := open_it_in hV hi p2.1
    have tr1 := isTruth_iff.1 (possible_truth p1.1)
    have tr2 := isTruth_iff.1 (possible_truth p2.1)
    have r1 := tr1.2 i (by omega)
    have r2 := tr2.2 i (by omega)
    have r3 := hV.it i hi
    have l1 := gle ((t1.getD i 0).toNat - (max 0 (mark - err)).toNat) (by omega)
    have l2 := gle ((t2.getD i 0).toNat - (max 0 (mark - err)).toNat) (by omega)
    rw [show (max 0 (mark - err)).toNat + ((t1.getD i 0).toNat - (max 0 (mark - err)).toNat) = (t1.getD i 0).toNat by omega] at l1
    rw [show (max 0 (mark - err)).toNat + ((t2.getD i 0).toNat - (max 0 (mark - err)).toNat) = (t2.getD i 0).toNat by omega] at l2
    have k1 : (resB p L).1 ≤ r.1 := by
      rcases g1 with h | ⟨m, hm, h⟩
      · clear g2 key; omega
      · rcases (key m hm).2.1 with k | ⟨t, ⟨C, hC, ht⟩, k⟩
        · clear g2 key; omega
        · have := h1 C hC t ht
          clear g2 key; omega
    have k2 : r.2 ≤ (resB p L).2 := by
      rcases g2 with h | ⟨m, hm, h⟩
      · clear g1 key; omega
      · rcases (key m hm).2.2 with k | ⟨t, ⟨C, hC, ht⟩, k⟩
        · clear g1 key; omega
        · have := h1 C hC t ht
          clear g1 key; omega
    clear g1 g2 key
    omega
theorem leftB_eq {i : Nat} (hi : i < p.items.length) {err : Int} : ∀ k, leftB p (allM p p.wrong) i err k = mostTo (openM p) i err k
  | 0 => rfl
  | k + 1 => by rw [leftB, mostTo, leftB_eq hi k, markB_eq hV hi]
theorem left_far {i : Nat} (hi : i < p.items.length) {err : Int} (he : 0 ≤ err) : ∀ k m : Nat, ((p.items.getD i default).most + 2 * err + 1).toNat + m = k → leftB p (allM p p.wrong) i err k = leftP p i err
  | k, 0, h => by subst h; rfl
  | k, m + 1, h => by
    obtain ⟨j, rfl⟩ : ∃ j, k = j + 1 := ⟨k - 1, by omega⟩
    rw [leftB, left_far hi he j m (by omega)]
    have hz : markB p (allM p p.wrong) i err (-err + j) = 0 := by
      unfold markB
      rw [if_pos]
      rw [List.eq_nil_iff_forall_not_mem]
      intro C hC
      have hok := left_ok hV hi _ C hC
      have hc := (in_left hV hi _ _).1 ⟨C, hC, corner_lo hok.1⟩
      have tr := isTruth_iff.1 (possible_truth hc.1)
      have r1 := tr.2 i (by omega)
      have r2 := hV.it i hi
      have r3 : -err + (j : Int) - err ≤ _ := hc.2.1
      omega
    have : 0 ≤ leftP p i err := leftB_pos _ _ _ _ _
    rw [hz]
    omega
theorem left_most {i : Nat} (hi : i < p.items.length) {err : Int} (he : 0 ≤ err) : leftP p i err = mostM (openM p) i err := by
  have h3 := hV.it i hi
  rw [← left_far hV hi he (31 + 2 * err).toNat ((31 + 2 * err).toNat - ((p.items.getD i default).most + 2 * err + 1).toNat) (by omega), leftB_eq hV hi]
  rfl
theorem next_boxes {err : Int} (he : 0 ≤ err ∧ err ≤ 5) : ∀ k, 1 ≤ k → k ≤ p.items.length → nextB p err k = bestTo (openM p) err k := by
  intro k
  induction k with
  | zero => intro h; omega
  | succ k ih =>
    intro _ hk
    rw [nextB, bestTo, left_most hV (i := k) (by omega) he.1]
    by_cases h0 : k = 0
    · subst h0
      rw [nextB, left_most hV (i := 0) (by omega) he.1, bestTo]
      simp only
      rw [if_neg (by omega), if_pos (.inl (by decide))]
      rfl
    · obtain ⟨i, hi, hb, _⟩ := best_spec (small_open hV) he k (by omega) (by have := hV.il.2; omega)
      rw [ih (by omega) (by omega)]
      have := mostM_bd (small_open hV) (i := i) (by have := hV.il.2; omega) he
      rw [hb]
      simp only
      by_cases hlt : mostM (openM p) k err < mostM (openM p) i err
      · rw [if_pos hlt, if_pos (.inr hlt)]
      · rw [if_neg hlt, if_neg (by omega)]
end

/-- Sums that some points of a box give. -/
def putTo (l : List Bool) (n : Nat) (a w : Int) : Nat → List Bool
  | 0 => l
  | k + 1 => (putTo l n a w k).set (n + (a + k) * w).toNat true
def nextTo (S : List Bool) (a b w : Int) : Nat → List Bool
  | 0 => List.replicate S.length false
  | n + 1 => if S.getD n false then putTo (nextTo S a b w n) n a w (b + 1 - a).toNat else nextTo S a b w n
def sums0 : List Bool := (List.replicate 1201 false).set 0 true
def sumsK (p : Paper) (B : Box) : Nat → List Bool
  | 0 => sums0
  | i + 1 => nextTo (sumsK p B i) (B.pts.getD i (0, 0)).1 (B.pts.getD i (0, 0)).2 (p.items.getD i default).weight (sumsK p B i).length
def gradedB (p : Paper) (B : Box) (g : Int) : Bool := (List.range 1201).any (fun n => (sumsK p B p.items.length).getD n false && decide (gradeOf p n = g))
theorem putTo_len (l : List Bool) (n : Nat) (a w : Int) : ∀ k, (putTo l n a w k).length = l.length
  | 0 => rfl
  | k + 1 => by rw [putTo, List.length_set, putTo_len l n a w k]
theorem nextTo_len (S : List Bool) (a b w : Int) : ∀ n, (nextTo S a b w n).length = S.length
  | 0 => by simp [nextTo]
  | n + 1 => by
    rw [nextTo]
    split
    · rw [putTo_len, nextTo_len S a b w n]
    · exact nextTo_len S a b w n
theorem sumsK_len (p : Paper) (B : Box) : ∀ k, (sumsK p B k).length = 1201
  | 0 => by rw [sumsK, sums0, List.length_set, List.length_replicate]
  | k + 1 => by rw [sumsK, nextTo_len, sumsK_len p B k]
theorem setB_getD {l : List Bool} {i j : Nat} (hj : j < l.length) : (l.set i true).getD j false = true ↔ j = i ∨ l.getD j false = true := by
  by_cases e : j = i
  · subst e; simp [List.getD, hj]
  · simp only [List.getD, List.getElem?_set_ne (Ne.symm e), e, false_or]
theorem putTo_get {l : List Bool} {n : Nat} {a w : Int} {q : Nat} (hq : q < l.length) : ∀ k : Nat, (putTo l n a w k).getD q false = true ↔ l.getD q false = true ∨ ∃ j : Nat, j < k ∧ q = (n + (a + j) * w).toNat
  | 0 => by simp [putTo]
  | k + 1 => by
    rw [putTo, setB_getD (by rw [putTo_len]; exact hq), putTo_get hq k]
    constructor
    · rintro (h | h | ⟨j, hj, h⟩)
      · exact .inr ⟨k, by omega, h⟩
      · exact .inl h
      · exact .inr ⟨j, by omega, h⟩
    · rintro (h | ⟨j, hj, h⟩)
      · exact .inr (.inl h)
      · by_cases e : j = k
        · subst e; exact .inl h
        · exact .inr (.inr ⟨j, by omega, h⟩)
theorem nextTo_get {S : List Bool} {a b w : Int} {q : Nat} (hq : q < S.length) : ∀ n : Nat, (nextTo S a b w n).getD q false = true ↔ ∃ m : Nat, m < n ∧ S.getD m false = true ∧ ∃ j : Nat, j < (b + 1 - a).toNat ∧ q = (m + (a + j) * w).toNat
  | 0 => by simp [nextTo, List.getD, hq]
  | n + 1 => by
    rw [nextTo]
    have ih := nextTo_get (a := a) (b := b) (w := w) hq n
    cases hS : S.getD n false
    · simp only [Bool.false_eq_true, if_false]
      rw [ih]
      constructor
      · rintro ⟨m, hm, h⟩; exact ⟨m, by omega, h⟩
      · rintro ⟨m, hm, h1, h2⟩
        by_cases e : m = n
        · subst e; rw [hS] at h1; cases h1
        · exact ⟨m, by omega, h1, h2⟩
    · simp only [if_true]
      rw [putTo_get (by rw [nextTo_len]; exact hq), ih]
      constructor
      · rintro (⟨m, hm, h⟩ | h)
        · exact ⟨m, by omega, h⟩
        · exact ⟨n, by omega, hS, h⟩
      · rintro ⟨m, hm, h1, h2⟩
        by_cases e : m = n
        · subst e; exact .inr h2
        · exact .inl ⟨m, by omega, h1, h2⟩

section
variable {p : Paper} (hV : Valid p)
include hV
/-- Points of the first k items within a box. -/
theorem sumsK_get {B : Box} (hb : ∀ j, j < p.items.length → 0 ≤ (B.pts.getD j (0, 0)).1 ∧ (B.pts.getD j (0, 0)).2 ≤ 30) : ∀ k : Nat, k ≤ p.items.length → ∀ q : Nat, q < 1201 → ((sumsK p B k).getD q false = true ↔
    ∃ t : List Int, t.length = k ∧ (∀ j, j < k → (B.pts.getD j (0, 0)).1 ≤ t.getD j 0 ∧ t.getD j 0 ≤ (B.pts.getD j (0, 0)).2) ∧ resultTo p t k = q)
  | 0, _, q, hq => by
    rw [sumsK, sums0, setB_getD (by rw [List.length_replicate]; exact hq)]
    constructor
    · rintro (h | h)
      · exact ⟨[], rfl, fun j hj => by omega, by rw [h]; rfl⟩
      · rw [List.getD, List.getElem?_replicate, if_pos hq] at h
        cases h
    · rintro ⟨t, ht, _, h⟩
      left
      have : resultTo p t 0 = 0 := rfl
      omega
  | k + 1, hk, q, hq => by
    have ih := sumsK_get hb k (by omega)
    have hw := hV.it k (by omega)
    have hbk := hb k (by omega)
    rw [sumsK, nextTo_get (by rw [sumsK_len]; exact hq), sumsK_len]
    constructor
    · rintro ⟨m, hm, h1, j, hj, h2⟩
      obtain ⟨t, ht, h3, h4⟩ := (ih m hm).1 h1
      have hk0 : (t ++ [(B.pts.getD k (0, 0)).1 + j]).getD k 0 = (B.pts.getD k (0, 0)).1 + j := by
        simp only [List.getD, List.getElem?_append_right (show t.length ≤ k by omega), show k - t.length = 0 by omega]
        rfl
      have hj0 : ∀ i, i < k → (t ++ [(B.pts.getD k (0, 0)).1 + j]).getD i 0 = t.getD i 0 := fun i hi => by
        simp only [List.getD, List.getElem?_append_left (show i < t.length by omega)]
      have hnn : 0 ≤ ((B.pts.getD k (0, 0)).1 + j) * (p.items.getD k default).weight := Int.mul_nonneg (by omega) hw.1
      refine ⟨t ++ [(B.pts.getD k (0, 0)).1 + j], by simp [ht], fun i hi => ?_, ?_⟩
      · by_cases e : i = k
        · subst e; rw [hk0]; omega
        · rw [hj0 i (by omega)]; exact h3 i (by omega)
      · rw [resultTo, resultTo_congr p k hj0, hk0, h4]
        omega
    · rintro ⟨t, ht, h1, h2⟩
      rw [resultTo] at h2
      have hk1 := h1 k (by omega)
      have hnn : 0 ≤ t.getD k 0 * (p.items.getD k default).weight := Int.mul_nonneg (by omega) hw.1
      have hr0 := resultTo_le (p := p) (t := t) (fun i hi => ⟨(hV.it i (by omega)).1, (hV.it i (by omega)).2.1⟩) (fun i hi => by
        have a := h1 i (by omega); have b := hb i (by omega); omega) k (by omega)
      refine ⟨(resultTo p t k).toNat, by omega, (ih _ (by omega)).2 ⟨t.take k, by simp; omega, fun j hj => ?_, ?_⟩, (t.getD k 0 - (B.pts.getD k (0, 0)).1).toNat, by omega, ?_⟩
      · have : (t.take k).getD j 0 = t.getD j 0 := by simp [List.getD, hj]
        rw [this]; exact h1 j (by omega)
      · rw [resultTo_congr p k (u := t) (fun i hi => by simp [List.getD, hi])]
        omega
      · rw [show (B.pts.getD k (0, 0)).1 + ((t.getD k 0 - (B.pts.getD k (0, 0)).1).toNat : Int) = t.getD k 0 by omega]
        omega
theorem graded_iff {B : Box} (hl : B.pts.length = p.items.length) (hin : ∀ t, inP t B.pts → isTruth p t = true) (hne : neP B.pts) (g : Int) : gradedB p B g = true ↔ ∃ t, inP t B.pts ∧ gradeOf p (resultOf p t) = g := by
  have hb : ∀ j, j < p.items.length → 0 ≤ (B.pts.getD j (0, 0)).1 ∧ (B.pts.getD j (0, 0)).2 ≤ 30 := fun j hj => by
    have a := (isTruth_iff.1 (hin _ (corner_lo hne))).2 j (by simp; omega)
    have b := (isTruth_iff.1 (hin _ (corner_hi hne))).2 j (by simp; omega)
    have c := hV.it j hj
    have e1 : (B.pts.map Prod.fst).getD j 0 = (B.pts.getD j (0, 0)).1 := by simp [List.getD, show j < B.pts.length by omega]
    have e2 : (B.pts.map Prod.snd).getD j 0 = (B.pts.getD j (0, 0)).2 := by simp [List.getD, show j < B.pts.length by omega]
    rw [e1] at a
    rw [e2] at b
    omega
  have hS := sumsK_get hV hb p.items.length (Nat.le_refl _)
  unfold gradedB
  simp only [List.any_eq_true, List.mem_range, Bool.and_eq_true, decide_eq_true_eq]
  constructor
  · rintro ⟨q, hq, h1, h2⟩
    obtain ⟨t, h3, h4, h5⟩ := (hS q hq).1 h1
    refine ⟨t, ⟨by omega, fun i hi => h4 i (by omega)⟩, ?_⟩
    unfold resultOf
    rw [h3, h5]
    exact h2
  · rintro ⟨t, ht, h2⟩
    have hr := result_bd hV (hin t ht)
    have hlen : t.length = p.items.length := by have := ht.1; omega
    refine ⟨(resultOf p t).toNat, by omega, (hS _ (by omega)).2 ⟨t, hlen, fun j hj => ht.2 j (by omega), ?_⟩, ?_⟩
    · unfold resultOf at hr ⊢
      rw [hlen] at hr ⊢
      omega
    · rw [show ((resultOf p t).toNat : Int) = resultOf p t by omega]
      exact h2
end
def checkShowM (p : Paper) (g : Int) : Int := if validB p then (if wi g 0 p.grades.length then (if (allM p p.wrong).any (fun B => gradedB p B g) then 0 else 3) else 1) else 90
theorem show_check (p : Paper) (g : Int) : (showM p g).2 = checkShowM p g := by
  unfold showM checkShowM
  cases hv : validB p
  · simp [knownE, hv]
  · have hV := valid_of hv
    cases hw : wi g 0 p.grades.length
    · simp [knownE, hv]
    · cases hp : (openM p).poss
      · have h0 := (all_nil_poss hV).2 hp
        simp [knownE, hv, hp, h0]
      · simp only [knownE, hv, hp, if_true]
        obtain ⟨h1, h2⟩ := open_shown hV g
        cases hs : getS (openM p).shown g with
        | some v =>
          obtain ⟨t, ht, hg, _⟩ := h1 v hs
          obtain ⟨B, hB, hb⟩ := (all_poss hV t).2 ht
          obtain ⟨n1, l1, i1⟩ := all_ok hV hV.wr.1 B hB
          have : (allM p p.wrong).any (fun B => gradedB p B g) = true := List.any_eq_true.2 ⟨B, hB, (graded_iff hV l1 i1 n1 g).2 ⟨t, hb, by rw [← gradeP_gradeOf hV]; exact hg⟩⟩
          rw [if_pos this]
        | none =>
          have : (allM p p.wrong).any (fun B => gradedB p B g) = false := by
            rw [List.any_eq_false]
            intro B hB hq
            obtain ⟨n1, l1, i1⟩ := all_ok hV hV.wr.1 B hB
            obtain ⟨t, hb, hg⟩ := (graded_iff hV l1 i1 n1 g).1 hq
            refine h2 hs t ((all_poss hV t).1 ⟨B, hB, hb⟩) ?_
            rw [gradeP_gradeOf hV]
            exact hg
          rw [this]
          simp
end Go.Proofs.Ytbpilgflejdhaaa
