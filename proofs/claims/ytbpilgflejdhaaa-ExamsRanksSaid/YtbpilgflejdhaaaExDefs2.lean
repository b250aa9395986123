/- Exams: plain models of the small functions. -/
import Derived.Test.YtbpilgflejdhaaaExDefs
namespace Go.Proofs.Ytbpilgflejdhaaa
open Go.RowKit

def wi (n lo hi : Int) : Bool := decide (lo ≤ n) && decide (n ≤ hi)
theorem wi_true {n lo hi : Int} (h : wi n lo hi = true) : lo ≤ n ∧ n ≤ hi := by simpa [wi] using h
theorem wi_of {n lo hi : Int} (h : lo ≤ n ∧ n ≤ hi) : wi n lo hi = true := by simpa [wi] using h
theorem wi_false {n lo hi : Int} (h : wi n lo hi = false) : n < lo ∨ hi < n := by
  simp [wi] at h
  omega

/-- The first k numbers agree. -/
def sameTo (a b : List Int) (k : Nat) : Prop := ∀ j, j < k → a.getD j 0 = b.getD j 0
theorem sameTo_succ {a b : List Int} {k : Nat} (h : sameTo a b k) (e : a.getD k 0 = b.getD k 0) : sameTo a b (k + 1) := fun j hj => by
  by_cases hk : j = k
  · subst hk; exact e
  · exact h j (by omega)
theorem eq_of_sameTo {a b : List Int} (hl : a.length = b.length) (h : sameTo a b a.length) : a = b := by
  apply List.ext_getElem? 
  intro j
  by_cases hj : j < a.length
  · have := h j hj
    rw [List.getElem?_eq_getElem hj, List.getElem?_eq_getElem (by omega)]
    simp [List.getD, hj, show j < b.length by omega] at this
    rw [this]
  · rw [List.getElem?_eq_none (by omega), List.getElem?_eq_none (by omega)]

/-- all of the first k. -/
def allTo (P : Nat → Bool) (k : Nat) : Prop := ∀ j, j < k → P j = true
theorem allTo_zero (P : Nat → Bool) : allTo P 0 := fun j h => absurd h (by omega)
theorem allTo_succ {P : Nat → Bool} {k : Nat} (h : allTo P k) (e : P k = true) : allTo P (k + 1) := fun j hj => by
  by_cases hk : j = k
  · subst hk; exact e
  · exact h j (by omega)
theorem all_getD {α : Type} (l : List α) (d : α) (f : α → Bool) : l.all f = true ↔ allTo (fun j => f (l.getD j d)) l.length := by
  rw [List.all_eq_true]
  constructor
  · intro h j hj
    exact h _ (by rw [List.getD, List.getElem?_eq_getElem hj]; exact List.getElem_mem hj)
  · intro h x hx
    obtain ⟨j, hj, rfl⟩ := List.getElem_of_mem hx
    have := h j hj
    simpa [List.getD, hj] using this
theorem all_getD_false {α : Type} {l : List α} {d : α} {f : α → Bool} {k : Nat} (hk : k < l.length) (h : f (l.getD k d) = false) : l.all f = false := by
  cases h1 : l.all f
  · rfl
  · have h2 : f (l.getD k d) = true := (all_getD l d f).1 h1 k hk
    rw [h2] at h; cases h

def itemOk (i : Item) : Bool := wi i.weight 0 10 && wi i.most 0 30
def judgeOk1 (n : Nat) (x : Judge) : Bool := decide (-3 ≤ x.lo) && decide (x.lo ≤ x.hi) && decide (x.hi ≤ 3) && wi x.err 0 5 && decide (x.marks.length = n)
def markOk (m : Int) : Bool := wi m (-1) 50
def judgeOk (n : Nat) (x : Judge) : Bool := judgeOk1 n x && x.marks.all markOk
def gradeOk (l : List Int) (g : Nat) : Bool := wi (l.getD g 0) 0 1200 && (decide (g = 0) || decide (l.getD (g - 1) 0 < l.getD g 0))
def gradesOk (l : List Int) : Bool := (List.range l.length).all (gradeOk l)
def headOk (p : Paper) : Bool := wi p.items.length 1 4 && decide (p.judges.length ≤ 4) && wi p.wrong 0 2 && decide (p.grades.length ≤ 5)
def validB (p : Paper) : Bool := headOk p && p.items.all itemOk && p.judges.all (judgeOk p.items.length) && gradesOk p.grades
def checkE (p : Paper) : Int := if validB p then 0 else 90

theorem gradesOk_iff (l : List Int) : gradesOk l = true ↔ allTo (gradeOk l) l.length := by
  unfold gradesOk allTo
  simp [List.all_eq_true, List.mem_range]
theorem checkE_head {p : Paper} (h : headOk p = false) : checkE p = 90 := by simp [checkE, validB, h]
theorem checkE_item {p : Paper} {k : Nat} (hk : k < p.items.length) (h : itemOk (p.items.getD k default) = false) : checkE p = 90 := by
  simp [checkE, validB, all_getD_false hk h]
theorem checkE_judge {p : Paper} {k : Nat} (hk : k < p.judges.length) (h : judgeOk p.items.length (p.judges.getD k default) = false) : checkE p = 90 := by
  simp [checkE, validB, all_getD_false hk h]
theorem checkE_grade {p : Paper} {k : Nat} (hk : k < p.grades.length) (h : gradeOk p.grades k = false) : checkE p = 90 := by
  have : gradesOk p.grades = false := by
    cases h1 : gradesOk p.grades
    · rfl
    · rw [(gradesOk_iff _).1 h1 k hk] at h; cases h
  simp [checkE, validB, this]
theorem checkE_ok {p : Paper} (h1 : headOk p = true) (h2 : allTo (fun j => itemOk (p.items.getD j default)) p.items.length)
    (h3 : allTo (fun j => judgeOk p.items.length (p.judges.getD j default)) p.judges.length) (h4 : allTo (gradeOk p.grades) p.grades.length) : checkE p = 0 := by
  simp [checkE, validB, h1, (all_getD _ _ _).2 h2, (all_getD _ _ _).2 h3, (gradesOk_iff _).2 h4]

/-- A judge's one mark agrees with points at a bias. -/
def agree1 (x : Judge) (t : List Int) (b : Int) (i : Nat) : Bool :=
  decide (x.marks.getD i 0 = -1) || wi (x.marks.getD i 0 - t.getD i 0 - b) (-x.err) x.err
def agree (x : Judge) (t : List Int) (b : Int) : Bool := (List.range t.length).all (agree1 x t b)
def biases (x : Judge) : List Int := (List.range (x.hi + 1 - x.lo).toNat).map (fun n : Nat => x.lo + n)
def isRight (x : Judge) (t : List Int) : Bool := (biases x).any (agree x t)
def wrongsTo (p : Paper) (t : List Int) (k : Nat) : Nat := (p.judges.take k).countP (fun x => !isRight x t)
def wrongs (p : Paper) (t : List Int) : Nat := wrongsTo p t p.judges.length
def isTruth (p : Paper) (t : List Int) : Bool := decide (t.length = p.items.length) && (List.range t.length).all (fun i => wi (t.getD i 0) 0 (p.items.getD i default).most)
def isPossible (p : Paper) (t : List Int) : Bool := isTruth p t && decide ((wrongs p t : Int) ≤ p.wrong)
def resultTo (p : Paper) (t : List Int) : Nat → Int
  | 0 => 0
  | k + 1 => resultTo p t k + t.getD k 0 * (p.items.getD k default).weight
def resultOf (p : Paper) (t : List Int) : Int := resultTo p t t.length

theorem wrongsTo_succ (p : Paper) (t : List Int) (k : Nat) (h : k < p.judges.length) : wrongsTo p t (k + 1) = wrongsTo p t k + if isRight (p.judges.getD k default) t = true then 0 else 1 := by
  unfold wrongsTo
  rw [List.take_succ_eq_append_getElem h, List.countP_append]
  simp [List.countP_cons, h]
  split <;> simp_all
theorem wrongsTo_le (p : Paper) (t : List Int) (k : Nat) : wrongsTo p t k ≤ k := by
  unfold wrongsTo
  have := List.countP_le_length (p := fun x => !isRight x t) (l := p.judges.take k)
  have := List.length_take_le k p.judges
  omega
theorem range_all {n : Nat} {f : Nat → Bool} : (List.range n).all f = true ↔ allTo f n := by
  simp [List.all_eq_true, List.mem_range, allTo]
theorem range_all_false {n k : Nat} {f : Nat → Bool} (hk : k < n) (h : f k = false) : (List.range n).all f = false := by
  cases h1 : (List.range n).all f
  · rfl
  · rw [range_all.1 h1 k hk] at h; cases h
theorem allTo_snoc {f : Nat → Bool} {k : Nat} : (List.range (k + 1)).all f = ((List.range k).all f && f k) := by
  rw [List.range_succ, List.all_append]; simp

structure Valid (p : Paper) : Prop where
  il : 1 ≤ p.items.length ∧ p.items.length ≤ 4
  jl : p.judges.length ≤ 4
  wr : 0 ≤ p.wrong ∧ p.wrong ≤ 2
  gl : p.grades.length ≤ 5
  it : ∀ k, k < p.items.length → 0 ≤ (p.items.getD k default).weight ∧ (p.items.getD k default).weight ≤ 10 ∧ 0 ≤ (p.items.getD k default).most ∧ (p.items.getD k default).most ≤ 30
  ju : ∀ k, k < p.judges.length → -3 ≤ (p.judges.getD k default).lo ∧ (p.judges.getD k default).lo ≤ (p.judges.getD k default).hi ∧ (p.judges.getD k default).hi ≤ 3 ∧ 0 ≤ (p.judges.getD k default).err ∧ (p.judges.getD k default).err ≤ 5 ∧ (p.judges.getD k default).marks.length = p.items.length
  ma : ∀ k, k < p.judges.length → ∀ i, i < p.items.length → -1 ≤ (p.judges.getD k default).marks.getD i 0 ∧ (p.judges.getD k default).marks.getD i 0 ≤ 50
  gr : ∀ g, g < p.grades.length → 0 ≤ p.grades.getD g 0 ∧ p.grades.getD g 0 ≤ 1200 ∧ (g = 0 ∨ p.grades.getD (g - 1) 0 < p.grades.getD g 0)

theorem valid_of {p : Paper} (h : validB p = true) : Valid p := by
  simp only [validB, headOk, Bool.and_eq_true, decide_eq_true_eq] at h
  obtain ⟨⟨⟨⟨⟨⟨h1, h2⟩, h3⟩, h4⟩, h5⟩, h6⟩, h7⟩ := h
  have h5 := (all_getD _ default _).1 h5
  have h6 := (all_getD _ default _).1 h6
  have h7 := (gradesOk_iff _).1 h7
  have h1 := wi_true h1
  have h3 := wi_true h3
  have key : ∀ k, k < p.judges.length → (-3 ≤ (p.judges.getD k default).lo ∧ (p.judges.getD k default).lo ≤ (p.judges.getD k default).hi ∧ (p.judges.getD k default).hi ≤ 3 ∧ 0 ≤ (p.judges.getD k default).err ∧ (p.judges.getD k default).err ≤ 5 ∧ (p.judges.getD k default).marks.length = p.items.length) ∧ allTo (fun j => markOk ((p.judges.getD k default).marks.getD j 0)) (p.judges.getD k default).marks.length := by
    intro k hk
    have := h6 k hk
    simp only [judgeOk, judgeOk1, Bool.and_eq_true, decide_eq_true_eq] at this
    obtain ⟨⟨⟨⟨⟨a, b⟩, c⟩, d⟩, e⟩, f⟩ := this
    exact ⟨⟨a, b, c, (wi_true d).1, (wi_true d).2, e⟩, (all_getD _ 0 _).1 f⟩
  refine ⟨⟨by omega, by omega⟩, h2, ⟨h3.1, h3.2⟩, h4, fun k hk => ?_, fun k hk => (key k hk).1, fun k hk i hi => ?_, fun g hg => ?_⟩
  · have := h5 k hk
    simp only [itemOk, Bool.and_eq_true] at this
    have a := wi_true this.1
    have b := wi_true this.2
    exact ⟨a.1, a.2, b.1, b.2⟩
  · exact wi_true ((key k hk).2 i (by have := (key k hk).1.2.2.2.2.2; omega))
  · have := h7 g hg
    simp only [gradeOk, Bool.and_eq_true, Bool.or_eq_true, decide_eq_true_eq] at this
    exact ⟨(wi_true this.1).1, (wi_true this.1).2, this.2⟩
theorem headOk_false {p : Paper} (h : headOk p = false) : wi p.items.length 1 4 = false ∨ (wi p.items.length 1 4 = true ∧ 4 < p.judges.length) ∨ (wi p.items.length 1 4 = true ∧ p.judges.length ≤ 4 ∧ wi p.wrong 0 2 = false) ∨
    (wi p.items.length 1 4 = true ∧ p.judges.length ≤ 4 ∧ wi p.wrong 0 2 = true ∧ 5 < p.grades.length) := by
  unfold headOk at h
  cases h1 : wi p.items.length 1 4 <;> cases h2 : wi p.wrong 0 2 <;> simp [h1, h2] at h ⊢ <;> omega
theorem headOk_true {p : Paper} (h : headOk p = true) : wi p.items.length 1 4 = true ∧ p.judges.length ≤ 4 ∧ wi p.wrong 0 2 = true ∧ p.grades.length ≤ 5 := by
  unfold headOk at h
  cases h1 : wi p.items.length 1 4 <;> cases h2 : wi p.wrong 0 2 <;> simp [h1, h2] at h ⊢ <;> omega

theorem judgeOk1_eq (n : Nat) (lo hi err : Int) (ma : List Int) : judgeOk1 n ⟨lo, hi, err, ma⟩ = (decide (-3 ≤ lo) && decide (lo ≤ hi) && decide (hi ≤ 3) && wi err 0 5 && decide (ma.length = n)) := rfl

/-- The first part of a judge's look: what is false first. -/
theorem judgeOk1_false {n : Nat} {lo hi err : Int} {ma : List Int} (h : judgeOk1 n ⟨lo, hi, err, ma⟩ = false) :
    lo < -3 ∨ (-3 ≤ lo ∧ hi < lo) ∨ (-3 ≤ lo ∧ lo ≤ hi ∧ 3 < hi) ∨ (-3 ≤ lo ∧ lo ≤ hi ∧ hi ≤ 3 ∧ wi err 0 5 = false) ∨ (-3 ≤ lo ∧ lo ≤ hi ∧ hi ≤ 3 ∧ wi err 0 5 = true ∧ ((ma.length : Int) != n) = true ∧ ((ma.length : Int) == n) = false) := by
  rw [judgeOk1_eq] at h
  cases h1 : wi err 0 5 <;> simp [h1] at h ⊢ <;> omega
theorem judgeOk1_true {n : Nat} {lo hi err : Int} {ma : List Int} (h : judgeOk1 n ⟨lo, hi, err, ma⟩ = true) :
    -3 ≤ lo ∧ lo ≤ hi ∧ hi ≤ 3 ∧ wi err 0 5 = true ∧ ((ma.length : Int) != n) = false ∧ ((ma.length : Int) == n) = true := by
  rw [judgeOk1_eq] at h
  cases h1 : wi err 0 5 <;> simp [h1] at h ⊢ <;> omega

end Go.Proofs.Ytbpilgflejdhaaa
