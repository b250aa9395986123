/- Exams: the plain law: the survey is that of all truths. No program in sight. -/
import Derived.Test.YtbpilgflejdhaaaExLaw2
namespace Go.Proofs.Ytbpilgflejdhaaa
open Go.RowKit

def showM (p : Paper) (g : Int) : List Int × Int :=
  if knownE p (wi g 0 p.grades.length) = 0 then (match getS (openM p).shown g with | some v => (v.take p.items.length, 0) | none => ([], 3)) else ([], knownE p (wi g 0 p.grades.length))

def padT (t : List Int) : List Int := t ++ List.replicate (4 - t.length) 0
theorem padT_len {t : List Int} (h : t.length ≤ 4) : (padT t).length = 4 := by simp [padT]; omega
theorem padT_get (t : List Int) (k : Nat) : (padT t).getD k 0 = t.getD k 0 := by
  unfold padT
  by_cases h : k < t.length
  · simp [List.getD, List.getElem?_append_left h]
  · simp only [List.getD, List.getElem?_append_right (show t.length ≤ k by omega), List.getElem?_eq_none (show t.length ≤ k by omega), List.getElem?_replicate]
    split <;> rfl
def leafOf (p : Paper) (t : List Int) : Leaf := (padT t, resultOf p t, p.judges.map (fun x => spanTo x t t.length))
def allL (p : Paper) : List Leaf := leaves p p.items.length [0, 0, 0, 0] 0 (bias0 p)
theorem resultTo_congr (p : Paper) {t u : List Int} : ∀ n, (∀ k, k < n → t.getD k 0 = u.getD k 0) → resultTo p t n = resultTo p u n := by
  intro n
  induction n with
  | zero => intro _; rfl
  | succ n ih => intro h; rw [resultTo, resultTo, ih (fun k hk => h k (by omega)), h n (by omega)]
theorem spanTo_congr (x : Judge) {t u : List Int} : ∀ n, (∀ k, k < n → t.getD k 0 = u.getD k 0) → spanTo x t n = spanTo x u n := by
  intro n
  induction n with
  | zero => intro _; rfl
  | succ n ih => intro h; rw [spanTo, spanTo, ih (fun k hk => h k (by omega)), h n (by omega)]
theorem resFrom_eq (p : Paper) (t : List Int) : ∀ m i, resultTo p t i + resFrom p t i m = resultTo p t (i + m) := by
  intro m
  induction m with
  | zero => intro i; simp [resFrom]
  | succ m ih =>
    intro i
    rw [resFrom, show i + (m + 1) = i + 1 + m by omega, ← ih (i + 1), resultTo]
    omega
theorem isTruth_iff {p : Paper} {t : List Int} : isTruth p t = true ↔ t.length = p.items.length ∧ ∀ k, k < t.length → 0 ≤ t.getD k 0 ∧ t.getD k 0 ≤ (p.items.getD k default).most := by
  unfold isTruth
  simp only [Bool.and_eq_true, decide_eq_true_eq, range_all]
  constructor
  · rintro ⟨h1, h2⟩; exact ⟨h1, fun k hk => wi_true (h2 k hk)⟩
  · rintro ⟨h1, h2⟩; exact ⟨h1, fun k hk => wi_of (h2 k hk)⟩
theorem getD_ext {a b : List Int} (hl : a.length = b.length) (h : ∀ k, k < a.length → a.getD k 0 = b.getD k 0) : a = b := eq_of_sameTo hl h

theorem mem_allL {p : Paper} (hV : Valid p) (x : Leaf) : x ∈ allL p ↔ ∃ t, isTruth p t = true ∧ x = leafOf p t := by
  have h4 := hV.il.2
  unfold allL
  rw [leaves_mem p h4 _ _ _ _ _ (Nat.le_refl _) rfl, Nat.sub_self]
  have hz : ∀ k, ([0, 0, 0, 0] : List Int).getD k 0 = 0 := fun k => by
    match k with
    | 0 => rfl
    | 1 => rfl
    | 2 => rfl
    | 3 => rfl
    | k + 4 => rfl
  have hb : ∀ u, bias0 p = p.judges.map (fun x => spanTo x u 0) := fun u => rfl
  constructor
  · rintro ⟨h1, h2, h3, h5, h6⟩
    have hlen : (x.1.take p.items.length).length = p.items.length := by simp; omega
    have hget : ∀ k, k < p.items.length → (x.1.take p.items.length).getD k 0 = x.1.getD k 0 := fun k hk => by
      simp [List.getD, hk]
    refine ⟨x.1.take p.items.length, isTruth_iff.2 ⟨hlen, fun k hk => ?_⟩, ?_⟩
    · rw [hlen] at hk
      rw [hget k hk]; exact h3 k (by omega) hk
    · obtain ⟨a, b, c⟩ := x
      simp only at h1 h2 h3 h5 h6 hlen hget ⊢
      unfold leafOf
      rw [hlen]
      refine Prod.ext ?_ (Prod.ext ?_ ?_)
      · simp only
        refine getD_ext (by rw [padT_len (by omega)]; exact h1) (fun k hk => ?_)
        rw [padT_get]
        by_cases hk2 : k < p.items.length
        · rw [hget k hk2]
        · rw [h2 k (by omega), hz]
          rw [List.getD, List.getElem?_eq_none (by omega)]; rfl
      · simp only
        rw [h5]
        have := resFrom_eq p a p.items.length 0
        simp only [resultTo, Nat.zero_add] at this
        rw [this]
        unfold resultOf
        rw [hlen]
        exact resultTo_congr p _ (fun k hk => (hget k hk).symm)
      · simp only
        rw [h6, hb a, cutFrom_map, Nat.zero_add]
        apply List.map_congr_left
        intro y _
        exact spanTo_congr y _ (fun k hk => (hget k hk).symm)
  · rintro ⟨t, ht, rfl⟩
    obtain ⟨hl, hr⟩ := isTruth_iff.1 ht
    unfold leafOf
    simp only
    refine ⟨padT_len (by omega), fun k hk => ?_, fun k _ hk => ?_, ?_, ?_⟩
    · rw [padT_get, hz, List.getD, List.getElem?_eq_none (by omega)]; rfl
    · rw [padT_get]; exact hr k (by omega)
    · have := resFrom_eq p (padT t) p.items.length 0
      simp only [resultTo, Nat.zero_add] at this
      rw [this]
      unfold resultOf
      rw [hl]
      exact (resultTo_congr p _ (fun k _ => padT_get t k)).symm
    · rw [hb (padT t), cutFrom_map, Nat.zero_add, hl]
      apply List.map_congr_left
      intro y _
      exact (spanTo_congr y _ (fun k _ => padT_get t k)).symm

theorem judge_mem {p : Paper} {x : Judge} (h : x ∈ p.judges) : ∃ k, k < p.judges.length ∧ p.judges.getD k default = x := by
  obtain ⟨k, hk, rfl⟩ := List.getElem_of_mem h
  exact ⟨k, hk, by simp [List.getD, hk]⟩
theorem okSpan_leaf {p : Paper} (hV : Valid p) {t : List Int} (ht : isTruth p t = true) {x : Judge} (hx : x ∈ p.judges) : okSpan (spanTo x t t.length) = isRight x t := by
  obtain ⟨k, hk, rfl⟩ := judge_mem hx
  exact okSpan_right (fun i hi => (hV.ma k hk i (by have := (isTruth_iff.1 ht).1; omega)).1)
theorem wrL_leaf {p : Paper} (hV : Valid p) {t : List Int} (ht : isTruth p t = true) : wrL (leafOf p t) = wrongs p t := by
  unfold wrL leafOf wrongN wrongs wrongsTo
  simp only [List.take_length, List.countP_map]
  congr 1
  apply List.countP_congr
  intro x hx
  simp only [Function.comp_apply, okSpan_leaf hV ht hx]
theorem posL_leaf {p : Paper} (hV : Valid p) {t : List Int} (ht : isTruth p t = true) : posL p (leafOf p t) = isPossible p t := by
  unfold posL isPossible
  rw [wrL_leaf hV ht, ht, Bool.true_and]
theorem possible_truth {p : Paper} {t : List Int} (h : isPossible p t = true) : isTruth p t = true := by
  unfold isPossible at h; simp at h; exact h.1
theorem openM_eq (p : Paper) : openM p = (allL p).foldl (endL p) (survO p) := visitM_eq _ _ _ _ _ _

section
variable {p : Paper} (hV : Valid p)
include hV
theorem open_fewest : (∀ t, isTruth p t = true → (openM p).fewest ≤ wrongs p t) ∧ (∃ t, isTruth p t = true ∧ (openM p).fewest = wrongs p t) := by
  obtain ⟨h1, h2, h3⟩ := fold_fewest p (allL p) (survO p)
  rw [← openM_eq] at h1 h2 h3
  have hA : ∀ t, isTruth p t = true → (openM p).fewest ≤ wrongs p t := fun t ht => by
    rw [← wrL_leaf hV ht]; exact h2 _ ((mem_allL hV _).2 ⟨t, ht, rfl⟩)
  refine ⟨hA, ?_⟩
  rcases h3 with h3 | ⟨x, hx, h3⟩
  · have hz : isTruth p (List.replicate p.items.length 0) = true := isTruth_iff.2 ⟨by simp, fun k hk => by
      have := (hV.it k (by simpa using hk)).2.2.1
      simp at hk
      simp [List.getD, hk]
      simpa [List.getD, hk] using this⟩
    have q1 := hA _ hz
    have q2 := wrongsTo_le p (List.replicate p.items.length 0) p.judges.length
    have q3 : (survO p).fewest = p.judges.length := rfl
    exact ⟨_, hz, by unfold wrongs at q1 ⊢; omega⟩
  · obtain ⟨t, ht, rfl⟩ := (mem_allL hV _).1 hx
    exact ⟨t, ht, by rw [h3, wrL_leaf hV ht]⟩
theorem open_poss : (openM p).poss = true ↔ ∃ t, isPossible p t = true := by
  rw [openM_eq, fold_poss]
  have h0 : ¬ (survO p).poss = true := by simp [survO, survZ]
  constructor
  · rintro (h | ⟨x, hx, h⟩)
    · exact absurd h h0
    · obtain ⟨t, ht, rfl⟩ := (mem_allL hV _).1 hx
      rw [posL_leaf hV ht] at h
      exact ⟨t, h⟩
  · rintro ⟨t, h⟩
    have ht := possible_truth h
    exact .inr ⟨_, (mem_allL hV _).2 ⟨t, ht, rfl⟩, by rw [posL_leaf hV ht]; exact h⟩
theorem open_res_in {t : List Int} (h : isPossible p t = true) : (openM p).res.1 ≤ resultOf p t ∧ resultOf p t ≤ (openM p).res.2 := by
  have ht := possible_truth h
  obtain ⟨⟨_, h2, _⟩, ⟨_, k2, _⟩⟩ := fold_span p (fun S => S.res) (posL p) (hg_res p) (allL p) (survO p)
  rw [← openM_eq] at h2 k2
  have hm := (mem_allL hV _).2 ⟨t, ht, rfl⟩
  have hp : posL p (leafOf p t) = true := by rw [posL_leaf hV ht]; exact h
  exact ⟨h2 _ hm hp, k2 _ hm hp⟩
theorem result_bd {t : List Int} (ht : isTruth p t = true) : 0 ≤ resultOf p t ∧ resultOf p t ≤ 1200 := by
  obtain ⟨hl, hr⟩ := isTruth_iff.1 ht
  have := resultTo_le (p := p) (t := t) (fun k hk => ⟨(hV.it k (by omega)).1, (hV.it k (by omega)).2.1⟩) (fun k hk => by
    have a := hr k hk; have b := hV.it k (by omega); omega) t.length (Nat.le_refl _)
  have h4 := hV.il.2
  unfold resultOf
  omega
theorem open_res_ex (h : (openM p).poss = true) : (∃ t, isPossible p t = true ∧ resultOf p t = (openM p).res.1) ∧ (∃ t, isPossible p t = true ∧ resultOf p t = (openM p).res.2) := by
  obtain ⟨u, hu⟩ := (open_poss hV).1 h
  have hb := result_bd hV (possible_truth hu)
  have hin := open_res_in hV hu
  obtain ⟨⟨_, _, h3⟩, ⟨_, _, k3⟩⟩ := fold_span p (fun S => S.res) (posL p) (hg_res p) (allL p) (survO p)
  rw [← openM_eq] at h3 k3
  have q1 : (survO p).res.1 = 1073741824 := rfl
  have q2 : (survO p).res.2 = -1073741824 := rfl
  constructor
  · rcases h3 with h3 | ⟨x, hx, hp, h3⟩
    · omega
    · obtain ⟨t, ht, rfl⟩ := (mem_allL hV _).1 hx
      rw [posL_leaf hV ht] at hp
      exact ⟨t, hp, h3.symm⟩
  · rcases k3 with k3 | ⟨x, hx, hp, k3⟩
    · omega
    · obtain ⟨t, ht, rfl⟩ := (mem_allL hV _).1 hx
      rw [posL_leaf hV ht] at hp
      exact ⟨t, hp, k3.symm⟩
theorem open_it_in {i : Nat} (hi : i < p.items.length) {t : List Int} (h : isPossible p t = true) : ((openM p).it i (t.getD i 0).toNat).1 ≤ resultOf p t ∧ resultOf p t ≤ ((openM p).it i (t.getD i 0).toNat).2 := by
  have ht := possible_truth h
  obtain ⟨⟨_, h2, _⟩, ⟨_, k2, _⟩⟩ := fold_span p (fun S => S.it i (t.getD i 0).toNat) _ (hg_it p i (t.getD i 0).toNat hi) (allL p) (survO p)
  rw [← openM_eq] at h2 k2
  have hm := (mem_allL hV _).2 ⟨t, ht, rfl⟩
  have hp : (posL p (leafOf p t) && decide ((t.getD i 0).toNat = ((leafOf p t).1.getD i 0).toNat)) = true := by
    rw [posL_leaf hV ht, h]
    simp only [Bool.true_and, decide_eq_true_eq, leafOf, padT_get]
  exact ⟨h2 _ hm hp, k2 _ hm hp⟩
theorem open_it_ex {i n : Nat} (hi : i < p.items.length) : ((openM p).it i n = noSpan ∨ ∃ t, isPossible p t = true ∧ t.getD i 0 = n) ∧
    (((openM p).it i n).1 = 1073741824 ∨ ∃ t, isPossible p t = true ∧ t.getD i 0 = n ∧ resultOf p t = ((openM p).it i n).1) ∧ (((openM p).it i n).2 = -1073741824 ∨ ∃ t, isPossible p t = true ∧ t.getD i 0 = n ∧ resultOf p t = ((openM p).it i n).2) := by
  obtain ⟨⟨_, _, h3⟩, ⟨_, _, k3⟩⟩ := fold_span p (fun S => S.it i n) _ (hg_it p i n hi) (allL p) (survO p)
  rw [← openM_eq] at h3 k3
  have key : ∀ x ∈ allL p, (posL p x && decide (n = (x.1.getD i 0).toNat)) = true → ∃ t, isPossible p t = true ∧ t.getD i 0 = n ∧ x.2.1 = resultOf p t := by
    intro x hx hp
    obtain ⟨t, ht, rfl⟩ := (mem_allL hV _).1 hx
    rw [posL_leaf hV ht] at hp
    simp only [Bool.and_eq_true, decide_eq_true_eq, leafOf, padT_get] at hp
    have := (isTruth_iff.1 ht).2 i (by have := (isTruth_iff.1 ht).1; omega)
    exact ⟨t, hp.1, by omega, rfl⟩
  have q1 : ((survO p).it i n).1 = 1073741824 := rfl
  have q2 : ((survO p).it i n).2 = -1073741824 := rfl
  refine ⟨?_, ?_, ?_⟩
  · rcases h3 with h3 | ⟨x, hx, hp, h3⟩
    · rcases k3 with k3 | ⟨x, hx, hp, k3⟩
      · left; exact Prod.ext (h3.trans q1) (k3.trans q2)
      · obtain ⟨t, a, b, _⟩ := key x hx hp; exact .inr ⟨t, a, b⟩
    · obtain ⟨t, a, b, _⟩ := key x hx hp; exact .inr ⟨t, a, b⟩
  · rcases h3 with h3 | ⟨x, hx, hp, h3⟩
    · exact .inl (h3.trans q1)
    · obtain ⟨t, a, b, c⟩ := key x hx hp; exact .inr ⟨t, a, b, by rw [← c]; exact h3.symm⟩
  · rcases k3 with k3 | ⟨x, hx, hp, k3⟩
    · exact .inl (k3.trans q2)
    · obtain ⟨t, a, b, c⟩ := key x hx hp; exact .inr ⟨t, a, b, by rw [← c]; exact k3.symm⟩
theorem open_right {j : Nat} (hj : j < p.judges.length) : (openM p).right.getD j false = true ↔ ∃ t, isPossible p t = true ∧ isRight (p.judges.getD j default) t = true := by
  have hx : p.judges.getD j default ∈ p.judges := by rw [List.getD, List.getElem?_eq_getElem hj]; exact List.getElem_mem hj
  have hgj : ∀ t, (leafOf p t).2.2.getD j (0, 0) = spanTo (p.judges.getD j default) t t.length := fun t => by
    simp [leafOf, List.getD, hj]
  rw [openM_eq, fold_right p j (allL p) (survO p) (by simp [survO, survZ, hj]) (fun x hx => by
    obtain ⟨t, ht, rfl⟩ := (mem_allL hV _).1 hx
    simpa [leafOf] using hj)]
  have h0 : ¬ (survO p).right.getD j false = true := by simp [survO, survZ, List.getD, hj]
  constructor
  · rintro (h | ⟨x, hx', hp, ho⟩)
    · exact absurd h h0
    · obtain ⟨t, ht, rfl⟩ := (mem_allL hV _).1 hx'
      rw [posL_leaf hV ht] at hp
      rw [hgj, okSpan_leaf hV ht hx] at ho
      exact ⟨t, hp, ho⟩
  · rintro ⟨t, hp, ho⟩
    have ht := possible_truth hp
    exact .inr ⟨_, (mem_allL hV _).2 ⟨t, ht, rfl⟩, by rw [posL_leaf hV ht]; exact hp, by rw [hgj, okSpan_leaf hV ht hx]; exact ho⟩
theorem open_shown (q : Int) : (∀ v, getS (openM p).shown q = some v → ∃ t, isPossible p t = true ∧ (gradeP p.grades (resultOf p t) : Int) = q ∧ v = padT t) ∧
    (getS (openM p).shown q = none → ∀ t, isPossible p t = true → (gradeP p.grades (resultOf p t) : Int) ≠ q) := by
  obtain ⟨h1, h2⟩ := fold_shown p q (allL p) (survO p)
  rw [← openM_eq] at h1 h2
  constructor
  · intro v hv
    rcases h1 v hv with h | ⟨x, hx, hp, hg, hxv⟩
    · cases h
    · obtain ⟨t, ht, rfl⟩ := (mem_allL hV _).1 hx
      rw [posL_leaf hV ht] at hp
      exact ⟨t, hp, hg, hxv.symm⟩
  · intro hn t hp
    have ht := possible_truth hp
    exact (h2 hn).2 _ ((mem_allL hV _).2 ⟨t, ht, rfl⟩) (by rw [posL_leaf hV ht]; exact hp)
theorem small_open : SmallS (openM p) := by
  intro i n hi hn
  by_cases hil : i < p.items.length
  · obtain ⟨_, h1, h2⟩ := open_it_ex (n := n) hV hil
    have b1 : -1073741824 ≤ ((openM p).it i n).1 ∧ ((openM p).it i n).1 ≤ 1073741824 := by
      rcases h1 with h1 | ⟨t, hp, _, h1⟩
      · omega
      · have := result_bd hV (possible_truth hp); omega
    have b2 : -1073741824 ≤ ((openM p).it i n).2 ∧ ((openM p).it i n).2 ≤ 1073741824 := by
      rcases h2 with h2 | ⟨t, hp, _, h2⟩
      · omega
      · have := result_bd hV (possible_truth hp); omega
    exact ⟨b1.1, b1.2, b2.1, b2.2⟩
  · have key : ∀ (l : List Leaf) (S : Surv), (l.foldl (endL p) S).it i n = S.it i n := by
      intro l
      induction l with
      | nil => intro S; rfl
      | cons a l ih =>
        intro S
        rw [List.foldl_cons, ih]
        cases h : posL p a
        · rw [(endL_no p S a h).2.1]
        · rw [(endL_yes p S a h).2.1, itTo_get, if_neg (by omega)]
    rw [openM_eq, key]
    simp [survO, survZ, noSpan]
end
end Go.Proofs.Ytbpilgflejdhaaa
