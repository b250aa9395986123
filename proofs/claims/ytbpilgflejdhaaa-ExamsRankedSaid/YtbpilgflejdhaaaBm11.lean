/- Exams: the plain law: the survey is that of all truths / Exams: the walk over works. / Exams: what ready and known say of a paper. / Exams: the plain law of more judges and of greater errors / Exams: the plain model of Ranks. -/
import Derived.Test.YtbpilgflejdhaaaBm10
import Derived.Test.YtbpilgflejdhaaaBm9
import Derived.Deep.RegionHeld3

namespace Go.Proofs.Ytbpilgflejdhaaa
open Go.RowKit

def showM (p : Paper) (g : Int) : List Int × Int :=
  if knownE p (wi g 0 p.grades.length) = 0 then (match getS (openM p).shown g with | some v => (v.take p.items.length, 0) | none => ([], 3)) else ([], knownE p (wi g 0 p.grades.length))

def padT (t : List Int) : List Int := t ++ List.replicate (4 - t.length) 0
theorem padT_len {t : List Int} (h : t.length ≤ 4) : (padT t).length = 4 := by simp [padT]; omega
theorem padT_get (t : List Int) (k : Nat) : (padT t).getD k 0 = t.getD k 0 := by
  unfold padT
  by_cases h : k < t.length
  · simp [List.getD, List.getElem?_append_left h]
  · simp only [List.getD, List.getElem?_append_right (show t.length ≤ k by omega), List.getElem?_eq_none (show t.length ≤ k by omega), List.getElem?_replicate]
    split <;> rfl
def leafOf (p : Paper) (t : List Int) : Leaf := (padT t, resultOf p t, p.judges.map (fun x => spanTo x t t.length))
def allL (p : Paper) : List Leaf := leaves p p.items.length [0, 0, 0, 0] 0 (bias0 p)
theorem resultTo_congr (p : Paper) {t u : List Int} : ∀ n, (∀ k, k < n → t.getD k 0 = u.getD k 0) → resultTo p t n = resultTo p u n := by
  intro n
  induction n with
  | zero => intro _; rfl
  | succ n ih => intro h; rw [resultTo, resultTo, ih (fun k hk => h k (by omega)), h n (by omega)]
theorem spanTo_congr (x : Judge) {t u : List Int} : ∀ n, (∀ k, k < n → t.getD k 0 = u.getD k 0) → spanTo x t n = spanTo x u n := by
  intro n
  induction n with
  | zero => intro _; rfl
  | succ n ih => intro h; rw [spanTo, spanTo, ih (fun k hk => h k (by omega)), h n (by omega)]
theorem resFrom_eq (p : Paper) (t : List Int) : ∀ m i, resultTo p t i + resFrom p t i m = resultTo p t (i + m) := by
  intro m
  induction m with
  | zero => intro i; simp [resFrom]
  | succ m ih =>
    intro i
    rw [resFrom, show i + (m + 1) = i + 1 + m by omega, ← ih (i + 1), resultTo]
    omega
theorem isTruth_iff {p : Paper} {t : List Int} : isTruth p t = true ↔ t.length = p.items.length ∧ ∀ k, k < t.length → 0 ≤ t.getD k 0 ∧ t.getD k 0 ≤ (p.items.getD k default).most := by
  unfold isTruth
  simp only [Bool.and_eq_true, decide_eq_true_eq, range_all]
  constructor
  · rintro ⟨h1, h2⟩; exact ⟨h1, fun k hk => wi_true (h2 k hk)⟩
  · rintro ⟨h1, h2⟩; exact ⟨h1, fun k hk => wi_of (h2 k hk)⟩
theorem getD_ext {a b : List Int} (hl : a.length = b.length) (h : ∀ k, k < a.length → a.getD k 0 = b.getD k 0) : a = b := eq_of_sameTo hl h

theorem mem_allL {p : Paper} (hV : Valid p) (x : Leaf) : x ∈ allL p ↔ ∃ t, isTruth p t = true ∧ x = leafOf p t := by
  have h4 := hV.il.2
  unfold allL
  rw [leaves_mem p h4 _ _ _ _ _ (Nat.le_refl _) rfl, Nat.sub_self]
  have hz : ∀ k, ([0, 0, 0, 0] : List Int).getD k 0 = 0 := fun k => by
    match k with
    | 0 => rfl
    | 1 => rfl
    | 2 => rfl
    | 3 => rfl
    | k + 4 => rfl
  have hb : ∀ u, bias0 p = p.judges.map (fun x => spanTo x u 0) := fun u => rfl
  constructor
  · rintro ⟨h1, h2, h3, h5, h6⟩
    have hlen : (x.1.take p.items.length).length = p.items.length := by simp; omega
    have hget : ∀ k, k < p.items.length → (x.1.take p.items.length).getD k 0 = x.1.getD k 0 := fun k hk => by
      simp [List.getD, hk]
    refine ⟨x.1.take p.items.length, isTruth_iff.2 ⟨hlen, fun k hk => ?_⟩, ?_⟩
    · rw [hlen] at hk
      rw [hget k hk]; exact h3 k (by omega) hk
    · obtain ⟨a, b, c⟩ := x
      simp only at h1 h2 h3 h5 h6 hlen hget ⊢
      unfold leafOf
      rw [hlen]
      refine Prod.ext ?_ (Prod.ext ?_ ?_)
      · simp only
        refine getD_ext (by rw [padT_len (by omega)]; exact h1) (fun k hk => ?_)
        rw [padT_get]
        by_cases hk2 : k < p.items.length
        · rw [hget k hk2]
        · rw [h2 k (by omega), hz]
          rw [List.getD, List.getElem?_eq_none (by omega)]; rfl
      · simp only
        rw [h5]
        have := resFrom_eq p a p.items.length 0
        simp only [resultTo, Nat.zero_add] at this
        rw [this]
        unfold resultOf
        rw [hlen]
        exact resultTo_congr p _ (fun k hk => (hget k hk).symm)
      · simp only
        rw [h6, hb a, cutFrom_map, Nat.zero_add]
        apply List.map_congr_left
        intro y _
        exact spanTo_congr y _ (fun k hk => (hget k hk).symm)
  · rintro ⟨t, ht, rfl⟩
    obtain ⟨hl, hr⟩ := isTruth_iff.1 ht
    unfold leafOf
    simp only
    refine ⟨padT_len (by omega), fun k hk => ?_, fun k _ hk => ?_, ?_, ?_⟩
    · rw [padT_get, hz, List.getD, List.getElem?_eq_none (by omega)]; rfl
    · rw [padT_get]; exact hr k (by omega)
    · have := resFrom_eq p (padT t) p.items.length 0
      simp only [resultTo, Nat.zero_add] at this
      rw [this]
      unfold resultOf
      rw [hl]
      exact (resultTo_congr p _ (fun k _ => padT_get t k)).symm
    · rw [hb (padT t), cutFrom_map, Nat.zero_add, hl]
      apply List.map_congr_left
      intro y _
      exact (spanTo_congr y _ (fun k _ => padT_get t k)).symm

theorem judge_mem {p : Paper} {x : Judge} (h : x ∈ p.judges) : ∃ k, k < p.judges.length ∧ p.judges.getD k default = x := by
  obtain ⟨k, hk, rfl⟩ := List.getElem_of_mem h
  exact ⟨k, hk, by simp [List.getD, hk]⟩
theorem okSpan_leaf {p : Paper} (hV : Valid p) {t : List Int} (ht : isTruth p t = true) {x : Judge} (hx : x ∈ p.judges) : okSpan (spanTo x t t.length) = isRight x t := by
  obtain ⟨k, hk, rfl⟩ := judge_mem hx
  exact okSpan_right (fun i hi => (hV.ma k hk i (by have := (isTruth_iff.1 ht).1; omega)).1)
theorem wrL_leaf {p : Paper} (hV : Valid p) {t : List Int} (ht : isTruth p t = true) : wrL (leafOf p t) = wrongs p t := by
  unfold wrL leafOf wrongN wrongs wrongsTo
  simp only [List.take_length, List.countP_map]
  congr 1
  apply List.countP_congr
  intro x hx
  simp only [Function.comp_apply, okSpan_leaf hV ht hx]
theorem posL_leaf {p : Paper} (hV : Valid p) {t : List Int} (ht : isTruth p t = true) : posL p (leafOf p t) = isPossible p t := by
  unfold posL isPossible
  rw [wrL_leaf hV ht, ht, Bool.true_and]
theorem possible_truth {p : Paper} {t : List Int} (h : isPossible p t = true) : isTruth p t = true := by
  unfold isPossible at h; simp at h; exact h.1
theorem openM_eq (p : Paper) : openM p = (allL p).foldl (endL p) (survO p) := visitM_eq _ _ _ _ _ _

section
variable {p : Paper} (hV : Valid p)
include hV
theorem open_fewest : (∀ t, isTruth p t = true → (openM p).fewest ≤ wrongs p t) ∧ (∃ t, isTruth p t = true ∧ (openM p).fewest = wrongs p t) := by
  obtain ⟨h1, h2, h3⟩ := fold_fewest p (allL p) (survO p)
  rw [← openM_eq] at h1 h2 h3
  have hA : ∀ t, isTruth p t = true → (openM p).fewest ≤ wrongs p t := fun t ht => by
    rw [← wrL_leaf hV ht]; exact h2 _ ((mem_allL hV _).2 ⟨t, ht, rfl⟩)
  refine ⟨hA, ?_⟩
  rcases h3 with h3 | ⟨x, hx, h3⟩
  · have hz : isTruth p (List.replicate p.items.length 0) = true := isTruth_iff.2 ⟨by simp, fun k hk => by
      have := (hV.it k (by simpa using hk)).2.2.1
      simp at hk
      simp [List.getD, hk]
      simpa [List.getD, hk] using this⟩
    have q1 := hA _ hz
    have q2 := wrongsTo_le p (List.replicate p.items.length 0) p.judges.length
    have q3 : (survO p).fewest = p.judges.length := rfl
    exact ⟨_, hz, by unfold wrongs at q1 ⊢; omega⟩
  · obtain ⟨t, ht, rfl⟩ := (mem_allL hV _).1 hx
    exact ⟨t, ht, by rw [h3, wrL_leaf hV ht]⟩
theorem open_poss : (openM p).poss = true ↔ ∃ t, isPossible p t = true := by
  rw [openM_eq, fold_poss]
  have h0 : ¬ (survO p).poss = true := by simp [survO, survZ]
  constructor
  · rintro (h | ⟨x, hx, h⟩)
    · exact absurd h h0
    · obtain ⟨t, ht, rfl⟩ := (mem_allL hV _).1 hx
      rw [posL_leaf hV ht] at h
      exact ⟨t, h⟩
  · rintro ⟨t, h⟩
    have ht := possible_truth h
    exact .inr ⟨_, (mem_allL hV _).2 ⟨t, ht, rfl⟩, by rw [posL_leaf hV ht]; exact h⟩
theorem open_res_in {t : List Int} (h : isPossible p t = true) : (openM p).res.1 ≤ resultOf p t ∧ resultOf p t ≤ (openM p).res.2 := by
  have ht := possible_truth h
  obtain ⟨⟨_, h2, _⟩, ⟨_, k2, _⟩⟩ := fold_span p (fun S => S.res) (posL p) (hg_res p) (allL p) (survO p)
  rw [← openM_eq] at h2 k2
  have hm := (mem_allL hV _).2 ⟨t, ht, rfl⟩
  have hp : posL p (leafOf p t) = true := by rw [posL_leaf hV ht]; exact h
  exact ⟨h2 _ hm hp, k2 _ hm hp⟩
theorem result_bd {t : List Int} (ht : isTruth p t = true) : 0 ≤ resultOf p t ∧ resultOf p t ≤ 1200 := by
  obtain ⟨hl, hr⟩ := isTruth_iff.1 ht
  have := resultTo_le (p := p) (t := t) (fun k hk => ⟨(hV.it k (by omega)).1, (hV.it k (by omega)).2.1⟩) (fun k hk => by
    have a := hr k hk; have b := hV.it k (by omega); omega) t.length (Nat.le_refl _)
  have h4 := hV.il.2
  unfold resultOf
  omega
theorem open_res_ex (h : (openM p).poss = true) : (∃ t, isPossible p t = true ∧ resultOf p t = (openM p).res.1) ∧ (∃ t, isPossible p t = true ∧ resultOf p t = (openM p).res.2) := by
  obtain ⟨u, hu⟩ := (open_poss hV).1 h
  have hb := result_bd hV (possible_truth hu)
  have hin := open_res_in hV hu
  obtain ⟨⟨_, _, h3⟩, ⟨_, _, k3⟩⟩ := fold_span p (fun S => S.res) (posL p) (hg_res p) (allL p) (survO p)
  rw [← openM_eq] at h3 k3
  have q1 : (survO p).res.1 = 1073741824 := rfl
  have q2 : (survO p).res.2 = -1073741824 := rfl
  constructor
  · rcases h3 with h3 | ⟨x, hx, hp, h3⟩
    · omega
    · obtain ⟨t, ht, rfl⟩ := (mem_allL hV _).1 hx
      rw [posL_leaf hV ht] at hp
      exact ⟨t, hp, h3.symm⟩
  · rcases k3 with k3 | ⟨x, hx, hp, k3⟩
    · omega
    · obtain ⟨t, ht, rfl⟩ := (mem_allL hV _).1 hx
      rw [posL_leaf hV ht] at hp
      exact ⟨t, hp, k3.symm⟩
theorem open_it_in {i : Nat} (hi : i < p.items.length) {t : List Int} (h : isPossible p t = true) : ((openM p).it i (t.getD i 0).toNat).1 ≤ resultOf p t ∧ resultOf p t ≤ ((openM p).it i (t.getD i 0).toNat).2 := by
  have ht := possible_truth h
  obtain ⟨⟨_, h2, _⟩, ⟨_, k2, _⟩⟩ := fold_span p (fun S => S.it i (t.getD i 0).toNat) _ (hg_it p i (t.getD i 0).toNat hi) (allL p) (survO p)
  rw [← openM_eq] at h2 k2
  have hm := (mem_allL hV _).2 ⟨t, ht, rfl⟩
  have hp : (posL p (leafOf p t) && decide ((t.getD i 0).toNat = ((leafOf p t).1.getD i 0).toNat)) = true := by
    rw [posL_leaf hV ht, h]
    simp only [Bool.true_and, decide_eq_true_eq, leafOf, padT_get]
  exact ⟨h2 _ hm hp, k2 _ hm hp⟩
theorem open_it_ex {i n : Nat} (hi : i < p.items.length) : ((openM p).it i n = noSpan ∨ ∃ t, isPossible p t = true ∧ t.getD i 0 = n) ∧
    (((openM p).it i n).1 = 1073741824 ∨ ∃ t, isPossible p t = true ∧ t.getD i 0 = n ∧ resultOf p t = ((openM p).it i n).1) ∧ (((openM p).it i n).2 = -1073741824 ∨ ∃ t, isPossible p t = true ∧ t.getD i 0 = n ∧ resultOf p t = ((openM p).it i n).2) := by
  obtain ⟨⟨_, _, h3⟩, ⟨_, _, k3⟩⟩ := fold_span p (fun S => S.it i n) _ (hg_it p i n hi) (allL p) (survO p)
  rw [← openM_eq] at h3 k3
  have key : ∀ x ∈ allL p, (posL p x && decide (n = (x.1.getD i 0).toNat)) = true → ∃ t, isPossible p t = true ∧ t.getD i 0 = n ∧ x.2.1 = resultOf p t := by
    intro x hx hp
    obtain ⟨t, ht, rfl⟩ := (mem_allL hV _).1 hx
    rw [posL_leaf hV ht] at hp
    simp only [Bool.and_eq_true, decide_eq_true_eq, leafOf, padT_get] at hp
    have := (isTruth_iff.1 ht).2 i (by have := (isTruth_iff.1 ht).1; omega)
    exact ⟨t, hp.1, by omega, rfl⟩
  have q1 : ((survO p).it i n).1 = 1073741824 := rfl
  have q2 : ((survO p).it i n).2 = -1073741824 := rfl
  refine ⟨?_, ?_, ?_⟩
  · rcases h3 with h3 | ⟨x, hx, hp, h3⟩
    · rcases k3 with k3 | ⟨x, hx, hp, k3⟩
      · left; exact Prod.ext (h3.trans q1) (k3.trans q2)
      · obtain ⟨t, a, b, _⟩ := key x hx hp; exact .inr ⟨t, a, b⟩
    · obtain ⟨t, a, b, _⟩ := key x hx hp; exact .inr ⟨t, a, b⟩
  · rcases h3 with h3 | ⟨x, hx, hp, h3⟩
    · exact .inl (h3.trans q1)
    · obtain ⟨t, a, b, c⟩ := key x hx hp; exact .inr ⟨t, a, b, by rw [← c]; exact h3.symm⟩
  · rcases k3 with k3 | ⟨x, hx, hp, k3⟩
    · exact .inl (k3.trans q2)
    · obtain ⟨t, a, b, c⟩ := key x hx hp; exact .inr ⟨t, a, b, by rw [← c]; exact k3.symm⟩
theorem open_right {j : Nat} (hj : j < p.judges.length) : (openM p).right.getD j false = true ↔ ∃ t, isPossible p t = true ∧ isRight (p.judges.getD j default) t = true := by
  have hx : p.judges.getD j default ∈ p.judges := by rw [List.getD, List.getElem?_eq_getElem hj]; exact List.getElem_mem hj
  have hgj : ∀ t, (leafOf p t).2.2.getD j (0, 0) = spanTo (p.judges.getD j default) t t.length := fun t => by
    simp [leafOf, List.getD, hj]
  rw [openM_eq, fold_right p j (allL p) (survO p) (by simp [survO, survZ, hj]) (fun x hx => by
    obtain ⟨t, ht, rfl⟩ := (mem_allL hV _).1 hx
    simpa [leafOf] using hj)]
  have h0 : ¬ (survO p).right.getD j false = true := by simp [survO, survZ, List.getD, hj]
  constructor
  · rintro (h | ⟨x, hx', hp, ho⟩)
    · exact absurd h h0
    · obtain ⟨t, ht, rfl⟩ := (mem_allL hV _).1 hx'
      rw [posL_leaf hV ht] at hp
      rw [hgj, okSpan_leaf hV ht hx] at ho
      exact ⟨t, hp, ho⟩
  · rintro ⟨t, hp, ho⟩
    have ht := possible_truth hp
    exact .inr ⟨_, (mem_allL hV _).2 ⟨t, ht, rfl⟩, by rw [posL_leaf hV ht]; exact hp, by rw [hgj, okSpan_leaf hV ht hx]; exact ho⟩
theorem open_shown (q : Int) : (∀ v, getS (openM p).shown q = some v → ∃ t, isPossible p t = true ∧ (gradeP p.grades (resultOf p t) : Int) = q ∧ v = padT t) ∧
    (getS (openM p).shown q = none → ∀ t, isPossible p t = true → (gradeP p.grades (resultOf p t) : Int) ≠ q) := by
  obtain ⟨h1, h2⟩ := fold_shown p q (allL p) (survO p)
  rw [← openM_eq] at h1 h2
  constructor
  · intro v hv
    rcases h1 v hv with h | ⟨x, hx, hp, hg, hxv⟩
    · cases h
    · obtain ⟨t, ht, rfl⟩ := (mem_allL hV _).1 hx
      rw [posL_leaf hV ht] at hp
      exact ⟨t, hp, hg, hxv.symm⟩
  · intro hn t hp
    have ht := possible_truth hp
    exact (h2 hn).2 _ ((mem_allL hV _).2 ⟨t, ht, rfl⟩) (by rw [posL_leaf hV ht]; exact hp)
theorem small_open : SmallS (openM p) := by
  intro i n hi hn
  by_cases hil : i < p.items.length
  · obtain ⟨_, h1, h2⟩ := open_it_ex (n := n) hV hil
    have b1 : -1073741824 ≤ ((openM p).it i n).1 ∧ ((openM p).it i n).1 ≤ 1073741824 := by
      rcases h1 with h1 | ⟨t, hp, _, h1⟩
      · omega
      · have := result_bd hV (possible_truth hp); omega
    have b2 : -1073741824 ≤ ((openM p).it i n).2 ∧ ((openM p).it i n).2 ≤ 1073741824 := by
      rcases h2 with h2 | ⟨t, hp, _, h2⟩
      · omega
      · have := result_bd hV (possible_truth hp); omega
    exact ⟨b1.1, b1.2, b2.1, b2.2⟩
  · have key : ∀ (l : List Leaf) (S : Surv), (l.foldl (endL p) S).it i n = S.it i n := by
      intro l
      induction l with
      | nil => intro S; rfl
      | cons a l ih =>
        intro S
        rw [List.foldl_cons, ih]
        cases h : posL p a
        · rw [(endL_no p S a h).2.1]
        · rw [(endL_yes p S a h).2.1, itTo_get, if_neg (by omega)]
    rw [openM_eq, key]
    simp [survO, survZ, noSpan]
end
end Go.Proofs.Ytbpilgflejdhaaa

namespace Go.Proofs.Ytbpilgflejdhaaa
open Go.RowKit

theorem exP_valid : Valid exP := valid_of (by decide +kernel)
set_option maxHeartbeats 4000000 in
theorem works_any (w : World) : Calls Try.prog 14 #[] w fun e w' => e = .returned (.bool true) ∧ Ext w w' := by
  have HR := Lib.hid (fun iA jA gA ic jc gc W (h : PaperAt W iA jA gA exP) => range_any iA jA gA ic jc gc exP 25 28 0 W h ex_range)
  have HB := Lib.hid (fun iA jA gA ic jc gc W (h : PaperAt W iA jA gA exP) => blame_any iA jA gA ic jc gc exP [2] 0 W h ex_blame)
  have HN := Lib.hid (fun iA jA gA ic jc gc W (h : PaperAt W iA jA gA exP) => next_ok iA jA gA ic jc gc exP 1 0 3 W h ex_known (small_open exP_valid) ex_next)
  go_enter Try.func14, Try.ntmps14
  go_wp2_with fail
  refine (example_any _).mono ?_
  rintro e w1 ⟨iA, jA, gA, ic, jc, gc, rfl, hP1, hE1⟩
  have HP1 := Lib.hid hP1
  have HE1 := Lib.hid hE1
  clear hP1 hE1
  generalize exP.items.length = il at *
  generalize exP.judges.length = jl at *
  generalize exP.grades.length = gl at *
  generalize exP.wrong = wr at *
  go_wp2_with fail
  have HX1 := Lib.hid (Ext.of_alloc w1 (.cells #[.slice iA il ic, .slice jA jl jc, .int .i64 wr, .slice gA gl gc] 26))
  refine (HR.out _ _ _ _ _ _ _ (HP1.out.ext HX1.out)).mono ?_
  rintro e w2 ⟨rfl, hE2⟩
  have hbox := hE2.box
  have hlt2 := hE2.lt
  have HE2 := Lib.hid (HX1.out.trans hE2)
  have HX2 := Lib.hid (Ext.of_alloc w2 (.cells #[.int .i64 25, .int .i64 28] 35))
  clear hE2
  go_wp2_with fail
  refine (HB.out _ _ _ _ _ _ _ (HP1.out.ext (HE2.out.trans HX2.out))).mono ?_
  rintro e w3 ⟨A, cc, rfl, hI3, hE3⟩
  have hbs := hE3.box
  have hlt3 := hE3.lt
  have hbox := fun i => ((HX2.out.trans hE3).cellOf (p := ⟨w1.heap.size, i, none⟩) hlt2).trans (hbox i)
  have HE3 := Lib.hid (HE2.out.trans (HX2.out.trans hE3))
  have HI3 := Lib.hid hI3
  clear hE3 hI3
  go_wp2_with fail
  refine (HN.out _ _ _ _ _ _ _ (HP1.out.ext HE3.out)).mono ?_
  rintro e w4 ⟨rfl, hE4⟩
  have hs0 : w4.cell? ⟨w2.heap.size, 0, none⟩ = some (.int .i64 25) := (hE4.cellOf (p := ⟨_, _, none⟩) hlt3).trans (hbs 0)
  have hs1 : w4.cell? ⟨w2.heap.size, 1, none⟩ = some (.int .i64 28) := (hE4.cellOf (p := ⟨_, _, none⟩) hlt3).trans (hbs 1)
  have HE4 := Lib.hid (HE3.out.trans hE4)
  have HI4 := Lib.hid (HI3.out.ext hE4)
  have hlt4 : w2.heap.size < w4.heap.size := Nat.lt_of_lt_of_le hlt3 hE4.size
  have HK := Lib.hid (show ∀ W, Ext w4 W → (W.cell? ⟨w2.heap.size, 0, none⟩ = some (.int .i64 25) ∧ W.cell? ⟨w2.heap.size, 1, none⟩ = some (.int .i64 28)) from fun W e => ⟨(e.cellOf (p := ⟨_, _, none⟩) hlt4).trans hs0, (e.cellOf (p := ⟨_, _, none⟩) hlt4).trans hs1⟩)
  have HSame := Lib.hid (show ∀ W, Ext w4 W → ∀ g, Blk W g 3 #[.int .i64 2] → Calls Try.prog 45 #[.slice A 1 cc, .slice (some ⟨g, 0, none⟩) 1 1] W fun e W' => e = .returned (.bool true) ∧ Ext W W' from fun W e g hb => by
    have hI : Ints W (some ⟨g, 0, none⟩) [2] := fun k hk => by
      obtain rfl : k = 0 := by simpa using hk
      exact ⟨g, 0, rfl, hb.lt, hb.cell 0⟩
    exact sameInts_any A (some ⟨g, 0, none⟩) cc 1 [2] [2] W (HI4.out.ext e) hI (by simp) (by simp))
  clear hE4 hbs hbox HR HB HN HP1
  go_wp2_with fail
  go_region_held3 (fun w' => w'.cell? ⟨w2.heap.size, 0, none⟩ = some (.int .i64 25) ∧ w'.cell? ⟨w2.heap.size, 1, none⟩ = some (.int .i64 28))
    (exact HK.out _ (by repeat (first | exact Ext.refl _ | exact HE5.out | exact HE6.out | refine Ext.drew ?_ | refine Ext.alloc ?_ _)))
    (first
      | (go_at_call 21; refine (spanL_any _ _ _).mono ?_; rintro e w5 ⟨rfl, hE5⟩; have HE5 : Hid (Ext w4 w5) := Lib.hid (Ext.trans (by repeat (first | exact Ext.refl _ | refine Ext.drew ?_ | refine Ext.alloc ?_ _)) hE5))
      | (go_at_call 45; refine (HSame.out _ (by repeat (first | exact Ext.refl _ | exact HE5.out | refine Ext.drew ?_ | refine Ext.alloc ?_ _)) _ (by first | exact Blk.new _ _ _ | exact (Blk.new _ _ _).ext (Ext.refl _).drew | exact (Blk.new _ _ _).ext hE5 | exact ((Blk.new _ _ _).ext (Ext.refl _).drew).ext hE5)).mono ?_; rintro e w6 ⟨rfl, hE6⟩; have HE6 : Hid (Ext w4 w6) := Lib.hid (Ext.trans (by repeat (first | exact Ext.refl _ | exact HE5.out | refine Ext.drew ?_ | refine Ext.alloc ?_ _)) hE6)))
  all_goals
    go_wp2
    go_ret
    exact ⟨rfl, HE1.out.trans (HE4.out.trans HE6.out)⟩
end Go.Proofs.Ytbpilgflejdhaaa

namespace Go.Proofs.Ytbpilgflejdhaaa
open Go.RowKit
theorem ready_valid {p : Paper} (h : readyM p = true) : validB p = true ∧ p.judges.length ≤ 3 ∧ p.items.length ≤ 20 ∧ p.judges.length ≤ 20 ∧ p.grades.length ≤ 20 := by
  unfold readyM farM at h
  simp only [Bool.and_eq_true, Bool.not_eq_true', Bool.or_eq_false_iff, decide_eq_false_iff_not] at h
  obtain ⟨⟨h1, h2, h3, _, h5⟩, hv⟩ := h
  rw [hv, Bool.true_and, decide_eq_false_iff_not] at h5
  exact ⟨hv, by omega, by omega, by omega, by omega⟩

theorem known_true {p : Paper} (hv : validB p = true) : knownE p true = (if (openM p).poss then 0 else 3) := by simp [knownE, hv]
end Go.Proofs.Ytbpilgflejdhaaa

namespace Go.Proofs.Ytbpilgflejdhaaa
open Go.RowKit

def moreP (p : Paper) (x : Judge) : Paper := { p with judges := p.judges ++ [x] }
theorem more_wrongs (p : Paper) (x : Judge) (t : List Int) : wrongs p t ≤ wrongs (moreP p x) t := by
  unfold wrongs wrongsTo moreP
  simp only [List.take_length, List.countP_append]
  omega
theorem more_possible {p : Paper} {x : Judge} {t : List Int} (h : isPossible (moreP p x) t = true) : isPossible p t = true := by
  unfold isPossible at h ⊢
  simp only [Bool.and_eq_true, decide_eq_true_eq] at h ⊢
  have := more_wrongs p x t
  have h2 : (wrongs (moreP p x) t : Int) ≤ p.wrong := h.2
  exact ⟨h.1, by omega⟩
/-- More truths give a wider range. -/
theorem range_wider {p q : Paper} (hP : Valid p) (hQ : Valid q) (hpq : ∀ t, isPossible p t = true → isPossible q t = true ∧ resultOf q t = resultOf p t) (h : (openM p).poss = true) :
    (openM q).poss = true ∧ (openM q).res.1 ≤ (openM p).res.1 ∧ (openM p).res.2 ≤ (openM q).res.2 := by
  obtain ⟨⟨t, ht, h1⟩, ⟨u, hu, h2⟩⟩ := open_res_ex hP h
  obtain ⟨a, a'⟩ := hpq t ht
  obtain ⟨b, b'⟩ := hpq u hu
  have r1 := open_res_in hQ a
  have r2 := open_res_in hQ b
  refine ⟨(open_poss hQ).2 ⟨t, a⟩, by omega, by omega⟩

/-- Judge k eased. -/
def easeJ (x : Judge) (e w : Int) : Judge := { x with err := min 5 (x.err + e), lo := max (-3) (x.lo - w), hi := min 3 (x.hi + w) }
def wideP (p : Paper) (xw xe xd : Int) (who : Option Nat) : Paper :=
  { p with wrong := min 2 (p.wrong + xw), judges := match who with | some k => p.judges.set k (easeJ (p.judges.getD k default) xe xd) | none => p.judges }
theorem agree_ease {x : Judge} {t : List Int} {b e w : Int} (h5 : x.err ≤ 5) (he : 0 ≤ e) (h : agree x t b = true) : agree (easeJ x e w) t b = true := by
  unfold agree at h ⊢
  rw [range_all] at h ⊢
  intro i hi
  have := h i hi
  unfold agree1 wi easeJ at *
  simp only [Bool.or_eq_true, Bool.and_eq_true, decide_eq_true_eq] at this ⊢
  rcases this with h | ⟨h1, h2⟩
  · exact .inl h
  · exact .inr ⟨by omega, by omega⟩
theorem right_ease {x : Judge} {t : List Int} {e w : Int} (h1 : -3 ≤ x.lo) (h2 : x.hi ≤ 3) (h5 : x.err ≤ 5) (he : 0 ≤ e) (hw : 0 ≤ w) (h : isRight x t = true) : isRight (easeJ x e w) t = true := by
  obtain ⟨b, a1, a2, a3⟩ := isRight_iff.1 h
  refine isRight_iff.2 ⟨b, ?_, ?_, agree_ease h5 he a3⟩
  · show max (-3) (x.lo - w) ≤ b; omega
  · show b ≤ min 3 (x.hi + w); omega
theorem wide_valid {p : Paper} (h : validB p = true) {xw xe xd : Int} (hw : 0 ≤ xw) (he : 0 ≤ xe) (hd : 0 ≤ xd) (who : Option Nat) (hk : ∀ k, who = some k → k < p.judges.length) : validB (wideP p xw xe xd who) = true := by
  have hV := valid_of h
  unfold validB headOk at h ⊢
  simp only [Bool.and_eq_true, decide_eq_true_eq] at h ⊢
  obtain ⟨⟨⟨⟨⟨⟨a, b⟩, c⟩, d⟩, e⟩, f⟩, g⟩ := h
  have c := wi_true c
  refine ⟨⟨⟨⟨⟨⟨a, ?_⟩, wi_of (by show 0 ≤ min 2 (p.wrong + xw) ∧ min 2 (p.wrong + xw) ≤ 2; omega)⟩, d⟩, e⟩, ?_⟩, g⟩
  · cases who <;> simpa [wideP] using b
  · cases who with
    | none => exact f
    | some k =>
      have hk := hk k rfl
      show (p.judges.set k (easeJ (p.judges.getD k default) xe xd)).all (judgeOk p.items.length) = true
      rw [List.all_eq_true] at f ⊢
      intro x hx
      rcases List.mem_or_eq_of_mem_set hx with hx | rfl
      · exact f x hx
      · have hj := hV.ju k hk
        have hm := f (p.judges.getD k default) (by rw [List.getD, List.getElem?_eq_getElem hk]; exact List.getElem_mem hk)
        unfold judgeOk judgeOk1 easeJ at *
        simp only [Bool.and_eq_true, decide_eq_true_eq] at hm ⊢
        obtain ⟨⟨⟨⟨⟨q1, q2⟩, q3⟩, q4⟩, q5⟩, q6⟩ := hm
        have q4 := wi_true q4
        exact ⟨⟨⟨⟨⟨by omega, by omega⟩, by omega⟩, wi_of (by omega)⟩, q5⟩, q6⟩
theorem wide_possible {p : Paper} (h : validB p = true) {xw xe xd : Int} (hw : 0 ≤ xw) (he : 0 ≤ xe) (hd : 0 ≤ xd) (who : Option Nat) (hk : ∀ k, who = some k → k < p.judges.length) {t : List Int} (ht : isPossible p t = true) :
    isPossible (wideP p xw xe xd who) t = true ∧ resultOf (wideP p xw xe xd who) t = resultOf p t := by
  have hV := valid_of h
  constructor
  · unfold isPossible at ht ⊢
    simp only [Bool.and_eq_true, decide_eq_true_eq] at ht ⊢
    refine ⟨ht.1, ?_⟩
    have hle : wrongs (wideP p xw xe xd who) t ≤ wrongs p t := by
      unfold wrongs wrongsTo wideP
      simp only [List.take_length]
      cases who with
      | none => exact Nat.le_refl _
      | some k =>
        have hk := hk k rfl
        have hj := hV.ju k hk
        simp only
        rw [List.set_eq_take_append_cons_drop, if_pos hk]
        conv => rhs; rw [← List.take_append_drop k p.judges, List.drop_eq_getElem_cons hk]
        simp only [List.countP_append, List.countP_cons]
        have hg : p.judges.getD k default = p.judges[k] := by simp [List.getD, hk]
        rw [hg] at hj ⊢
        by_cases hr : isRight p.judges[k] t = true
        · have := right_ease (e := xe) (w := xd) hj.1 hj.2.2.1 hj.2.2.2.2.1 he hd hr
          simp only [this, hr]
          exact Nat.le_refl _
        · have hf : isRight p.judges[k] t = false := by simpa using hr
          simp only [hf, Bool.not_false, if_true]
          split <;> omega
    have hwr := hV.wr
    show (wrongs (wideP p xw xe xd who) t : Int) ≤ min 2 (p.wrong + xw)
    omega
  · have : ∀ k, resultTo (wideP p xw xe xd who) t k = resultTo p t k := by
      intro k
      induction k with
      | zero => rfl
      | succ k ih => rw [resultTo, resultTo, ih]; rfl
    exact this _
end Go.Proofs.Ytbpilgflejdhaaa

namespace Go.Proofs.Ytbpilgflejdhaaa
open Go.RowKit

def rkLo (R : List (Int × Int)) (i : Nat) : Nat → Int
  | 0 => 1
  | k + 1 => if (R.getD i (0, 0)).2 < (R.getD k (0, 0)).1 then rkLo R i k + 1 else rkLo R i k
def rkHi (R : List (Int × Int)) (i : Nat) : Nat → Int
  | 0 => 1
  | k + 1 => if k ≠ i ∧ (R.getD i (0, 0)).1 < (R.getD k (0, 0)).2 then rkHi R i k + 1 else rkHi R i k
theorem rkLo_bd (R : List (Int × Int)) (i : Nat) : ∀ k : Nat, 1 ≤ rkLo R i k ∧ rkLo R i k ≤ 1 + k
  | 0 => by simp [rkLo]
  | k + 1 => by have := rkLo_bd R i k; rw [rkLo]; split <;> omega
theorem rkHi_bd (R : List (Int × Int)) (i : Nat) : ∀ k : Nat, 1 ≤ rkHi R i k ∧ rkHi R i k ≤ 1 + k
  | 0 => by simp [rkHi]
  | k + 1 => by have := rkHi_bd R i k; rw [rkHi]; split <;> omega
def rkTo (R : List (Int × Int)) (k : Nat) : List (Int × Int) := (List.range k).map (fun i => (rkLo R i R.length, rkHi R i R.length))
theorem rkTo_succ (R : List (Int × Int)) (k : Nat) : rkTo R (k + 1) = rkTo R k ++ [(rkLo R k R.length, rkHi R k R.length)] := by
  unfold rkTo; rw [List.range_succ, List.map_append]; rfl
theorem rkTo_len (R : List (Int × Int)) (k : Nat) : (rkTo R k).length = k := by simp [rkTo]
theorem rkTo_get (R : List (Int × Int)) {k i : Nat} (h : i < k) : (rkTo R k).getD i (0, 0) = (rkLo R i R.length, rkHi R i R.length) := by simp [rkTo, List.getD, h]
def resTo (l : List Paper) (k : Nat) : List (Int × Int) := (l.take k).map (fun p => (rangeM p).1)
theorem resTo_succ (l : List Paper) (k : Nat) (h : k < l.length) : resTo l (k + 1) = resTo l k ++ [(rangeM (l.getD k default)).1] := by
  unfold resTo
  rw [List.take_succ_eq_append_getElem h, List.map_append]
  simp [List.getD, h]
theorem resTo_len (l : List Paper) : (resTo l l.length).length = l.length := by simp [resTo]
theorem resTo_get (l : List Paper) {k : Nat} (h : k < l.length) : (resTo l l.length).getD k (0, 0) = (rangeM (l.getD k default)).1 := by simp [resTo, List.getD, h]
def badP (p : Paper) : Bool := decide ((rangeM p).2 ≠ 0)
def ranksM (l : List Paper) : List (Int × Int) × Int :=
  if 6 < l.length then ([], 1) else match l.find? badP with
    | some p => ([], (rangeM p).2)
    | none => (rkTo (resTo l l.length) l.length, 0)
theorem find_at {α : Type} (q : α → Bool) (d : α) : ∀ (l : List α) (k : Nat), k < l.length → (∀ j, j < k → q (l.getD j d) = false) → q (l.getD k d) = true → l.find? q = some (l.getD k d)
  | [], k, h, _, _ => absurd h (by simp)
  | x :: l, 0, _, _, h => by
    have h : q x = true := h
    rw [List.find?_cons, h]
    rfl
  | x :: l, k + 1, hk, h0, h => by
    have hx : q x = false := h0 0 (by omega)
    rw [List.find?_cons, hx]
    exact find_at q d l k (by simpa using hk) (fun j hj => h0 (j + 1) (by omega)) h
theorem find_no {α : Type} (q : α → Bool) (d : α) (l : List α) (h : ∀ j, j < l.length → q (l.getD j d) = false) : l.find? q = none := by
  rw [List.find?_eq_none]
  intro x hx
  obtain ⟨k, hk, rfl⟩ := List.getElem_of_mem hx
  have := h k hk
  rw [List.getD, List.getElem?_eq_getElem hk] at this
  simp only [Option.getD_some] at this
  rw [this]
  exact Bool.false_ne_true
theorem ranksM_bad {l : List Paper} {k : Nat} {c : Int} (hl : l.length ≤ 6) (hk : k < l.length) (h0 : ∀ j, j < k → (rangeM (l.getD j default)).2 = 0) (hc : (rangeM (l.getD k default)).2 = c) (hn : c ≠ 0) : ranksM l = ([], c) := by
  unfold ranksM
  rw [if_neg (by omega), find_at badP default l k hk (fun j hj => by unfold badP; rw [h0 j hj]; rfl) (by unfold badP; rw [hc]; simpa using hn)]
  simp only [hc]
theorem ranksM_ok {l : List Paper} (hl : l.length ≤ 6) (h0 : ∀ j, j < l.length → (rangeM (l.getD j default)).2 = 0) : ranksM l = (rkTo (resTo l l.length) l.length, 0) := by
  unfold ranksM
  rw [if_neg (by omega), find_no badP default l (fun j hj => by unfold badP; rw [h0 j hj]; rfl)]
theorem range_le {p : Paper} (_h : (rangeM p).2 = 0) : (rangeM p).1.1 ≤ (rangeM p).1.2 := by
  unfold rangeM
  split
  · rename_i hk
    obtain ⟨hv, _, hp⟩ := knownE_ok hk
    have hV := valid_of hv
    obtain ⟨t, ht⟩ := (open_poss hV).1 hp
    have := open_res_in hV ht
    show (openM p).res.1 ≤ (openM p).res.2
    omega
  · exact Int.le_refl _
end Go.Proofs.Ytbpilgflejdhaaa
