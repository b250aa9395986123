/- Exams: the plain law of grades and of shown truths. No program in sight. / Exams: the plain law of Next. No program in sight. / Exams: the plain law of what is sure. -/
import Derived.Test.YtbpilgflejdhaaaExLaw3
/-! Exams: the plain law of grades and of shown truths. No program in sight. -/
namespace Go.Proofs.Ytbpilgflejdhaaa
open Go.RowKit

theorem gradeP_le (l : List Int) (r : Int) : gradeP l r ≤ l.length := by
  unfold gradeP
  exact (List.takeWhile_sublist _).length_le
theorem gradeP_mono (l : List Int) {a b : Int} (h : a ≤ b) : gradeP l a ≤ gradeP l b := by
  unfold gradeP
  induction l with
  | nil => simp
  | cons x l ih =>
    simp only [List.takeWhile_cons]
    by_cases hx : x ≤ a
    · have hxb : x ≤ b := by omega
      simp [hx, hxb, ih]
    · simp [hx]
theorem gradeP_count {l : List Int} (h : l.Pairwise (· < ·)) (r : Int) : gradeP l r = l.countP (fun g => decide (g ≤ r)) := by
  unfold gradeP
  induction l with
  | nil => rfl
  | cons x l ih =>
    obtain ⟨h1, h2⟩ := List.pairwise_cons.1 h
    simp only [List.takeWhile_cons, List.countP_cons]
    by_cases hx : x ≤ r
    · simp [hx, ih h2]
    · have : l.countP (fun g => decide (g ≤ r)) = 0 := by
        rw [List.countP_eq_zero]
        intro y hy
        have := h1 y hy
        simp only [decide_eq_true_eq]
        omega
      simp [hx, this]
theorem grades_pairwise {p : Paper} (hV : Valid p) : p.grades.Pairwise (· < ·) := by
  have key : ∀ j, j < p.grades.length → ∀ i, i < j → p.grades.getD i 0 < p.grades.getD j 0 := by
    intro j
    induction j with
    | zero => intro _ i hi; omega
    | succ j ih =>
      intro hj i hi
      have h1 := (hV.gr (j + 1) hj).2.2
      rcases h1 with h1 | h1
      · omega
      · rw [Nat.add_sub_cancel] at h1
        by_cases e : i = j
        · subst e; exact h1
        · have := ih (by omega) i (by omega); omega
  rw [List.pairwise_iff_getElem]
  intro i j hi hj hij
  have := key j hj i hij
  simpa [List.getD, hi, hj] using this
theorem gradeP_gradeOf {p : Paper} (hV : Valid p) (r : Int) : (gradeP p.grades r : Int) = gradeOf p r := by
  unfold gradeOf gradeTo
  rw [List.take_length, gradeP_count (grades_pairwise hV)]
theorem take_pad {p : Paper} {t : List Int} (h : t.length = p.items.length) : (padT t).take p.items.length = t := by
  unfold padT
  rw [← h, List.take_left]
/-- A truth that Show gives. -/
theorem show_some {p : Paper} (hV : Valid p) {g : Int} {v : List Int} (h : getS (openM p).shown g = some v) :
    isPossible p (v.take p.items.length) = true ∧ gradeOf p (resultOf p (v.take p.items.length)) = g ∧ (gradeP p.grades (openM p).res.1 : Int) ≤ g ∧ g ≤ (gradeP p.grades (openM p).res.2 : Int) := by
  obtain ⟨t, ht, hg, rfl⟩ := (open_shown hV g).1 v h
  rw [take_pad (isTruth_iff.1 (possible_truth ht)).1]
  have hr := open_res_in hV ht
  have m1 := gradeP_mono p.grades hr.1
  have m2 := gradeP_mono p.grades hr.2
  exact ⟨ht, by rw [← gradeP_gradeOf hV]; exact hg, by omega, by omega⟩
theorem show_none {p : Paper} (hV : Valid p) (hp : (openM p).poss = true) {g : Int} (h : getS (openM p).shown g = none) : g ≠ (gradeP p.grades (openM p).res.1 : Int) ∧ g ≠ (gradeP p.grades (openM p).res.2 : Int) := by
  obtain ⟨⟨t, ht, h1⟩, ⟨u, hu, h2⟩⟩ := open_res_ex hV hp
  have a := (open_shown hV g).2 h t ht
  have b := (open_shown hV g).2 h u hu
  rw [h1] at a
  rw [h2] at b
  exact ⟨fun e => a e.symm, fun e => b e.symm⟩
end Go.Proofs.Ytbpilgflejdhaaa
/-! Exams: the plain law of Next. No program in sight. -/
namespace Go.Proofs.Ytbpilgflejdhaaa
open Go.RowKit

theorem mostTo_ge {S : Surv} {i : Nat} {err : Int} : ∀ (k m : Nat), m < k → markW S i err (-err + m) ≤ mostTo S i err k := by
  intro k
  induction k with
  | zero => intro m h; omega
  | succ k ih =>
    intro m h
    rw [mostTo]
    by_cases e : m = k
    · subst e; omega
    · have := ih m (by omega); omega
theorem mostTo_le {S : Surv} {i : Nat} {err b : Int} (hb : 0 ≤ b) : ∀ (k : Nat), (∀ m, m < k → markW S i err (-err + m) ≤ b) → mostTo S i err k ≤ b := by
  intro k
  induction k with
  | zero => intro _; simpa [mostTo] using hb
  | succ k ih =>
    intro h
    rw [mostTo]
    have h1 := ih (fun m hm => h m (by omega))
    have h2 := h k (by omega)
    omega
theorem mostM_ge {S : Surv} {i : Nat} {err mark : Int} (h1 : -err ≤ mark) (h2 : mark ≤ 30 + err) : markW S i err mark ≤ mostM S i err := by
  have := mostTo_ge (S := S) (i := i) (err := err) (31 + 2 * err).toNat (mark + err).toNat (by omega)
  rw [show -err + ((mark + err).toNat : Int) = mark by omega] at this
  exact this
theorem mostM_bd {S : Surv} (h : SmallS S) {i : Nat} (hi : i < 4) {err : Int} (he : 0 ≤ err ∧ err ≤ 5) : 0 ≤ mostM S i err ∧ mostM S i err ≤ 2147483648 := mostTo_bd h hi he _ (by omega)
theorem best_spec {S : Surv} (h : SmallS S) {err : Int} (he : 0 ≤ err ∧ err ≤ 5) : ∀ k : Nat, 1 ≤ k → k ≤ 4 →
    ∃ i : Nat, i < k ∧ bestTo S err k = ((i : Int), mostM S i err) ∧ (∀ j, j < k → mostM S i err ≤ mostM S j err) ∧ ∀ j, j < i → mostM S i err < mostM S j err := by
  intro k
  induction k with
  | zero => intro h; omega
  | succ k ih =>
    intro _ hk
    by_cases h0 : k = 0
    · subst h0
      refine ⟨0, by omega, ?_, fun j hj => ?_, fun j hj => by omega⟩
      · simp [bestTo]
      · obtain rfl : j = 0 := by omega
        exact Int.le_refl _
    · obtain ⟨i, hi, hb, h1, h2⟩ := ih (by omega) (by omega)
      have hbd := mostM_bd h (i := i) (by omega) he
      rw [bestTo, hb]
      simp only
      by_cases hlt : mostM S k err < mostM S i err
      · rw [if_pos (.inr hlt)]
        refine ⟨k, by omega, rfl, fun j hj => ?_, fun j hj => ?_⟩
        · by_cases e : j = k
          · subst e; exact Int.le_refl _
          · have := h1 j (by omega); omega
        · have := h1 j (by omega); omega
      · rw [if_neg (by omega)]
        refine ⟨i, by omega, rfl, fun j hj => ?_, h2⟩
        by_cases e : j = k
        · subst e; omega
        · exact h1 j (by omega)
theorem leftTo_le {S : Surv} {i : Nat} (n0 : Nat) : ∀ (k m : Nat), m < k → (leftTo S i n0 k).1 ≤ (S.it i (n0 + m)).1 ∧ (S.it i (n0 + m)).2 ≤ (leftTo S i n0 k).2 := by
  intro k
  induction k with
  | zero => intro m h; omega
  | succ k ih =>
    intro m h
    rw [leftTo]
    simp only [addS]
    by_cases e : m = k
    · subst e; omega
    · have := ih m (by omega); omega
theorem leftTo_in {S : Surv} {i : Nat} (n0 : Nat) {a b : Int} (ha : a ≤ 1073741824) (hb : -1073741824 ≤ b) (h : ∀ n, a ≤ (S.it i n).1 ∧ (S.it i n).2 ≤ b) : ∀ k, a ≤ (leftTo S i n0 k).1 ∧ (leftTo S i n0 k).2 ≤ b := by
  intro k
  induction k with
  | zero => simpa [leftTo, noSpan] using ⟨ha, hb⟩
  | succ k ih =>
    have := h (n0 + k)
    rw [leftTo]
    simp only [addS]
    omega

section
variable {p : Paper} (hV : Valid p)
include hV
theorem it_in {i : Nat} (hi : i < p.items.length) (hp : (openM p).poss = true) (n : Nat) : (openM p).res.1 ≤ ((openM p).it i n).1 ∧ ((openM p).it i n).2 ≤ (openM p).res.2 := by
  obtain ⟨⟨t1, ht1, hr1⟩, ⟨t2, ht2, hr2⟩⟩ := open_res_ex hV hp
  have b1 := result_bd hV (possible_truth ht1)
  have b2 := result_bd hV (possible_truth ht2)
  obtain ⟨_, h1, h2⟩ := open_it_ex (n := n) hV hi
  constructor
  · rcases h1 with h1 | ⟨t, hp, _, h1⟩
    · omega
    · have := open_res_in hV hp; omega
  · rcases h2 with h2 | ⟨t, hp, _, h2⟩
    · omega
    · have := open_res_in hV hp; omega
theorem mostM_width {i : Nat} (hi : i < p.items.length) (hp : (openM p).poss = true) {err : Int} (_he : 0 ≤ err ∧ err ≤ 5) : mostM (openM p) i err ≤ (openM p).res.2 - (openM p).res.1 := by
  obtain ⟨t, ht⟩ := (open_poss hV).1 hp
  have h0 := open_res_in hV ht
  have hb := result_bd hV (possible_truth ht)
  obtain ⟨⟨t1, ht1, hr1⟩, ⟨t2, ht2, hr2⟩⟩ := open_res_ex hV hp
  have b1 := result_bd hV (possible_truth ht1)
  have b2 := result_bd hV (possible_truth ht2)
  refine mostTo_le (by omega) _ fun m _ => ?_
  have := leftTo_in (S := openM p) (i := i) (max 0 (-err + (m : Int) - err)).toNat (by omega) (by omega) (it_in hV hi hp) (min 30 (-err + (m : Int) + err) + 1 - max 0 (-err + (m : Int) - err)).toNat
  unfold markW widthM
  omega
/-- Two truths that agree with a mark differ by at most the width. -/
theorem mark_law {i : Nat} (hi : i < p.items.length) {err mark : Int} (he : 0 ≤ err ∧ err ≤ 5) {t u : List Int} (ht : isPossible p t = true) (hu : isPossible p u = true)
    (h1 : t.getD i 0 - mark ≤ err) (h2 : mark - t.getD i 0 ≤ err) (h3 : u.getD i 0 - mark ≤ err) (h4 : mark - u.getD i 0 ≤ err) : resultOf p t - resultOf p u ≤ mostM (openM p) i err := by
  have tt := isTruth_iff.1 (possible_truth ht)
  have tu := isTruth_iff.1 (possible_truth hu)
  have a1 := tt.2 i (by omega)
  have a2 := tu.2 i (by omega)
  have a3 := hV.it i hi
  have g1 := open_it_in hV hi ht
  have g2 := open_it_in hV hi hu
  have hm := mostM_ge (S := openM p) (i := i) (err := err) (mark := mark) (by omega) (by omega)
  generalize hn0 : (max 0 (mark - err)).toNat = n0
  generalize hcnt : (min 30 (mark + err) + 1 - max 0 (mark - err)).toNat = cnt
  have l1 := leftTo_le (S := openM p) (i := i) n0 cnt ((t.getD i 0).toNat - n0) (by omega)
  have l2 := leftTo_le (S := openM p) (i := i) n0 cnt ((u.getD i 0).toNat - n0) (by omega)
  rw [show n0 + ((t.getD i 0).toNat - n0) = (t.getD i 0).toNat by omega] at l1
  rw [show n0 + ((u.getD i 0).toNat - n0) = (u.getD i 0).toNat by omega] at l2
  unfold markW at hm
  rw [hn0, hcnt] at hm
  unfold widthM at hm
  omega
end
end Go.Proofs.Ytbpilgflejdhaaa
/-! Exams: the plain law of what is sure. -/
namespace Go.Proofs.Ytbpilgflejdhaaa
theorem ptTo_in (S : Surv) (i n : Nat) (h : (S.it i n).1 ≤ (S.it i n).2) : ∀ k, n < k → (ptTo S i k).1 ≤ (n : Int) ∧ (n : Int) ≤ (ptTo S i k).2
  | 0, hk => absurd hk (by omega)
  | k + 1, hk => by
    unfold ptTo
    by_cases hn : n = k
    · subst hn
      rw [if_pos h]
      simp only [addS]
      omega
    · have := ptTo_in S i n h k (by omega)
      split
      · simp only [addS]
        omega
      · exact this
theorem points_in {p : Paper} (hV : Valid p) {t : List Int} (h : isPossible p t = true) (k : Nat) (hk : k < t.length) :
    wi (t.getD k 0) ((ptsTo (openM p) p.items.length).getD k (0, 0)).1 ((ptsTo (openM p) p.items.length).getD k (0, 0)).2 = true := by
  have ht := isTruth_iff.1 (possible_truth h)
  have hi : k < p.items.length := by omega
  have h1 := ht.2 k hk
  have h2 := hV.it k hi
  have h3 := open_it_in hV hi h
  rw [ptsTo_get _ _ _ hi]
  have h4 := ptTo_in (openM p) k (t.getD k 0).toNat (by omega) 31 (by omega)
  refine wi_of ?_
  omega
theorem blame_in {R : List Bool} {n : Int} {k : Nat} (h : n ∈ blameTo R k) : ∃ j : Nat, n = j ∧ j < k ∧ R.getD j false = false := by
  unfold blameTo at h
  obtain ⟨j, hj, rfl⟩ := List.mem_map.1 h
  rw [List.mem_filter, List.mem_range] at hj
  refine ⟨j, rfl, hj.1, ?_⟩
  have := hj.2
  cases hq : R.getD j false
  · rfl
  · rw [hq] at this; cases this
/-- A judge of Blame is right in no possible truth. -/
theorem blame_not_right {p : Paper} (hV : Valid p) {t : List Int} (h : isPossible p t = true) (j : Nat) (hj : j < p.judges.length) (hb : (j : Int) ∈ blameTo (openM p).right p.judges.length) : isRight (p.judges.getD j default) t = false := by
  obtain ⟨j', h1, _, h3⟩ := blame_in hb
  have hjj : j = j' := by omega
  subst hjj
  cases hq : isRight (p.judges.getD j default) t
  · rfl
  · have := (open_right hV hj).2 ⟨t, h, hq⟩
    rw [h3] at this
    cases this
end Go.Proofs.Ytbpilgflejdhaaa
