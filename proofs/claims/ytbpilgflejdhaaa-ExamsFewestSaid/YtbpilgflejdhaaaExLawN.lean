/- Exams: the plain law of Next. No program in sight. -/
import Derived.Test.YtbpilgflejdhaaaExLaw3
namespace Go.Proofs.Ytbpilgflejdhaaa
open Go.RowKit

theorem mostTo_ge {S : Surv} {i : Nat} {err : Int} : ∀ (k m : Nat), m < k → markW S i err (-err + m) ≤ mostTo S i err k := by
  intro k
  induction k with
  | zero => intro m h; omega
  | succ k ih =>
    intro m h
    rw [mostTo]
    by_cases e : m = k
    · subst e; omega
    · have := ih m (by omega); omega
theorem mostTo_le {S : Surv} {i : Nat} {err b : Int} (hb : 0 ≤ b) : ∀ (k : Nat), (∀ m, m < k → markW S i err (-err + m) ≤ b) → mostTo S i err k ≤ b := by
  intro k
  induction k with
  | zero => intro _; simpa [mostTo] using hb
  | succ k ih =>
    intro h
    rw [mostTo]
    have h1 := ih (fun m hm => h m (by omega))
    have h2 := h k (by omega)
    omega
theorem mostM_ge {S : Surv} {i : Nat} {err mark : Int} (h1 : -err ≤ mark) (h2 : mark ≤ 30 + err) : markW S i err mark ≤ mostM S i err := by
  have := mostTo_ge (S := S) (i := i) (err := err) (31 + 2 * err).toNat (mark + err).toNat (by omega)
  rw [show -err + ((mark + err).toNat : Int) = mark by omega] at this
  exact this
theorem mostM_bd {S : Surv} (h : SmallS S) {i : Nat} (hi : i < 4) {err : Int} (he : 0 ≤ err ∧ err ≤ 5) : 0 ≤ mostM S i err ∧ mostM S i err ≤ 2147483648 := mostTo_bd h hi he _ (by omega)
theorem best_spec {S : Surv} (h : SmallS S) {err : Int} (he : 0 ≤ err ∧ err ≤ 5) : ∀ k : Nat, 1 ≤ k → k ≤ 4 →
    ∃ i : Nat, i < k ∧ bestTo S err k = ((i : Int), mostM S i err) ∧ (∀ j, j < k → mostM S i err ≤ mostM S j err) ∧ ∀ j, j < i → mostM S i err < mostM S j err := by
  intro k
  induction k with
  | zero => intro h; omega
  | succ k ih =>
    intro _ hk
    by_cases h0 : k = 0
    · subst h0
      refine ⟨0, by omega, ?_, fun j hj => ?_, fun j hj => by omega⟩
      · simp [bestTo]
      · obtain rfl : j = 0 := by omega
        exact Int.le_refl _
    · obtain ⟨i, hi, hb, h1, h2⟩ := ih (by omega) (by omega)
      have hbd := mostM_bd h (i := i) (by omega) he
      rw [bestTo, hb]
      simp only
      by_cases hlt : mostM S k err < mostM S i err
      · rw [if_pos (.inr hlt)]
        refine ⟨k, by omega, rfl, fun j hj => ?_, fun j hj => ?_⟩
        · by_cases e : j = k
          · subst e; exact Int.le_refl _
          · have := h1 j (by omega); omega
        · have := h1 j (by omega); omega
      · rw [if_neg (by omega)]
        refine ⟨i, by omega, rfl, fun j hj => ?_, h2⟩
        by_cases e : j = k
        · subst e; omega
        · exact h1 j (by omega)
theorem leftTo_le {S : Surv} {i : Nat} (n0 : Nat) : ∀ (k m : Nat), m < k → (leftTo S i n0 k).1 ≤ (S.it i (n0 + m)).1 ∧ (S.it i (n0 + m)).2 ≤ (leftTo S i n0 k).2 := by
  intro k
  induction k with
  | zero => intro m h; omega
  | succ k ih =>
    intro m h
    rw [leftTo]
    simp only [addS]
    by_cases e : m = k
    · subst e; omega
    · have := ih m (by omega); omega
theorem leftTo_in {S : Surv} {i : Nat} (n0 : Nat) {a b : Int} (ha : a ≤ 1073741824) (hb : -1073741824 ≤ b) (h : ∀ n, a ≤ (S.it i n).1 ∧ (S.it i n).2 ≤ b) : ∀ k, a ≤ (leftTo S i n0 k).1 ∧ (leftTo S i n0 k).2 ≤ b := by
  intro k
  induction k with
  | zero => simpa [leftTo, noSpan] using ⟨ha, hb⟩
  | succ k ih =>
    have := h (n0 + k)
    rw [leftTo]
    simp only [addS]
    omega

section
variable {p : Paper} (hV : Valid p)
include hV
theorem it_in {i : Nat} (hi : i < p.items.length) (hp : (openM p).poss = true) (n : Nat) : (openM p).res.1 ≤ ((openM p).it i n).1 ∧ ((openM p).it i n).2 ≤ (openM p).res.2 := by
  obtain ⟨⟨t1, ht1, hr1⟩, ⟨t2, ht2, hr2⟩⟩ := open_res_ex hV hp
  have b1 := result_bd hV (possible_truth ht1)
  have b2 := result_bd hV (possible_truth ht2)
  obtain ⟨_, h1, h2⟩ := open_it_ex (n := n) hV hi
  constructor
  · rcases h1 with h1 | ⟨t, hp, _, h1⟩
    · omega
    · have := open_res_in hV hp; omega
  · rcases h2 with h2 | ⟨t, hp, _, h2⟩
    · omega
    · have := open_res_in hV hp; omega
theorem mostM_width {i : Nat} (hi : i < p.items.length) (hp : (openM p).poss = true) {err : Int} (_he : 0 ≤ err ∧ err ≤ 5) : mostM (openM p) i err ≤ (openM p).res.2 - (openM p).res.1 := by
  obtain ⟨t, ht⟩ := (open_poss hV).1 hp
  have h0 := open_res_in hV ht
  have hb := result_bd hV (possible_truth ht)
  obtain ⟨⟨t1, ht1, hr1⟩, ⟨t2, ht2, hr2⟩⟩ := open_res_ex hV hp
  have b1 := result_bd hV (possible_truth ht1)
  have b2 := result_bd hV (possible_truth ht2)
  refine mostTo_le (by omega) _ fun m _ => ?_
  have := leftTo_in (S := openM p) (i := i) (max 0 (-err + (m : Int) - err)).toNat (by omega) (by omega) (it_in hV hi hp) (min 30 (-err + (m : Int) + err) + 1 - max 0 (-err + (m : Int) - err)).toNat
  unfold markW widthM
  omega
/-- Two truths that agree with a mark differ by at most the width. -/
theorem mark_law {i : Nat} (hi : i < p.items.length) {err mark : Int} (he : 0 ≤ err ∧ err ≤ 5) {t u : List Int} (ht : isPossible p t = true) (hu : isPossible p u = true)
    (h1 : t.getD i 0 - mark ≤ err) (h2 : mark - t.getD i 0 ≤ err) (h3 : u.getD i 0 - mark ≤ err) (h4 : mark - u.getD i 0 ≤ err) : resultOf p t - resultOf p u ≤ mostM (openM p) i err := by
  have tt := isTruth_iff.1 (possible_truth ht)
  have tu := isTruth_iff.1 (possible_truth hu)
  have a1 := tt.2 i (by omega)
  have a2 := tu.2 i (by omega)
  have a3 := hV.it i hi
  have g1 := open_it_in hV hi ht
  have g2 := open_it_in hV hi hu
  have hm := mostM_ge (S := openM p) (i := i) (err := err) (mark := mark) (by omega) (by omega)
  generalize hn0 : (max 0 (mark - err)).toNat = n0
  generalize hcnt : (min 30 (mark + err) + 1 - max 0 (mark - err)).toNat = cnt
  have l1 := leftTo_le (S := openM p) (i := i) n0 cnt ((t.getD i 0).toNat - n0) (by omega)
  have l2 := leftTo_le (S := openM p) (i := i) n0 cnt ((u.getD i 0).toNat - n0) (by omega)
  rw [show n0 + ((t.getD i 0).toNat - n0) = (t.getD i 0).toNat by omega] at l1
  rw [show n0 + ((u.getD i 0).toNat - n0) = (u.getD i 0).toNat by omega] at l2
  unfold markW at hm
  rw [hn0, hcnt] at hm
  unfold widthM at hm
  omega
end
end Go.Proofs.Ytbpilgflejdhaaa
