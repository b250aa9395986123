/- Exams: the plain law of the ranks -/
import Derived.Test.YtbpilgflejdhaaaBm11

namespace Go.Proofs.Ytbpilgflejdhaaa
open Go.RowKit

def rkR (rs : List Int) (i : Nat) : Nat → Int
  | 0 => 1
  | k + 1 => if rs.getD i 0 < rs.getD k 0 then rkR rs i k + 1 else rkR rs i k
theorem rkR_bd (rs : List Int) (i : Nat) : ∀ k : Nat, 1 ≤ rkR rs i k ∧ rkR rs i k ≤ 1 + k
  | 0 => by simp [rkR]
  | k + 1 => by have := rkR_bd rs i k; rw [rkR]; split <;> omega
theorem rkLo_le {R : List (Int × Int)} {rs : List Int} {i : Nat} (n : Nat) (h : ∀ j, j < n → (R.getD j (0, 0)).1 ≤ rs.getD j 0 ∧ rs.getD j 0 ≤ (R.getD j (0, 0)).2) (hi : i < n) : ∀ k, k ≤ n → rkLo R i k ≤ rkR rs i k
  | 0, _ => Int.le_refl _
  | k + 1, hk => by
    have ih := rkLo_le n h hi k (by omega)
    have h1 := h i hi
    have h2 := h k (by omega)
    rw [rkLo, rkR]
    split
    · rw [if_pos (by omega)]; omega
    · split <;> omega
theorem rkHi_ge {R : List (Int × Int)} {rs : List Int} {i : Nat} (n : Nat) (h : ∀ j, j < n → (R.getD j (0, 0)).1 ≤ rs.getD j 0 ∧ rs.getD j 0 ≤ (R.getD j (0, 0)).2) (hi : i < n) : ∀ k, k ≤ n → rkR rs i k ≤ rkHi R i k
  | 0, _ => Int.le_refl _
  | k + 1, hk => by
    have ih := rkHi_ge n h hi k (by omega)
    have h1 := h i hi
    have h2 := h k (by omega)
    rw [rkHi, rkR]
    by_cases hlt : rs.getD i 0 < rs.getD k 0
    · have hne : k ≠ i := fun e => by rw [e] at hlt; omega
      rw [if_pos hlt, if_pos ⟨hne, by omega⟩]
      omega
    · rw [if_neg hlt]
      split <;> omega
theorem rkHi_top {R : List (Int × Int)} {i : Nat} : ∀ k : Nat, rkHi R i k ≤ if i < k then (k : Int) else 1 + k
  | 0 => by simp [rkHi]
  | k + 1 => by
    have ih := rkHi_top (R := R) (i := i) k
    rw [rkHi]
    by_cases e : k = i
    · subst e
      rw [if_neg (fun q => q.1 rfl), if_pos (by omega)]
      rw [if_neg (by omega)] at ih
      omega
    · split <;> split at ih <;> split <;> omega
theorem rkLo_lt {R : List (Int × Int)} {i k : Nat} (hi : (R.getD i (0, 0)).1 ≤ (R.getD i (0, 0)).2) (h : (R.getD k (0, 0)).2 < (R.getD i (0, 0)).1) : ∀ m : Nat, (i < m → rkLo R i m + 1 ≤ rkLo R k m) ∧ rkLo R i m ≤ rkLo R k m
  | 0 => ⟨fun q => absurd q (by omega), Int.le_refl _⟩
  | m + 1 => by
    obtain ⟨ih1, ih2⟩ := rkLo_lt hi h m
    by_cases e : m = i
    · have e1 : rkLo R i (m + 1) = rkLo R i m := by rw [rkLo]; exact if_neg (by rw [e]; omega)
      have e2 : rkLo R k (m + 1) = rkLo R k m + 1 := by rw [rkLo]; exact if_pos (by rw [e]; exact h)
      rw [e1, e2]
      exact ⟨fun _ => by omega, by omega⟩
    · by_cases hc : (R.getD i (0, 0)).2 < (R.getD m (0, 0)).1
      · have e1 : rkLo R i (m + 1) = rkLo R i m + 1 := by rw [rkLo]; exact if_pos hc
        have e2 : rkLo R k (m + 1) = rkLo R k m + 1 := by rw [rkLo]; exact if_pos (by omega)
        rw [e1, e2]
        exact ⟨fun q => by have := ih1 (by omega); omega, by omega⟩
      · have e1 : rkLo R i (m + 1) = rkLo R i m := by rw [rkLo]; exact if_neg hc
        have e2 : rkLo R k m ≤ rkLo R k (m + 1) := by rw [rkLo]; split <;> omega
        rw [e1]
        exact ⟨fun q => by have := ih1 (by omega); omega, by omega⟩
theorem rkHi_lt {R : List (Int × Int)} {i k : Nat} (hi : (R.getD i (0, 0)).1 ≤ (R.getD i (0, 0)).2) (hk : (R.getD k (0, 0)).1 ≤ (R.getD k (0, 0)).2) (h : (R.getD k (0, 0)).2 < (R.getD i (0, 0)).1) : ∀ m : Nat, (i < m → rkHi R i m + 1 ≤ rkHi R k m) ∧ rkHi R i m ≤ rkHi R k m
  | 0 => ⟨fun q => absurd q (by omega), Int.le_refl _⟩
  | m + 1 => by
    obtain ⟨ih1, ih2⟩ := rkHi_lt hi hk h m
    have hik : i ≠ k := fun e => by subst e; omega
    by_cases e : m = i
    · have e1 : rkHi R i (m + 1) = rkHi R i m := by rw [rkHi]; exact if_neg (fun q => q.1 e)
      have e2 : rkHi R k (m + 1) = rkHi R k m + 1 := by rw [rkHi]; exact if_pos ⟨by omega, by rw [e]; omega⟩
      rw [e1, e2]
      exact ⟨fun _ => by omega, by omega⟩
    · by_cases hc : m ≠ i ∧ (R.getD i (0, 0)).1 < (R.getD m (0, 0)).2
      · have hmk : m ≠ k := fun e2 => by have := hc.2; rw [e2] at this; omega
        have e1 : rkHi R i (m + 1) = rkHi R i m + 1 := by rw [rkHi]; exact if_pos hc
        have e2 : rkHi R k (m + 1) = rkHi R k m + 1 := by rw [rkHi]; exact if_pos ⟨hmk, by have := hc.2; omega⟩
        rw [e1, e2]
        exact ⟨fun q => by have := ih1 (by omega); omega, by omega⟩
      · have e1 : rkHi R i (m + 1) = rkHi R i m := by rw [rkHi]; exact if_neg hc
        have e2 : rkHi R k m ≤ rkHi R k (m + 1) := by rw [rkHi]; split <;> omega
        rw [e1]
        exact ⟨fun q => by have := ih1 (by omega); omega, by omega⟩

def rsTo (l : List Paper) (ts : List (List Int)) (k : Nat) : List Int := (List.range k).map (fun i => resultOf (l.getD i default) (ts.getD i []))
theorem rsTo_succ (l : List Paper) (ts : List (List Int)) (k : Nat) : rsTo l ts (k + 1) = rsTo l ts k ++ [resultOf (l.getD k default) (ts.getD k [])] := by
  unfold rsTo; rw [List.range_succ, List.map_append]; rfl
theorem rsTo_len (l : List Paper) (ts : List (List Int)) (k : Nat) : (rsTo l ts k).length = k := by simp [rsTo]
theorem rsTo_get (l : List Paper) (ts : List (List Int)) {k i : Nat} (h : i < k) : (rsTo l ts k).getD i 0 = resultOf (l.getD i default) (ts.getD i []) := by simp [rsTo, List.getD, h]
def goodR (l : List Paper) (ts : List (List Int)) (j : Nat) : Prop := readyM (l.getD j default) = true ∧ (ts.getD j []).length ≤ 20 ∧ isPossible (l.getD j default) (ts.getD j []) = true
theorem good_range {p : Paper} {t : List Int} (hr : readyM p = true) (ht : isPossible p t = true) : rangeM p = ((openM p).res, 0) ∧ (openM p).res.1 ≤ resultOf p t ∧ resultOf p t ≤ (openM p).res.2 := by
  have hv := (ready_valid hr).1
  have hV := valid_of hv
  have hp : (openM p).poss = true := (open_poss hV).2 ⟨t, ht⟩
  have hk : knownE p true = 0 := by rw [known_true hv, hp]; rfl
  refine ⟨by unfold rangeM; rw [if_pos hk], open_res_in hV ht⟩
theorem ranked_facts {l : List Paper} {ts : List (List Int)} (hl : l.length ≤ 3) (hg : ∀ j, j < l.length → goodR l ts j) :
    ∃ L : List (Int × Int), ranksM l = (L, 0) ∧ L.length = l.length ∧
      (∀ i, i < l.length → 1 ≤ (L.getD i (0, 0)).1 ∧ (L.getD i (0, 0)).2 ≤ l.length ∧ (L.getD i (0, 0)).1 ≤ rkR (rsTo l ts l.length) i l.length ∧ rkR (rsTo l ts l.length) i l.length ≤ (L.getD i (0, 0)).2) ∧
      (∀ i, i < l.length → (rangeM (l.getD i default)).2 = 0) ∧
      ∀ i k, i < l.length → k < l.length → (rangeM (l.getD k default)).1.2 < (rangeM (l.getD i default)).1.1 → (L.getD i (0, 0)).1 < (L.getD k (0, 0)).1 ∧ (L.getD i (0, 0)).2 < (L.getD k (0, 0)).2 := by
  have h0 : ∀ i, i < l.length → (rangeM (l.getD i default)).2 = 0 := fun i hi => by rw [(good_range (hg i hi).1 (hg i hi).2.2).1]
  have hR : ∀ j, j < l.length → ((resTo l l.length).getD j (0, 0)).1 ≤ (rsTo l ts l.length).getD j 0 ∧ (rsTo l ts l.length).getD j 0 ≤ ((resTo l l.length).getD j (0, 0)).2 := fun j hj => by
    have h1 := good_range (hg j hj).1 (hg j hj).2.2
    rw [resTo_get l hj, rsTo_get l ts hj, h1.1]
    exact h1.2
  have hle : ∀ j, j < l.length → ((resTo l l.length).getD j (0, 0)).1 ≤ ((resTo l l.length).getD j (0, 0)).2 := fun j hj => by have := hR j hj; omega
  have hget := fun k (hk : k < l.length) => resTo_get l hk
  have hlen := resTo_len l
  refine ⟨rkTo (resTo l l.length) l.length, ranksM_ok (by omega) h0, rkTo_len _ _, fun i hi => ?_, h0, fun i k hi hk hlt => ?_⟩
  · rw [rkTo_get _ hi]
    simp only [hlen]
    have a := (rkLo_bd (resTo l l.length) i l.length).1
    have b := rkHi_top (R := resTo l l.length) (i := i) l.length
    rw [if_pos hi] at b
    exact ⟨a, b, rkLo_le l.length hR hi _ (Nat.le_refl _), rkHi_ge l.length hR hi _ (Nat.le_refl _)⟩
  · rw [rkTo_get _ hi, rkTo_get _ hk]
    simp only [hlen]
    rw [← hget i hi, ← hget k hk] at hlt
    have a := (rkLo_lt (hle i hi) hlt l.length).1 hi
    have b := (rkHi_lt (hle i hi) (hle k hk) hlt l.length).1 hi
    exact ⟨by omega, by omega⟩
end Go.Proofs.Ytbpilgflejdhaaa
