/- Turns: what Hands finds. No program in sight. -/
import Derived.Test.YtomkjfhepfinhaaTuZk
import Derived.Test.YtomkjfhepfinhaaTuZn
set_option linter.unusedSimpArgs false
set_option linter.unusedVariables false
namespace Go.Proofs.Ytomkjfhepfinhaa
open Go.RowKit

theorem lower_trans : ∀ {a b c : List Int}, a.length = b.length → b.length = c.length → lowerL a b = true → lowerL b c = true → lowerL a c = true
  | [], _, _, _, _, h, _ => by simp [lowerL] at h
  | _ :: _, [], _, h, _, _, _ => by simp at h
  | _ :: _, _ :: _, [], _, h, _, _ => by simp at h
  | x :: xs, y :: ys, z :: zs, h1, h2, h3, h4 => by
    rw [lowerL] at h3 h4 ⊢
    by_cases e1 : x = y
    · rw [if_pos e1] at h3
      by_cases e2 : y = z
      · rw [if_pos e2] at h4
        rw [if_pos (e1.trans e2)]
        exact lower_trans (by simpa using h1) (by simpa using h2) h3 h4
      · rw [if_neg e2] at h4
        rw [if_neg (by rw [e1]; exact e2), e1]; exact h4
    · rw [if_neg e1] at h3
      have h3' := of_decide_eq_true h3
      by_cases e2 : y = z
      · subst e2; rw [if_neg e1]; exact h3
      · rw [if_neg e2] at h4
        have h4' := of_decide_eq_true h4
        rw [if_neg (by omega)]
        exact decide_eq_true (by omega)
/-- One set is better than another. -/
def Beats (L : List Int) (w : Int) (b : List Int) (f : Int) : Prop := L.length < b.length ∨ (L.length = b.length ∧ (w < f ∨ (w = f ∧ lowerL L b = true)))
theorem beats_iff {L b : List Int} {w f : Int} : betterP L w (some (b, f)) = true ↔ Beats L w b f := by
  unfold Beats
  by_cases h1 : L.length < b.length
  · rw [better_lt h1]; exact ⟨fun _ => .inl h1, fun _ => rfl⟩
  by_cases h2 : b.length < L.length
  · rw [better_gt h2]
    constructor
    · intro h; cases h
    · rintro (h | h) <;> omega
  have h3 : b.length = L.length := by omega
  by_cases e : w = f
  · rw [better_eq h3 e, decide_eq_true_eq, cmpL_lower h3.symm]
    constructor
    · intro h; exact .inr ⟨h3.symm, .inr ⟨e, h⟩⟩
    · rintro (h | ⟨_, h | h⟩)
      · omega
      · omega
      · exact h.2
  · rw [better_ne h3 e, decide_eq_true_eq]
    constructor
    · intro h; exact .inr ⟨h3.symm, .inl h⟩
    · rintro (h | ⟨_, h | h⟩)
      · omega
      · exact h
      · exact absurd h.1 e
theorem beats_trans {a b c : List Int} {x y z : Int} (h1 : Beats a x b y) (h2 : Beats b y c z) : Beats a x c z := by
  unfold Beats at *
  rcases h1 with h1 | ⟨e1, h1⟩
  · rcases h2 with h2 | ⟨e2, h2⟩
    · exact .inl (by omega)
    · exact .inl (by omega)
  · rcases h2 with h2 | ⟨e2, h2⟩
    · exact .inl (by omega)
    · refine .inr ⟨by omega, ?_⟩
      rcases h1 with h1 | ⟨f1, h1⟩
      · rcases h2 with h2 | ⟨f2, h2⟩ <;> exact .inl (by omega)
      · rcases h2 with h2 | ⟨f2, h2⟩
        · exact .inl (by omega)
        · exact .inr ⟨by omega, lower_trans e1 e2 h1 h2⟩
theorem beats_irr {a : List Int} {x : Int} : ¬ Beats a x a x := by
  unfold Beats
  rintro (h | ⟨_, h | h⟩)
  · omega
  · omega
  · rw [lower_self] at h; exact Bool.noConfusion h.2
/-- What has been found among the first sets. -/
def HandsI (t : Task) (most : Int) (i : Nat) : PSt → Prop
  | none => ∀ s, s < i → ∀ r w, planS t (setL t.hands.length s) = some (r, w) → most < w
  | some (b, f) => f ≤ most ∧ (∃ s r, s < i ∧ b = setL t.hands.length s ∧ planS t b = some (r, f)) ∧ ∀ s, s < i → ∀ r w, planS t (setL t.hands.length s) = some (r, w) → w ≤ most → ¬ Beats (setL t.hands.length s) w b f
theorem hS_in (t : Task) (most : Int) : ∀ i, HandsI t most i (hS t most i)
  | 0 => fun s hs => absurd hs (Nat.not_lt_zero s)
  | i + 1 => by
    have ih := hS_in t most i
    rw [hS]
    generalize hS t most i = st at ih
    rcases hp : planS t (setL t.hands.length i) with _ | ⟨r0, w0⟩
    · rw [hstep_none hp]
      rcases st with _ | ⟨b, f⟩
      · intro s hs r w e
        rcases Nat.lt_succ_iff_lt_or_eq.1 hs with a | rfl
        · exact ih s a r w e
        · rw [hp] at e; cases e
      · obtain ⟨h1, ⟨s0, r1, h2, h3⟩, h4⟩ := ih
        refine ⟨h1, ⟨s0, r1, by omega, h3⟩, fun s hs r w e => ?_⟩
        rcases Nat.lt_succ_iff_lt_or_eq.1 hs with a | rfl
        · exact h4 s a r w e
        · rw [hp] at e; cases e
    · by_cases hw : w0 ≤ most
      case neg =>
        rw [hstep_big hp hw]
        rcases st with _ | ⟨b, f⟩
        · intro s hs r w e
          rcases Nat.lt_succ_iff_lt_or_eq.1 hs with a | rfl
          · exact ih s a r w e
          · rw [hp] at e; cases e; omega
        · obtain ⟨h1, ⟨s0, r1, h2, h3⟩, h4⟩ := ih
          refine ⟨h1, ⟨s0, r1, by omega, h3⟩, fun s hs r w e hle => ?_⟩
          rcases Nat.lt_succ_iff_lt_or_eq.1 hs with a | rfl
          · exact h4 s a r w e hle
          · rw [hp] at e; cases e; exact absurd hle hw
      rcases st with _ | ⟨b, f⟩
      · rw [hstep_yes hp hw rfl]
        refine ⟨hw, ⟨i, r0, by omega, rfl, hp⟩, fun s hs r w e hle => ?_⟩
        rcases Nat.lt_succ_iff_lt_or_eq.1 hs with a | rfl
        · have := ih s a r w e; omega
        · rw [hp] at e; cases e; exact beats_irr
      · obtain ⟨h1, ⟨s0, r1, h2, h3⟩, h4⟩ := ih
        by_cases hb : betterP (setL t.hands.length i) w0 (some (b, f)) = true
        · rw [hstep_yes hp hw hb]
          have hb' := beats_iff.1 hb
          refine ⟨hw, ⟨i, r0, by omega, rfl, hp⟩, fun s hs r w e hle hB => ?_⟩
          rcases Nat.lt_succ_iff_lt_or_eq.1 hs with a | rfl
          · exact h4 s a r w e hle (beats_trans hB hb')
          · rw [hp] at e; cases e; exact beats_irr hB
        · rw [hstep_no hp (by simpa using hb)]
          refine ⟨h1, ⟨s0, r1, by omega, h3⟩, fun s hs r w e hle => ?_⟩
          rcases Nat.lt_succ_iff_lt_or_eq.1 hs with a | rfl
          · exact h4 s a r w e hle
          · rw [hp] at e; cases e; exact fun hB => hb (beats_iff.2 hB)
theorem setL_sorted (n s : Nat) : (setL n s).Pairwise (· < ·) := (allL_sorted n).filter _
theorem sorted_inj {l : List Int} (h : l.Pairwise (· < ·)) {i j : Nat} (hi : i < l.length) (hj : j < l.length) (e : l.getD i 0 = l.getD j 0) : i = j := by
  rw [List.pairwise_iff_getElem] at h
  simp only [List.getD, List.getElem?_eq_getElem hi, List.getElem?_eq_getElem hj, Option.getD_some] at e
  rcases Nat.lt_trichotomy i j with a | a | a
  · have := h i j hi hj a; omega
  · exact a
  · have := h j i hj hi a; omega
theorem setL_sub {t : Task} {s : Nat} (k : TaskOk t) (h : 0 < (setL t.hands.length s).length) : SubL t (setL t.hands.length s) :=
  ⟨⟨h, by have := setL_len t.hands.length s; have := k.hn; omega⟩, setL_in _ _, fun _ _ hi hj e => sorted_inj (setL_sorted _ _) hi hj e⟩
theorem plan_nil {t : Task} (k : TaskOk t) : planS t [] = none := by
  rcases planS_spec (t := t) (hands := []) k (fun h hh => by cases hh) List.Pairwise.nil with ⟨a, _⟩ | ⟨r, _, b, _⟩
  · exact a
  · have hp := k.pn
    rw [every_mem] at b
    have := (b.2.2 0 (Nat.zero_le _) (by have := b.1; simp at this; omega)).1
    cases this
end Go.Proofs.Ytomkjfhepfinhaa
