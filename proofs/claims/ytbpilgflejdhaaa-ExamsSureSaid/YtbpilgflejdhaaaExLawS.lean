/- Exams: the plain law of what is sure. -/
import Derived.Test.YtbpilgflejdhaaaExLawG
namespace Go.Proofs.Ytbpilgflejdhaaa
theorem ptTo_in (S : Surv) (i n : Nat) (h : (S.it i n).1 ≤ (S.it i n).2) : ∀ k, n < k → (ptTo S i k).1 ≤ (n : Int) ∧ (n : Int) ≤ (ptTo S i k).2
  | 0, hk => absurd hk (by omega)
  | k + 1, hk => by
    unfold ptTo
    by_cases hn : n = k
    · subst hn
      rw [if_pos h]
      simp only [addS]
      omega
    · have := ptTo_in S i n h k (by omega)
      split
      · simp only [addS]
        omega
      · exact this
theorem points_in {p : Paper} (hV : Valid p) {t : List Int} (h : isPossible p t = true) (k : Nat) (hk : k < t.length) :
    wi (t.getD k 0) ((ptsTo (openM p) p.items.length).getD k (0, 0)).1 ((ptsTo (openM p) p.items.length).getD k (0, 0)).2 = true := by
  have ht := isTruth_iff.1 (possible_truth h)
  have hi : k < p.items.length := by omega
  have h1 := ht.2 k hk
  have h2 := hV.it k hi
  have h3 := open_it_in hV hi h
  rw [ptsTo_get _ _ _ hi]
  have h4 := ptTo_in (openM p) k (t.getD k 0).toNat (by omega) 31 (by omega)
  refine wi_of ?_
  omega
theorem blame_in {R : List Bool} {n : Int} {k : Nat} (h : n ∈ blameTo R k) : ∃ j : Nat, n = j ∧ j < k ∧ R.getD j false = false := by
  unfold blameTo at h
  obtain ⟨j, hj, rfl⟩ := List.mem_map.1 h
  rw [List.mem_filter, List.mem_range] at hj
  refine ⟨j, rfl, hj.1, ?_⟩
  have := hj.2
  cases hq : R.getD j false
  · rfl
  · rw [hq] at this; cases this
/-- A judge of Blame is right in no possible truth. -/
theorem blame_not_right {p : Paper} (hV : Valid p) {t : List Int} (h : isPossible p t = true) (j : Nat) (hj : j < p.judges.length) (hb : (j : Int) ∈ blameTo (openM p).right p.judges.length) : isRight (p.judges.getD j default) t = false := by
  obtain ⟨j', h1, _, h3⟩ := blame_in hb
  have hjj : j = j' := by omega
  subst hjj
  cases hq : isRight (p.judges.getD j default) t
  · rfl
  · have := (open_right hV hj).2 ⟨t, h, hq⟩
    rw [h3] at this
    cases this
end Go.Proofs.Ytbpilgflejdhaaa
