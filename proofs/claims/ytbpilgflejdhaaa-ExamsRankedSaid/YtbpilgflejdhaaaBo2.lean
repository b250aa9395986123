/- Exams: ExamsRanked. / Exams: how lists of papers and of truths read. -/
import Derived.Test.YtbpilgflejdhaaaBo1
import Derived.Test.YtbpilgflejdhaaaBm12
set_option linter.unusedSimpArgs false
set_option linter.unusedVariables false
namespace Go.Proofs.Ytbpilgflejdhaaa
open Go.RowKit

abbrev aRowsX (z e : Bool) (rz re : Nat → Bool) (l : List (List Int)) : AV := .sl z e l.length 1 (fun k _ => aInts (rz k) (re k) (l.getD k []))
abbrev rowRs (n : Nat) (rs : List Int) : AB := .row n 1 (fun k _ => AI (rs.getD k 0))
theorem rkR_up (rs : List Int) (i k : Nat) : rkR rs i (k + 1) = if rs.getD i 0 < rs.getD k 0 then rkR rs i k + 1 else rkR rs i k := rfl
set_option maxHeartbeats 8000000
set_option maxRecDepth 100000
theorem inside_yes (n a b : Int) (h1 : a ≤ n) (h2 : n ≤ b) : ACall Try.prog 31 [AI n, .agg 2 (ofL [AI a, AI b])] [] (fun r h => r = .bool true ∧ h = []) := by
  (refine fcall_of mixed Try.func31 rfl (by decide) (hs := {}) ?k (ac := ?ac) ?c (rs := ?rs) ?r ?l ?H; (case k => kernel_rfl); (case c => (conv => (lhs; cbv))); (case r => (conv => (lhs; cbv))); (case l => exact Nat.le_of_ble_eq_true rfl))
  (repeat' ((try (conv => whnf)); first | (with_reducible first | refine FCond.tA ?_ | refine FCond.fA ?_) | ((with_reducible refine FCond.i (fun hq => ?_) (fun hq => ?_)) <;> (try simp only [zA, zE, zD, zJ, zB, zI, Int.not_le, Int.not_lt] at hq)) | (with_reducible first | refine Fits.in64 (by omega) ?_ | refine FIdx.nat (by omega) ?_ | refine FIdx.int (by omega) ?_ | refine FTo.nat (by omega) ?_ | refine FTo.int (by omega) ?_) | ((with_reducible refine Need.mk ?_ ?_); focus exact needA) | (with_reducible refine FApp.grow ?_) | (with_reducible refine FOr.pub ?_)))
  all_goals (try (conv => whnf))
  all_goals ((refine ⟨⟨_, [], [], Cut.nil _, Ln.sameB _ rfl, ?_, rfl⟩⟩); first | rfl | rw [decide_eq_true h2])
theorem rankedX_any (z e : Bool) (fs : Nat → PaF) (l : List Paper) (hs : ∀ k, k < l.length → Sized (l.getD k default)) (z2 e2 : Bool) (rz re : Nat → Bool) (ts : List (List Int)) (ht : ∀ k, k < ts.length → (ts.getD k []).length ≤ 9223372036854775807) :
    ACall Try.prog 11 [aPapers z e fs l, aRowsX z2 e2 rz re ts] [] (fun r h => r = .bool true ∧ h = []) := by
  (refine fcall_of mixed Try.func11 rfl (by decide) (hs := { pub := [10] }) ?k (ac := ?ac) ?c (rs := ?rs) ?r ?l ?H; (case k => kernel_rfl); (case c => (conv => (lhs; cbv))); (case r => (conv => (lhs; cbv))); (case l => exact Nat.le_of_ble_eq_true rfl))
  by_cases hc : l.length ≤ 3 ∧ ts.length = l.length
  · obtain ⟨h3, hl2⟩ := hc
    obtain ⟨rs, hrs⟩ : ∃ rs, rs = rsTo l ts l.length := ⟨_, rfl⟩
    have hget : ∀ k, k < l.length → rs.getD k 0 = resultOf (l.getD k default) (ts.getD k []) := fun k hk => by rw [hrs]; exact rsTo_get l ts hk
    (repeat' ((try (conv => whnf)); first | (with_reducible first | refine FCond.tA ?_ | refine FCond.fA ?_) | ((with_reducible refine FCond.i (fun hq => ?_) (fun hq => ?_)) <;> (try simp only [zA, zE, zD, zJ, zB, zI, Int.not_le, Int.not_lt] at hq)) | (with_reducible first | refine Fits.in64 (by omega) ?_ | refine FIdx.nat (by omega) ?_ | refine FIdx.int (by omega) ?_ | refine FTo.nat (by omega) ?_ | refine FTo.int (by omega) ?_) | ((with_reducible refine Need.mk ?_ ?_); focus exact needA) | (with_reducible refine FApp.grow ?_) | (with_reducible refine FOr.pub ?_)))
    all_goals (try (conv => whnf))
    refine FLoop.of (ACalls.mono _) (X := Nat) (fun i => [(0, aPapers z e fs l), (1, aRowsX z2 e2 rz re ts), (5, match i with | 0 => nilS | i + 1 => .own 0 (i + 1)), (6, AI i)]) (fun i => match i with
      | 0 => []
      | i + 1 => [rowRs (i + 1) rs]) (fun i => i ≤ l.length ∧ ∀ j, j < i → goodR l ts j) (fun i => l.length - i) 0 ⟨⟨Nat.zero_le _, fun j h => absurd h (Nat.not_lt_zero j)⟩, [], Cut.A, allA⟩ ?_
    intro i hx
    obtain ⟨hi, hg⟩ := hx
    by_cases hlt : i < l.length
    · have c1 := ready_ab (f := fs i) (hs i hlt)
      cases hr : readyM (l.getD i default)
      · rw [hr] at c1
        rcases i with _ | i
        all_goals
          (repeat' ((try (conv => whnf)); first | (with_reducible first | refine FCond.t rfl ?_ | refine FCond.f rfl ?_) | ((with_reducible refine FCond.uT (fun hq => ?_)); rw [hq]; (with_reducible refine FCond.t rfl ?_); clear hq) | ((with_reducible refine FCond.uF (fun hq => ?_)); rw [hq]; (with_reducible refine FCond.f rfl ?_); clear hq) | ((with_reducible refine FCond.i2 (fun hq => ?_) (fun hq => ?_)) <;> (rw [hq]; (with_reducible first | refine FCond.t rfl ?_ | refine FCond.f rfl ?_); (try simp only [zA, zE, zD, zJ, zB, zI, Int.not_le, Int.not_lt] at hq))) | (with_reducible first | refine Fits.in64 (by omega) ?_ | refine FIdx.nat (by omega) ?_ | refine FIdx.int (by omega) ?_ | refine FTo.nat (by omega) ?_ | refine FTo.int (by omega) ?_) | ((with_reducible refine Need.mk ?_ ?_); focus exact needA) | (with_reducible refine FApp.grow ?_) | (refine FCall.pure (c1) ⟨Ln.sameB _ rfl, True.intro⟩ rfl ?_) | (refine FCall.pure works_ab True.intro rfl ?_) | (with_reducible refine FOr.pub ?_)))
          all_goals (try (conv => whnf))
          all_goals first
            | ((refine ⟨⟨_, [], [], Cut.nil _, Ln.sameB _ rfl, ?_, rfl⟩⟩); rfl)
            | (exfalso; omega)
      · rw [hr] at c1
        have hv := valid_of (ready_valid hr).1
        have c2 := possible_ab (f := fs i) (z := rz i) (e := re i) (t := ts.getD i []) (hs i hlt) hv (ht i (by omega))
        cases hp : isPossible (l.getD i default) (ts.getD i [])
        · rw [hp] at c2
          rcases i with _ | i
          all_goals
            (repeat' ((try (conv => whnf)); first | (with_reducible first | refine FCond.t rfl ?_ | refine FCond.f rfl ?_) | ((with_reducible refine FCond.uT (fun hq => ?_)); rw [hq]; (with_reducible refine FCond.t rfl ?_); clear hq) | ((with_reducible refine FCond.uF (fun hq => ?_)); rw [hq]; (with_reducible refine FCond.f rfl ?_); clear hq) | ((with_reducible refine FCond.i2 (fun hq => ?_) (fun hq => ?_)) <;> (rw [hq]; (with_reducible first | refine FCond.t rfl ?_ | refine FCond.f rfl ?_); (try simp only [zA, zE, zD, zJ, zB, zI, Int.not_le, Int.not_lt] at hq))) | (with_reducible first | refine Fits.in64 (by omega) ?_ | refine FIdx.nat (by omega) ?_ | refine FIdx.int (by omega) ?_ | refine FTo.nat (by omega) ?_ | refine FTo.int (by omega) ?_) | ((with_reducible refine Need.mk ?_ ?_); focus exact needA) | (with_reducible refine FApp.grow ?_) | (refine FCall.pure (c1) ⟨Ln.sameB _ rfl, True.intro⟩ rfl ?_) | (refine FCall.pure (c2) ⟨Ln.sameB _ rfl, Ln.sameB _ rfl, True.intro⟩ rfl ?_) | (refine FCall.pure works_ab True.intro rfl ?_) | (with_reducible refine FOr.pub ?_)))
            all_goals (try (conv => whnf))
            all_goals first
              | ((refine ⟨⟨_, [], [], Cut.nil _, Ln.sameB _ rfl, ?_, rfl⟩⟩); rfl)
              | (exfalso; omega)
        · rw [hp] at c2
          have c3 := result_ab (f := fs i) (z := rz i) (e := re i) (hs i hlt) hv hp
          have eg := hget i hlt
          have hgood : (ts.getD i []).length ≤ 20 → ∀ j, j < i + 1 → goodR l ts j := fun h20 j hj => by
            by_cases e : j = i
            · subst e; exact ⟨hr, h20, hp⟩
            · exact hg j (by omega)
          rcases i with _ | i
          · (repeat' ((try (conv => whnf)); first | (with_reducible first | refine FCond.t rfl ?_ | refine FCond.f rfl ?_) | ((with_reducible refine FCond.uT (fun hq => ?_)); rw [hq]; (with_reducible refine FCond.t rfl ?_); clear hq) | ((with_reducible refine FCond.uF (fun hq => ?_)); rw [hq]; (with_reducible refine FCond.f rfl ?_); clear hq) | ((with_reducible refine FCond.i2 (fun hq => ?_) (fun hq => ?_)) <;> (rw [hq]; (with_reducible first | refine FCond.t rfl ?_ | refine FCond.f rfl ?_); (try simp only [zA, zE, zD, zJ, zB, zI, Int.not_le, Int.not_lt] at hq))) | (with_reducible first | refine Fits.in64 (by omega) ?_ | refine FIdx.nat (by omega) ?_ | refine FIdx.int (by omega) ?_ | refine FTo.nat (by omega) ?_ | refine FTo.int (by omega) ?_) | ((with_reducible refine Need.mk ?_ ?_); focus exact needA) | (with_reducible refine FApp.grow ?_) | (refine FCall.pure (c1) ⟨Ln.sameB _ rfl, True.intro⟩ rfl ?_) | (refine FCall.pure (c2) ⟨Ln.sameB _ rfl, Ln.sameB _ rfl, True.intro⟩ rfl ?_) | (refine FCall.pure (c3) ⟨Ln.sameB _ rfl, Ln.sameB _ rfl, True.intro⟩ rfl ?_) | (refine FCall.pure works_ab True.intro rfl ?_) | (with_reducible refine FOr.pub ?_)))
            all_goals (try (conv => whnf))
            all_goals first
              | ((refine ⟨⟨_, [], [], Cut.nil _, Ln.sameB _ rfl, ?_, rfl⟩⟩); rfl)
              | (exfalso; omega)
              | (exact ⟨⟨(0 + 1), ⟨hlt, hgood (by omega)⟩, by show _ < _; omega, [0], (by (refine Cut.of (Nat.le_of_ble_eq_true rfl) rfl rfl ?_; repeat (first | exact CutL.done | (refine CutL.turned rfl (by first | exact LnB.rowS | exact LnB.app (fun k hk => absurd hk (Nat.not_lt_zero k)) (fun o ho => by show AI (rs.getD 0 0) = _; rw [eg]; rfl) | exact LnB.A) ?_) | (refine CutL.gone (Nat.lt_of_lt_of_le (Nat.lt_succ_self _) (Nat.le_of_ble_eq_true rfl)) ?_)))), allA⟩⟩)
          · (repeat' ((try (conv => whnf)); first | (with_reducible first | refine FCond.t rfl ?_ | refine FCond.f rfl ?_) | ((with_reducible refine FCond.uT (fun hq => ?_)); rw [hq]; (with_reducible refine FCond.t rfl ?_); clear hq) | ((with_reducible refine FCond.uF (fun hq => ?_)); rw [hq]; (with_reducible refine FCond.f rfl ?_); clear hq) | ((with_reducible refine FCond.i2 (fun hq => ?_) (fun hq => ?_)) <;> (rw [hq]; (with_reducible first | refine FCond.t rfl ?_ | refine FCond.f rfl ?_); (try simp only [zA, zE, zD, zJ, zB, zI, Int.not_le, Int.not_lt] at hq))) | (with_reducible first | refine Fits.in64 (by omega) ?_ | refine FIdx.nat (by omega) ?_ | refine FIdx.int (by omega) ?_ | refine FTo.nat (by omega) ?_ | refine FTo.int (by omega) ?_) | ((with_reducible refine Need.mk ?_ ?_); focus exact needA) | (with_reducible refine FApp.grow ?_) | (refine FCall.pure (c1) ⟨Ln.sameB _ rfl, True.intro⟩ rfl ?_) | (refine FCall.pure (c2) ⟨Ln.sameB _ rfl, Ln.sameB _ rfl, True.intro⟩ rfl ?_) | (refine FCall.pure (c3) ⟨Ln.sameB _ rfl, Ln.sameB _ rfl, True.intro⟩ rfl ?_) | (refine FCall.pure works_ab True.intro rfl ?_) | (with_reducible refine FOr.pub ?_)))
            all_goals (try (conv => whnf))
            all_goals first
              | ((refine ⟨⟨_, [], [], Cut.nil _, Ln.sameB _ rfl, ?_, rfl⟩⟩); rfl)
              | (exfalso; omega)
              | (exact ⟨⟨(i + 1 + 1), ⟨hlt, hgood (by omega)⟩, by show _ < _; omega, [1], (by (refine Cut.of (Nat.le_of_ble_eq_true rfl) rfl rfl ?_; repeat (first | exact CutL.done | (refine CutL.turned rfl (by first | exact LnB.rowS | exact LnB.app (fun _ _ _ _ => rfl) (fun o ho => by show AI (rs.getD (i + 1) 0) = _; rw [eg]; rfl) | exact LnB.A) ?_) | (refine CutL.gone (Nat.lt_of_lt_of_le (Nat.lt_succ_self _) (Nat.le_of_ble_eq_true rfl)) ?_)))), allA⟩⟩)
    · have hgl : ∀ j, j < l.length → goodR l ts j := fun j hj => hg j (by omega)
      apply cutG
      · intro rest
        rcases i with _ | i
        · (repeat' ((try (conv => whnf)); first | (with_reducible first | refine FCond.t rfl ?_ | refine FCond.f rfl ?_) | ((with_reducible refine FCond.uT (fun hq => ?_)); rw [hq]; (with_reducible refine FCond.t rfl ?_); clear hq) | ((with_reducible refine FCond.uF (fun hq => ?_)); rw [hq]; (with_reducible refine FCond.f rfl ?_); clear hq) | ((with_reducible refine FCond.i2 (fun hq => ?_) (fun hq => ?_)) <;> (rw [hq]; (with_reducible first | refine FCond.t rfl ?_ | refine FCond.f rfl ?_); (try simp only [zA, zE, zD, zJ, zB, zI, Int.not_le, Int.not_lt] at hq))) | (with_reducible first | refine Fits.in64 (by omega) ?_ | refine FIdx.nat (by omega) ?_ | refine FIdx.int (by omega) ?_ | refine FTo.nat (by omega) ?_ | refine FTo.int (by omega) ?_) | ((with_reducible refine Need.mk ?_ ?_); focus exact needA) | (with_reducible refine FApp.grow ?_) | (with_reducible refine FOr.pub ?_)))
          all_goals (try (conv => whnf))
          all_goals first
            | (exfalso; omega)
            | exact FWk.of [(0, aPapers z e fs l), (5, .sl (decide (l.length = 0)) (decide (l.length = 0)) l.length 1 (fun k _ => AI (rs.getD k 0)))] [] [] (Cut.nil _) ⟨Ln.A, Ln.nilE (by omega), True.intro⟩ rest.h
        · (repeat' ((try (conv => whnf)); first | (with_reducible first | refine FCond.t rfl ?_ | refine FCond.f rfl ?_) | ((with_reducible refine FCond.uT (fun hq => ?_)); rw [hq]; (with_reducible refine FCond.t rfl ?_); clear hq) | ((with_reducible refine FCond.uF (fun hq => ?_)); rw [hq]; (with_reducible refine FCond.f rfl ?_); clear hq) | ((with_reducible refine FCond.i2 (fun hq => ?_) (fun hq => ?_)) <;> (rw [hq]; (with_reducible first | refine FCond.t rfl ?_ | refine FCond.f rfl ?_); (try simp only [zA, zE, zD, zJ, zB, zI, Int.not_le, Int.not_lt] at hq))) | (with_reducible first | refine Fits.in64 (by omega) ?_ | refine FIdx.nat (by omega) ?_ | refine FIdx.int (by omega) ?_ | refine FTo.nat (by omega) ?_ | refine FTo.int (by omega) ?_) | ((with_reducible refine Need.mk ?_ ?_); focus exact needA) | (with_reducible refine FApp.grow ?_) | (with_reducible refine FOr.pub ?_)))
          all_goals (try (conv => whnf))
          all_goals first
            | (exfalso; omega)
            | exact FWk.of [(0, aPapers z e fs l), (5, .sl (decide (l.length = 0)) (decide (l.length = 0)) l.length 1 (fun k _ => AI (rs.getD k 0)))] [] [] (Cut.nil _) ⟨Ln.A, Ln.ownE0 (by omega) (goneB rfl) rfl (Nat.le_refl _) (by omega) (fun _ _ _ _ => rfl), True.intro⟩ rest.h
      (try (conv => whnf))
      obtain ⟨L, hL, hLl, hA, h00, hB⟩ := ranked_facts h3 hgl
      have c4 := ranks_ab (z := z) (e := e) (fs := fs) h3 hs h00
      rw [show rkTo (resTo l l.length) l.length = L from by have q := ranksM_ok (l := l) (by omega) h00; rw [hL] at q; injection q with a b; exact a.symm] at c4
      rw [← hrs] at hA
      have hbd := fun i (k : Nat) => rkR_bd rs i k
      clear hL hgl hg hlt hi i hrs
      (repeat' ((try (conv => whnf)); first | (with_reducible first | refine FCond.t rfl ?_ | refine FCond.f rfl ?_) | ((with_reducible refine FCond.uT (fun hq => ?_)); rw [hq]; (with_reducible refine FCond.t rfl ?_); clear hq) | ((with_reducible refine FCond.uF (fun hq => ?_)); rw [hq]; (with_reducible refine FCond.f rfl ?_); clear hq) | ((with_reducible refine FCond.i2 (fun hq => ?_) (fun hq => ?_)) <;> (rw [hq]; (with_reducible first | refine FCond.t rfl ?_ | refine FCond.f rfl ?_); (try simp only [zA, zE, zD, zJ, zB, zI, Int.not_le, Int.not_lt] at hq))) | (with_reducible first | refine Fits.in64 (by omega) ?_ | refine FIdx.nat (by omega) ?_ | refine FIdx.int (by omega) ?_ | refine FTo.nat (by omega) ?_ | refine FTo.int (by omega) ?_) | ((with_reducible refine Need.mk ?_ ?_); focus exact needA) | (with_reducible refine FApp.grow ?_) | (refine FCall.pure (c4) ⟨Ln.sameB _ rfl, True.intro⟩ rfl ?_) | (with_reducible refine FOr.pub ?_)))
      all_goals (try (conv => whnf))
      all_goals first
        | (exfalso; omega)
        | skip
      refine FLoop.of (ACalls.mono _) (X := Nat) (fun i => [(0, aPapers z e fs l), (5, .sl (decide (l.length = 0)) (decide (l.length = 0)) l.length 1 (fun k _ => AI (rs.getD k 0))), (7, .sl (decide (l.length = 0)) (decide (l.length = 0)) L.length 2 (spL L)), (9, AI i)]) (fun _ => []) (fun i => i ≤ l.length) (fun i => l.length - i) 0 ⟨Nat.zero_le _, [], Cut.A, allA⟩ ?_
      intro i hi
      by_cases hlt : i < l.length
      · obtain ⟨a1, a2, a3, a4⟩ := hA i hlt
        (repeat' ((try (conv => whnf)); first | (with_reducible first | refine FCond.t rfl ?_ | refine FCond.f rfl ?_) | ((with_reducible refine FCond.uT (fun hq => ?_)); rw [hq]; (with_reducible refine FCond.t rfl ?_); clear hq) | ((with_reducible refine FCond.uF (fun hq => ?_)); rw [hq]; (with_reducible refine FCond.f rfl ?_); clear hq) | ((with_reducible refine FCond.i2 (fun hq => ?_) (fun hq => ?_)) <;> (rw [hq]; (with_reducible first | refine FCond.t rfl ?_ | refine FCond.f rfl ?_); (try simp only [zA, zE, zD, zJ, zB, zI, Int.not_le, Int.not_lt] at hq))) | (with_reducible first | refine Fits.in64 (by omega) ?_ | refine FIdx.nat (by omega) ?_ | refine FIdx.int (by omega) ?_ | refine FTo.nat (by omega) ?_ | refine FTo.int (by omega) ?_) | ((with_reducible refine Need.mk ?_ ?_); focus exact needA) | (with_reducible refine FApp.grow ?_) | (with_reducible refine FOr.pub ?_)))
        all_goals (try (conv => whnf))
        refine FLoop.of (ACalls.mono _) (X := Nat × Int) (fun x => [(0, aPapers z e fs l), (5, .sl (decide (l.length = 0)) (decide (l.length = 0)) l.length 1 (fun k _ => AI (rs.getD k 0))), (7, .sl (decide (l.length = 0)) (decide (l.length = 0)) L.length 2 (spL L)), (9, AI i), (10, AI x.2), (11, AI x.1)]) (fun _ => []) (fun x => x.1 ≤ l.length ∧ x.2 = rkR rs i x.1) (fun x => l.length - x.1) (0, 1) ⟨⟨Nat.zero_le _, rfl⟩, [], Cut.A, allA⟩ ?_
        rintro ⟨k, q⟩ hx
        dsimp only
        obtain ⟨hk, e1⟩ : k ≤ l.length ∧ q = rkR rs i k := hx
        have b1 := hbd i k
        by_cases hlt3 : k < l.length
        · by_cases hX : rs.getD i 0 < rs.getD k 0
          · have eA : q + 1 = rkR rs i (k + 1) := by rw [rkR_up, if_pos hX, e1]
            (repeat' ((try (conv => whnf)); first | (with_reducible first | refine FCond.t rfl ?_ | refine FCond.f rfl ?_) | ((with_reducible refine FCond.uT (fun hq => ?_)); rw [hq]; (with_reducible refine FCond.t rfl ?_); clear hq) | ((with_reducible refine FCond.uF (fun hq => ?_)); rw [hq]; (with_reducible refine FCond.f rfl ?_); clear hq) | ((with_reducible refine FCond.i2 (fun hq => ?_) (fun hq => ?_)) <;> (rw [hq]; (with_reducible first | refine FCond.t rfl ?_ | refine FCond.f rfl ?_); (try simp only [zA, zE, zD, zJ, zB, zI, Int.not_le, Int.not_lt] at hq))) | (with_reducible first | refine Fits.in64 (by omega) ?_ | refine FIdx.nat (by omega) ?_ | refine FIdx.int (by omega) ?_ | refine FTo.nat (by omega) ?_ | refine FTo.int (by omega) ?_) | ((with_reducible refine Need.mk ?_ ?_); focus exact needA) | (with_reducible refine FApp.grow ?_) | (with_reducible refine FOr.pub ?_)))
            all_goals (try (conv => whnf))
            all_goals first
              | (exfalso; omega)
              | (exact ⟨⟨(k + 1, q + 1), ⟨hlt3, eA⟩, by show _ < _; omega, [], Cut.A, allA⟩⟩)
          · have eA : q = rkR rs i (k + 1) := by rw [rkR_up, if_neg hX, e1]
            (repeat' ((try (conv => whnf)); first | (with_reducible first | refine FCond.t rfl ?_ | refine FCond.f rfl ?_) | ((with_reducible refine FCond.uT (fun hq => ?_)); rw [hq]; (with_reducible refine FCond.t rfl ?_); clear hq) | ((with_reducible refine FCond.uF (fun hq => ?_)); rw [hq]; (with_reducible refine FCond.f rfl ?_); clear hq) | ((with_reducible refine FCond.i2 (fun hq => ?_) (fun hq => ?_)) <;> (rw [hq]; (with_reducible first | refine FCond.t rfl ?_ | refine FCond.f rfl ?_); (try simp only [zA, zE, zD, zJ, zB, zI, Int.not_le, Int.not_lt] at hq))) | (with_reducible first | refine Fits.in64 (by omega) ?_ | refine FIdx.nat (by omega) ?_ | refine FIdx.int (by omega) ?_ | refine FTo.nat (by omega) ?_ | refine FTo.int (by omega) ?_) | ((with_reducible refine Need.mk ?_ ?_); focus exact needA) | (with_reducible refine FApp.grow ?_) | (with_reducible refine FOr.pub ?_)))
            all_goals (try (conv => whnf))
            all_goals first
              | (exfalso; omega)
              | (exact ⟨⟨(k + 1, q), ⟨hlt3, eA⟩, by show _ < _; omega, [], Cut.A, allA⟩⟩)
        · obtain rfl : k = l.length := by omega
          rw [← e1] at a3 a4
          have cI := inside_yes q _ _ a3 a4
          clear e1 b1
          (repeat' ((try (conv => whnf)); first | (with_reducible first | refine FCond.t rfl ?_ | refine FCond.f rfl ?_) | ((with_reducible refine FCond.uT (fun hq => ?_)); rw [hq]; (with_reducible refine FCond.t rfl ?_); clear hq) | ((with_reducible refine FCond.uF (fun hq => ?_)); rw [hq]; (with_reducible refine FCond.f rfl ?_); clear hq) | ((with_reducible refine FCond.i2 (fun hq => ?_) (fun hq => ?_)) <;> (rw [hq]; (with_reducible first | refine FCond.t rfl ?_ | refine FCond.f rfl ?_); (try simp only [zA, zE, zD, zJ, zB, zI, Int.not_le, Int.not_lt] at hq))) | (with_reducible first | refine Fits.in64 (by omega) ?_ | refine FIdx.nat (by omega) ?_ | refine FIdx.int (by omega) ?_ | refine FTo.nat (by omega) ?_ | refine FTo.int (by omega) ?_) | ((with_reducible refine Need.mk ?_ ?_); focus exact needA) | (with_reducible refine FApp.grow ?_) | (refine FCall.pure (cI) ⟨Ln.sameB _ rfl, Ln.sameB _ rfl, True.intro⟩ rfl ?_) | (with_reducible refine FOr.pub ?_)))
          all_goals (try (conv => whnf))
          all_goals first
            | (exfalso; omega)
            | skip
          refine FLoop.of (ACalls.mono _) (X := Nat) (fun k => [(0, aPapers z e fs l), (5, .sl (decide (l.length = 0)) (decide (l.length = 0)) l.length 1 (fun k _ => AI (rs.getD k 0))), (7, .sl (decide (l.length = 0)) (decide (l.length = 0)) L.length 2 (spL L)), (9, AI i), (12, AI k)]) (fun _ => []) (fun k => k ≤ l.length) (fun k => l.length - k) 0 ⟨Nat.zero_le _, [], Cut.A, allA⟩ ?_
          intro k hk
          by_cases hlt4 : k < l.length
          · have c5 := range_ab (f := fs i) (hs i hlt)
            have c6 := range_ab (f := fs k) (hs k hlt4)
            have d5 := h00 i hlt
            have d6 := h00 k hlt4
            by_cases hX : (rangeM (l.getD k default)).1.2 < (rangeM (l.getD i default)).1.1
            · obtain ⟨x1, x2⟩ := hB i k hlt hlt4 hX
              (repeat' ((try (conv => whnf)); first | (with_reducible first | refine FCond.t rfl ?_ | refine FCond.f rfl ?_) | ((with_reducible refine FCond.uT (fun hq => ?_)); rw [hq]; (with_reducible refine FCond.t rfl ?_); clear hq) | ((with_reducible refine FCond.uF (fun hq => ?_)); rw [hq]; (with_reducible refine FCond.f rfl ?_); clear hq) | ((with_reducible refine FCond.i2 (fun hq => ?_) (fun hq => ?_)) <;> (rw [hq]; (with_reducible first | refine FCond.t rfl ?_ | refine FCond.f rfl ?_); (try simp only [zA, zE, zD, zJ, zB, zI, Int.not_le, Int.not_lt] at hq))) | (with_reducible first | refine Fits.in64 (by omega) ?_ | refine FIdx.nat (by omega) ?_ | refine FIdx.int (by omega) ?_ | refine FTo.nat (by omega) ?_ | refine FTo.int (by omega) ?_) | ((with_reducible refine Need.mk ?_ ?_); focus exact needA) | (with_reducible refine FApp.grow ?_) | (refine FCall.pure (c5) ⟨Ln.sameB _ rfl, True.intro⟩ rfl ?_) | (refine FCall.pure (c6) ⟨Ln.sameB _ rfl, True.intro⟩ rfl ?_) | (with_reducible refine FOr.pub ?_)))
              all_goals (try (conv => whnf))
              all_goals first
                | (exfalso; omega)
                | (exact ⟨⟨(k + 1), hlt4, by show _ < _; omega, [], Cut.A, allA⟩⟩)
            · (repeat' ((try (conv => whnf)); first | (with_reducible first | refine FCond.t rfl ?_ | refine FCond.f rfl ?_) | ((with_reducible refine FCond.uT (fun hq => ?_)); rw [hq]; (with_reducible refine FCond.t rfl ?_); clear hq) | ((with_reducible refine FCond.uF (fun hq => ?_)); rw [hq]; (with_reducible refine FCond.f rfl ?_); clear hq) | ((with_reducible refine FCond.i2 (fun hq => ?_) (fun hq => ?_)) <;> (rw [hq]; (with_reducible first | refine FCond.t rfl ?_ | refine FCond.f rfl ?_); (try simp only [zA, zE, zD, zJ, zB, zI, Int.not_le, Int.not_lt] at hq))) | (with_reducible first | refine Fits.in64 (by omega) ?_ | refine FIdx.nat (by omega) ?_ | refine FIdx.int (by omega) ?_ | refine FTo.nat (by omega) ?_ | refine FTo.int (by omega) ?_) | ((with_reducible refine Need.mk ?_ ?_); focus exact needA) | (with_reducible refine FApp.grow ?_) | (refine FCall.pure (c5) ⟨Ln.sameB _ rfl, True.intro⟩ rfl ?_) | (refine FCall.pure (c6) ⟨Ln.sameB _ rfl, True.intro⟩ rfl ?_) | (with_reducible refine FOr.pub ?_)))
              all_goals (try (conv => whnf))
              all_goals first
                | (exfalso; omega)
                | (exact ⟨⟨(k + 1), hlt4, by show _ < _; omega, [], Cut.A, allA⟩⟩)
          · (repeat' ((try (conv => whnf)); first | (with_reducible first | refine FCond.t rfl ?_ | refine FCond.f rfl ?_) | ((with_reducible refine FCond.uT (fun hq => ?_)); rw [hq]; (with_reducible refine FCond.t rfl ?_); clear hq) | ((with_reducible refine FCond.uF (fun hq => ?_)); rw [hq]; (with_reducible refine FCond.f rfl ?_); clear hq) | ((with_reducible refine FCond.i2 (fun hq => ?_) (fun hq => ?_)) <;> (rw [hq]; (with_reducible first | refine FCond.t rfl ?_ | refine FCond.f rfl ?_); (try simp only [zA, zE, zD, zJ, zB, zI, Int.not_le, Int.not_lt] at hq))) | (with_reducible first | refine Fits.in64 (by omega) ?_ | refine FIdx.nat (by omega) ?_ | refine FIdx.int (by omega) ?_ | refine FTo.nat (by omega) ?_ | refine FTo.int (by omega) ?_) | ((with_reducible refine Need.mk ?_ ?_); focus exact needA) | (with_reducible refine FApp.grow ?_) | (with_reducible refine FOr.pub ?_)))
            all_goals (try (conv => whnf))
            all_goals first
              | (exfalso; omega)
              | (exact ⟨⟨(i + 1), hlt, by show _ < _; omega, [], Cut.A, allA⟩⟩)
      · (repeat' ((try (conv => whnf)); first | (with_reducible first | refine FCond.t rfl ?_ | refine FCond.f rfl ?_) | ((with_reducible refine FCond.uT (fun hq => ?_)); rw [hq]; (with_reducible refine FCond.t rfl ?_); clear hq) | ((with_reducible refine FCond.uF (fun hq => ?_)); rw [hq]; (with_reducible refine FCond.f rfl ?_); clear hq) | ((with_reducible refine FCond.i2 (fun hq => ?_) (fun hq => ?_)) <;> (rw [hq]; (with_reducible first | refine FCond.t rfl ?_ | refine FCond.f rfl ?_); (try simp only [zA, zE, zD, zJ, zB, zI, Int.not_le, Int.not_lt] at hq))) | (with_reducible first | refine Fits.in64 (by omega) ?_ | refine FIdx.nat (by omega) ?_ | refine FIdx.int (by omega) ?_ | refine FTo.nat (by omega) ?_ | refine FTo.int (by omega) ?_) | ((with_reducible refine Need.mk ?_ ?_); focus exact needA) | (with_reducible refine FApp.grow ?_) | (refine FCall.pure works_ab True.intro rfl ?_) | (with_reducible refine FOr.pub ?_)))
        all_goals (try (conv => whnf))
        all_goals first
          | ((refine ⟨⟨_, [], [], Cut.nil _, Ln.sameB _ rfl, ?_, rfl⟩⟩); rfl)
          | (exfalso; omega)
  · (repeat' ((try (conv => whnf)); first | (with_reducible first | refine FCond.t rfl ?_ | refine FCond.f rfl ?_) | ((with_reducible refine FCond.uT (fun hq => ?_)); rw [hq]; (with_reducible refine FCond.t rfl ?_); clear hq) | ((with_reducible refine FCond.uF (fun hq => ?_)); rw [hq]; (with_reducible refine FCond.f rfl ?_); clear hq) | ((with_reducible refine FCond.i2 (fun hq => ?_) (fun hq => ?_)) <;> (rw [hq]; (with_reducible first | refine FCond.t rfl ?_ | refine FCond.f rfl ?_); (try simp only [zA, zE, zD, zJ, zB, zI, Int.not_le, Int.not_lt] at hq))) | (with_reducible first | refine Fits.in64 (by omega) ?_ | refine FIdx.nat (by omega) ?_ | refine FIdx.int (by omega) ?_ | refine FTo.nat (by omega) ?_ | refine FTo.int (by omega) ?_) | ((with_reducible refine Need.mk ?_ ?_); focus exact needA) | (with_reducible refine FApp.grow ?_) | (refine FCall.pure works_ab True.intro rfl ?_) | (with_reducible refine FOr.pub ?_)))
    all_goals (try (conv => whnf))
    all_goals first
      | ((refine ⟨⟨_, [], [], Cut.nil _, Ln.sameB _ rfl, ?_, rfl⟩⟩); rfl)
      | (exfalso; omega)
end Go.Proofs.Ytbpilgflejdhaaa

namespace Go.Proofs.Ytbpilgflejdhaaa
open Go.RowKit Go.ChangeShapes Go.WideShapes Go.Deep

section
variable {H : Type} {enc : TypeId × Value → H} {w : World} {base : Nat} {held : Bool}
theorem cszL : Try.prog.cellsOf 64 = 1 ∧ Try.prog.cellsOf 68 = 1 := by
  refine ⟨?_, ?_⟩ <;> kernel_rfl
theorem rt_papers {n : Nat} {cs : List Value} {y : DataW H × List MemPlace} (h : DataW.trod enc Try.prog w base (fun _ => true) held n 64 cs = some y) : ∃ (z : Bool) (fs : Nat → PaF) (l : List Paper), (∀ k, k < l.length → Sized (l.getD k default)) ∧ CellsAre w cs 1 (fun _ => aPapers z false fs l) := by
  obtain ⟨z, l, ⟨_, hq⟩, c⟩ := rdr_slice (fun (x : PaF × Paper) => cPaper x.1 x.2) (fun x => Sized x.2) (⟨true, true, true, true, true, true, fun _ => true, fun _ => true⟩, default) Try.underlying64 csz.2.2.2.2.2.2.2.1 (by omega) (fun {_ _ _} hh => by
    obtain ⟨f, p, hs, c⟩ := rt_paper hh
    exact ⟨(f, p), hs, c⟩) h
  have hb : ∀ k, (l.map Prod.snd).getD k default = (l.getD k (⟨true, true, true, true, true, true, fun _ => true, fun _ => true⟩, default)).2 := fun k => by
    simp only [List.getD, List.getElem?_map]
    cases l[k]? <;> rfl
  refine ⟨z, fun k => (l.getD k (⟨true, true, true, true, true, true, fun _ => true, fun _ => true⟩, default)).1, l.map Prod.snd, fun k hk => ?_, ?_⟩
  · rw [List.length_map] at hk
    rw [hb]
    exact hq _ (by rw [List.getD, List.getElem?_eq_getElem hk]; exact List.getElem_mem hk)
  · simp only [aPapers, List.length_map, hb]
    exact c
theorem rt_rows {n : Nat} {cs : List Value} {y : DataW H × List MemPlace} (h : DataW.trod enc Try.prog w base (fun _ => true) held n 68 cs = some y) : ∃ (z : Bool) (rz : Nat → Bool) (l : List (List Int)), (∀ k, k < l.length → (l.getD k []).length ≤ 9223372036854775807) ∧ CellsAre w cs 1 (fun _ => aRowsX z false rz (fun _ => false) l) := by
  obtain ⟨z, l, ⟨_, hq⟩, c⟩ := rdr_slice (fun (x : Bool × List Int) _ => aInts x.1 false x.2) (fun x => x.2.length ≤ 9223372036854775807) (true, []) Try.underlying68 csz.2.1 (by omega) (fun {_ _ _} hh => by
    obtain ⟨z, l, hl, c⟩ := rt_ints hh
    exact ⟨(z, l), hl.1, c⟩) h
  have hb : ∀ k, (l.map Prod.snd).getD k [] = (l.getD k (true, [])).2 := fun k => by
    simp only [List.getD, List.getElem?_map]
    cases l[k]? <;> rfl
  refine ⟨z, fun k => (l.getD k (true, [])).1, l.map Prod.snd, fun k hk => ?_, ?_⟩
  · rw [List.length_map] at hk
    rw [hb]
    exact hq _ (by rw [List.getD, List.getElem?_eq_getElem hk]; exact List.getElem_mem hk)
  · simp only [aRowsX, List.length_map, hb]
    exact c
end
end Go.Proofs.Ytbpilgflejdhaaa
