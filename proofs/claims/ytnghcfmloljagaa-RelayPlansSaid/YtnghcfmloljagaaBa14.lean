/- Relay: the statement RelayPlans. -/
import Derived.Test.YtnghcfmloljagaaBa13
set_option linter.unusedSimpArgs false
set_option linter.unusedVariables false
namespace Go.Proofs.Ytnghcfmloljagaa
open Go.RowKit

theorem waitsV_form (s : Std) (l : List Anr) : ∃ u o e : Int, waitsV s l = .tup 3 (ofL [AI u, AI o, AI e]) := ⟨_, _, _, rfl⟩
set_option maxHeartbeats 8000000
set_option maxRecDepth 100000
theorem plansR_any (f : StF) (s : Std) (hM : Mach s) (z : Bool) (l : List Anr) (hl : l.length ≤ 9223372036854775807) (hb : ∀ c, c < l.length → in64 (l.getD c na).t ∧ in64 (l.getD c na).g) : ACall Try.prog 10 [aStd f s, aAns z false l] [] (fun v h => v = .bool true ∧ h = []) := by
  have cF := far_ok f s hM.n hM.c
  (refine fcall_of mixed Try.func10 rfl (by decide) (hs := { ord := [(4, [(0, []), (2, []), (1, [2]), (3, []), (4, [])]), (6, [(0, []), (1, []), (2, []), (3, [0]), (4, []), (5, []), (6, []), (7, []), (8, []), (9, []), (10, []), (11, [])])] }) ?k (ac := ?ac) ?c (rs := ?rs) ?r ?l ?H; (case k => kernel_rfl); (case c => (conv => (lhs; cbv))); (case r => (conv => (lhs; cbv))); (case l => exact Nat.le_of_ble_eq_true rfl))
  cases hf : farS s
  · rw [hf] at cF
    by_cases h30 : 30 < l.length
    · (repeat' ((try (conv => whnf)); first | (with_reducible first | refine FCond.tA ?_ | refine FCond.fA ?_) | ((with_reducible refine FCond.i (fun hq => ?_) (fun hq => ?_)) <;> (try simp only [zA, zE, zD, zJ, zB, zI, Int.not_le, Int.not_lt] at hq)) | (with_reducible first | refine Fits.in64 (by omega) ?_ | refine FIdx.nat (by omega) ?_ | refine FIdx.int (by omega) ?_ | refine FTo.nat (by omega) ?_ | refine FTo.int (by omega) ?_) | ((with_reducible refine Need.mk ?_ ?_); focus exact needA) | (with_reducible refine FApp.grow ?_) | (refine FCall.pure (cF) ⟨Ln.sameB _ rfl, True.intro⟩ rfl ?_) | (refine FCall.pure works_ok True.intro rfl ?_) | (with_reducible refine FOr.pub ?_)))
      all_goals (try (conv => whnf))
      all_goals ((refine ⟨⟨_, [], [], Cut.nil _, Ln.sameB _ rfl, ?_, rfl⟩⟩); rfl)
    have hn := near_of hf
    have cK := copy_ok f s hn
    have cC := check_ok (flC s) s hn
    have cD := refCheck_ok f s hn
    have cV := refWaits_ok f s hn z false l (by omega)
    have cR := refPlan_ok f s hn
    obtain ⟨u, o, e, hw⟩ := waitsV_form s l
    rw [hw] at cV
    cases hk : s.ok
    · have cP := plan_no (flC s) s hn hk
      rw [show refPlanE s = (0, 0, 60) from by unfold refPlanE; rw [hk]; rfl] at cR
      rcases l with _ | ⟨x, xs⟩
      · have cW := waits_ok (flC s) s hn false true [] (by simp) (fun c hc => absurd hc (Nat.not_lt_zero c))
        rw [hw] at cW
        (repeat' ((try (conv => whnf)); first | (with_reducible first | refine FCond.tA ?_ | refine FCond.fA ?_) | ((with_reducible refine FCond.i (fun hq => ?_) (fun hq => ?_)) <;> (try simp only [zA, zE, zD, zJ, zB, zI, Int.not_le, Int.not_lt] at hq)) | (with_reducible first | refine Fits.in64 (by omega) ?_ | refine FIdx.nat (by omega) ?_ | refine FIdx.int (by omega) ?_ | refine FTo.nat (by omega) ?_ | refine FTo.int (by omega) ?_) | ((with_reducible refine Need.mk ?_ ?_); focus exact needA) | (with_reducible refine FApp.grow ?_) | (refine FCall.pure (cF) ⟨Ln.sameB _ rfl, True.intro⟩ rfl ?_) | (refine FCall.pure (cK) ⟨Ln.sameB _ rfl, True.intro⟩ rfl ?_) | (refine FCall.pure (cC) ⟨Ln.sameB _ rfl, True.intro⟩ rfl ?_) | (refine FCall.pure (cD) ⟨Ln.sameB _ rfl, True.intro⟩ rfl ?_) | (refine FCall.pure cW ⟨Ln.sameB _ rfl, Ln.sl _ _ _ _ _ _ _ (fun h => h) (fun k hk => absurd hk (Nat.not_lt_zero k)), True.intro⟩ rfl ?_) | (refine FCall.pure (cV) ⟨Ln.sameB _ rfl, Ln.sameB _ rfl, True.intro⟩ rfl ?_) | (refine FCall.pure (cP) ⟨Ln.sameB _ rfl, True.intro⟩ rfl ?_) | (refine FCall.pure (cR) ⟨Ln.sameB _ rfl, True.intro⟩ rfl ?_) | (refine FCall.pure works_ok True.intro rfl ?_) | (with_reducible refine FOr.pub ?_)))
        all_goals (try (conv => whnf))
        all_goals ((refine ⟨⟨_, [], [], Cut.nil _, Ln.sameB _ rfl, ?_, rfl⟩⟩); rfl)
      · have cW := waits_ok (flC s) s hn false false (x :: xs) (by omega) hb
        rw [hw] at cW
        (repeat' ((try (conv => whnf)); first | (with_reducible first | refine FCond.tA ?_ | refine FCond.fA ?_) | ((with_reducible refine FCond.i (fun hq => ?_) (fun hq => ?_)) <;> (try simp only [zA, zE, zD, zJ, zB, zI, Int.not_le, Int.not_lt] at hq)) | (with_reducible first | refine Fits.in64 (by omega) ?_ | refine FIdx.nat (by omega) ?_ | refine FIdx.int (by omega) ?_ | refine FTo.nat (by omega) ?_ | refine FTo.int (by omega) ?_) | ((with_reducible refine Need.mk ?_ ?_); focus exact needA) | (with_reducible refine FApp.grow ?_) | (refine FCall.pure (cF) ⟨Ln.sameB _ rfl, True.intro⟩ rfl ?_) | (refine FCall.pure (cK) ⟨Ln.sameB _ rfl, True.intro⟩ rfl ?_) | (refine FCall.pure (cC) ⟨Ln.sameB _ rfl, True.intro⟩ rfl ?_) | (refine FCall.pure (cD) ⟨Ln.sameB _ rfl, True.intro⟩ rfl ?_) | (refine FCall.lend [2] cW ⟨Ln.sameB _ rfl, Ln.pubE (by decide) rfl (Nat.le_refl _) (by show 0 + (xs.length + 1) = xs.length + 1; omega) (fun k hk o ho => by simp [appc]), True.intro⟩ rfl (by intro i hi; rcases (show i = 0 ∨ i = 1 ∨ i = 2 by omega) with rfl | rfl | rfl <;> trivial) ?_) | (refine FCall.pure (cV) ⟨Ln.sameB _ rfl, Ln.sameB _ rfl, True.intro⟩ rfl ?_) | (refine FCall.pure (cP) ⟨Ln.sameB _ rfl, True.intro⟩ rfl ?_) | (refine FCall.pure (cR) ⟨Ln.sameB _ rfl, True.intro⟩ rfl ?_) | (refine FCall.pure works_ok True.intro rfl ?_) | (with_reducible refine FOr.pub ?_)))
        all_goals (try (conv => whnf))
        all_goals ((refine ⟨⟨_, [], [], Cut.nil _, Ln.sameB _ rfl, ?_, rfl⟩⟩); rfl)
    · have hs := std_d hk
      have cP := plan_yes (flC s) s hn hk
      have cX := refWaits_ok f s hn false false (bestL s) (bestL_len hs)
      rw [waitsV_best hk] at cX
      rw [show refPlanE s = ((bestW s).u, (bestW s).o, 0) from by unfold refPlanE; rw [hk]; rfl] at cR
      rcases l with _ | ⟨x, xs⟩
      · have cW := waits_ok (flC s) s hn false true [] (by simp) (fun c hc => absurd hc (Nat.not_lt_zero c))
        rw [hw] at cW
        (repeat' ((try (conv => whnf)); first | (with_reducible first | refine FCond.tA ?_ | refine FCond.fA ?_) | ((with_reducible refine FCond.i (fun hq => ?_) (fun hq => ?_)) <;> (try simp only [zA, zE, zD, zJ, zB, zI, Int.not_le, Int.not_lt] at hq)) | (with_reducible first | refine Fits.in64 (by omega) ?_ | refine FIdx.nat (by omega) ?_ | refine FIdx.int (by omega) ?_ | refine FTo.nat (by omega) ?_ | refine FTo.int (by omega) ?_) | ((with_reducible refine Need.mk ?_ ?_); focus exact needA) | (with_reducible refine FApp.grow ?_) | (refine FCall.pure (cF) ⟨Ln.sameB _ rfl, True.intro⟩ rfl ?_) | (refine FCall.pure (cK) ⟨Ln.sameB _ rfl, True.intro⟩ rfl ?_) | (refine FCall.pure (cC) ⟨Ln.sameB _ rfl, True.intro⟩ rfl ?_) | (refine FCall.pure (cD) ⟨Ln.sameB _ rfl, True.intro⟩ rfl ?_) | (refine FCall.pure cW ⟨Ln.sameB _ rfl, Ln.sl _ _ _ _ _ _ _ (fun h => h) (fun k hk => absurd hk (Nat.not_lt_zero k)), True.intro⟩ rfl ?_) | (refine FCall.pure (cV) ⟨Ln.sameB _ rfl, Ln.sameB _ rfl, True.intro⟩ rfl ?_) | (refine FCall.pure (cP) ⟨Ln.sameB _ rfl, True.intro⟩ rfl ?_) | (refine FCall.pure (cR) ⟨Ln.sameB _ rfl, True.intro⟩ rfl ?_) | (refine FCall.pure (cX) ⟨Ln.sameB _ rfl, Ln.sameB _ rfl, True.intro⟩ rfl ?_) | (refine FCall.pure works_ok True.intro rfl ?_) | (with_reducible refine FOr.pub ?_)))
        all_goals (try (conv => whnf))
        all_goals ((refine ⟨⟨_, [], [], Cut.nil _, Ln.sameB _ rfl, ?_, rfl⟩⟩); rfl)
      · have cW := waits_ok (flC s) s hn false false (x :: xs) (by omega) hb
        rw [hw] at cW
        (repeat' ((try (conv => whnf)); first | (with_reducible first | refine FCond.tA ?_ | refine FCond.fA ?_) | ((with_reducible refine FCond.i (fun hq => ?_) (fun hq => ?_)) <;> (try simp only [zA, zE, zD, zJ, zB, zI, Int.not_le, Int.not_lt] at hq)) | (with_reducible first | refine Fits.in64 (by omega) ?_ | refine FIdx.nat (by omega) ?_ | refine FIdx.int (by omega) ?_ | refine FTo.nat (by omega) ?_ | refine FTo.int (by omega) ?_) | ((with_reducible refine Need.mk ?_ ?_); focus exact needA) | (with_reducible refine FApp.grow ?_) | (refine FCall.pure (cF) ⟨Ln.sameB _ rfl, True.intro⟩ rfl ?_) | (refine FCall.pure (cK) ⟨Ln.sameB _ rfl, True.intro⟩ rfl ?_) | (refine FCall.pure (cC) ⟨Ln.sameB _ rfl, True.intro⟩ rfl ?_) | (refine FCall.pure (cD) ⟨Ln.sameB _ rfl, True.intro⟩ rfl ?_) | (refine FCall.lend [2] cW ⟨Ln.sameB _ rfl, Ln.pubE (by decide) rfl (Nat.le_refl _) (by show 0 + (xs.length + 1) = xs.length + 1; omega) (fun k hk o ho => by simp [appc]), True.intro⟩ rfl (by intro i hi; rcases (show i = 0 ∨ i = 1 ∨ i = 2 by omega) with rfl | rfl | rfl <;> trivial) ?_) | (refine FCall.pure (cV) ⟨Ln.sameB _ rfl, Ln.sameB _ rfl, True.intro⟩ rfl ?_) | (refine FCall.pure (cP) ⟨Ln.sameB _ rfl, True.intro⟩ rfl ?_) | (refine FCall.pure (cR) ⟨Ln.sameB _ rfl, True.intro⟩ rfl ?_) | (refine FCall.pure (cX) ⟨Ln.sameB _ rfl, Ln.sameB _ rfl, True.intro⟩ rfl ?_) | (refine FCall.pure works_ok True.intro rfl ?_) | (with_reducible refine FOr.pub ?_)))
        all_goals (try (conv => whnf))
        all_goals ((refine ⟨⟨_, [], [], Cut.nil _, Ln.sameB _ rfl, ?_, rfl⟩⟩); rfl)
  · rw [hf] at cF
    (repeat' ((try (conv => whnf)); first | (with_reducible first | refine FCond.tA ?_ | refine FCond.fA ?_) | ((with_reducible refine FCond.i (fun hq => ?_) (fun hq => ?_)) <;> (try simp only [zA, zE, zD, zJ, zB, zI, Int.not_le, Int.not_lt] at hq)) | (with_reducible first | refine Fits.in64 (by omega) ?_ | refine FIdx.nat (by omega) ?_ | refine FIdx.int (by omega) ?_ | refine FTo.nat (by omega) ?_ | refine FTo.int (by omega) ?_) | ((with_reducible refine Need.mk ?_ ?_); focus exact needA) | (with_reducible refine FApp.grow ?_) | (refine FCall.pure (cF) ⟨Ln.sameB _ rfl, True.intro⟩ rfl ?_) | (refine FCall.pure works_ok True.intro rfl ?_) | (with_reducible refine FOr.pub ?_)))
    all_goals (try (conv => whnf))
    all_goals ((refine ⟨⟨_, [], [], Cut.nil _, Ln.sameB _ rfl, ?_, rfl⟩⟩); rfl)
end Go.Proofs.Ytnghcfmloljagaa
