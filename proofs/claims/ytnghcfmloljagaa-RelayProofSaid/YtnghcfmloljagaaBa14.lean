/- Relay: the statement RelayPlans. / Relay: math/bits.Len by the library's contract. / Relay: slices.Sort of few numbers that stand in their order. / Relay: the program's reach: the calls and spots that the waiting ones reach. / Relay: what the reached calls and the seen spots make a cover -/
import Derived.Test.YtnghcfmloljagaaBa13
import Derived.Test.YtnghcfmloljagaaBa6
import Derived.Shelf.Lay
import Derived.Shelf.Small.Bits
import Derived.Ground.NamesProg
import Derived.Test.YtnghcfmloljagaaBa9
import Derived.Test.YtnghcfmloljagaaBa11
set_option linter.unusedSimpArgs false
set_option linter.unusedVariables false
namespace Go.Proofs.Ytnghcfmloljagaa
open Go.RowKit

theorem waitsV_form (s : Std) (l : List Anr) : ∃ u o e : Int, waitsV s l = .tup 3 (ofL [AI u, AI o, AI e]) := ⟨_, _, _, rfl⟩
set_option maxHeartbeats 8000000
set_option maxRecDepth 100000
theorem plansR_any (f : StF) (s : Std) (hM : Mach s) (z : Bool) (l : List Anr) (hl : l.length ≤ 9223372036854775807) (hb : ∀ c, c < l.length → in64 (l.getD c na).t ∧ in64 (l.getD c na).g) : ACall Try.prog 10 [aStd f s, aAns z false l] [] (fun v h => v = .bool true ∧ h = []) := by
  have cF := far_ok f s hM.n hM.c
  (refine fcall_of mixed Try.func10 rfl (by decide) (hs := { ord := [(4, [(0, []), (2, []), (1, [2]), (3, []), (4, [])]), (6, [(0, []), (1, []), (2, []), (3, [0]), (4, []), (5, []), (6, []), (7, []), (8, []), (9, []), (10, []), (11, [])])] }) ?k (ac := ?ac) ?c (rs := ?rs) ?r ?l ?H; (case k => kernel_rfl); (case c => (conv => (lhs; cbv))); (case r => (conv => (lhs; cbv))); (case l => exact Nat.le_of_ble_eq_true rfl))
  cases hf : farS s
  · rw [hf] at cF
    by_cases h30 : 30 < l.length
    · (repeat' ((try (conv => whnf)); first | (with_reducible first | refine FCond.tA ?_ | refine FCond.fA ?_) | ((with_reducible refine FCond.i (fun hq => ?_) (fun hq => ?_)) <;> (try simp only [zA, zE, zD, zJ, zB, zI, Int.not_le, Int.not_lt] at hq)) | (with_reducible first | refine Fits.in64 (by omega) ?_ | refine FIdx.nat (by omega) ?_ | refine FIdx.int (by omega) ?_ | refine FTo.nat (by omega) ?_ | refine FTo.int (by omega) ?_) | ((with_reducible refine Need.mk ?_ ?_); focus exact needA) | (with_reducible refine FApp.grow ?_) | (refine FCall.pure (cF) ⟨Ln.sameB _ rfl, True.intro⟩ rfl ?_) | (refine FCall.pure works_ok True.intro rfl ?_) | (with_reducible refine FOr.pub ?_)))
      all_goals (try (conv => whnf))
      all_goals ((refine ⟨⟨_, [], [], Cut.nil _, Ln.sameB _ rfl, ?_, rfl⟩⟩); rfl)
    have hn := near_of hf
    have cK := copy_ok f s hn
    have cC := check_ok (flC s) s hn
    have cD := refCheck_ok f s hn
    have cV := refWaits_ok f s hn z false l (by omega)
    have cR := refPlan_ok f s hn
    obtain ⟨u, o, e, hw⟩ := waitsV_form s l
    rw [hw] at cV
    cases hk : s.ok
    · have cP := plan_no (flC s) s hn hk
      rw [show refPlanE s = (0, 0, 60) from by unfold refPlanE; rw [hk]; rfl] at cR
      rcases l with _ | ⟨x, xs⟩
      · have cW := waits_ok (flC s) s hn false true [] (by simp) (fun c hc => absurd hc (Nat.not_lt_zero c))
        rw [hw] at cW
        (repeat' ((try (conv => whnf)); first | (with_reducible first | refine FCond.tA ?_ | refine FCond.fA ?_) | ((with_reducible refine FCond.i (fun hq => ?_) (fun hq => ?_)) <;> (try simp only [zA, zE, zD, zJ, zB, zI, Int.not_le, Int.not_lt] at hq)) | (with_reducible first | refine Fits.in64 (by omega) ?_ | refine FIdx.nat (by omega) ?_ | refine FIdx.int (by omega) ?_ | refine FTo.nat (by omega) ?_ | refine FTo.int (by omega) ?_) | ((with_reducible refine Need.mk ?_ ?_); focus exact needA) | (with_reducible refine FApp.grow ?_) | (refine FCall.pure (cF) ⟨Ln.sameB _ rfl, True.intro⟩ rfl ?_) | (refine FCall.pure (cK) ⟨Ln.sameB _ rfl, True.intro⟩ rfl ?_) | (refine FCall.pure (cC) ⟨Ln.sameB _ rfl, True.intro⟩ rfl ?_) | (refine FCall.pure (cD) ⟨Ln.sameB _ rfl, True.intro⟩ rfl ?_) | (refine FCall.pure cW ⟨Ln.sameB _ rfl, Ln.sl _ _ _ _ _ _ _ (fun h => h) (fun k hk => absurd hk (Nat.not_lt_zero k)), True.intro⟩ rfl ?_) | (refine FCall.pure (cV) ⟨Ln.sameB _ rfl, Ln.sameB _ rfl, True.intro⟩ rfl ?_) | (refine FCall.pure (cP) ⟨Ln.sameB _ rfl, True.intro⟩ rfl ?_) | (refine FCall.pure (cR) ⟨Ln.sameB _ rfl, True.intro⟩ rfl ?_) | (refine FCall.pure works_ok True.intro rfl ?_) | (with_reducible refine FOr.pub ?_)))
        all_goals (try (conv => whnf))
        all_goals ((refine ⟨⟨_, [], [], Cut.nil _, Ln.sameB _ rfl, ?_, rfl⟩⟩); rfl)
      · have cW := waits_ok (flC s) s hn false false (x :: xs) (by omega) hb
        rw [hw] at cW
        (repeat' ((try (conv => whnf)); first | (with_reducible first | refine FCond.tA ?_ | refine FCond.fA ?_) | ((with_reducible refine FCond.i (fun hq => ?_) (fun hq => ?_)) <;> (try simp only [zA, zE, zD, zJ, zB, zI, Int.not_le, Int.not_lt] at hq)) | (with_reducible first | refine Fits.in64 (by omega) ?_ | refine FIdx.nat (by omega) ?_ | refine FIdx.int (by omega) ?_ | refine FTo.nat (by omega) ?_ | refine FTo.int (by omega) ?_) | ((with_reducible refine Need.mk ?_ ?_); focus exact needA) | (with_reducible refine FApp.grow ?_) | (refine FCall.pure (cF) ⟨Ln.sameB _ rfl, True.intro⟩ rfl ?_) | (refine FCall.pure (cK) ⟨Ln.sameB _ rfl, True.intro⟩ rfl ?_) | (refine FCall.pure (cC) ⟨Ln.sameB _ rfl, True.intro⟩ rfl ?_) | (refine FCall.pure (cD) ⟨Ln.sameB _ rfl, True.intro⟩ rfl ?_) | (refine FCall.lend [2] cW ⟨Ln.sameB _ rfl, Ln.pubE (by decide) rfl (Nat.le_refl _) (by show 0 + (xs.length + 1) = xs.length + 1; omega) (fun k hk o ho => by simp [appc]), True.intro⟩ rfl (by intro i hi; rcases (show i = 0 ∨ i = 1 ∨ i = 2 by omega) with rfl | rfl | rfl <;> trivial) ?_) | (refine FCall.pure (cV) ⟨Ln.sameB _ rfl, Ln.sameB _ rfl, True.intro⟩ rfl ?_) | (refine FCall.pure (cP) ⟨Ln.sameB _ rfl, True.intro⟩ rfl ?_) | (refine FCall.pure (cR) ⟨Ln.sameB _ rfl, True.intro⟩ rfl ?_) | (refine FCall.pure works_ok True.intro rfl ?_) | (with_reducible refine FOr.pub ?_)))
        all_goals (try (conv => whnf))
        all_goals ((refine ⟨⟨_, [], [], Cut.nil _, Ln.sameB _ rfl, ?_, rfl⟩⟩); rfl)
    · have hs := std_d hk
      have cP := plan_yes (flC s) s hn hk
      have cX := refWaits_ok f s hn false false (bestL s) (bestL_len hs)
      rw [waitsV_best hk] at cX
      rw [show refPlanE s = ((bestW s).u, (bestW s).o, 0) from by unfold refPlanE; rw [hk]; rfl] at cR
      rcases l with _ | ⟨x, xs⟩
      · have cW := waits_ok (flC s) s hn false true [] (by simp) (fun c hc => absurd hc (Nat.not_lt_zero c))
        rw [hw] at cW
        (repeat' ((try (conv => whnf)); first | (with_reducible first | refine FCond.tA ?_ | refine FCond.fA ?_) | ((with_reducible refine FCond.i (fun hq => ?_) (fun hq => ?_)) <;> (try simp only [zA, zE, zD, zJ, zB, zI, Int.not_le, Int.not_lt] at hq)) | (with_reducible first | refine Fits.in64 (by omega) ?_ | refine FIdx.nat (by omega) ?_ | refine FIdx.int (by omega) ?_ | refine FTo.nat (by omega) ?_ | refine FTo.int (by omega) ?_) | ((with_reducible refine Need.mk ?_ ?_); focus exact needA) | (with_reducible refine FApp.grow ?_) | (refine FCall.pure (cF) ⟨Ln.sameB _ rfl, True.intro⟩ rfl ?_) | (refine FCall.pure (cK) ⟨Ln.sameB _ rfl, True.intro⟩ rfl ?_) | (refine FCall.pure (cC) ⟨Ln.sameB _ rfl, True.intro⟩ rfl ?_) | (refine FCall.pure (cD) ⟨Ln.sameB _ rfl, True.intro⟩ rfl ?_) | (refine FCall.pure cW ⟨Ln.sameB _ rfl, Ln.sl _ _ _ _ _ _ _ (fun h => h) (fun k hk => absurd hk (Nat.not_lt_zero k)), True.intro⟩ rfl ?_) | (refine FCall.pure (cV) ⟨Ln.sameB _ rfl, Ln.sameB _ rfl, True.intro⟩ rfl ?_) | (refine FCall.pure (cP) ⟨Ln.sameB _ rfl, True.intro⟩ rfl ?_) | (refine FCall.pure (cR) ⟨Ln.sameB _ rfl, True.intro⟩ rfl ?_) | (refine FCall.pure (cX) ⟨Ln.sameB _ rfl, Ln.sameB _ rfl, True.intro⟩ rfl ?_) | (refine FCall.pure works_ok True.intro rfl ?_) | (with_reducible refine FOr.pub ?_)))
        all_goals (try (conv => whnf))
        all_goals ((refine ⟨⟨_, [], [], Cut.nil _, Ln.sameB _ rfl, ?_, rfl⟩⟩); rfl)
      · have cW := waits_ok (flC s) s hn false false (x :: xs) (by omega) hb
        rw [hw] at cW
        (repeat' ((try (conv => whnf)); first | (with_reducible first | refine FCond.tA ?_ | refine FCond.fA ?_) | ((with_reducible refine FCond.i (fun hq => ?_) (fun hq => ?_)) <;> (try simp only [zA, zE, zD, zJ, zB, zI, Int.not_le, Int.not_lt] at hq)) | (with_reducible first | refine Fits.in64 (by omega) ?_ | refine FIdx.nat (by omega) ?_ | refine FIdx.int (by omega) ?_ | refine FTo.nat (by omega) ?_ | refine FTo.int (by omega) ?_) | ((with_reducible refine Need.mk ?_ ?_); focus exact needA) | (with_reducible refine FApp.grow ?_) | (refine FCall.pure (cF) ⟨Ln.sameB _ rfl, True.intro⟩ rfl ?_) | (refine FCall.pure (cK) ⟨Ln.sameB _ rfl, True.intro⟩ rfl ?_) | (refine FCall.pure (cC) ⟨Ln.sameB _ rfl, True.intro⟩ rfl ?_) | (refine FCall.pure (cD) ⟨Ln.sameB _ rfl, True.intro⟩ rfl ?_) | (refine FCall.lend [2] cW ⟨Ln.sameB _ rfl, Ln.pubE (by decide) rfl (Nat.le_refl _) (by show 0 + (xs.length + 1) = xs.length + 1; omega) (fun k hk o ho => by simp [appc]), True.intro⟩ rfl (by intro i hi; rcases (show i = 0 ∨ i = 1 ∨ i = 2 by omega) with rfl | rfl | rfl <;> trivial) ?_) | (refine FCall.pure (cV) ⟨Ln.sameB _ rfl, Ln.sameB _ rfl, True.intro⟩ rfl ?_) | (refine FCall.pure (cP) ⟨Ln.sameB _ rfl, True.intro⟩ rfl ?_) | (refine FCall.pure (cR) ⟨Ln.sameB _ rfl, True.intro⟩ rfl ?_) | (refine FCall.pure (cX) ⟨Ln.sameB _ rfl, Ln.sameB _ rfl, True.intro⟩ rfl ?_) | (refine FCall.pure works_ok True.intro rfl ?_) | (with_reducible refine FOr.pub ?_)))
        all_goals (try (conv => whnf))
        all_goals ((refine ⟨⟨_, [], [], Cut.nil _, Ln.sameB _ rfl, ?_, rfl⟩⟩); rfl)
  · rw [hf] at cF
    (repeat' ((try (conv => whnf)); first | (with_reducible first | refine FCond.tA ?_ | refine FCond.fA ?_) | ((with_reducible refine FCond.i (fun hq => ?_) (fun hq => ?_)) <;> (try simp only [zA, zE, zD, zJ, zB, zI, Int.not_le, Int.not_lt] at hq)) | (with_reducible first | refine Fits.in64 (by omega) ?_ | refine FIdx.nat (by omega) ?_ | refine FIdx.int (by omega) ?_ | refine FTo.nat (by omega) ?_ | refine FTo.int (by omega) ?_) | ((with_reducible refine Need.mk ?_ ?_); focus exact needA) | (with_reducible refine FApp.grow ?_) | (refine FCall.pure (cF) ⟨Ln.sameB _ rfl, True.intro⟩ rfl ?_) | (refine FCall.pure works_ok True.intro rfl ?_) | (with_reducible refine FOr.pub ?_)))
    all_goals (try (conv => whnf))
    all_goals ((refine ⟨⟨_, [], [], Cut.nil _, Ln.sameB _ rfl, ?_, rfl⟩⟩); rfl)
end Go.Proofs.Ytnghcfmloljagaa

namespace Go.Proofs.Ytnghcfmloljagaa
open Go.Shelf

shelf_lay Lays.n125 Nm 125 at Try as Try.lays125
theorem len_calls (x : Int) (w : World) (h0 : 0 ≤ x) (h1 : x ≤ 18446744073709551615) : Calls Try.prog 68 #[.int .u64 x] w fun e w' => e = .returned (.int .i64 (Lib.bitLen x.toNat)) ∧ w' = w := Any.bits_Len Try.lays125 x w h0 h1
end Go.Proofs.Ytnghcfmloljagaa

namespace Go.Proofs.Ytnghcfmloljagaa
open Go.RowKit

theorem len_ok (x : Int) (h0 : 0 ≤ x) (h1 : x ≤ 18446744073709551615) : ACall Try.prog 68 [.int .u64 x] [] (fun r h => r = AI (Lib.bitLen x.toNat : Nat) ∧ h = []) := by
  refine ⟨⟨_, Try.func68, rfl, rfl⟩, fun F g w vs k hs hv => ?_⟩
  have h2 : vs = #[.int .u64 x] := by
    have hv0 := hv 0 _ rfl
    match vs, hs with
    | ⟨[v]⟩, _ =>
      have : v = .int .u64 x := hv0
      rw [this]
  rw [h2]
  refine (len_calls x w h0 h1).mono fun en w' ⟨he, hw⟩ => ?_
  subst hw
  exact ⟨_, AI (Lib.bitLen x.toNat : Nat), [], g, he, Tr.refl k, rfl, rfl, rfl⟩
set_option maxHeartbeats 4000000
set_option maxRecDepth 100000
theorem isNaN_ok (x : Int) : ACall Try.prog 92 [AI x] [] (fun r h => r = .bool false ∧ h = []) := by
  (refine fcall_of mixed Try.func92 rfl (by decide) (hs := {}) ?k (ac := ?ac) ?c (rs := ?rs) ?r ?l ?H; (case k => kernel_rfl); (case c => (conv => (lhs; cbv))); (case r => (conv => (lhs; cbv))); (case l => exact Nat.le_of_ble_eq_true rfl))
  (repeat' ((try (conv => whnf)); first | (with_reducible first | refine FCond.tA ?_ | refine FCond.fA ?_) | ((with_reducible refine FCond.i (fun hq => ?_) (fun hq => ?_)) <;> (try simp only [zA, zE, zD, zJ, zB, zI, Int.not_le, Int.not_lt] at hq)) | (with_reducible first | refine Fits.in64 (by omega) ?_ | refine FIdx.nat (by omega) ?_ | refine FIdx.int (by omega) ?_ | refine FTo.nat (by omega) ?_ | refine FTo.int (by omega) ?_) | ((with_reducible refine Need.mk ?_ ?_); focus exact needA) | (with_reducible refine FApp.grow ?_) | (with_reducible refine FOr.pub ?_)))
  all_goals (try (conv => whnf))
  all_goals ((refine ⟨⟨_, [], [], Cut.nil _, Ln.sameB _ rfl, ?_, rfl⟩⟩); first | rfl | simp)
theorem less_int (x y : Int) : ACall Try.prog 79 [AI x, AI y] [] (fun r h => r = .bool (decide (x < y)) ∧ h = []) := by
  (refine fcall_of mixed Try.func79 rfl (by decide) (hs := {}) ?k (ac := ?ac) ?c (rs := ?rs) ?r ?l ?H; (case k => kernel_rfl); (case c => (conv => (lhs; cbv))); (case r => (conv => (lhs; cbv))); (case l => exact Nat.le_of_ble_eq_true rfl))
  (repeat' ((try (conv => whnf)); first | (with_reducible first | refine FCond.tA ?_ | refine FCond.fA ?_) | ((with_reducible refine FCond.i (fun hq => ?_) (fun hq => ?_)) <;> (try simp only [zA, zE, zD, zJ, zB, zI, Int.not_le, Int.not_lt] at hq)) | (with_reducible first | refine Fits.in64 (by omega) ?_ | refine FIdx.nat (by omega) ?_ | refine FIdx.int (by omega) ?_ | refine FTo.nat (by omega) ?_ | refine FTo.int (by omega) ?_) | ((with_reducible refine Need.mk ?_ ?_); focus exact needA) | (with_reducible refine FApp.grow ?_) | (refine FCall.pure ((isNaN_ok _)) ⟨Ln.sameB _ rfl, True.intro⟩ rfl ?_) | (with_reducible refine FOr.pub ?_)))
  all_goals (try (conv => whnf))
  all_goals ((refine ⟨⟨_, [], [], Cut.nil _, Ln.sameB _ rfl, ?_, rfl⟩⟩); rfl)
abbrev rowZ (n : Nat) (c : Nat → Int) : AB := .row n 1 (fun k _ => AI (c k))
theorem insert_ok (n : Nat) (c : Nat → Int) (hn : n ≤ 12) (hc : ∀ a, a + 1 < n → c a ≤ c (a + 1)) : ACall Try.prog 73 [.own 0 n, AI 0, AI n] [rowZ n c] (fun r h => r = .tup 0 (ofL []) ∧ h = [rowZ n c]) := by
  (refine fcall_of mixed Try.func73 rfl (by decide) (hs := {}) ?k (ac := ?ac) ?c (rs := ?rs) ?r ?l ?H; (case k => kernel_rfl); (case c => (conv => (lhs; cbv))); (case r => (conv => (lhs; cbv))); (case l => exact Nat.le_of_ble_eq_true rfl))
  (repeat' ((try (conv => whnf)); first | (with_reducible first | refine FCond.tA ?_ | refine FCond.fA ?_) | ((with_reducible refine FCond.i (fun hq => ?_) (fun hq => ?_)) <;> (try simp only [zA, zE, zD, zJ, zB, zI, Int.not_le, Int.not_lt] at hq)) | (with_reducible first | refine Fits.in64 (by omega) ?_ | refine FIdx.nat (by omega) ?_ | refine FIdx.int (by omega) ?_ | refine FTo.nat (by omega) ?_ | refine FTo.int (by omega) ?_) | ((with_reducible refine Need.mk ?_ ?_); focus exact needA) | (with_reducible refine FApp.grow ?_) | (with_reducible refine FOr.pub ?_)))
  all_goals (try (conv => whnf))
  refine FLoop.of (ACalls.mono _) (X := Nat) (fun i => [(0, .own 0 n), (1, AI 0), (2, AI n), (6, AI i)]) (fun i => [rowZ n c]) (fun i => 1 ≤ i) (fun i => n - i) 1 ⟨Nat.le_refl _, [0], Cut.A, allA⟩ ?_
  intro i hi
  by_cases hlt : i < n
  · have hci := hc (i - 1) (by omega)
    rw [show i - 1 + 1 = i by omega] at hci
    have hix : ((i : Int) - 1).toNat = i - 1 := by omega
    have hL := less_int (c i) (c ((i : Int) - 1).toNat)
    rw [show decide (c i < c ((i : Int) - 1).toNat) = false from decide_eq_false (by rw [hix]; omega)] at hL
    (repeat' ((try (conv => whnf)); first | (with_reducible first | refine FCond.tA ?_ | refine FCond.fA ?_) | ((with_reducible refine FCond.i (fun hq => ?_) (fun hq => ?_)) <;> (try simp only [zA, zE, zD, zJ, zB, zI, Int.not_le, Int.not_lt] at hq)) | (with_reducible first | refine Fits.in64 (by omega) ?_ | refine FIdx.nat (by omega) ?_ | refine FIdx.int (by omega) ?_ | refine FTo.nat (by omega) ?_ | refine FTo.int (by omega) ?_) | ((with_reducible refine Need.mk ?_ ?_); focus exact needA) | (with_reducible refine FApp.grow ?_) | (with_reducible refine FOr.pub ?_)))
    all_goals (try (conv => whnf))
    refine FLoop.of (ACalls.mono _) (X := Unit) (fun _ => [(0, .own 0 n), (1, AI 0), (2, AI n), (6, AI i), (7, AI i)]) (fun _ => [rowZ n c]) (fun _ => True) (fun _ => 0) () ⟨True.intro, [0], Cut.A, allA⟩ ?_
    rintro _ _
    (repeat' ((try (conv => whnf)); first | (with_reducible first | refine FCond.tA ?_ | refine FCond.fA ?_) | ((with_reducible refine FCond.i (fun hq => ?_) (fun hq => ?_)) <;> (try simp only [zA, zE, zD, zJ, zB, zI, Int.not_le, Int.not_lt] at hq)) | (with_reducible first | refine Fits.in64 (by omega) ?_ | refine FIdx.nat (by omega) ?_ | refine FIdx.int (by omega) ?_ | refine FTo.nat (by omega) ?_ | refine FTo.int (by omega) ?_) | ((with_reducible refine Need.mk ?_ ?_); focus exact needA) | (with_reducible refine FApp.grow ?_) | (refine FCall.pure (hL) ⟨Ln.sameB _ rfl, Ln.sameB _ rfl, True.intro⟩ rfl ?_) | (with_reducible refine FOr.pub ?_)))
    all_goals (try (conv => whnf))
    exact ⟨⟨i + 1, by omega, by omega, [0], Cut.A, allA⟩⟩
  · (repeat' ((try (conv => whnf)); first | (with_reducible first | refine FCond.tA ?_ | refine FCond.fA ?_) | ((with_reducible refine FCond.i (fun hq => ?_) (fun hq => ?_)) <;> (try simp only [zA, zE, zD, zJ, zB, zI, Int.not_le, Int.not_lt] at hq)) | (with_reducible first | refine Fits.in64 (by omega) ?_ | refine FIdx.nat (by omega) ?_ | refine FIdx.int (by omega) ?_ | refine FTo.nat (by omega) ?_ | refine FTo.int (by omega) ?_) | ((with_reducible refine Need.mk ?_ ?_); focus exact needA) | (with_reducible refine FApp.grow ?_) | (with_reducible refine FOr.pub ?_)))
    all_goals (try (conv => whnf))
    exact ⟨⟨_, [rowZ n c], [0], Cut.A, Ln.A, rfl, rfl⟩⟩
theorem insert_nil : ACall Try.prog 73 [nilS, AI 0, AI 0] [] (fun r h => r = .tup 0 (ofL []) ∧ h = []) := by
  (refine fcall_of mixed Try.func73 rfl (by decide) (hs := {}) ?k (ac := ?ac) ?c (rs := ?rs) ?r ?l ?H; (case k => kernel_rfl); (case c => (conv => (lhs; cbv))); (case r => (conv => (lhs; cbv))); (case l => exact Nat.le_of_ble_eq_true rfl))
  (repeat' ((try (conv => whnf)); first | (with_reducible first | refine FCond.tA ?_ | refine FCond.fA ?_) | ((with_reducible refine FCond.i (fun hq => ?_) (fun hq => ?_)) <;> (try simp only [zA, zE, zD, zJ, zB, zI, Int.not_le, Int.not_lt] at hq)) | (with_reducible first | refine Fits.in64 (by omega) ?_ | refine FIdx.nat (by omega) ?_ | refine FIdx.int (by omega) ?_ | refine FTo.nat (by omega) ?_ | refine FTo.int (by omega) ?_) | ((with_reducible refine Need.mk ?_ ?_); focus exact needA) | (with_reducible refine FApp.grow ?_) | (with_reducible refine FOr.pub ?_)))
  all_goals (try (conv => whnf))
  refine FLoop.of (ACalls.mono _) (X := Unit) (fun _ => [(0, nilS), (1, AI 0), (2, AI 0), (6, AI 1)]) (fun _ => []) (fun _ => True) (fun _ => 0) () ⟨True.intro, [], Cut.A, allA⟩ ?_
  rintro _ _
  (repeat' ((try (conv => whnf)); first | (with_reducible first | refine FCond.tA ?_ | refine FCond.fA ?_) | ((with_reducible refine FCond.i (fun hq => ?_) (fun hq => ?_)) <;> (try simp only [zA, zE, zD, zJ, zB, zI, Int.not_le, Int.not_lt] at hq)) | (with_reducible first | refine Fits.in64 (by omega) ?_ | refine FIdx.nat (by omega) ?_ | refine FIdx.int (by omega) ?_ | refine FTo.nat (by omega) ?_ | refine FTo.int (by omega) ?_) | ((with_reducible refine Need.mk ?_ ?_); focus exact needA) | (with_reducible refine FApp.grow ?_) | (with_reducible refine FOr.pub ?_)))
  all_goals (try (conv => whnf))
  (refine ⟨⟨_, [], [], Cut.nil _, Ln.sameB _ rfl, ?_, rfl⟩⟩)
  rfl
theorem pdq_ok (n : Nat) (c : Nat → Int) (hn : n ≤ 12) (hc : ∀ a, a + 1 < n → c a ≤ c (a + 1)) (l : Int) : ACall Try.prog 67 [.own 0 n, AI 0, AI n, AI l] [rowZ n c] (fun r h => r = .tup 0 (ofL []) ∧ h = [rowZ n c]) := by
  (refine fcall_of mixed Try.func67 rfl (by decide) (hs := {}) ?k (ac := ?ac) ?c (rs := ?rs) ?r ?l ?H; (case k => kernel_rfl); (case c => (conv => (lhs; cbv))); (case r => (conv => (lhs; cbv))); (case l => exact Nat.le_of_ble_eq_true rfl))
  (repeat' ((try (conv => whnf)); first | (with_reducible first | refine FCond.tA ?_ | refine FCond.fA ?_) | ((with_reducible refine FCond.i (fun hq => ?_) (fun hq => ?_)) <;> (try simp only [zA, zE, zD, zJ, zB, zI, Int.not_le, Int.not_lt] at hq)) | (with_reducible first | refine Fits.in64 (by omega) ?_ | refine FIdx.nat (by omega) ?_ | refine FIdx.int (by omega) ?_ | refine FTo.nat (by omega) ?_ | refine FTo.int (by omega) ?_) | ((with_reducible refine Need.mk ?_ ?_); focus exact needA) | (with_reducible refine FApp.grow ?_) | (with_reducible refine FOr.pub ?_)))
  all_goals (try (conv => whnf))
  refine FLoop.of (ACalls.mono _) (X := Unit) (fun _ => [(0, .own 0 n), (1, AI 0), (2, AI n), (3, AI l), (8, .bool true), (9, .bool true)]) (fun _ => [rowZ n c]) (fun _ => True) (fun _ => 0) () ⟨True.intro, [0], Cut.A, allA⟩ ?_
  rintro _ _
  (repeat' ((try (conv => whnf)); first | (with_reducible first | refine FCond.tA ?_ | refine FCond.fA ?_) | ((with_reducible refine FCond.i (fun hq => ?_) (fun hq => ?_)) <;> (try simp only [zA, zE, zD, zJ, zB, zI, Int.not_le, Int.not_lt] at hq)) | (with_reducible first | refine Fits.in64 (by omega) ?_ | refine FIdx.nat (by omega) ?_ | refine FIdx.int (by omega) ?_ | refine FTo.nat (by omega) ?_ | refine FTo.int (by omega) ?_) | ((with_reducible refine Need.mk ?_ ?_); focus exact needA) | (with_reducible refine FApp.grow ?_) | ((refine FCall.give [0] [] ((insert_ok n c hn hc)) rfl rfl ⟨⟨_, rfl, trivial, LnB.A⟩, True.intro⟩ ⟨Ln.A, Ln.A, Ln.A, True.intro⟩ ?_); rintro _ _ ⟨rfl, rfl⟩; (refine ⟨by first | exact Nat.le_of_ble_eq_true rfl | omega, .inl rfl, ?_⟩)) | (with_reducible refine FOr.pub ?_)))
  all_goals (try (conv => whnf))
  exact ⟨⟨_, [rowZ n c], [0], Cut.A, Ln.A, rfl, rfl⟩⟩
theorem pdq_nil (l : Int) : ACall Try.prog 67 [nilS, AI 0, AI 0, AI l] [] (fun r h => r = .tup 0 (ofL []) ∧ h = []) := by
  (refine fcall_of mixed Try.func67 rfl (by decide) (hs := {}) ?k (ac := ?ac) ?c (rs := ?rs) ?r ?l ?H; (case k => kernel_rfl); (case c => (conv => (lhs; cbv))); (case r => (conv => (lhs; cbv))); (case l => exact Nat.le_of_ble_eq_true rfl))
  (repeat' ((try (conv => whnf)); first | (with_reducible first | refine FCond.tA ?_ | refine FCond.fA ?_) | ((with_reducible refine FCond.i (fun hq => ?_) (fun hq => ?_)) <;> (try simp only [zA, zE, zD, zJ, zB, zI, Int.not_le, Int.not_lt] at hq)) | (with_reducible first | refine Fits.in64 (by omega) ?_ | refine FIdx.nat (by omega) ?_ | refine FIdx.int (by omega) ?_ | refine FTo.nat (by omega) ?_ | refine FTo.int (by omega) ?_) | ((with_reducible refine Need.mk ?_ ?_); focus exact needA) | (with_reducible refine FApp.grow ?_) | (with_reducible refine FOr.pub ?_)))
  all_goals (try (conv => whnf))
  refine FLoop.of (ACalls.mono _) (X := Unit) (fun _ => [(0, nilS), (1, AI 0), (2, AI 0), (3, AI l), (8, .bool true), (9, .bool true)]) (fun _ => []) (fun _ => True) (fun _ => 0) () ⟨True.intro, [], Cut.A, allA⟩ ?_
  rintro _ _
  (repeat' ((try (conv => whnf)); first | (with_reducible first | refine FCond.tA ?_ | refine FCond.fA ?_) | ((with_reducible refine FCond.i (fun hq => ?_) (fun hq => ?_)) <;> (try simp only [zA, zE, zD, zJ, zB, zI, Int.not_le, Int.not_lt] at hq)) | (with_reducible first | refine Fits.in64 (by omega) ?_ | refine FIdx.nat (by omega) ?_ | refine FIdx.int (by omega) ?_ | refine FTo.nat (by omega) ?_ | refine FTo.int (by omega) ?_) | ((with_reducible refine Need.mk ?_ ?_); focus exact needA) | (with_reducible refine FApp.grow ?_) | (refine FCall.pure (insert_nil) ⟨Ln.sameB _ rfl, Ln.sameB _ rfl, Ln.sameB _ rfl, True.intro⟩ rfl ?_) | (with_reducible refine FOr.pub ?_)))
  all_goals (try (conv => whnf))
  (refine ⟨⟨_, [], [], Cut.nil _, Ln.sameB _ rfl, ?_, rfl⟩⟩)
  rfl
theorem sort_ok (n : Nat) (c : Nat → Int) (hn : n ≤ 12) (hc : ∀ a, a + 1 < n → c a ≤ c (a + 1)) : ACall Try.prog 55 [.own 0 n] [rowZ n c] (fun r h => r = .tup 0 (ofL []) ∧ h = [rowZ n c]) := by
  (refine fcall_of mixed Try.func55 rfl (by decide) (hs := {}) ?k (ac := ?ac) ?c (rs := ?rs) ?r ?l ?H; (case k => kernel_rfl); (case c => (conv => (lhs; cbv))); (case r => (conv => (lhs; cbv))); (case l => exact Nat.le_of_ble_eq_true rfl))
  (repeat' ((try (conv => whnf)); first | (with_reducible first | refine FCond.tA ?_ | refine FCond.fA ?_) | ((with_reducible refine FCond.i (fun hq => ?_) (fun hq => ?_)) <;> (try simp only [zA, zE, zD, zJ, zB, zI, Int.not_le, Int.not_lt] at hq)) | (with_reducible first | refine Fits.in64 (by omega) ?_ | refine FIdx.nat (by omega) ?_ | refine FIdx.int (by omega) ?_ | refine FTo.nat (by omega) ?_ | refine FTo.int (by omega) ?_) | ((with_reducible refine Need.mk ?_ ?_); focus exact needA) | (with_reducible refine FApp.grow ?_) | (refine FCall.pure ((len_ok n (by omega) (by omega))) ⟨Ln.sameB _ rfl, True.intro⟩ rfl ?_) | ((refine FCall.give [0] [] ((pdq_ok n c hn hc _)) rfl rfl ⟨⟨_, rfl, trivial, LnB.A⟩, True.intro⟩ ⟨Ln.A, Ln.A, Ln.A, Ln.A, True.intro⟩ ?_); rintro _ _ ⟨rfl, rfl⟩; (refine ⟨by first | exact Nat.le_of_ble_eq_true rfl | omega, .inl rfl, ?_⟩)) | (with_reducible refine Fits.inU (by omega) ?_) | (with_reducible refine FOr.pub ?_)))
  all_goals (try (conv => whnf))
  exact ⟨⟨_, [rowZ n c], [0], Cut.A, Ln.A, rfl, rfl⟩⟩
theorem sort_nil : ACall Try.prog 55 [nilS] [] (fun r h => r = .tup 0 (ofL []) ∧ h = []) := by
  (refine fcall_of mixed Try.func55 rfl (by decide) (hs := {}) ?k (ac := ?ac) ?c (rs := ?rs) ?r ?l ?H; (case k => kernel_rfl); (case c => (conv => (lhs; cbv))); (case r => (conv => (lhs; cbv))); (case l => exact Nat.le_of_ble_eq_true rfl))
  (repeat' ((try (conv => whnf)); first | (with_reducible first | refine FCond.tA ?_ | refine FCond.fA ?_) | ((with_reducible refine FCond.i (fun hq => ?_) (fun hq => ?_)) <;> (try simp only [zA, zE, zD, zJ, zB, zI, Int.not_le, Int.not_lt] at hq)) | (with_reducible first | refine Fits.in64 (by omega) ?_ | refine FIdx.nat (by omega) ?_ | refine FIdx.int (by omega) ?_ | refine FTo.nat (by omega) ?_ | refine FTo.int (by omega) ?_) | ((with_reducible refine Need.mk ?_ ?_); focus exact needA) | (with_reducible refine FApp.grow ?_) | (refine FCall.pure ((len_ok 0 (by omega) (by omega))) ⟨Ln.sameB _ rfl, True.intro⟩ rfl ?_) | (refine FCall.pure ((pdq_nil _)) ⟨Ln.sameB _ rfl, Ln.sameB _ rfl, Ln.sameB _ rfl, Ln.sameB _ rfl, True.intro⟩ rfl ?_) | (with_reducible refine Fits.inU (by omega) ?_) | (with_reducible refine FOr.pub ?_)))
  all_goals (try (conv => whnf))
  (refine ⟨⟨_, [], [], Cut.nil _, Ln.sameB _ rfl, ?_, rfl⟩⟩)
  rfl
end Go.Proofs.Ytnghcfmloljagaa

namespace Go.Proofs.Ytnghcfmloljagaa
open Go.RowKit

abbrev fReach : AV := .fn 53 4 (ofL [.ptr 0 0, .ptr 1 0, .ptr 2 0, .ptr 3 0])
/-- The blocks of the search: its four variables, the rows of reached calls and seen spots, what has been opened. -/
abbrev blR (f : StF) (s : Std) (T N : Nat) (zc ec : Bool) (cl : List Nat) (L : List (List Int × AV)) (rd sn : Nat → Bool) : List AB := [.box 1 (ofL [.own 4 cl.length]), .box 1 (ofL [.ptr 6 0]), .box 1 (ofL [.own 5 N]), .box 1 (ofL [fReach]), rowS cl.length rd, rowS N sn, .box 6 (cMt f s T N zc ec cl 7), .mp 0 L]
structure RchS (s : Std) (T N : Nat) (cl : List Nat) (L : List (List Int × AV)) (rd sn : Nat → Bool) (call : Nat) (rd' sn' : Nat → Bool) : Prop where
  upR : ∀ c, rd c = true → rd' c = true
  upS : ∀ p, sn p = true → sn' p = true
  at_ : rd' call = true
  new : ∀ c, rd' c = true → rd c = false → c < cl.length ∧ ∀ p, p < N → adjS s T cl p c = true → sn' p = true ∧ ∀ d, lk L p = some d → rd' d = true
  via : ∀ c, rd' c = true → rd c = false → c = call ∨ ∃ p, p < N ∧ sn' p = true ∧ lk L p = some c
  tak : ∀ p, sn' p = true → sn p = true ∨ (p < N ∧ ∀ d, lk L p = some d → rd' d = true)
  snd : ∀ R Z : Nat → Prop, Closed N (adjS s T cl) (lk L) R Z → R call → (∀ c, rd c = true → R c) → (∀ p, sn p = true → Z p) → (∀ c, rd' c = true → R c) ∧ ∀ p, sn' p = true → Z p
structure RchH (s : Std) (T N : Nat) (cl : List Nat) (L : List (List Int × AV)) : Prop where
  nums : Nums L
  mat : Mat N cl.length (adjS s T cl) (lk L)
def RchC (f : StF) (s : Std) (T N : Nat) (zc ec : Bool) (cl : List Nat) (L : List (List Int × AV)) (rd sn : Nat → Bool) (call : Nat) : Prop :=
  ACall Try.prog 53 [AI call, .ptr 0 0, .ptr 1 0, .ptr 2 0, .ptr 3 0] (blR f s T N zc ec cl L rd sn) (fun r h => r = .tup 0 (ofL []) ∧ ∃ rd' sn', h = blR f s T N zc ec cl L rd' sn' ∧ RchS s T N cl L rd sn call rd' sn')
/-- In a round of the search. -/
structure RchI (s : Std) (T N : Nat) (cl : List Nat) (L : List (List Int × AV)) (rd sn : Nat → Bool) (call k : Nat) (rd' sn' : Nat → Bool) : Prop where
  upR : ∀ c, rd c = true → rd' c = true
  upS : ∀ p, sn p = true → sn' p = true
  at_ : rd' call = true
  done : ∀ p, p < k → adjS s T cl p call = true → sn' p = true ∧ ∀ d, lk L p = some d → rd' d = true
  new : ∀ c, rd' c = true → rd c = false → c ≠ call → c < cl.length ∧ ∀ p, p < N → adjS s T cl p c = true → sn' p = true ∧ ∀ d, lk L p = some d → rd' d = true
  via : ∀ c, rd' c = true → rd c = false → c = call ∨ ∃ p, p < N ∧ sn' p = true ∧ lk L p = some c
  tak : ∀ p, sn' p = true → sn p = true ∨ (p < N ∧ ∀ d, lk L p = some d → rd' d = true)
  snd : ∀ R Z : Nat → Prop, Closed N (adjS s T cl) (lk L) R Z → R call → (∀ c, rd c = true → R c) → (∀ p, sn p = true → Z p) → (∀ c, rd' c = true → R c) ∧ ∀ p, sn' p = true → Z p
section
variable {s : Std} {T N : Nat} {cl : List Nat} {L : List (List Int × AV)} {rd sn : Nat → Bool} {call k : Nat} {rd' sn' : Nat → Bool}
theorem setS_at (f : Nat → Bool) (k : Nat) : setS f k k = true := by simp [setS]
theorem setS_up (f : Nat → Bool) (k p : Nat) (h : f p = true) : setS f k p = true := by
  simp only [setS]; split
  · rfl
  · exact h
theorem setS_or {f : Nat → Bool} {k p : Nat} (h : setS f k p = true) : p = k ∨ f p = true := by
  simp only [setS] at h
  split at h
  · left; assumption
  · right; exact h
theorem rchI_zero : RchI s T N cl L rd sn call 0 (setS rd call) sn :=
  ⟨setS_up rd call, fun _ h => h, setS_at rd call, fun p hp => absurd hp (Nat.not_lt_zero p), fun c h1 h2 h3 => ((setS_or h1).elim (fun e => (h3 e).elim) fun e => (by rw [e] at h2; cases h2)), fun c h1 h2 => ((setS_or h1).elim .inl fun e => (by rw [e] at h2; cases h2)), fun p h => .inl h, fun R Z hZ hc h1 h2 => ⟨fun c h => (setS_or h).elim (fun e => e ▸ hc) (h1 c), h2⟩⟩
theorem rchI_skip (h : RchI s T N cl L rd sn call k rd' sn') (ha : adjS s T cl k call = false) : RchI s T N cl L rd sn call (k + 1) rd' sn' :=
  ⟨h.upR, h.upS, h.at_, fun p hp hq => by
    by_cases e : p = k
    · rw [e, ha] at hq; cases hq
    · exact h.done p (by omega) hq, h.new, h.via, h.tak, h.snd⟩
theorem rchI_free (h : RchI s T N cl L rd sn call k rd' sn') (hk : k < N) (ha : adjS s T cl k call = true) (hm : lk L k = none) : RchI s T N cl L rd sn call (k + 1) rd' (setS sn' k) := by
  refine ⟨h.upR, fun p hp => setS_up _ _ _ (h.upS p hp), h.at_, fun p hp hq => ?_, fun c h1 h2 h3 => ?_, fun c h1 h2 => ?_, fun p hp => (setS_or hp).elim (fun e => .inr ⟨by rw [e]; exact hk, fun d hd => by rw [e, hm] at hd; cases hd⟩) (h.tak p), fun R Z hZ hc h1 h2 => ?_⟩
  · by_cases e : p = k
    · subst e; exact ⟨setS_at _ _, fun d hd => by rw [hm] at hd; cases hd⟩
    · obtain ⟨a, b⟩ := h.done p (by omega) hq; exact ⟨setS_up _ _ _ a, b⟩
  · obtain ⟨a, b⟩ := h.new c h1 h2 h3
    exact ⟨a, fun p hp hq => ⟨setS_up _ _ _ (b p hp hq).1, (b p hp hq).2⟩⟩
  · exact (h.via c h1 h2).imp id fun ⟨p, a, b, e⟩ => ⟨p, a, setS_up _ _ _ b, e⟩
  · obtain ⟨a, b⟩ := h.snd R Z hZ hc h1 h2
    exact ⟨a, fun p hp => (setS_or hp).elim (fun e => e ▸ hZ.out call k hc hk ha) (b p)⟩
theorem rchI_taken {other : Nat} {rd2 sn2 : Nat → Bool} (h : RchI s T N cl L rd sn call k rd' sn') (hk : k < N) (ha : adjS s T cl k call = true) (hm : lk L k = some other) (hS : RchS s T N cl L rd' (setS sn' k) other rd2 sn2) : RchI s T N cl L rd sn call (k + 1) rd2 sn2 := by
  have us : ∀ p, sn' p = true → sn2 p = true := fun p hp => hS.upS p (setS_up _ _ _ hp)
  refine ⟨fun c hc => hS.upR c (h.upR c hc), fun p hp => us p (h.upS p hp), hS.upR _ h.at_, fun p hp hq => ?_, fun c h1 h2 h3 => ?_, fun c h1 h2 => ?_, fun p hp => (hS.tak p hp).elim (fun hp => (setS_or hp).elim (fun e => .inr ⟨by rw [e]; exact hk, fun d hd => by rw [e, hm] at hd; injection hd with hd; rw [← hd]; exact hS.at_⟩) fun hp => (h.tak p hp).imp id fun x => ⟨x.1, fun d hd => hS.upR d (x.2 d hd)⟩) .inr, fun R Z hZ hc h1 h2 => ?_⟩
  · by_cases e : p = k
    · subst e
      exact ⟨hS.upS p (setS_at _ _), fun d hd => by rw [hm] at hd; injection hd with hd; exact hd ▸ hS.at_⟩
    · obtain ⟨a, b⟩ := h.done p (by omega) hq
      exact ⟨us p a, fun d hd => hS.upR d (b d hd)⟩
  · cases hr : rd' c with
    | true =>
      obtain ⟨a, b⟩ := h.new c hr h2 h3
      exact ⟨a, fun p hp hq => ⟨us p (b p hp hq).1, fun d hd => hS.upR d ((b p hp hq).2 d hd)⟩⟩
    | false => exact hS.new c h1 hr
  · cases hr : rd' c with
    | true => exact (h.via c hr h2).imp id fun ⟨p, a, b, e⟩ => ⟨p, a, us p b, e⟩
    | false =>
      right
      rcases hS.via c h1 hr with e | e
      · exact ⟨k, hk, hS.upS k (setS_at _ _), by rw [hm, e]⟩
      · exact e
  · obtain ⟨a, b⟩ := h.snd R Z hZ hc h1 h2
    have hz := hZ.out call k hc hk ha
    obtain ⟨d, hd1, hd2⟩ := hZ.back k hz
    rw [hm] at hd2
    injection hd2 with hd2
    exact hS.snd R Z hZ (hd2 ▸ hd1) a fun p hp => (setS_or hp).elim (fun e => e ▸ hz) (b p)
theorem rchI_all (h : RchI s T N cl L rd sn call N rd' sn') (hc : call < cl.length) : RchS s T N cl L rd sn call rd' sn' :=
  ⟨h.upR, h.upS, h.at_, fun c h1 h2 => by
    by_cases e : c = call
    · subst e; exact ⟨hc, h.done⟩
    · exact h.new c h1 h2 e, h.via, h.tak, h.snd⟩
end
set_option maxHeartbeats 8000000
set_option maxRecDepth 100000
theorem reach_step (f : StF) (s : Std) (hs : StdOk s) (T N : Nat) (zc ec : Bool) (cl : List Nat) (hB : PlaceB s T N cl) (L : List (List Int × AV)) (hH : RchH s T N cl L) (u : Nat) (IH : ∀ rd sn call, call < cl.length → unseen cl.length rd < u → RchC f s T N zc ec cl L rd sn call) (rd sn : Nat → Bool) (call : Nat) (hcall : call < cl.length) (hu : unseen cl.length rd ≤ u) : RchC f s T N zc ec cl L rd sn call := by
  have hN32 : N ≤ 32 := by rw [hB.N32]; exact Nat.le_trans (Nat.mul_le_mul hs.n4 (Nat.le_trans hB.T8 hs.t8)) (by decide)
  have hcl := hB.len
  have hcC := hB.clC call hcall
  unfold RchC
  (refine fcall_of mixed Try.func53 rfl (by decide) (hs := {}) ?k (ac := ?ac) ?c (rs := ?rs) ?r ?l ?H; (case k => kernel_rfl); (case c => (conv => (lhs; cbv))); (case r => (conv => (lhs; cbv))); (case l => exact Nat.le_of_ble_eq_true rfl))
  cases hrd : rd call
  · (repeat' ((try (conv => whnf)); first | (with_reducible first | refine FCond.tA ?_ | refine FCond.fA ?_) | ((with_reducible refine FCond.i (fun hq => ?_) (fun hq => ?_)) <;> (try simp only [zA, zE, zD, zJ, zB, zI, Int.not_le, Int.not_lt] at hq)) | (with_reducible first | refine Fits.in64 (by omega) ?_ | refine FIdx.nat (by omega) ?_ | refine FIdx.int (by omega) ?_ | refine FTo.nat (by omega) ?_ | refine FTo.int (by omega) ?_) | ((with_reducible refine Need.mk ?_ ?_); focus exact needA) | (with_reducible refine FApp.grow ?_) | (with_reducible refine FOr.pub ?_)))
    all_goals (try (conv => whnf))
    have hset0 : ∀ j, j < cl.length → ∀ o, o < 1 → (AV.bool (setS rd call j)) = updRm (fun j _ => .bool (rd j)) call (elemC (.bool true)) j o := fun j _ o ho => by
      simp only [updRm, setS]
      by_cases e : j = call
      · rw [if_pos e, if_pos e]; rfl
      · rw [if_neg e, if_neg e]
    refine FLoop.of (ACalls.mono _) (X := Nat × (Nat → Bool) × (Nat → Bool)) (fun x => [(0, AI call), (2, .ptr 1 0), (3, .ptr 2 0), (4, .ptr 3 0), (20, aSpots false false T N), (21, AI N), (22, AI x.1)]) (fun x => blR f s T N zc ec cl L x.2.1 x.2.2) (fun x => x.1 ≤ N ∧ RchI s T N cl L rd sn call x.1 x.2.1 x.2.2) (fun x => N - x.1) (0, setS rd call, sn)
      ⟨⟨Nat.zero_le _, rchI_zero⟩, [0, 1, 2, 3, 4, 5, 6, 7], Cut.of (Nat.le_of_ble_eq_true rfl) rfl rfl (CutL.turned rfl LnB.A (CutL.turned rfl LnB.A (CutL.turned rfl LnB.A (CutL.turned rfl LnB.A (CutL.turned rfl (LnB.rowE (Nat.le_refl _) hset0) (CutL.turned rfl LnB.A (CutL.turned rfl LnB.A (CutL.turned rfl LnB.A CutL.done)))))))), allA⟩ ?_
    rintro ⟨k, rk, sk⟩ ⟨hk, hI⟩
    simp only at hk hI
    by_cases hlt : k < N
    · have hin := sp_in' hB hlt
      have hcan := can_ok f s hs (sp T k).1 (cl.getD call 0) (sp T k).2 hin.1 hcC
      cases hq7 : adjS s T cl k call
      · rw [show canA s (sp T k).1 ((sp T k).2 : Int) (cl.getD call 0) = false from hq7] at hcan
        (repeat' ((try (conv => whnf)); first | (with_reducible first | refine FCond.tA ?_ | refine FCond.fA ?_) | ((with_reducible refine FCond.i (fun hq => ?_) (fun hq => ?_)) <;> (try simp only [zA, zE, zD, zJ, zB, zI, Int.not_le, Int.not_lt] at hq)) | (with_reducible first | refine Fits.in64 (by omega) ?_ | refine FIdx.nat (by omega) ?_ | refine FIdx.int (by omega) ?_ | refine FTo.nat (by omega) ?_ | refine FTo.int (by omega) ?_) | ((with_reducible refine Need.mk ?_ ?_); focus exact needA) | (with_reducible refine FApp.grow ?_) | (refine FCall.pure (hcan) ⟨Ln.sameB _ rfl, Ln.sameB _ rfl, Ln.sameB _ rfl, True.intro⟩ rfl ?_) | (with_reducible refine FOr.pub ?_)))
        all_goals (try (conv => whnf))
        exact ⟨⟨(k + 1, rk, sk), ⟨hlt, rchI_skip hI hq7⟩, by show _ < _; simp only; omega, [0, 1, 2, 3, 4, 5, 6, 7], Cut.A, allA⟩⟩
      · rw [show canA s (sp T k).1 ((sp T k).2 : Int) (cl.getD call 0) = true from hq7] at hcan
        have hset : ∀ j, j < N → ∀ o, o < 1 → (AV.bool (setS sk k j)) = updRm (fun j _ => .bool (sk j)) k (elemC (.bool true)) j o := fun j _ o ho => by
          simp only [updRm, setS]
          by_cases e : j = k
          · rw [if_pos e, if_pos e]; rfl
          · rw [if_neg e, if_neg e]
        cases hm : lk L k with
        | none =>
          have hlook := (lk_none hH.nums).1 hm
          (repeat' ((try (conv => whnf)); first | (with_reducible first | refine FCond.tA ?_ | refine FCond.fA ?_) | ((with_reducible refine FCond.i (fun hq => ?_) (fun hq => ?_)) <;> (try simp only [zA, zE, zD, zJ, zB, zI, Int.not_le, Int.not_lt] at hq)) | (with_reducible first | refine Fits.in64 (by omega) ?_ | refine FIdx.nat (by omega) ?_ | refine FIdx.int (by omega) ?_ | refine FTo.nat (by omega) ?_ | refine FTo.int (by omega) ?_) | ((with_reducible refine Need.mk ?_ ?_); focus exact needA) | (with_reducible refine FApp.grow ?_) | (refine FCall.pure (hcan) ⟨Ln.sameB _ rfl, Ln.sameB _ rfl, Ln.sameB _ rfl, True.intro⟩ rfl ?_) | (with_reducible refine Need.in64 (by omega) ?_) | (refine FLook.no hlook ?_) | (with_reducible refine FOr.pub ?_)))
          all_goals (try (conv => whnf))
          exact ⟨⟨(k + 1, rk, setS sk k), ⟨hlt, rchI_free hI hlt hq7 hm⟩, by show _ < _; simp only; omega, [0, 1, 2, 3, 4, 5, 6, 7], Cut.of (Nat.le_of_ble_eq_true rfl) rfl rfl (CutL.turned rfl LnB.A (CutL.turned rfl LnB.A (CutL.turned rfl LnB.A (CutL.turned rfl LnB.A (CutL.turned rfl LnB.A (CutL.turned rfl (LnB.rowE (Nat.le_refl _) hset) (CutL.turned rfl LnB.A (CutL.turned rfl LnB.A CutL.done)))))))), allA⟩⟩
        | some other =>
          have hlook := (lk_some hH.nums).1 hm
          have hoth := hH.mat.ok k other hm
          have hus : unseen cl.length rk < unseen cl.length rd := Nat.lt_of_le_of_lt (unseen_mono fun p hp => (setS_or hp).elim (fun e => by rw [e]; exact hI.at_) (hI.upR p)) (unseen_set hcall hrd)
          have hP := IH rk (setS sk k) other hoth.2.1 (by omega)
          (repeat' ((try (conv => whnf)); first | (with_reducible first | refine FCond.tA ?_ | refine FCond.fA ?_) | ((with_reducible refine FCond.i (fun hq => ?_) (fun hq => ?_)) <;> (try simp only [zA, zE, zD, zJ, zB, zI, Int.not_le, Int.not_lt] at hq)) | (with_reducible first | refine Fits.in64 (by omega) ?_ | refine FIdx.nat (by omega) ?_ | refine FIdx.int (by omega) ?_ | refine FTo.nat (by omega) ?_ | refine FTo.int (by omega) ?_) | ((with_reducible refine Need.mk ?_ ?_); focus exact needA) | (with_reducible refine FApp.grow ?_) | (refine FCall.pure (hcan) ⟨Ln.sameB _ rfl, Ln.sameB _ rfl, Ln.sameB _ rfl, True.intro⟩ rfl ?_) | (with_reducible refine Need.in64 (by omega) ?_) | (refine FLook.yes hlook ?_) | (with_reducible refine FOr.pub ?_)))
          all_goals (try (conv => whnf))
          refine FCall.give [0, 1, 2, 3, 4, 5, 6, 7] [] hP rfl rfl ⟨⟨_, rfl, trivial, LnB.A⟩, ⟨_, rfl, trivial, LnB.A⟩, ⟨_, rfl, trivial, LnB.A⟩, ⟨_, rfl, trivial, LnB.A⟩, ⟨_, rfl, trivial, LnB.A⟩, ⟨_, rfl, trivial, LnB.rowE (Nat.le_refl _) hset⟩, ⟨_, rfl, trivial, LnB.A⟩, ⟨_, rfl, trivial, LnB.A⟩, True.intro⟩ ⟨Ln.A, Ln.A, Ln.A, Ln.A, Ln.A, True.intro⟩ ?_
          rintro _ _ ⟨rfl, rd2, sn2, rfl, hS⟩
          refine ⟨Nat.le_of_ble_eq_true rfl, .inl rfl, ?_⟩
          (repeat' ((try (conv => whnf)); first | (with_reducible first | refine FCond.tA ?_ | refine FCond.fA ?_) | ((with_reducible refine FCond.i (fun hq => ?_) (fun hq => ?_)) <;> (try simp only [zA, zE, zD, zJ, zB, zI, Int.not_le, Int.not_lt] at hq)) | (with_reducible first | refine Fits.in64 (by omega) ?_ | refine FIdx.nat (by omega) ?_ | refine FIdx.int (by omega) ?_ | refine FTo.nat (by omega) ?_ | refine FTo.int (by omega) ?_) | ((with_reducible refine Need.mk ?_ ?_); focus exact needA) | (with_reducible refine FApp.grow ?_) | (with_reducible refine FOr.pub ?_)))
          all_goals (try (conv => whnf))
          exact ⟨⟨(k + 1, rd2, sn2), ⟨hlt, rchI_taken hI hlt hq7 hm hS⟩, by show _ < _; simp only; omega, [0, 1, 2, 3, 4, 5, 6, 7], Cut.A, allA⟩⟩
    · obtain rfl : k = N := by omega
      (repeat' ((try (conv => whnf)); first | (with_reducible first | refine FCond.tA ?_ | refine FCond.fA ?_) | ((with_reducible refine FCond.i (fun hq => ?_) (fun hq => ?_)) <;> (try simp only [zA, zE, zD, zJ, zB, zI, Int.not_le, Int.not_lt] at hq)) | (with_reducible first | refine Fits.in64 (by omega) ?_ | refine FIdx.nat (by omega) ?_ | refine FIdx.int (by omega) ?_ | refine FTo.nat (by omega) ?_ | refine FTo.int (by omega) ?_) | ((with_reducible refine Need.mk ?_ ?_); focus exact needA) | (with_reducible refine FApp.grow ?_) | (with_reducible refine FOr.pub ?_)))
      all_goals (try (conv => whnf))
      exact ⟨⟨_, blR f s T k zc ec cl L rk sk, [0, 1, 2, 3, 4, 5, 6, 7], Cut.A, Ln.A, rfl, rk, sk, rfl, rchI_all hI hcall⟩⟩
  · (repeat' ((try (conv => whnf)); first | (with_reducible first | refine FCond.tA ?_ | refine FCond.fA ?_) | ((with_reducible refine FCond.i (fun hq => ?_) (fun hq => ?_)) <;> (try simp only [zA, zE, zD, zJ, zB, zI, Int.not_le, Int.not_lt] at hq)) | (with_reducible first | refine Fits.in64 (by omega) ?_ | refine FIdx.nat (by omega) ?_ | refine FIdx.int (by omega) ?_ | refine FTo.nat (by omega) ?_ | refine FTo.int (by omega) ?_) | ((with_reducible refine Need.mk ?_ ?_); focus exact needA) | (with_reducible refine FApp.grow ?_) | (with_reducible refine FOr.pub ?_)))
    all_goals (try (conv => whnf))
    exact ⟨⟨_, blR f s T N zc ec cl L rd sn, [0, 1, 2, 3, 4, 5, 6, 7], Cut.A, Ln.A, rfl, rd, sn, rfl, fun _ h => h, fun _ h => h, hrd, fun c h1 h2 => (by rw [h1] at h2; cases h2), fun c h1 h2 => (by rw [h1] at h2; cases h2), fun p h => .inl h, fun _ _ _ _ h1 h2 => ⟨h1, h2⟩⟩⟩
theorem reach_ok (f : StF) (s : Std) (hs : StdOk s) (T N : Nat) (zc ec : Bool) (cl : List Nat) (hB : PlaceB s T N cl) (L : List (List Int × AV)) (hH : RchH s T N cl L) : ∀ (u : Nat) (rd sn : Nat → Bool) (call : Nat), call < cl.length → unseen cl.length rd ≤ u → RchC f s T N zc ec cl L rd sn call
  | 0, rd, sn, call, hc, hu => reach_step f s hs T N zc ec cl hB L hH 0 (fun _ _ _ _ h => absurd h (Nat.not_lt_zero _)) rd sn call hc hu
  | u + 1, rd, sn, call, hc, hu => reach_step f s hs T N zc ec cl hB L hH (u + 1) (fun rd sn call hc hlt => reach_ok f s hs T N zc ec cl hB L hH u rd sn call hc (by omega)) rd sn call hc hu
end Go.Proofs.Ytnghcfmloljagaa

namespace Go.Proofs.Ytnghcfmloljagaa
open Go.RowKit

structure CovI (s : Std) (T N : Nat) (cl : List Nat) (L : List (List Int × AV)) (R Z : Nat → Prop) (mt : Nat → Bool) (k : Nat) (rd sn : Nat → Bool) : Prop where
  closed : ∀ c, rd c = true → c < cl.length ∧ ∀ p, p < N → adjS s T cl p c = true → sn p = true ∧ ∀ d, lk L p = some d → rd d = true
  via : ∀ c, rd c = true → mt c = false ∨ ∃ p, p < N ∧ sn p = true ∧ lk L p = some c
  tak : ∀ p, sn p = true → p < N ∧ ∀ d, lk L p = some d → rd d = true
  inR : ∀ c, rd c = true → R c
  inZ : ∀ p, sn p = true → Z p
  roots : ∀ j, j < k → mt j = false → rd j = true
section
variable {s : Std} {T N : Nat} {cl : List Nat} {L : List (List Int × AV)} {R Z : Nat → Prop} {mt : Nat → Bool} {k : Nat} {rd sn : Nat → Bool}
theorem covI_zero : CovI s T N cl L R Z mt 0 (fun _ => false) (fun _ => false) :=
  ⟨fun c h => (by cases h), fun c h => (by cases h), fun c h => (by cases h), fun c h => (by cases h), fun c h => (by cases h), fun j hj => absurd hj (Nat.not_lt_zero j)⟩
theorem covI_skip (h : CovI s T N cl L R Z mt k rd sn) (hm : mt k = true) : CovI s T N cl L R Z mt (k + 1) rd sn :=
  ⟨h.closed, h.via, h.tak, h.inR, h.inZ, fun j hj hq => by
    by_cases e : j = k
    · rw [e, hm] at hq; cases hq
    · exact h.roots j (by omega) hq⟩
theorem covI_reach {rd' sn' : Nat → Bool} (h : CovI s T N cl L R Z mt k rd sn) (hm : mt k = false) (hZ : Closed N (adjS s T cl) (lk L) R Z) (hR : R k) (hS : RchS s T N cl L rd sn k rd' sn') : CovI s T N cl L R Z mt (k + 1) rd' sn' := by
  obtain ⟨a, b⟩ := hS.snd R Z hZ hR h.inR h.inZ
  refine ⟨fun c hc => ?_, fun c hc => ?_, fun p hp => ?_, a, b, fun j hj hq => ?_⟩
  · cases hr : rd c with
    | true =>
      obtain ⟨x, y⟩ := h.closed c hr
      exact ⟨x, fun p hp hq => ⟨hS.upS p (y p hp hq).1, fun d hd => hS.upR d ((y p hp hq).2 d hd)⟩⟩
    | false => exact hS.new c hc hr
  · cases hr : rd c with
    | true => exact (h.via c hr).imp id fun ⟨p, x, y, e⟩ => ⟨p, x, hS.upS p y, e⟩
    | false => exact (hS.via c hc hr).imp (fun (e : c = k) => by rw [e]; exact hm) id
  · rcases hS.tak p hp with hp | hp
    · obtain ⟨x, y⟩ := h.tak p hp
      exact ⟨x, fun d hd => hS.upR d (y d hd)⟩
    · exact hp
  · by_cases e : j = k
    · rw [e]; exact hS.at_
    · exact hS.upR j (h.roots j (by omega) hq)
/-- The spots of the cover, and its calls (as the matching has them). -/
def spK (sn : Nat → Bool) (i : Nat) : List Nat := (List.range i).filter sn
def unK (rd : Nat → Bool) (j : Nat) : List Nat := (List.range j).filter fun c => !rd c
def caK (cl : List Nat) (rd : Nat → Bool) (j : Nat) : List Nat := (unK rd j).map fun c => cl.getD c 0
theorem spK_succ (sn : Nat → Bool) (i : Nat) : spK sn (i + 1) = if sn i = true then spK sn i ++ [i] else spK sn i := by
  unfold spK
  rw [List.range_succ, List.filter_append]
  cases h : sn i <;> simp [h]
theorem caK_succ (cl : List Nat) (rd : Nat → Bool) (j : Nat) : caK cl rd (j + 1) = if rd j = true then caK cl rd j else caK cl rd j ++ [cl.getD j 0] := by
  unfold caK unK
  rw [List.range_succ, List.filter_append]
  cases h : rd j <;> simp [h]
theorem spK_len (sn : Nat → Bool) (i : Nat) : (spK sn i).length ≤ i := by
  unfold spK
  exact Nat.le_trans (List.length_filter_le _ _) (by simp)
theorem caK_len (cl : List Nat) (rd : Nat → Bool) (j : Nat) : (caK cl rd j).length ≤ j := by
  unfold caK unK
  rw [List.length_map]
  exact Nat.le_trans (List.length_filter_le _ _) (by simp)
theorem cov_count (hn : Nums L) (hl : Len N L) (hM : Mat N cl.length (adjS s T cl) (lk L)) (hmt : ∀ c, mt c = true ↔ ∃ p, lk L p = some c) (hb : ∀ p, Z p → ∃ c, R c ∧ lk L p = some c) (h : CovI s T N cl L R Z mt cl.length rd sn) : (spK sn N).length + (unK rd cl.length).length = L.length := by
  let P := (List.range N).filter fun p => (lk L p).isSome
  have hP : L.length = P.length := by
    have := hl
    unfold Len at this
    rw [this, cntB_filter]
  have e1 : spK sn N = P.filter sn := by
    unfold spK
    simp only [P]
    rw [List.filter_filter]
    refine List.filter_congr fun p _ => ?_
    cases hs : sn p with
    | false => rfl
    | true =>
      obtain ⟨c, _, hc⟩ := hb p (h.inZ p hs)
      rw [hc]; rfl
  have mem : ∀ p, p ∈ P ↔ p < N ∧ ∃ c, lk L p = some c := fun p => by
    simp only [P, List.mem_filter, List.mem_range, Option.isSome_iff_exists]
  have seen : ∀ p c, lk L p = some c → (sn p = true ↔ rd c = true) := fun p c hc => by
    constructor
    · intro hs; exact (h.tak p hs).2 c hc
    · intro hr
      rcases h.via c hr with e | ⟨q, _, hq, e⟩
      · rw [(hmt c).2 ⟨p, hc⟩] at e; cases e
      · rw [hM.inj p q c hc e]; exact hq
  let φ : Nat → Nat := fun p => (lk L p).getD 0
  have hφ : ∀ p, p ∈ P.filter (fun p => !sn p) → p < N ∧ sn p = false ∧ lk L p = some (φ p) := fun p hp => by
    obtain ⟨h1, h2⟩ := List.mem_filter.1 hp
    obtain ⟨h3, c, h4⟩ := (mem p).1 h1
    refine ⟨h3, by simpa using h2, ?_⟩
    simp only [φ, h4]; rfl
  have ndP : P.Nodup := List.Nodup.sublist List.filter_sublist List.nodup_range
  have nd2 : ((P.filter fun p => !sn p).map φ).Nodup := nodup_map (List.Nodup.sublist List.filter_sublist ndP) fun p hp q hq e => by
    have x := (hφ p hp).2.2
    have y := (hφ q hq).2.2
    rw [e] at x
    exact hM.inj p q _ x y
  have e2 : (unK rd cl.length).length = (P.filter fun p => !sn p).length := by
    refine Nat.le_antisymm ?_ ?_
    · refine Nat.le_trans (m := ((P.filter fun p => !sn p).map φ).length) ?_ (Nat.le_of_eq (List.length_map _))
      refine pig (List.Nodup.sublist List.filter_sublist List.nodup_range) fun c hc => ?_
      obtain ⟨h1, h2⟩ := List.mem_filter.1 hc
      have h1 := List.mem_range.1 h1
      have h2 : rd c = false := by simpa using h2
      have hm : mt c = true := by
        cases hm : mt c with
        | true => rfl
        | false => rw [h.roots c h1 hm] at h2; cases h2
      obtain ⟨p, hp⟩ := (hmt c).1 hm
      refine List.mem_map.2 ⟨p, List.mem_filter.2 ⟨(mem p).2 ⟨(hM.ok p c hp).1, c, hp⟩, ?_⟩, ?_⟩
      · cases hs : sn p with
        | false => rfl
        | true => rw [(seen p c hp).1 hs] at h2; cases h2
      · simp only [φ, hp]; rfl
    · refine Nat.le_trans (m := ((P.filter fun p => !sn p).map φ).length) (Nat.le_of_eq (List.length_map _).symm) ?_
      refine pig nd2 fun c hc => ?_
      obtain ⟨p, hp, rfl⟩ := List.mem_map.1 hc
      obtain ⟨h1, h2, h3⟩ := hφ p hp
      refine List.mem_filter.2 ⟨List.mem_range.2 (hM.ok p _ h3).2.1, ?_⟩
      cases hr : rd (φ p) with
      | false => rfl
      | true => rw [(seen p _ h3).2 hr] at h2; cases h2
  rw [e1, e2, hP]
  have : ∀ l : List Nat, (l.filter sn).length + (l.filter fun p => !sn p).length = l.length := fun l => by
    induction l with
    | nil => rfl
    | cons a l ih => cases ha : sn a <;> simp [ha] <;> omega
  exact this P
end
/-- Spots and calls that cover all that can be done. -/
structure CovR (s : Std) (t : Nat) (u : Bool) (A B : List Nat) : Prop where
  spA : A.Pairwise (· < ·)
  ltA : ∀ p ∈ A, p < s.n * (t + 1)
  spB : B.Pairwise (· < ·)
  ltB : ∀ c ∈ B, c < s.C ∧ counts s u c = true
  all : ∀ c, c < s.C → counts s u c = true → c ∈ B ∨ ∀ p, p < s.n * (t + 1) → canA s (sp (t + 1) p).1 ((sp (t + 1) p).2 : Int) c = true → p ∈ A
  len : A.length + B.length = mostN s t u
theorem clK_sorted (s : Std) (u : Bool) (c : Nat) : (clK s u c).Pairwise (· < ·) := by
  unfold clK
  exact List.Pairwise.filter _ List.pairwise_lt_range
theorem getD_lt {l : List Nat} (h : l.Pairwise (· < ·)) {i j : Nat} (hij : i < j) (hj : j < l.length) : l.getD i 0 < l.getD j 0 := by
  have := List.pairwise_iff_getElem.1 h i j (by omega) hj hij
  simp only [List.getD, List.getElem?_eq_getElem hj, List.getElem?_eq_getElem (show i < l.length by omega), Option.getD_some]
  exact this
theorem caK_sorted {cl : List Nat} (hc : cl.Pairwise (· < ·)) (rd : Nat → Bool) (j : Nat) (hj : j ≤ cl.length) : (caK cl rd j).Pairwise (· < ·) := by
  unfold caK unK
  rw [List.pairwise_map]
  refine List.Pairwise.imp_of_mem ?_ (List.Pairwise.filter _ (List.pairwise_lt_range (n := j)))
  intro a b _ hb h
  have := List.mem_range.1 (List.mem_filter.1 hb).1
  exact getD_lt hc h (by omega)
theorem cov_all {s : Std} {t : Nat} {u : Bool} {L : List (List Int × AV)} {R Z : Nat → Prop} {mt rd sn : Nat → Bool} (hF : Full s (t + 1) (s.n * (t + 1)) (clK s u s.C) L) (hb : ∀ p, Z p → ∃ c, R c ∧ lk L p = some c) (hmt : ∀ c, mt c = true ↔ ∃ p, lk L p = some c) (h : CovI s (t + 1) (s.n * (t + 1)) (clK s u s.C) L R Z mt (clK s u s.C).length rd sn) : CovR s t u (spK sn (s.n * (t + 1))) (caK (clK s u s.C) rd (clK s u s.C).length) := by
  refine ⟨List.Pairwise.filter _ List.pairwise_lt_range, fun p hp => List.mem_range.1 (List.mem_filter.1 hp).1, caK_sorted (clK_sorted s u s.C) rd _ (Nat.le_refl _), fun c hc => ?_, fun c hc hq => ?_, ?_⟩
  · obtain ⟨j, hj, rfl⟩ := List.mem_map.1 hc
    have hj := List.mem_range.1 (List.mem_filter.1 hj).1
    exact ⟨clK_mem hj, clK_counts hj⟩
  · obtain ⟨j, hj, rfl⟩ := clK_has hc hq
    cases hr : rd j with
    | false => exact .inl (List.mem_map.2 ⟨j, List.mem_filter.2 ⟨List.mem_range.2 hj, by rw [hr]; rfl⟩, rfl⟩)
    | true => exact .inr fun p hp ha => List.mem_filter.2 ⟨List.mem_range.2 hp, ((h.closed j hr).2 p hp ha).1⟩
  · have := cov_count hF.nums hF.len hF.mat hmt hb h
    unfold caK
    rw [List.length_map, this]
    exact (mostN_eq (full_most hF)).symm
end Go.Proofs.Ytnghcfmloljagaa
