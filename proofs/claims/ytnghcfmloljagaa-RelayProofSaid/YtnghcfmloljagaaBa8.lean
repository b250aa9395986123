/- Relay: the program's search for best answers. / Relay: right answers, of the reference and of the program. -/
import Derived.Test.YtnghcfmloljagaaBa7
set_option linter.unusedSimpArgs false
set_option linter.unusedVariables false
namespace Go.Proofs.Ytnghcfmloljagaa
open Go.RowKit Go.Shelf

abbrev fBack (T n : Nat) : AV := .fn 71 1 (ofL [.ip 1 (ofL [aSpots false false T n]) 0])
set_option maxHeartbeats 8000000
set_option maxRecDepth 100000
theorem backward_ok (T n : Nat) : ACall Try.prog 62 [aSpots false false T n] [] (fun r h => r = fBack T n ∧ h = []) := by
  (refine fcall_of mixed Try.func62 rfl (by decide) (hs := {}) ?k (ac := ?ac) ?c (rs := ?rs) ?r ?l ?H; (case k => kernel_rfl); (case c => (conv => (lhs; cbv))); (case r => (conv => (lhs; cbv))); (case l => exact Nat.le_of_ble_eq_true rfl))
  (repeat' ((try (conv => whnf)); first | (with_reducible first | refine FCond.tA ?_ | refine FCond.fA ?_) | ((with_reducible refine FCond.i (fun hq => ?_) (fun hq => ?_)) <;> (try simp only [zA, zE, zD, zJ, zB, zI, Int.not_le, Int.not_lt] at hq)) | (with_reducible first | refine Fits.in64 (by omega) ?_ | refine FIdx.nat (by omega) ?_ | refine FIdx.int (by omega) ?_ | refine FTo.nat (by omega) ?_ | refine FTo.int (by omega) ?_) | ((with_reducible refine Need.mk ?_ ?_); focus exact needA) | (with_reducible refine FApp.grow ?_) | (with_reducible refine FOr.pub ?_)))
  (try (conv => whnf))
  exact ⟨⟨fBack T n, [], [], Cut.nil _, Ln.fnN ⟨True.intro, Ln.boxP (m := 1) (goneB rfl) rfl ⟨True.intro, Ln.sameB _ rfl⟩ rfl⟩, rfl, rfl⟩⟩
theorem best_walk (f : StF) (s : Std) (hs : StdOk s) : ACall Try.prog 40 [aStd f s] [] (fun r h => r = .tup 2 (ofL [.own 0 s.C, aWt (bestW s)]) ∧ h = [rowA s.C (fun c => (bestL s).getD c na)]) := by
  have ht := hs.t
  have t1 := hs.t1
  have t8 := hs.t8
  have c12 : s.rg.length ≤ 12 := hs.c12
  have n1 := hs.n1
  have n4 := hs.n4
  have hnT : s.n * s.T ≤ 32 := Nat.le_trans (Nat.mul_le_mul n4 t8) (by decide)
  have hp := Nat.pow_le_pow_right (show 0 < 2 by decide) c12
  have hpos : 0 < 2 ^ s.rg.length := Nat.two_pow_pos _
  have cS := spots_ok f s (s.T - 1) s.T (by omega) (by omega) (by omega) (by omega)
  (refine fcall_of mixed Try.func40 rfl (by decide) (hs := { ord := [(45, [(0, []), (1, []), (2, []), (3, [2]), (4, [])])] }) ?k (ac := ?ac) ?c (rs := ?rs) ?r ?l ?H; (case k => kernel_rfl); (case c => (conv => (lhs; cbv))); (case r => (conv => (lhs; cbv))); (case l => exact Nat.le_of_ble_eq_true rfl))
  (repeat' ((try (conv => whnf)); first | (with_reducible first | refine FCond.tA ?_ | refine FCond.fA ?_) | ((with_reducible refine FCond.i (fun hq => ?_) (fun hq => ?_)) <;> (try simp only [zA, zE, zD, zJ, zB, zI, Int.not_le, Int.not_lt] at hq)) | (with_reducible first | refine Fits.in64 (by omega) ?_ | refine FIdx.nat (by omega) ?_ | refine FIdx.int (by omega) ?_ | refine FTo.nat (by omega) ?_ | refine FTo.int (by omega) ?_) | ((with_reducible refine Need.mk ?_ ?_); focus exact needA) | (with_reducible first | refine FBit.hasT rfl (by assumption) ?_ | refine FBit.hasF rfl (by assumption) ?_ | refine FBit.shrN rfl (by omega) ?_ | refine FBit.half rfl ?_ | refine FBit.shl1 rfl (by omega) ?_ | refine Fits.inU (by omega) ?_ | refine FBit.shrNI rfl (by omega) ?_ | refine FBit.shrIN rfl (by omega) (by omega) ?_ | refine FBit.shrI rfl (by omega) (by omega) ?_ | refine FBit.shl1I rfl (by omega) ?_) | (with_reducible refine FBit.has rfl (fun hq => ?_) (fun hq => ?_)) | (with_reducible first | refine FBit.and1 rfl ?_ | refine FBit.andN rfl (by omega) (by omega) ?_ | refine FBit.orN rfl (by omega) (by omega) ?_ | refine FBit.andNotN rfl (by omega) (by omega) ?_) | (with_reducible refine FApp.grow ?_) | (refine FOr.keep ?_) | (refine FCall.pure cS ⟨Ln.A, Ln.int (by omega), True.intro⟩ rfl ?_) | (with_reducible refine FOr.pub ?_)))
  all_goals (try (conv => whnf))
  refine FLoop.of (ACalls.mono _) (X := Nat) (fun m => [(1, .ptr 0 0), (2, nilS), (3, .ptr 1 0), (4, aSpots false false s.T (s.n * s.T)), (5, AI (2 ^ s.rg.length : Nat)), (6, .ptr 4 0), (7, AI m)])
    (fun m => [.box 3 (cStd f s), .box 2 (ofL [AI 0, AI 0]), .row (2 ^ s.rg.length) 4 (fun k => cStp (r0 m k)), .rwg 1 1 (fun _ _ => .own 2 (2 ^ s.rg.length)), .box 1 (ofL [.own 3 1])])
    (fun m => 1 ≤ m ∧ m ≤ 2 ^ s.rg.length) (fun m => 2 ^ s.rg.length - m) 1
    ⟨⟨Nat.le_refl _, hpos⟩, [0, 1, 2, 3, 4], Cut.of (Nat.le_of_ble_eq_true rfl) rfl rfl (CutL.turned rfl LnB.A (CutL.turned rfl LnB.A (CutL.turned rfl (LnB.rowE (by omega) fun k hk o ho => by unfold r0; rw [decide_eq_false (by omega)]; rfl) (CutL.turned rfl (LnB.rwg1 (Ln.ownE rfl (by omega))) (CutL.turned rfl LnB.A CutL.done))))), allA⟩ ?_
  rintro m ⟨hm1, hm⟩
  by_cases hlt : m < 2 ^ s.rg.length
  · (repeat' ((try (conv => whnf)); first | (with_reducible first | refine FCond.tA ?_ | refine FCond.fA ?_) | ((with_reducible refine FCond.i (fun hq => ?_) (fun hq => ?_)) <;> (try simp only [zA, zE, zD, zJ, zB, zI, Int.not_le, Int.not_lt] at hq)) | (with_reducible first | refine Fits.in64 (by omega) ?_ | refine FIdx.nat (by omega) ?_ | refine FIdx.int (by omega) ?_ | refine FTo.nat (by omega) ?_ | refine FTo.int (by omega) ?_) | ((with_reducible refine Need.mk ?_ ?_); focus exact needA) | (with_reducible first | refine FBit.hasT rfl (by assumption) ?_ | refine FBit.hasF rfl (by assumption) ?_ | refine FBit.shrN rfl (by omega) ?_ | refine FBit.half rfl ?_ | refine FBit.shl1 rfl (by omega) ?_ | refine Fits.inU (by omega) ?_ | refine FBit.shrNI rfl (by omega) ?_ | refine FBit.shrIN rfl (by omega) (by omega) ?_ | refine FBit.shrI rfl (by omega) (by omega) ?_ | refine FBit.shl1I rfl (by omega) ?_) | (with_reducible refine FBit.has rfl (fun hq => ?_) (fun hq => ?_)) | (with_reducible first | refine FBit.and1 rfl ?_ | refine FBit.andN rfl (by omega) (by omega) ?_ | refine FBit.orN rfl (by omega) (by omega) ?_ | refine FBit.andNotN rfl (by omega) (by omega) ?_) | (with_reducible refine FApp.grow ?_) | (with_reducible refine FOr.pub ?_)))
    all_goals (try (conv => whnf))
    refine ⟨⟨m + 1, ⟨by omega, hlt⟩, by omega, [0, 1, 2, 3, 4], ?_, allA⟩⟩
    refine Cut.of (Nat.le_of_ble_eq_true rfl) rfl rfl (CutL.turned rfl LnB.A (CutL.turned rfl LnB.A (CutL.turned rfl (LnB.rowE (Nat.le_refl _) fun k hk o ho => ?_) (CutL.turned rfl (LnB.rwg1 (Ln.ownE rfl rfl)) (CutL.turned rfl LnB.A CutL.done)))))
    simp only [updR, r0]
    by_cases hk2 : k = m
    · subst hk2
      rw [decide_eq_true (show 0 < k ∧ k < k + 1 by omega), decide_eq_false (show ¬ (0 < k ∧ k < k) by omega)]
      rcases (show o = 0 ∨ o = 1 ∨ o = 2 ∨ o = 3 by omega) with rfl | rfl | rfl | rfl <;> first | (rw [if_pos ⟨rfl, rfl⟩]; rfl) | (rw [if_neg (by omega)]; rfl)
    · rw [if_neg (by omega)]
      have e : decide (0 < k ∧ k < m + 1) = decide (0 < k ∧ k < m) := by rw [decide_eq_decide]; omega
      rw [e]
  obtain rfl : m = 2 ^ s.rg.length := by omega
  (repeat' ((try (conv => whnf)); first | (with_reducible first | refine FCond.tA ?_ | refine FCond.fA ?_) | ((with_reducible refine FCond.i (fun hq => ?_) (fun hq => ?_)) <;> (try simp only [zA, zE, zD, zJ, zB, zI, Int.not_le, Int.not_lt] at hq)) | (with_reducible first | refine Fits.in64 (by omega) ?_ | refine FIdx.nat (by omega) ?_ | refine FIdx.int (by omega) ?_ | refine FTo.nat (by omega) ?_ | refine FTo.int (by omega) ?_) | ((with_reducible refine Need.mk ?_ ?_); focus exact needA) | (with_reducible first | refine FBit.hasT rfl (by assumption) ?_ | refine FBit.hasF rfl (by assumption) ?_ | refine FBit.shrN rfl (by omega) ?_ | refine FBit.half rfl ?_ | refine FBit.shl1 rfl (by omega) ?_ | refine Fits.inU (by omega) ?_ | refine FBit.shrNI rfl (by omega) ?_ | refine FBit.shrIN rfl (by omega) (by omega) ?_ | refine FBit.shrI rfl (by omega) (by omega) ?_ | refine FBit.shl1I rfl (by omega) ?_) | (with_reducible refine FBit.has rfl (fun hq => ?_) (fun hq => ?_)) | (with_reducible first | refine FBit.and1 rfl ?_ | refine FBit.andN rfl (by omega) (by omega) ?_ | refine FBit.orN rfl (by omega) (by omega) ?_ | refine FBit.andNotN rfl (by omega) (by omega) ?_) | (with_reducible refine FApp.grow ?_) | (with_reducible refine FOr.pub ?_)))
  all_goals (try (conv => whnf))
  refine FLoop.of (ACalls.mono _) (X := Nat) (fun k => [(1, .ptr 0 0), (2, nilS), (3, .ptr 1 0), (4, aSpots false false s.T (s.n * s.T)), (6, .ptr 3 0), (54, aSpots false false s.T (s.n * s.T)), (55, AI (s.n * s.T : Nat)), (56, AI k)])
    (fun k => [.box 3 (cStd f s), .box 2 (ofL [AI 0, AI 0]), .row (k + 1) 1 (fun j _ => aSteps false false (2 ^ s.rg.length) (row s j)), .box 1 (ofL [.own 2 (k + 1)])])
    (fun k => k ≤ s.n * s.T) (fun k => s.n * s.T - k) 0
    ⟨Nat.zero_le _, [0, 1, 3, 4], Cut.of (Nat.le_of_ble_eq_true rfl) rfl rfl (CutL.turned rfl LnB.A (CutL.turned rfl LnB.A (CutL.turned rfl (LnB.rwgR1 (Ln.pubE (goneB rfl) rfl (Nat.le_refl _) rfl (fun k hk o ho => by rw [r0_all hk])) trivial) (CutL.turned rfl LnB.A CutL.done)))), allA⟩ ?_
  intro k hk
  by_cases hlt : k < s.n * s.T
  · have hin := sp_in hs hlt
    have hkk : (((k + 1 : Nat) : Int) - 1).toNat = k := by omega
    (repeat' ((try (conv => whnf)); first | (with_reducible first | refine FCond.tA ?_ | refine FCond.fA ?_) | ((with_reducible refine FCond.i (fun hq => ?_) (fun hq => ?_)) <;> (try simp only [zA, zE, zD, zJ, zB, zI, Int.not_le, Int.not_lt] at hq)) | (with_reducible first | refine Fits.in64 (by omega) ?_ | refine FIdx.nat (by omega) ?_ | refine FIdx.int (by omega) ?_ | refine FTo.nat (by omega) ?_ | refine FTo.int (by omega) ?_) | ((with_reducible refine Need.mk ?_ ?_); focus exact needA) | (with_reducible first | refine FBit.hasT rfl (by assumption) ?_ | refine FBit.hasF rfl (by assumption) ?_ | refine FBit.shrN rfl (by omega) ?_ | refine FBit.half rfl ?_ | refine FBit.shl1 rfl (by omega) ?_ | refine Fits.inU (by omega) ?_ | refine FBit.shrNI rfl (by omega) ?_ | refine FBit.shrIN rfl (by omega) (by omega) ?_ | refine FBit.shrI rfl (by omega) (by omega) ?_ | refine FBit.shl1I rfl (by omega) ?_) | (with_reducible refine FBit.has rfl (fun hq => ?_) (fun hq => ?_)) | (with_reducible first | refine FBit.and1 rfl ?_ | refine FBit.andN rfl (by omega) (by omega) ?_ | refine FBit.orN rfl (by omega) (by omega) ?_ | refine FBit.andNotN rfl (by omega) (by omega) ?_) | (with_reducible refine FApp.grow ?_) | (with_reducible refine FOr.pub ?_)))
    all_goals (try (conv => whnf))
    rw [hkk]
    ((refine FCall.give [] [] (cloneS_ok (2 ^ s.rg.length) (row s k) ⟨hpos, by omega⟩) rfl rfl True.intro ⟨Ln.A, True.intro⟩ ?_); rintro _ _ ⟨rfl, rfl⟩; (refine ⟨by first | exact Nat.le_of_ble_eq_true rfl | omega, .inl rfl, ?_⟩))
    (repeat' ((try (conv => whnf)); first | (with_reducible first | refine FCond.tA ?_ | refine FCond.fA ?_) | ((with_reducible refine FCond.i (fun hq => ?_) (fun hq => ?_)) <;> (try simp only [zA, zE, zD, zJ, zB, zI, Int.not_le, Int.not_lt] at hq)) | (with_reducible first | refine Fits.in64 (by omega) ?_ | refine FIdx.nat (by omega) ?_ | refine FIdx.int (by omega) ?_ | refine FTo.nat (by omega) ?_ | refine FTo.int (by omega) ?_) | ((with_reducible refine Need.mk ?_ ?_); focus exact needA) | (with_reducible first | refine FBit.hasT rfl (by assumption) ?_ | refine FBit.hasF rfl (by assumption) ?_ | refine FBit.shrN rfl (by omega) ?_ | refine FBit.half rfl ?_ | refine FBit.shl1 rfl (by omega) ?_ | refine Fits.inU (by omega) ?_ | refine FBit.shrNI rfl (by omega) ?_ | refine FBit.shrIN rfl (by omega) (by omega) ?_ | refine FBit.shrI rfl (by omega) (by omega) ?_ | refine FBit.shl1I rfl (by omega) ?_) | (with_reducible refine FBit.has rfl (fun hq => ?_) (fun hq => ?_)) | (with_reducible first | refine FBit.and1 rfl ?_ | refine FBit.andN rfl (by omega) (by omega) ?_ | refine FBit.orN rfl (by omega) (by omega) ?_ | refine FBit.andNotN rfl (by omega) (by omega) ?_) | (with_reducible refine FApp.grow ?_) | (with_reducible refine FOr.pub ?_)))
    all_goals (try (conv => whnf))
    refine FLoop.of (ACalls.mono _) (X := Nat) (fun m => [(1, .ptr 0 0), (2, nilS), (3, .ptr 1 0), (4, aSpots false false s.T (s.n * s.T)), (6, .ptr 3 0), (9, .ptr 4 0), (10, aSteps false false (2 ^ s.rg.length) (row s k)), (11, .own 5 (2 ^ s.rg.length)), (54, aSpots false false s.T (s.n * s.T)), (55, AI (s.n * s.T : Nat)), (56, AI k), (69, AI (2 ^ s.rg.length : Nat)), (70, AI m)])
      (fun m => [.box 3 (cStd f s), .box 2 (ofL [AI 0, AI 0]), .row (k + 1) 1 (fun j _ => aSteps false false (2 ^ s.rg.length) (row s j)), .box 1 (ofL [.own 2 (k + 1)]), .box 2 (cSpot ((sp s.T k).1 : Int) ((sp s.T k).2 : Int)), .row (2 ^ s.rg.length) 4 (fun j => cStp (r4 (row s k) m j))])
      (fun m => m ≤ 2 ^ s.rg.length) (fun m => 2 ^ s.rg.length - m) 0
      ⟨Nat.zero_le _, [0, 1, 2, 3, 4, 5], Cut.of (Nat.le_of_ble_eq_true rfl) rfl rfl (CutL.turned rfl LnB.A (CutL.turned rfl LnB.A (CutL.turned rfl LnB.A (CutL.turned rfl LnB.A (CutL.turned rfl LnB.A (CutL.turned rfl (LnB.rowE (Nat.le_refl _) fun k hk o ho => by rw [r4_zero]) CutL.done)))))), allA⟩ ?_
    intro m hm
    by_cases hlt4 : m < 2 ^ s.rg.length
    · (repeat' ((try (conv => whnf)); first | (with_reducible first | refine FCond.tA ?_ | refine FCond.fA ?_) | ((with_reducible refine FCond.i (fun hq => ?_) (fun hq => ?_)) <;> (try simp only [zA, zE, zD, zJ, zB, zI, Int.not_le, Int.not_lt] at hq)) | (with_reducible first | refine Fits.in64 (by omega) ?_ | refine FIdx.nat (by omega) ?_ | refine FIdx.int (by omega) ?_ | refine FTo.nat (by omega) ?_ | refine FTo.int (by omega) ?_) | ((with_reducible refine Need.mk ?_ ?_); focus exact needA) | (with_reducible first | refine FBit.hasT rfl (by assumption) ?_ | refine FBit.hasF rfl (by assumption) ?_ | refine FBit.shrN rfl (by omega) ?_ | refine FBit.half rfl ?_ | refine FBit.shl1 rfl (by omega) ?_ | refine Fits.inU (by omega) ?_ | refine FBit.shrNI rfl (by omega) ?_ | refine FBit.shrIN rfl (by omega) (by omega) ?_ | refine FBit.shrI rfl (by omega) (by omega) ?_ | refine FBit.shl1I rfl (by omega) ?_) | (with_reducible refine FBit.has rfl (fun hq => ?_) (fun hq => ?_)) | (with_reducible first | refine FBit.and1 rfl ?_ | refine FBit.andN rfl (by omega) (by omega) ?_ | refine FBit.orN rfl (by omega) (by omega) ?_ | refine FBit.andNotN rfl (by omega) (by omega) ?_) | (with_reducible refine FApp.grow ?_) | (with_reducible refine FOr.pub ?_)))
      all_goals (try (conv => whnf))
      refine ⟨⟨m + 1, hlt4, by omega, [0, 1, 2, 3, 4, 5], ?_, allA⟩⟩
      refine Cut.of (Nat.le_of_ble_eq_true rfl) rfl rfl (CutL.turned rfl LnB.A (CutL.turned rfl LnB.A (CutL.turned rfl LnB.A (CutL.turned rfl LnB.A (CutL.turned rfl LnB.A (CutL.turned rfl (LnB.rowE (Nat.le_refl _) fun j hj o ho => ?_) CutL.done))))))
      simp only [updR, r4]
      by_cases hk2 : j = m
      · subst hk2
        rw [if_pos (Nat.lt_succ_self j), if_neg (Nat.lt_irrefl j)]
        rcases (show o = 0 ∨ o = 1 ∨ o = 2 ∨ o = 3 by omega) with rfl | rfl | rfl | rfl <;> first | (rw [if_pos ⟨rfl, rfl⟩]; rfl) | (rw [if_neg (by omega)]; rfl)
      · by_cases h : j < m
        · rw [if_pos (show j < m + 1 by omega), if_neg (fun h => hk2 h.1), if_pos h]
        · rw [if_neg (show ¬ j < m + 1 by omega), if_neg (fun h => hk2 h.1), if_neg h]
    obtain rfl : m = 2 ^ s.rg.length := by omega
    (repeat' ((try (conv => whnf)); first | (with_reducible first | refine FCond.tA ?_ | refine FCond.fA ?_) | ((with_reducible refine FCond.i (fun hq => ?_) (fun hq => ?_)) <;> (try simp only [zA, zE, zD, zJ, zB, zI, Int.not_le, Int.not_lt] at hq)) | (with_reducible first | refine Fits.in64 (by omega) ?_ | refine FIdx.nat (by omega) ?_ | refine FIdx.int (by omega) ?_ | refine FTo.nat (by omega) ?_ | refine FTo.int (by omega) ?_) | ((with_reducible refine Need.mk ?_ ?_); focus exact needA) | (with_reducible first | refine FBit.hasT rfl (by assumption) ?_ | refine FBit.hasF rfl (by assumption) ?_ | refine FBit.shrN rfl (by omega) ?_ | refine FBit.half rfl ?_ | refine FBit.shl1 rfl (by omega) ?_ | refine Fits.inU (by omega) ?_ | refine FBit.shrNI rfl (by omega) ?_ | refine FBit.shrIN rfl (by omega) (by omega) ?_ | refine FBit.shrI rfl (by omega) (by omega) ?_ | refine FBit.shl1I rfl (by omega) ?_) | (with_reducible refine FBit.has rfl (fun hq => ?_) (fun hq => ?_)) | (with_reducible first | refine FBit.and1 rfl ?_ | refine FBit.andN rfl (by omega) (by omega) ?_ | refine FBit.orN rfl (by omega) (by omega) ?_ | refine FBit.andNotN rfl (by omega) (by omega) ?_) | (with_reducible refine FApp.grow ?_) | (with_reducible refine FOr.pub ?_)))
    all_goals (try (conv => whnf))
    refine FLoop.of (ACalls.mono _) (X := Nat) (fun c => [(1, .ptr 0 0), (2, nilS), (3, .ptr 1 0), (4, aSpots false false s.T (s.n * s.T)), (6, .ptr 3 0), (9, .ptr 4 0), (10, aSteps false false (2 ^ s.rg.length) (row s k)), (11, .own 5 (2 ^ s.rg.length)), (54, aSpots false false s.T (s.n * s.T)), (55, AI (s.n * s.T : Nat)), (56, AI k), (80, aRngs f.zr f.er s.rg), (81, AI s.rg.length), (82, AI c)])
      (fun c => [.box 3 (cStd f s), .box 2 (ofL [AI 0, AI 0]), .row (k + 1) 1 (fun j _ => aSteps false false (2 ^ s.rg.length) (row s j)), .box 1 (ofL [.own 2 (k + 1)]), .box 2 (cSpot ((sp s.T k).1 : Int) ((sp s.T k).2 : Int)), .row (2 ^ s.rg.length) 4 (fun j => cStp (stepRow s (sp s.T k) (row s k) c j))])
      (fun c => c ≤ s.rg.length) (fun c => s.rg.length - c) 0
      ⟨Nat.zero_le _, [0, 1, 2, 3, 4, 5], Cut.of (Nat.le_of_ble_eq_true rfl) rfl rfl (CutL.turned rfl LnB.A (CutL.turned rfl LnB.A (CutL.turned rfl LnB.A (CutL.turned rfl LnB.A (CutL.turned rfl LnB.A (CutL.turned rfl (LnB.rowE (Nat.le_refl _) fun j hj o ho => by rw [r4_all (s := s) (p := sp s.T k) hj]) CutL.done)))))), allA⟩ ?_
    intro c hc
    by_cases hltc : c < s.rg.length
    · have hcan := can_ok f s hs (sp s.T k).1 c (sp s.T k).2 hin.1 hltc
      cases hq7 : canA s (sp s.T k).1 ((sp s.T k).2 : Int) c
      · rw [hq7] at hcan
        (repeat' ((try (conv => whnf)); first | (with_reducible first | refine FCond.tA ?_ | refine FCond.fA ?_) | ((with_reducible refine FCond.i (fun hq => ?_) (fun hq => ?_)) <;> (try simp only [zA, zE, zD, zJ, zB, zI, Int.not_le, Int.not_lt] at hq)) | (with_reducible first | refine Fits.in64 (by omega) ?_ | refine FIdx.nat (by omega) ?_ | refine FIdx.int (by omega) ?_ | refine FTo.nat (by omega) ?_ | refine FTo.int (by omega) ?_) | ((with_reducible refine Need.mk ?_ ?_); focus exact needA) | (with_reducible first | refine FBit.hasT rfl (by assumption) ?_ | refine FBit.hasF rfl (by assumption) ?_ | refine FBit.shrN rfl (by omega) ?_ | refine FBit.half rfl ?_ | refine FBit.shl1 rfl (by omega) ?_ | refine Fits.inU (by omega) ?_ | refine FBit.shrNI rfl (by omega) ?_ | refine FBit.shrIN rfl (by omega) (by omega) ?_ | refine FBit.shrI rfl (by omega) (by omega) ?_ | refine FBit.shl1I rfl (by omega) ?_) | (with_reducible refine FBit.has rfl (fun hq => ?_) (fun hq => ?_)) | (with_reducible first | refine FBit.and1 rfl ?_ | refine FBit.andN rfl (by omega) (by omega) ?_ | refine FBit.orN rfl (by omega) (by omega) ?_ | refine FBit.andNotN rfl (by omega) (by omega) ?_) | (with_reducible refine FApp.grow ?_) | (refine FCall.pure (hcan) ⟨Ln.sameB _ rfl, Ln.sameB _ rfl, Ln.sameB _ rfl, True.intro⟩ rfl ?_) | (with_reducible refine FOr.pub ?_)))
        all_goals (try (conv => whnf))
        refine ⟨⟨c + 1, hltc, by omega, [0, 1, 2, 3, 4, 5], ?_, allA⟩⟩
        refine Cut.of (Nat.le_of_ble_eq_true rfl) rfl rfl (CutL.turned rfl LnB.A (CutL.turned rfl LnB.A (CutL.turned rfl LnB.A (CutL.turned rfl LnB.A (CutL.turned rfl LnB.A (CutL.turned rfl (LnB.rowE (Nat.le_refl _) fun j hj o ho => ?_) CutL.done))))))
        simp only [stepRow]
        rw [if_neg (by rw [hq7]; simp)]
      · rw [hq7] at hcan
        (repeat' ((try (conv => whnf)); first | (with_reducible first | refine FCond.tA ?_ | refine FCond.fA ?_) | ((with_reducible refine FCond.i (fun hq => ?_) (fun hq => ?_)) <;> (try simp only [zA, zE, zD, zJ, zB, zI, Int.not_le, Int.not_lt] at hq)) | (with_reducible first | refine Fits.in64 (by omega) ?_ | refine FIdx.nat (by omega) ?_ | refine FIdx.int (by omega) ?_ | refine FTo.nat (by omega) ?_ | refine FTo.int (by omega) ?_) | ((with_reducible refine Need.mk ?_ ?_); focus exact needA) | (with_reducible first | refine FBit.hasT rfl (by assumption) ?_ | refine FBit.hasF rfl (by assumption) ?_ | refine FBit.shrN rfl (by omega) ?_ | refine FBit.half rfl ?_ | refine FBit.shl1 rfl (by omega) ?_ | refine Fits.inU (by omega) ?_ | refine FBit.shrNI rfl (by omega) ?_ | refine FBit.shrIN rfl (by omega) (by omega) ?_ | refine FBit.shrI rfl (by omega) (by omega) ?_ | refine FBit.shl1I rfl (by omega) ?_) | (with_reducible refine FBit.has rfl (fun hq => ?_) (fun hq => ?_)) | (with_reducible first | refine FBit.and1 rfl ?_ | refine FBit.andN rfl (by omega) (by omega) ?_ | refine FBit.orN rfl (by omega) (by omega) ?_ | refine FBit.andNotN rfl (by omega) (by omega) ?_) | (with_reducible refine FApp.grow ?_) | (refine FCall.pure (hcan) ⟨Ln.sameB _ rfl, Ln.sameB _ rfl, Ln.sameB _ rfl, True.intro⟩ rfl ?_) | (with_reducible refine FOr.pub ?_)))
        all_goals (try (conv => whnf))
        refine FLoop.of (ACalls.mono _) (X := Nat) (fun m => [(1, .ptr 0 0), (2, nilS), (3, .ptr 1 0), (4, aSpots false false s.T (s.n * s.T)), (6, .ptr 3 0), (9, .ptr 4 0), (10, aSteps false false (2 ^ s.rg.length) (row s k)), (11, .own 5 (2 ^ s.rg.length)), (13, AI c), (14, .ptr 6 0), (54, aSpots false false s.T (s.n * s.T)), (55, AI (s.n * s.T : Nat)), (56, AI k), (80, aRngs f.zr f.er s.rg), (81, AI s.rg.length), (82, AI c), (92, aSteps false false (2 ^ s.rg.length) (row s k)), (93, AI (2 ^ s.rg.length : Nat)), (94, AI m)])
          (fun m => [.box 3 (cStd f s), .box 2 (ofL [AI 0, AI 0]), .row (k + 1) 1 (fun j _ => aSteps false false (2 ^ s.rg.length) (row s j)), .box 1 (ofL [.own 2 (k + 1)]), .box 2 (cSpot ((sp s.T k).1 : Int) ((sp s.T k).2 : Int)), .row (2 ^ s.rg.length) 4 (fun j => cStp (mid s (sp s.T k) (row s k) c m j)), .box 3 (cRng (s.rg.getD c rg0))])
          (fun m => m ≤ 2 ^ s.rg.length) (fun m => 2 ^ s.rg.length - m) 0
          ⟨Nat.zero_le _, [0, 1, 2, 3, 4, 5, 6], Cut.of (Nat.le_of_ble_eq_true rfl) rfl rfl (CutL.turned rfl LnB.A (CutL.turned rfl LnB.A (CutL.turned rfl LnB.A (CutL.turned rfl LnB.A (CutL.turned rfl LnB.A (CutL.turned rfl (LnB.rowE (Nat.le_refl _) fun j hj o ho => by rw [mid_zero]) (CutL.turned rfl LnB.A CutL.done))))))), allA⟩ ?_
        intro m hm
        by_cases hlt8 : m < 2 ^ s.rg.length
        · have hbd := row_bd hs k hk m
          have hbu := hbd.u
          have hbo := hbd.o
          have hrc := hs.rg c hltc
          have hspt : ((sp s.T k).2 : Int) < s.times := by omega
          cases hnev : (row s k m).never
          · cases hbit : m.testBit c
            · have htgt : m ||| 2 ^ c < 2 ^ s.rg.length := Nat.or_lt_two_pow hlt8 (Nat.pow_lt_pow_right (by decide) hltc)
              have h2c : 2 ^ c < 2 ^ s.rg.length := Nat.pow_lt_pow_right (by decide) hltc
              have cM := more_ok (row s k m).w (s.R c) (sp s.T k).2 (by omega) (by omega) (by omega)
              (repeat' ((try (conv => whnf)); first | (with_reducible first | refine FCond.tA ?_ | refine FCond.fA ?_) | ((with_reducible refine FCond.i (fun hq => ?_) (fun hq => ?_)) <;> (try simp only [zA, zE, zD, zJ, zB, zI, Int.not_le, Int.not_lt] at hq)) | (with_reducible first | refine Fits.in64 (by omega) ?_ | refine FIdx.nat (by omega) ?_ | refine FIdx.int (by omega) ?_ | refine FTo.nat (by omega) ?_ | refine FTo.int (by omega) ?_) | ((with_reducible refine Need.mk ?_ ?_); focus exact needA) | (with_reducible first | refine FBit.hasT rfl (by assumption) ?_ | refine FBit.hasF rfl (by assumption) ?_ | refine FBit.shrN rfl (by omega) ?_ | refine FBit.half rfl ?_ | refine FBit.shl1 rfl (by omega) ?_ | refine Fits.inU (by omega) ?_ | refine FBit.shrNI rfl (by omega) ?_ | refine FBit.shrIN rfl (by omega) (by omega) ?_ | refine FBit.shrI rfl (by omega) (by omega) ?_ | refine FBit.shl1I rfl (by omega) ?_) | (with_reducible refine FBit.has rfl (fun hq => ?_) (fun hq => ?_)) | (with_reducible first | refine FBit.and1 rfl ?_ | refine FBit.andN rfl (by omega) (by omega) ?_ | refine FBit.orN rfl (by omega) (by omega) ?_ | refine FBit.andNotN rfl (by omega) (by omega) ?_) | (with_reducible refine FApp.grow ?_) | (refine FCall.pure (cM) ⟨Ln.sameB _ rfl, Ln.sameB _ rfl, Ln.sameB _ rfl, True.intro⟩ rfl ?_) | (refine FCall.pure ((less_ok ((row s k m).w.more (s.R c) (sp s.T k).2) (mid s (sp s.T k) (row s k) c m (m ||| 2 ^ c)).w)) ⟨Ln.sameB _ rfl, Ln.sameB _ rfl, True.intro⟩ rfl ?_) | (with_reducible refine FOr.pub ?_)))
              all_goals (try (conv => whnf))
              · refine ⟨⟨m + 1, hlt8, by omega, [0, 1, 2, 3, 4, 5, 6], ?_, allA⟩⟩
                exact Cut.of (Nat.le_of_ble_eq_true rfl) rfl rfl (CutL.turned rfl LnB.A (CutL.turned rfl LnB.A (CutL.turned rfl LnB.A (CutL.turned rfl LnB.A (CutL.turned rfl LnB.A (CutL.turned rfl (LnB.rowE (Nat.le_refl _) fun j hj o ho => by rw [mid_store hbit hnev hq7 (.inl (by assumption))]; simp only [updRm]; by_cases e : j = m ||| 2 ^ c <;> simp only [e, if_true, if_false]; rfl) (CutL.turned rfl LnB.A CutL.done)))))))
              · refine ⟨⟨m + 1, hlt8, by omega, [0, 1, 2, 3, 4, 5, 6], ?_, allA⟩⟩
                exact Cut.of (Nat.le_of_ble_eq_true rfl) rfl rfl (CutL.turned rfl LnB.A (CutL.turned rfl LnB.A (CutL.turned rfl LnB.A (CutL.turned rfl LnB.A (CutL.turned rfl LnB.A (CutL.turned rfl (LnB.rowE (Nat.le_refl _) fun j hj o ho => by rw [mid_store hbit hnev hq7 (.inr (by assumption))]; simp only [updRm]; by_cases e : j = m ||| 2 ^ c <;> simp only [e, if_true, if_false]; rfl) (CutL.turned rfl LnB.A CutL.done)))))))
              · refine ⟨⟨m + 1, hlt8, by omega, [0, 1, 2, 3, 4, 5, 6], ?_, allA⟩⟩
                exact Cut.of (Nat.le_of_ble_eq_true rfl) rfl rfl (CutL.turned rfl LnB.A (CutL.turned rfl LnB.A (CutL.turned rfl LnB.A (CutL.turned rfl LnB.A (CutL.turned rfl LnB.A (CutL.turned rfl (LnB.rowE (Nat.le_refl _) fun j hj o ho => by rw [mid_keep hbit hnev hq7 (by assumption) (by assumption)]) (CutL.turned rfl LnB.A CutL.done)))))))
            · (repeat' ((try (conv => whnf)); first | (with_reducible first | refine FCond.tA ?_ | refine FCond.fA ?_) | ((with_reducible refine FCond.i (fun hq => ?_) (fun hq => ?_)) <;> (try simp only [zA, zE, zD, zJ, zB, zI, Int.not_le, Int.not_lt] at hq)) | (with_reducible first | refine Fits.in64 (by omega) ?_ | refine FIdx.nat (by omega) ?_ | refine FIdx.int (by omega) ?_ | refine FTo.nat (by omega) ?_ | refine FTo.int (by omega) ?_) | ((with_reducible refine Need.mk ?_ ?_); focus exact needA) | (with_reducible first | refine FBit.hasT rfl (by assumption) ?_ | refine FBit.hasF rfl (by assumption) ?_ | refine FBit.shrN rfl (by omega) ?_ | refine FBit.half rfl ?_ | refine FBit.shl1 rfl (by omega) ?_ | refine Fits.inU (by omega) ?_ | refine FBit.shrNI rfl (by omega) ?_ | refine FBit.shrIN rfl (by omega) (by omega) ?_ | refine FBit.shrI rfl (by omega) (by omega) ?_ | refine FBit.shl1I rfl (by omega) ?_) | (with_reducible refine FBit.has rfl (fun hq => ?_) (fun hq => ?_)) | (with_reducible first | refine FBit.and1 rfl ?_ | refine FBit.andN rfl (by omega) (by omega) ?_ | refine FBit.orN rfl (by omega) (by omega) ?_ | refine FBit.andNotN rfl (by omega) (by omega) ?_) | (with_reducible refine FApp.grow ?_) | (with_reducible refine FOr.pub ?_)))
              all_goals (try (conv => whnf))
              refine ⟨⟨m + 1, hlt8, by omega, [0, 1, 2, 3, 4, 5, 6], ?_, allA⟩⟩
              exact Cut.of (Nat.le_of_ble_eq_true rfl) rfl rfl (CutL.turned rfl LnB.A (CutL.turned rfl LnB.A (CutL.turned rfl LnB.A (CutL.turned rfl LnB.A (CutL.turned rfl LnB.A (CutL.turned rfl (LnB.rowE (Nat.le_refl _) fun j hj o ho => by rw [mid_skip (.inr hbit)]) (CutL.turned rfl LnB.A CutL.done)))))))
          · (repeat' ((try (conv => whnf)); first | (with_reducible first | refine FCond.tA ?_ | refine FCond.fA ?_) | ((with_reducible refine FCond.i (fun hq => ?_) (fun hq => ?_)) <;> (try simp only [zA, zE, zD, zJ, zB, zI, Int.not_le, Int.not_lt] at hq)) | (with_reducible first | refine Fits.in64 (by omega) ?_ | refine FIdx.nat (by omega) ?_ | refine FIdx.int (by omega) ?_ | refine FTo.nat (by omega) ?_ | refine FTo.int (by omega) ?_) | ((with_reducible refine Need.mk ?_ ?_); focus exact needA) | (with_reducible first | refine FBit.hasT rfl (by assumption) ?_ | refine FBit.hasF rfl (by assumption) ?_ | refine FBit.shrN rfl (by omega) ?_ | refine FBit.half rfl ?_ | refine FBit.shl1 rfl (by omega) ?_ | refine Fits.inU (by omega) ?_ | refine FBit.shrNI rfl (by omega) ?_ | refine FBit.shrIN rfl (by omega) (by omega) ?_ | refine FBit.shrI rfl (by omega) (by omega) ?_ | refine FBit.shl1I rfl (by omega) ?_) | (with_reducible refine FBit.has rfl (fun hq => ?_) (fun hq => ?_)) | (with_reducible first | refine FBit.and1 rfl ?_ | refine FBit.andN rfl (by omega) (by omega) ?_ | refine FBit.orN rfl (by omega) (by omega) ?_ | refine FBit.andNotN rfl (by omega) (by omega) ?_) | (with_reducible refine FApp.grow ?_) | (with_reducible refine FOr.pub ?_)))
            all_goals (try (conv => whnf))
            refine ⟨⟨m + 1, hlt8, by omega, [0, 1, 2, 3, 4, 5, 6], ?_, allA⟩⟩
            exact Cut.of (Nat.le_of_ble_eq_true rfl) rfl rfl (CutL.turned rfl LnB.A (CutL.turned rfl LnB.A (CutL.turned rfl LnB.A (CutL.turned rfl LnB.A (CutL.turned rfl LnB.A (CutL.turned rfl (LnB.rowE (Nat.le_refl _) fun j hj o ho => by rw [mid_skip (.inl hnev)]) (CutL.turned rfl LnB.A CutL.done)))))))
        · obtain rfl : m = 2 ^ s.rg.length := by omega
          (repeat' ((try (conv => whnf)); first | (with_reducible first | refine FCond.tA ?_ | refine FCond.fA ?_) | ((with_reducible refine FCond.i (fun hq => ?_) (fun hq => ?_)) <;> (try simp only [zA, zE, zD, zJ, zB, zI, Int.not_le, Int.not_lt] at hq)) | (with_reducible first | refine Fits.in64 (by omega) ?_ | refine FIdx.nat (by omega) ?_ | refine FIdx.int (by omega) ?_ | refine FTo.nat (by omega) ?_ | refine FTo.int (by omega) ?_) | ((with_reducible refine Need.mk ?_ ?_); focus exact needA) | (with_reducible first | refine FBit.hasT rfl (by assumption) ?_ | refine FBit.hasF rfl (by assumption) ?_ | refine FBit.shrN rfl (by omega) ?_ | refine FBit.half rfl ?_ | refine FBit.shl1 rfl (by omega) ?_ | refine Fits.inU (by omega) ?_ | refine FBit.shrNI rfl (by omega) ?_ | refine FBit.shrIN rfl (by omega) (by omega) ?_ | refine FBit.shrI rfl (by omega) (by omega) ?_ | refine FBit.shl1I rfl (by omega) ?_) | (with_reducible refine FBit.has rfl (fun hq => ?_) (fun hq => ?_)) | (with_reducible first | refine FBit.and1 rfl ?_ | refine FBit.andN rfl (by omega) (by omega) ?_ | refine FBit.orN rfl (by omega) (by omega) ?_ | refine FBit.andNotN rfl (by omega) (by omega) ?_) | (with_reducible refine FApp.grow ?_) | (with_reducible refine FOr.pub ?_)))
          all_goals (try (conv => whnf))
          refine ⟨⟨c + 1, hltc, by omega, [0, 1, 2, 3, 4, 5], ?_, allA⟩⟩
          exact Cut.of (Nat.le_of_ble_eq_true rfl) rfl rfl (CutL.turned rfl LnB.A (CutL.turned rfl LnB.A (CutL.turned rfl LnB.A (CutL.turned rfl LnB.A (CutL.turned rfl LnB.A (CutL.turned rfl (LnB.rowE (Nat.le_refl _) fun j hj o ho => by rw [mid_all s _ _ c _ j hj]) CutL.done))))))
    · obtain rfl : c = s.rg.length := by omega
      (repeat' ((try (conv => whnf)); first | (with_reducible first | refine FCond.tA ?_ | refine FCond.fA ?_) | ((with_reducible refine FCond.i (fun hq => ?_) (fun hq => ?_)) <;> (try simp only [zA, zE, zD, zJ, zB, zI, Int.not_le, Int.not_lt] at hq)) | (with_reducible first | refine Fits.in64 (by omega) ?_ | refine FIdx.nat (by omega) ?_ | refine FIdx.int (by omega) ?_ | refine FTo.nat (by omega) ?_ | refine FTo.int (by omega) ?_) | ((with_reducible refine Need.mk ?_ ?_); focus exact needA) | (with_reducible first | refine FBit.hasT rfl (by assumption) ?_ | refine FBit.hasF rfl (by assumption) ?_ | refine FBit.shrN rfl (by omega) ?_ | refine FBit.half rfl ?_ | refine FBit.shl1 rfl (by omega) ?_ | refine Fits.inU (by omega) ?_ | refine FBit.shrNI rfl (by omega) ?_ | refine FBit.shrIN rfl (by omega) (by omega) ?_ | refine FBit.shrI rfl (by omega) (by omega) ?_ | refine FBit.shl1I rfl (by omega) ?_) | (with_reducible refine FBit.has rfl (fun hq => ?_) (fun hq => ?_)) | (with_reducible first | refine FBit.and1 rfl ?_ | refine FBit.andN rfl (by omega) (by omega) ?_ | refine FBit.orN rfl (by omega) (by omega) ?_ | refine FBit.andNotN rfl (by omega) (by omega) ?_) | (with_reducible refine FApp.grow ?_) | (with_reducible refine FOr.pub ?_)))
      all_goals (try (conv => whnf))
      refine ⟨⟨k + 1, hlt, by omega, [0, 1, 6, 3], ?_, allA⟩⟩
      exact Cut.of (Nat.le_of_ble_eq_true rfl) rfl rfl (CutL.turned rfl LnB.A (CutL.turned rfl LnB.A (CutL.turned rfl (LnB.app (fun _ _ _ _ => rfl) (fun o ho => by obtain rfl : o = 0 := (by omega); rfl)) (CutL.turned rfl LnB.A CutL.done))))
  obtain rfl : k = s.n * s.T := by omega
  have hkk : (((s.n * s.T + 1 : Nat) : Int) - 1).toNat = s.n * s.T := by omega
  (repeat' ((try (conv => whnf)); first | (with_reducible first | refine FCond.tA ?_ | refine FCond.fA ?_) | ((with_reducible refine FCond.i (fun hq => ?_) (fun hq => ?_)) <;> (try simp only [zA, zE, zD, zJ, zB, zI, Int.not_le, Int.not_lt] at hq)) | (with_reducible first | refine Fits.in64 (by omega) ?_ | refine FIdx.nat (by omega) ?_ | refine FIdx.int (by omega) ?_ | refine FTo.nat (by omega) ?_ | refine FTo.int (by omega) ?_) | ((with_reducible refine Need.mk ?_ ?_); focus exact needA) | (with_reducible first | refine FBit.hasT rfl (by assumption) ?_ | refine FBit.hasF rfl (by assumption) ?_ | refine FBit.shrN rfl (by omega) ?_ | refine FBit.half rfl ?_ | refine FBit.shl1 rfl (by omega) ?_ | refine Fits.inU (by omega) ?_ | refine FBit.shrNI rfl (by omega) ?_ | refine FBit.shrIN rfl (by omega) (by omega) ?_ | refine FBit.shrI rfl (by omega) (by omega) ?_ | refine FBit.shl1I rfl (by omega) ?_) | (with_reducible refine FBit.has rfl (fun hq => ?_) (fun hq => ?_)) | (with_reducible first | refine FBit.and1 rfl ?_ | refine FBit.andN rfl (by omega) (by omega) ?_ | refine FBit.orN rfl (by omega) (by omega) ?_ | refine FBit.andNotN rfl (by omega) (by omega) ?_) | (with_reducible refine FApp.grow ?_) | (with_reducible refine FOr.pub ?_)))
  all_goals (try (conv => whnf))
  refine FLoop.of (ACalls.mono _) (X := Nat) (fun m => [(1, .ptr 0 0), (2, nilS), (3, .ptr 1 0), (4, aSpots false false s.T (s.n * s.T)), (6, .ptr 3 0), (19, .ptr 4 0), (20, .ptr 5 0), (150, aSteps false false (2 ^ s.rg.length) (row s (s.n * s.T))), (151, AI (2 ^ s.rg.length : Nat)), (152, AI m)])
    (fun m => [.box 3 (cStd f s), .box 2 (ofL [AI 0, AI 0]), .row (s.n * s.T + 1) 1 (fun j _ => aSteps false false (2 ^ s.rg.length) (row s j)), .box 1 (ofL [.own 2 (s.n * s.T + 1)]), .box 1 (ofL [AI (bst s m).1]), .box 2 (ofL [AI (bst s m).2.u, AI (bst s m).2.o])])
    (fun m => m ≤ 2 ^ s.rg.length) (fun m => 2 ^ s.rg.length - m) 0
    ⟨Nat.zero_le _, [0, 1, 2, 3, 4, 5], Cut.A, ⟨Ln.A, Ln.A, Ln.A, Ln.A, Ln.A, Ln.A, Ln.A, by rw [hkk]; exact Ln.A, Ln.A, Ln.A, True.intro⟩⟩ ?_
  intro m hm
  by_cases hlt10 : m < 2 ^ s.rg.length
  · have hbd := row_bd hs (s.n * s.T) (Nat.le_refl _) m
    have hbu := hbd.u
    have hbo := hbd.o
    (repeat' ((try (conv => whnf)); first | (with_reducible first | refine FCond.tA ?_ | refine FCond.fA ?_) | ((with_reducible refine FCond.i (fun hq => ?_) (fun hq => ?_)) <;> (try simp only [zA, zE, zD, zJ, zB, zI, Int.not_le, Int.not_lt] at hq)) | (with_reducible first | refine Fits.in64 (by omega) ?_ | refine FIdx.nat (by omega) ?_ | refine FIdx.int (by omega) ?_ | refine FTo.nat (by omega) ?_ | refine FTo.int (by omega) ?_) | ((with_reducible refine Need.mk ?_ ?_); focus exact needA) | (with_reducible first | refine FBit.hasT rfl (by assumption) ?_ | refine FBit.hasF rfl (by assumption) ?_ | refine FBit.shrN rfl (by omega) ?_ | refine FBit.half rfl ?_ | refine FBit.shl1 rfl (by omega) ?_ | refine Fits.inU (by omega) ?_ | refine FBit.shrNI rfl (by omega) ?_ | refine FBit.shrIN rfl (by omega) (by omega) ?_ | refine FBit.shrI rfl (by omega) (by omega) ?_ | refine FBit.shl1I rfl (by omega) ?_) | (with_reducible refine FBit.has rfl (fun hq => ?_) (fun hq => ?_)) | (with_reducible first | refine FBit.and1 rfl ?_ | refine FBit.andN rfl (by omega) (by omega) ?_ | refine FBit.orN rfl (by omega) (by omega) ?_ | refine FBit.andNotN rfl (by omega) (by omega) ?_) | (with_reducible refine FApp.grow ?_) | (with_reducible refine FOr.pub ?_)))
    all_goals (try (conv => whnf))
    refine FLoop.of (ACalls.mono _) (X := Nat) (fun c => [(1, .ptr 0 0), (2, nilS), (3, .ptr 1 0), (4, aSpots false false s.T (s.n * s.T)), (6, .ptr 3 0), (19, .ptr 4 0), (20, .ptr 5 0), (21, AI m), (22, .ptr 6 0), (150, aSteps false false (2 ^ s.rg.length) (row s (s.n * s.T))), (151, AI (2 ^ s.rg.length : Nat)), (152, AI m), (159, aRngs f.zr f.er s.rg), (160, AI s.rg.length), (161, AI c)])
      (fun c => [.box 3 (cStd f s), .box 2 (ofL [AI 0, AI 0]), .row (s.n * s.T + 1) 1 (fun j _ => aSteps false false (2 ^ s.rg.length) (row s j)), .box 1 (ofL [.own 2 (s.n * s.T + 1)]), .box 1 (ofL [AI (bst s m).1]), .box 2 (ofL [AI (bst s m).2.u, AI (bst s m).2.o]), .box 4 (ofL [AI ((row s (s.n * s.T) m).w.add (leftK s m c)).u, AI ((row s (s.n * s.T) m).w.add (leftK s m c)).o, AI (row s (s.n * s.T) m).call, .bool (row s (s.n * s.T) m).never])])
      (fun c => c ≤ s.rg.length) (fun c => s.rg.length - c) 0
      ⟨Nat.zero_le _, [0, 1, 2, 3, 4, 5, 6], Cut.of (Nat.le_of_ble_eq_true rfl) rfl rfl (CutL.turned rfl LnB.A (CutL.turned rfl LnB.A (CutL.turned rfl LnB.A (CutL.turned rfl LnB.A (CutL.turned rfl LnB.A (CutL.turned rfl LnB.A (CutL.turned rfl (LnB.boxN ⟨⟨⟨⟨True.intro, Ln.int (by rw [show leftK s m 0 = w0 from rfl, add_w0])⟩, Ln.int (by rw [show leftK s m 0 = w0 from rfl, add_w0])⟩, Ln.A⟩, Ln.A⟩) CutL.done))))))), allA⟩ ?_
    intro c hc
    by_cases hltc : c < s.rg.length
    · have hlb := leftK_bd hs m c hc
      have hlu := hlb.u
      have hlo := hlb.o
      have hrc := hs.rg c hltc
      cases hbit : m.testBit c
      · have cM := more_ok ((row s (s.n * s.T) m).w.add (leftK s m c)) (s.R c) s.times (by simp only [add_u, add_o]; omega) (by omega) (by omega)
        rw [left_step hbit] at cM
        (repeat' ((try (conv => whnf)); first | (with_reducible first | refine FCond.tA ?_ | refine FCond.fA ?_) | ((with_reducible refine FCond.i (fun hq => ?_) (fun hq => ?_)) <;> (try simp only [zA, zE, zD, zJ, zB, zI, Int.not_le, Int.not_lt] at hq)) | (with_reducible first | refine Fits.in64 (by omega) ?_ | refine FIdx.nat (by omega) ?_ | refine FIdx.int (by omega) ?_ | refine FTo.nat (by omega) ?_ | refine FTo.int (by omega) ?_) | ((with_reducible refine Need.mk ?_ ?_); focus exact needA) | (with_reducible first | refine FBit.hasT rfl (by assumption) ?_ | refine FBit.hasF rfl (by assumption) ?_ | refine FBit.shrN rfl (by omega) ?_ | refine FBit.half rfl ?_ | refine FBit.shl1 rfl (by omega) ?_ | refine Fits.inU (by omega) ?_ | refine FBit.shrNI rfl (by omega) ?_ | refine FBit.shrIN rfl (by omega) (by omega) ?_ | refine FBit.shrI rfl (by omega) (by omega) ?_ | refine FBit.shl1I rfl (by omega) ?_) | (with_reducible refine FBit.has rfl (fun hq => ?_) (fun hq => ?_)) | (with_reducible first | refine FBit.and1 rfl ?_ | refine FBit.andN rfl (by omega) (by omega) ?_ | refine FBit.orN rfl (by omega) (by omega) ?_ | refine FBit.andNotN rfl (by omega) (by omega) ?_) | (with_reducible refine FApp.grow ?_) | (refine FCall.pure (cM) ⟨Ln.sameB _ rfl, Ln.sameB _ rfl, Ln.sameB _ rfl, True.intro⟩ rfl ?_) | (with_reducible refine FOr.pub ?_)))
        all_goals (try (conv => whnf))
        (exact ⟨⟨(c + 1), hltc, by show _ < _; omega, [0, 1, 2, 3, 4, 5, 6], Cut.A, allA⟩⟩)
      · (repeat' ((try (conv => whnf)); first | (with_reducible first | refine FCond.tA ?_ | refine FCond.fA ?_) | ((with_reducible refine FCond.i (fun hq => ?_) (fun hq => ?_)) <;> (try simp only [zA, zE, zD, zJ, zB, zI, Int.not_le, Int.not_lt] at hq)) | (with_reducible first | refine Fits.in64 (by omega) ?_ | refine FIdx.nat (by omega) ?_ | refine FIdx.int (by omega) ?_ | refine FTo.nat (by omega) ?_ | refine FTo.int (by omega) ?_) | ((with_reducible refine Need.mk ?_ ?_); focus exact needA) | (with_reducible first | refine FBit.hasT rfl (by assumption) ?_ | refine FBit.hasF rfl (by assumption) ?_ | refine FBit.shrN rfl (by omega) ?_ | refine FBit.half rfl ?_ | refine FBit.shl1 rfl (by omega) ?_ | refine Fits.inU (by omega) ?_ | refine FBit.shrNI rfl (by omega) ?_ | refine FBit.shrIN rfl (by omega) (by omega) ?_ | refine FBit.shrI rfl (by omega) (by omega) ?_ | refine FBit.shl1I rfl (by omega) ?_) | (with_reducible refine FBit.has rfl (fun hq => ?_) (fun hq => ?_)) | (with_reducible first | refine FBit.and1 rfl ?_ | refine FBit.andN rfl (by omega) (by omega) ?_ | refine FBit.orN rfl (by omega) (by omega) ?_ | refine FBit.andNotN rfl (by omega) (by omega) ?_) | (with_reducible refine FApp.grow ?_) | (with_reducible refine FOr.pub ?_)))
        all_goals (try (conv => whnf))
        refine ⟨⟨c + 1, hltc, by omega, [0, 1, 2, 3, 4, 5, 6], Cut.of (Nat.le_of_ble_eq_true rfl) rfl rfl (CutL.turned rfl LnB.A (CutL.turned rfl LnB.A (CutL.turned rfl LnB.A (CutL.turned rfl LnB.A (CutL.turned rfl LnB.A (CutL.turned rfl LnB.A (CutL.turned rfl (LnB.boxN ⟨⟨⟨⟨True.intro, Ln.int (by rw [left_skip hbit])⟩, Ln.int (by rw [left_skip hbit])⟩, Ln.A⟩, Ln.A⟩) CutL.done))))))), allA⟩⟩
    · obtain rfl : c = s.rg.length := by omega
      have hlb := leftK_bd hs m s.rg.length (Nat.le_refl _)
      cases hnev : (row s (s.n * s.T) m).never
      · by_cases hat : (bst s m).1 < 0
        · have hst := bst_yes hnev (.inl hat)
          (repeat' ((try (conv => whnf)); first | (with_reducible first | refine FCond.tA ?_ | refine FCond.fA ?_) | ((with_reducible refine FCond.i (fun hq => ?_) (fun hq => ?_)) <;> (try simp only [zA, zE, zD, zJ, zB, zI, Int.not_le, Int.not_lt] at hq)) | (with_reducible first | refine Fits.in64 (by omega) ?_ | refine FIdx.nat (by omega) ?_ | refine FIdx.int (by omega) ?_ | refine FTo.nat (by omega) ?_ | refine FTo.int (by omega) ?_) | ((with_reducible refine Need.mk ?_ ?_); focus exact needA) | (with_reducible first | refine FBit.hasT rfl (by assumption) ?_ | refine FBit.hasF rfl (by assumption) ?_ | refine FBit.shrN rfl (by omega) ?_ | refine FBit.half rfl ?_ | refine FBit.shl1 rfl (by omega) ?_ | refine Fits.inU (by omega) ?_ | refine FBit.shrNI rfl (by omega) ?_ | refine FBit.shrIN rfl (by omega) (by omega) ?_ | refine FBit.shrI rfl (by omega) (by omega) ?_ | refine FBit.shl1I rfl (by omega) ?_) | (with_reducible refine FBit.has rfl (fun hq => ?_) (fun hq => ?_)) | (with_reducible first | refine FBit.and1 rfl ?_ | refine FBit.andN rfl (by omega) (by omega) ?_ | refine FBit.orN rfl (by omega) (by omega) ?_ | refine FBit.andNotN rfl (by omega) (by omega) ?_) | (with_reducible refine FApp.grow ?_) | (with_reducible refine FOr.pub ?_)))
          all_goals (try (conv => whnf))
          refine ⟨⟨m + 1, hlt10, by omega, [0, 1, 2, 3, 4, 5], ?_, allA⟩⟩
          exact Cut.of (Nat.le_of_ble_eq_true rfl) rfl rfl (CutL.turned rfl LnB.A (CutL.turned rfl LnB.A (CutL.turned rfl LnB.A (CutL.turned rfl LnB.A (CutL.turned rfl (LnB.boxN ⟨True.intro, Ln.int (by rw [hst])⟩) (CutL.turned rfl (LnB.boxN ⟨⟨True.intro, Ln.int (by rw [hst]; rfl)⟩, Ln.int (by rw [hst]; rfl)⟩) CutL.done))))))
        · have cL := less_ok (fin' s m) (bst s m).2
          cases hle : (fin' s m).lt (bst s m).2
          · have hst := bst_no (.inr ⟨hat, hle⟩)
            rw [hle] at cL
            (repeat' ((try (conv => whnf)); first | (with_reducible first | refine FCond.tA ?_ | refine FCond.fA ?_) | ((with_reducible refine FCond.i (fun hq => ?_) (fun hq => ?_)) <;> (try simp only [zA, zE, zD, zJ, zB, zI, Int.not_le, Int.not_lt] at hq)) | (with_reducible first | refine Fits.in64 (by omega) ?_ | refine FIdx.nat (by omega) ?_ | refine FIdx.int (by omega) ?_ | refine FTo.nat (by omega) ?_ | refine FTo.int (by omega) ?_) | ((with_reducible refine Need.mk ?_ ?_); focus exact needA) | (with_reducible first | refine FBit.hasT rfl (by assumption) ?_ | refine FBit.hasF rfl (by assumption) ?_ | refine FBit.shrN rfl (by omega) ?_ | refine FBit.half rfl ?_ | refine FBit.shl1 rfl (by omega) ?_ | refine Fits.inU (by omega) ?_ | refine FBit.shrNI rfl (by omega) ?_ | refine FBit.shrIN rfl (by omega) (by omega) ?_ | refine FBit.shrI rfl (by omega) (by omega) ?_ | refine FBit.shl1I rfl (by omega) ?_) | (with_reducible refine FBit.has rfl (fun hq => ?_) (fun hq => ?_)) | (with_reducible first | refine FBit.and1 rfl ?_ | refine FBit.andN rfl (by omega) (by omega) ?_ | refine FBit.orN rfl (by omega) (by omega) ?_ | refine FBit.andNotN rfl (by omega) (by omega) ?_) | (with_reducible refine FApp.grow ?_) | (refine FCall.pure (cL) ⟨Ln.sameB _ rfl, Ln.sameB _ rfl, True.intro⟩ rfl ?_) | (with_reducible refine FOr.pub ?_)))
            all_goals (try (conv => whnf))
            refine ⟨⟨m + 1, hlt10, by omega, [0, 1, 2, 3, 4, 5], ?_, allA⟩⟩
            exact Cut.of (Nat.le_of_ble_eq_true rfl) rfl rfl (CutL.turned rfl LnB.A (CutL.turned rfl LnB.A (CutL.turned rfl LnB.A (CutL.turned rfl LnB.A (CutL.turned rfl (LnB.boxN ⟨True.intro, Ln.int (by rw [hst])⟩) (CutL.turned rfl (LnB.boxN ⟨⟨True.intro, Ln.int (by rw [hst])⟩, Ln.int (by rw [hst])⟩) CutL.done))))))
          · have hst := bst_yes hnev (.inr hle)
            rw [hle] at cL
            (repeat' ((try (conv => whnf)); first | (with_reducible first | refine FCond.tA ?_ | refine FCond.fA ?_) | ((with_reducible refine FCond.i (fun hq => ?_) (fun hq => ?_)) <;> (try simp only [zA, zE, zD, zJ, zB, zI, Int.not_le, Int.not_lt] at hq)) | (with_reducible first | refine Fits.in64 (by omega) ?_ | refine FIdx.nat (by omega) ?_ | refine FIdx.int (by omega) ?_ | refine FTo.nat (by omega) ?_ | refine FTo.int (by omega) ?_) | ((with_reducible refine Need.mk ?_ ?_); focus exact needA) | (with_reducible first | refine FBit.hasT rfl (by assumption) ?_ | refine FBit.hasF rfl (by assumption) ?_ | refine FBit.shrN rfl (by omega) ?_ | refine FBit.half rfl ?_ | refine FBit.shl1 rfl (by omega) ?_ | refine Fits.inU (by omega) ?_ | refine FBit.shrNI rfl (by omega) ?_ | refine FBit.shrIN rfl (by omega) (by omega) ?_ | refine FBit.shrI rfl (by omega) (by omega) ?_ | refine FBit.shl1I rfl (by omega) ?_) | (with_reducible refine FBit.has rfl (fun hq => ?_) (fun hq => ?_)) | (with_reducible first | refine FBit.and1 rfl ?_ | refine FBit.andN rfl (by omega) (by omega) ?_ | refine FBit.orN rfl (by omega) (by omega) ?_ | refine FBit.andNotN rfl (by omega) (by omega) ?_) | (with_reducible refine FApp.grow ?_) | (refine FCall.pure (cL) ⟨Ln.sameB _ rfl, Ln.sameB _ rfl, True.intro⟩ rfl ?_) | (with_reducible refine FOr.pub ?_)))
            all_goals (try (conv => whnf))
            refine ⟨⟨m + 1, hlt10, by omega, [0, 1, 2, 3, 4, 5], ?_, allA⟩⟩
            exact Cut.of (Nat.le_of_ble_eq_true rfl) rfl rfl (CutL.turned rfl LnB.A (CutL.turned rfl LnB.A (CutL.turned rfl LnB.A (CutL.turned rfl LnB.A (CutL.turned rfl (LnB.boxN ⟨True.intro, Ln.int (by rw [hst])⟩) (CutL.turned rfl (LnB.boxN ⟨⟨True.intro, Ln.int (by rw [hst]; rfl)⟩, Ln.int (by rw [hst]; rfl)⟩) CutL.done))))))
      · have hst := bst_no (.inl hnev)
        (repeat' ((try (conv => whnf)); first | (with_reducible first | refine FCond.tA ?_ | refine FCond.fA ?_) | ((with_reducible refine FCond.i (fun hq => ?_) (fun hq => ?_)) <;> (try simp only [zA, zE, zD, zJ, zB, zI, Int.not_le, Int.not_lt] at hq)) | (with_reducible first | refine Fits.in64 (by omega) ?_ | refine FIdx.nat (by omega) ?_ | refine FIdx.int (by omega) ?_ | refine FTo.nat (by omega) ?_ | refine FTo.int (by omega) ?_) | ((with_reducible refine Need.mk ?_ ?_); focus exact needA) | (with_reducible first | refine FBit.hasT rfl (by assumption) ?_ | refine FBit.hasF rfl (by assumption) ?_ | refine FBit.shrN rfl (by omega) ?_ | refine FBit.half rfl ?_ | refine FBit.shl1 rfl (by omega) ?_ | refine Fits.inU (by omega) ?_ | refine FBit.shrNI rfl (by omega) ?_ | refine FBit.shrIN rfl (by omega) (by omega) ?_ | refine FBit.shrI rfl (by omega) (by omega) ?_ | refine FBit.shl1I rfl (by omega) ?_) | (with_reducible refine FBit.has rfl (fun hq => ?_) (fun hq => ?_)) | (with_reducible first | refine FBit.and1 rfl ?_ | refine FBit.andN rfl (by omega) (by omega) ?_ | refine FBit.orN rfl (by omega) (by omega) ?_ | refine FBit.andNotN rfl (by omega) (by omega) ?_) | (with_reducible refine FApp.grow ?_) | (with_reducible refine FOr.pub ?_)))
        all_goals (try (conv => whnf))
        refine ⟨⟨m + 1, hlt10, by omega, [0, 1, 2, 3, 4, 5], ?_, allA⟩⟩
        exact Cut.of (Nat.le_of_ble_eq_true rfl) rfl rfl (CutL.turned rfl LnB.A (CutL.turned rfl LnB.A (CutL.turned rfl LnB.A (CutL.turned rfl LnB.A (CutL.turned rfl (LnB.boxN ⟨True.intro, Ln.int (by rw [hst])⟩) (CutL.turned rfl (LnB.boxN ⟨⟨True.intro, Ln.int (by rw [hst])⟩, Ln.int (by rw [hst])⟩) CutL.done))))))
  obtain rfl : m = 2 ^ s.rg.length := by omega
  have hB := bestAt_eq s
  have hB1 : (bst s (2 ^ s.rg.length)).1 = (bestAt s : Int) := hB.1
  have cR := repeat_ok (bslC (fun _ => ofL [AI 0, AI 0]) [(0, .agg 2 (ofL [AI (-1), AI (-1)]))]) s.rg.length (fun o ho => by
    rcases (show o = 0 ∨ o = 1 by omega) with rfl | rfl <;> rfl) (by omega)
  (repeat' ((try (conv => whnf)); first | (with_reducible first | refine FCond.tA ?_ | refine FCond.fA ?_) | ((with_reducible refine FCond.i (fun hq => ?_) (fun hq => ?_)) <;> (try simp only [zA, zE, zD, zJ, zB, zI, Int.not_le, Int.not_lt] at hq)) | (with_reducible first | refine Fits.in64 (by omega) ?_ | refine FIdx.nat (by omega) ?_ | refine FIdx.int (by omega) ?_ | refine FTo.nat (by omega) ?_ | refine FTo.int (by omega) ?_) | ((with_reducible refine Need.mk ?_ ?_); focus exact needA) | (with_reducible first | refine FBit.hasT rfl (by assumption) ?_ | refine FBit.hasF rfl (by assumption) ?_ | refine FBit.shrN rfl (by omega) ?_ | refine FBit.half rfl ?_ | refine FBit.shl1 rfl (by omega) ?_ | refine Fits.inU (by omega) ?_ | refine FBit.shrNI rfl (by omega) ?_ | refine FBit.shrIN rfl (by omega) (by omega) ?_ | refine FBit.shrI rfl (by omega) (by omega) ?_ | refine FBit.shl1I rfl (by omega) ?_) | (with_reducible refine FBit.has rfl (fun hq => ?_) (fun hq => ?_)) | (with_reducible first | refine FBit.and1 rfl ?_ | refine FBit.andN rfl (by omega) (by omega) ?_ | refine FBit.orN rfl (by omega) (by omega) ?_ | refine FBit.andNotN rfl (by omega) (by omega) ?_) | (with_reducible refine FApp.grow ?_) | (with_reducible refine FOr.pub ?_)))
  all_goals (try (conv => whnf))
  ((refine FCall.give [] [] (cR) rfl rfl True.intro ⟨Ln.A, Ln.A, True.intro⟩ ?_); rintro _ _ ⟨rfl, rfl⟩; (refine ⟨by first | exact Nat.le_of_ble_eq_true rfl | omega, .inl rfl, ?_⟩))
  (repeat' ((try (conv => whnf)); first | (with_reducible first | refine FCond.tA ?_ | refine FCond.fA ?_) | ((with_reducible refine FCond.i (fun hq => ?_) (fun hq => ?_)) <;> (try simp only [zA, zE, zD, zJ, zB, zI, Int.not_le, Int.not_lt] at hq)) | (with_reducible first | refine Fits.in64 (by omega) ?_ | refine FIdx.nat (by omega) ?_ | refine FIdx.int (by omega) ?_ | refine FTo.nat (by omega) ?_ | refine FTo.int (by omega) ?_) | ((with_reducible refine Need.mk ?_ ?_); focus exact needA) | (with_reducible first | refine FBit.hasT rfl (by assumption) ?_ | refine FBit.hasF rfl (by assumption) ?_ | refine FBit.shrN rfl (by omega) ?_ | refine FBit.half rfl ?_ | refine FBit.shl1 rfl (by omega) ?_ | refine Fits.inU (by omega) ?_ | refine FBit.shrNI rfl (by omega) ?_ | refine FBit.shrIN rfl (by omega) (by omega) ?_ | refine FBit.shrI rfl (by omega) (by omega) ?_ | refine FBit.shl1I rfl (by omega) ?_) | (with_reducible refine FBit.has rfl (fun hq => ?_) (fun hq => ?_)) | (with_reducible first | refine FBit.and1 rfl ?_ | refine FBit.andN rfl (by omega) (by omega) ?_ | refine FBit.orN rfl (by omega) (by omega) ?_ | refine FBit.andNotN rfl (by omega) (by omega) ?_) | (with_reducible refine FApp.grow ?_) | (refine FCall.pure ((backward_ok s.T (s.n * s.T))) ⟨Ln.sameB _ rfl, True.intro⟩ rfl ?_) | (with_reducible refine FOr.pub ?_)))
  all_goals (try (conv => whnf))
  refine FRange.of (ACalls.mono _) (X := Nat) (s.n * s.T) (fun k => [AI ((s.n * s.T - 1 - k : Nat) : Int), aSpot ((sp s.T (s.n * s.T - 1 - k)).1 : Int) ((sp s.T (s.n * s.T - 1 - k)).2 : Int)])
    (fun k => [(2, nilS), (3, .ptr 1 0), (6, .ptr 3 0), (19, .ptr 4 0), (20, .ptr 5 0), (25, .ptr 6 0), (205, fBack s.T (s.n * s.T))])
    (fun k => [.dead, .box 2 (ofL [AI 0, AI 0]), .row (s.n * s.T + 1) 1 (fun j _ => aSteps false false (2 ^ s.rg.length) (row s j)), .box 1 (ofL [.own 2 (s.n * s.T + 1)]), .box 1 (ofL [AI ((dn s k).1 : Nat)]), .box 2 (ofL [AI (bestW s).u, AI (bestW s).o]), .box 1 (ofL [.own 7 s.rg.length]), .row s.rg.length 2 (fun c => cAn (enc ((dn s k).2 c)))])
    (fun k x => x = k) 0 ⟨rfl, [0, 1, 2, 3, 4, 5, 7, 6], Cut.of (Nat.le_of_ble_eq_true rfl) rfl rfl (CutL.gone (Nat.lt_of_lt_of_le (Nat.lt_succ_self _) (Nat.le_of_ble_eq_true rfl)) (CutL.turned rfl LnB.A (CutL.turned rfl LnB.A (CutL.turned rfl LnB.A (CutL.turned rfl (LnB.boxN ⟨True.intro, Ln.int hB1⟩) (CutL.turned rfl LnB.A (CutL.turned rfl LnB.A (CutL.turned rfl LnB.A CutL.done)))))))), allA⟩ rfl rfl (backward_g _ _ _ (by omega)) (fun _ _ => rfl) ?round ?done
  case round =>
    rintro k x hk rfl
    have hidx : (((s.n * s.T - 1 - x : Nat) : Int) + 1).toNat = s.n * s.T - 1 - x + 1 := by omega
    have hlt := dn_lt s x
    have hltc : (dn s x).1 < 2 ^ s.rg.length := hlt
    have hcall := row_call s (s.n * s.T - 1 - x) (dn s x).1
    rw [← hidx] at hcall
    rcases hcall with hcall | ⟨c, hc, hcall, _⟩
    · have hd : dn s (x + 1) = dn s x := by
        simp only [dn]; rw [if_neg (by rw [← hidx, hcall]; decide)]
      (repeat' ((try (conv => whnf)); first | (with_reducible first | refine FCond.tA ?_ | refine FCond.fA ?_) | ((with_reducible refine FCond.i (fun hq => ?_) (fun hq => ?_)) <;> (try simp only [zA, zE, zD, zJ, zB, zI, Int.not_le, Int.not_lt] at hq)) | (with_reducible first | refine Fits.in64 (by omega) ?_ | refine FIdx.nat (by omega) ?_ | refine FIdx.int (by omega) ?_ | refine FTo.nat (by omega) ?_ | refine FTo.int (by omega) ?_) | ((with_reducible refine Need.mk ?_ ?_); focus exact needA) | (with_reducible first | refine FBit.hasT rfl (by assumption) ?_ | refine FBit.hasF rfl (by assumption) ?_ | refine FBit.shrN rfl (by omega) ?_ | refine FBit.half rfl ?_ | refine FBit.shl1 rfl (by omega) ?_ | refine Fits.inU (by omega) ?_ | refine FBit.shrNI rfl (by omega) ?_ | refine FBit.shrIN rfl (by omega) (by omega) ?_ | refine FBit.shrI rfl (by omega) (by omega) ?_ | refine FBit.shl1I rfl (by omega) ?_) | (with_reducible refine FBit.has rfl (fun hq => ?_) (fun hq => ?_)) | (with_reducible first | refine FBit.and1 rfl ?_ | refine FBit.andN rfl (by omega) (by omega) ?_ | refine FBit.orN rfl (by omega) (by omega) ?_ | refine FBit.andNotN rfl (by omega) (by omega) ?_) | (with_reducible refine FApp.grow ?_) | (with_reducible refine FOr.pub ?_)))
      all_goals (try (conv => whnf))
      refine ⟨⟨x + 1, rfl, [0, 1, 2, 3, 4, 5, 6, 7], Cut.of (Nat.le_of_ble_eq_true rfl) rfl rfl (CutL.gone (Nat.lt_of_lt_of_le (Nat.lt_succ_self _) (Nat.le_of_ble_eq_true rfl)) (CutL.turned rfl LnB.A (CutL.turned rfl LnB.A (CutL.turned rfl LnB.A (CutL.turned rfl (LnB.boxN ⟨True.intro, Ln.int (by rw [hd])⟩) (CutL.turned rfl LnB.A (CutL.turned rfl LnB.A (CutL.turned rfl (LnB.rowE (Nat.le_refl _) fun j hj o ho => by rw [hd]) CutL.done)))))))), allA⟩⟩
    · have hc' : c < s.rg.length := hc
      have h2c : 2 ^ (row s (((s.n * s.T - 1 - x : Nat) : Int) + 1).toNat (dn s x).1).call.toNat ≤ 2 ^ s.rg.length := Nat.pow_le_pow_right (by decide) (by omega)
      have hd : dn s (x + 1) = (sdiff (dn s x).1 (2 ^ (row s (((s.n * s.T - 1 - x : Nat) : Int) + 1).toNat (dn s x).1).call.toNat), (dn s x).2.put (row s (((s.n * s.T - 1 - x : Nat) : Int) + 1).toNat (dn s x).1).call.toNat (some (sp s.T (s.n * s.T - 1 - x)))) := by
        simp only [dn]; rw [← hidx, if_pos (by omega)]; rfl
      (repeat' ((try (conv => whnf)); first | (with_reducible first | refine FCond.tA ?_ | refine FCond.fA ?_) | ((with_reducible refine FCond.i (fun hq => ?_) (fun hq => ?_)) <;> (try simp only [zA, zE, zD, zJ, zB, zI, Int.not_le, Int.not_lt] at hq)) | (with_reducible first | refine Fits.in64 (by omega) ?_ | refine FIdx.nat (by omega) ?_ | refine FIdx.int (by omega) ?_ | refine FTo.nat (by omega) ?_ | refine FTo.int (by omega) ?_) | ((with_reducible refine Need.mk ?_ ?_); focus exact needA) | (with_reducible first | refine FBit.hasT rfl (by assumption) ?_ | refine FBit.hasF rfl (by assumption) ?_ | refine FBit.shrN rfl (by omega) ?_ | refine FBit.half rfl ?_ | refine FBit.shl1 rfl (by omega) ?_ | refine Fits.inU (by omega) ?_ | refine FBit.shrNI rfl (by omega) ?_ | refine FBit.shrIN rfl (by omega) (by omega) ?_ | refine FBit.shrI rfl (by omega) (by omega) ?_ | refine FBit.shl1I rfl (by omega) ?_) | (with_reducible refine FBit.has rfl (fun hq => ?_) (fun hq => ?_)) | (with_reducible first | refine FBit.and1 rfl ?_ | refine FBit.andN rfl (by omega) (by omega) ?_ | refine FBit.orN rfl (by omega) (by omega) ?_ | refine FBit.andNotN rfl (by omega) (by omega) ?_) | (with_reducible refine FApp.grow ?_) | (with_reducible refine FOr.pub ?_)))
      all_goals (try (conv => whnf))
      refine ⟨⟨x + 1, rfl, [0, 1, 2, 3, 4, 5, 6, 7], Cut.of (Nat.le_of_ble_eq_true rfl) rfl rfl (CutL.gone (Nat.lt_of_lt_of_le (Nat.lt_succ_self _) (Nat.le_of_ble_eq_true rfl)) (CutL.turned rfl LnB.A (CutL.turned rfl LnB.A (CutL.turned rfl LnB.A (CutL.turned rfl (LnB.boxN ⟨True.intro, Ln.int (by rw [hd])⟩) (CutL.turned rfl LnB.A (CutL.turned rfl LnB.A (CutL.turned rfl (LnB.rowE (Nat.le_refl _) fun j hj o ho => ?_) CutL.done)))))))), allA⟩⟩
      rw [hd]
      simp only [updRm, Asg.put]
      by_cases e : j = (row s (((s.n * s.T - 1 - x : Nat) : Int) + 1).toNat (dn s x).1).call.toNat
      · rw [if_pos e, if_pos e]; rfl
      · rw [if_neg e, if_neg e]
  case done =>
    rintro x rfl
    (repeat' ((try (conv => whnf)); first | (with_reducible first | refine FCond.tA ?_ | refine FCond.fA ?_) | ((with_reducible refine FCond.i (fun hq => ?_) (fun hq => ?_)) <;> (try simp only [zA, zE, zD, zJ, zB, zI, Int.not_le, Int.not_lt] at hq)) | (with_reducible first | refine Fits.in64 (by omega) ?_ | refine FIdx.nat (by omega) ?_ | refine FIdx.int (by omega) ?_ | refine FTo.nat (by omega) ?_ | refine FTo.int (by omega) ?_) | ((with_reducible refine Need.mk ?_ ?_); focus exact needA) | (with_reducible first | refine FBit.hasT rfl (by assumption) ?_ | refine FBit.hasF rfl (by assumption) ?_ | refine FBit.shrN rfl (by omega) ?_ | refine FBit.half rfl ?_ | refine FBit.shl1 rfl (by omega) ?_ | refine Fits.inU (by omega) ?_ | refine FBit.shrNI rfl (by omega) ?_ | refine FBit.shrIN rfl (by omega) (by omega) ?_ | refine FBit.shrI rfl (by omega) (by omega) ?_ | refine FBit.shl1I rfl (by omega) ?_) | (with_reducible refine FBit.has rfl (fun hq => ?_) (fun hq => ?_)) | (with_reducible first | refine FBit.and1 rfl ?_ | refine FBit.andN rfl (by omega) (by omega) ?_ | refine FBit.orN rfl (by omega) (by omega) ?_ | refine FBit.andNotN rfl (by omega) (by omega) ?_) | (with_reducible refine FApp.grow ?_) | (with_reducible refine FOr.pub ?_)))
    all_goals (try (conv => whnf))
    refine ⟨⟨.tup 2 (ofL [.own 0 s.C, aWt (bestW s)]), [rowA s.C (fun c => (bestL s).getD c na)], [7], ?_, Ln.tupN ⟨⟨True.intro, Ln.ownE rfl rfl⟩, Ln.A⟩, rfl, rfl⟩⟩
    exact Cut.of (Nat.le_of_ble_eq_true rfl) rfl rfl (CutL.turned rfl (LnB.rowE (Nat.le_refl _) fun j hj o ho => by rw [dn_all]; show cAn ((encL s (bestA s)).getD j na) o = _; rw [encL_get hj]) CutL.done)
/-- The same, to be read only. -/
theorem pbest_ok (f : StF) (s : Std) (hs : StdOk s) : ACall Try.prog 40 [aStd f s] [] (fun r h => r = .tup 2 (ofL [aAns false false (bestL s), aWt (bestW s)]) ∧ h = []) :=
  ACall.wk (ACall.mono' _ (by rintro _ _ ⟨rfl, rfl⟩; exact ⟨_, [], [], Cut.nil _, Ln.tupN ⟨⟨True.intro, Ln.pubE (goneB rfl) rfl (Nat.le_refl _) (encL_len s _).symm (fun _ _ _ _ => rfl)⟩, Ln.A⟩, rfl, rfl⟩) (best_walk f s hs))
/-- What Plan of the program returns. -/
abbrev planE (s : Std) : AV := if s.ok then .tup 4 (ofL [aAns false false (bestL s), AI (bestW s).u, AI (bestW s).o, AI 0]) else .tup 4 (ofL [nilS, AI 0, AI 0, AI 60])
theorem plan_yes (f : StF) (s : Std) (hn : NearS s) (h : s.ok = true) : ACall Try.prog 16 [aStd f s] [] (fun r h => r = .tup 4 (ofL [aAns false false (bestL s), AI (bestW s).u, AI (bestW s).o, AI 0]) ∧ h = []) := by
  have cC := check_ok f s hn
  rw [check_ok' h] at cC
  (refine fcall_of mixed Try.func16 rfl (by decide) (hs := {}) ?k (ac := ?ac) ?c (rs := ?rs) ?r ?l ?H; (case k => kernel_rfl); (case c => (conv => (lhs; cbv))); (case r => (conv => (lhs; cbv))); (case l => exact Nat.le_of_ble_eq_true rfl))
  (repeat' ((try (conv => whnf)); first | (with_reducible first | refine FCond.tA ?_ | refine FCond.fA ?_) | ((with_reducible refine FCond.i (fun hq => ?_) (fun hq => ?_)) <;> (try simp only [zA, zE, zD, zJ, zB, zI, Int.not_le, Int.not_lt] at hq)) | (with_reducible first | refine Fits.in64 (by omega) ?_ | refine FIdx.nat (by omega) ?_ | refine FIdx.int (by omega) ?_ | refine FTo.nat (by omega) ?_ | refine FTo.int (by omega) ?_) | ((with_reducible refine Need.mk ?_ ?_); focus exact needA) | (with_reducible refine FApp.grow ?_) | (refine FCall.pure (cC) ⟨Ln.sameB _ rfl, True.intro⟩ rfl ?_) | (refine FCall.pure ((pbest_ok f s (std_d h))) ⟨Ln.sameB _ rfl, True.intro⟩ rfl ?_) | (with_reducible refine FOr.pub ?_)))
  all_goals (try (conv => whnf))
  (refine ⟨⟨_, [], [], Cut.nil _, Ln.sameB _ rfl, ?_, rfl⟩⟩)
  rfl
theorem plan_no (f : StF) (s : Std) (hn : NearS s) (h : s.ok = false) : ACall Try.prog 16 [aStd f s] [] (fun r h => r = .tup 4 (ofL [nilS, AI 0, AI 0, AI 60]) ∧ h = []) := by
  have cC := check_ok f s hn
  rw [check_60 h] at cC
  (refine fcall_of mixed Try.func16 rfl (by decide) (hs := {}) ?k (ac := ?ac) ?c (rs := ?rs) ?r ?l ?H; (case k => kernel_rfl); (case c => (conv => (lhs; cbv))); (case r => (conv => (lhs; cbv))); (case l => exact Nat.le_of_ble_eq_true rfl))
  (repeat' ((try (conv => whnf)); first | (with_reducible first | refine FCond.tA ?_ | refine FCond.fA ?_) | ((with_reducible refine FCond.i (fun hq => ?_) (fun hq => ?_)) <;> (try simp only [zA, zE, zD, zJ, zB, zI, Int.not_le, Int.not_lt] at hq)) | (with_reducible first | refine Fits.in64 (by omega) ?_ | refine FIdx.nat (by omega) ?_ | refine FIdx.int (by omega) ?_ | refine FTo.nat (by omega) ?_ | refine FTo.int (by omega) ?_) | ((with_reducible refine Need.mk ?_ ?_); focus exact needA) | (with_reducible refine FApp.grow ?_) | (refine FCall.pure (cC) ⟨Ln.sameB _ rfl, True.intro⟩ rfl ?_) | (with_reducible refine FOr.pub ?_)))
  all_goals (try (conv => whnf))
  (refine ⟨⟨_, [], [], Cut.nil _, Ln.sameB _ rfl, ?_, rfl⟩⟩)
  rfl
end Go.Proofs.Ytnghcfmloljagaa

namespace Go.Proofs.Ytnghcfmloljagaa
open Go.RowKit

theorem anr_na {a : Anr} (h1 : a.t = -1) (h2 : a.g = -1) : a = na := by cases a; simp_all [na]
theorem anr_ne {a : Anr} (h : ¬ (a.t = -1 ∧ a.g = -1)) : a ≠ na := fun e => h (by rw [e]; exact ⟨rfl, rfl⟩)
theorem anr_eq {a b : Anr} (h1 : a.t = b.t) (h2 : a.g = b.g) : a = b := by cases a; cases b; simp_all
def keyT (a : Anr) : List Int := [a.g, a.t]
theorem keyT_inj {a b : Anr} (h : keyT a = keyT b) : a = b := by
  unfold keyT at h
  simp only [List.cons.injEq, and_true] at h
  exact anr_eq h.2 h.1
/-- The spots that are taken by the first answers. -/
def takL (l : List Anr) : Nat → List (List Int × AV)
  | 0 => []
  | c + 1 => if l.getD c na = na then takL l c else takL l c ++ [(keyT (l.getD c na), .int .i64 1)]
theorem takL_na {l : List Anr} {c : Nat} (h : l.getD c na = na) : takL l (c + 1) = takL l c := by simp only [takL]; rw [if_pos h]
theorem takL_no {l : List Anr} {c : Nat} (h : l.getD c na ≠ na) : takL l (c + 1) = takL l c ++ [(keyT (l.getD c na), .int .i64 1)] := by simp only [takL]; rw [if_neg h]
theorem takL_mem {l : List Anr} {p : List Int × AV} : ∀ {c : Nat}, p ∈ takL l c → ∃ k, k < c ∧ l.getD k na ≠ na ∧ p = (keyT (l.getD k na), .int .i64 1)
  | 0, h => by cases h
  | c + 1, h => by
    by_cases e : l.getD c na = na
    · rw [takL_na e] at h
      obtain ⟨k, h1, h2⟩ := takL_mem h
      exact ⟨k, by omega, h2⟩
    · rw [takL_no e] at h
      rcases List.mem_append.1 h with h | h
      · obtain ⟨k, h1, h2⟩ := takL_mem h
        exact ⟨k, by omega, h2⟩
      · rw [List.mem_singleton] at h
        exact ⟨c, by omega, e, h⟩
theorem takL_has {l : List Anr} {k : Nat} (hk : l.getD k na ≠ na) : ∀ {c : Nat}, k < c → (keyT (l.getD k na), AV.int .i64 1) ∈ takL l c
  | 0, h => by omega
  | c + 1, h => by
    by_cases e : k = c
    · subst e; rw [takL_no hk]; simp
    · have := takL_has hk (c := c) (by omega)
      by_cases e2 : l.getD c na = na
      · rw [takL_na e2]; exact this
      · rw [takL_no e2]; exact List.mem_append_left _ this
/-- No earlier answer takes the spot. -/
def fresh (l : List Anr) (c : Nat) : Prop := ∀ k, k < c → l.getD k na ≠ l.getD c na
theorem fresh_iff {l : List Anr} {c : Nat} : (List.range c).all (fun k => !decide (l.getD k na = l.getD c na)) = true ↔ fresh l c := by
  unfold fresh
  simp only [List.all_eq_true, List.mem_range, Bool.not_eq_true', decide_eq_false_iff_not]
theorem tak_fresh {l : List Anr} {c : Nat} (h : fresh l c) : aidx (takL l c) (keyT (l.getD c na)) = none := by
  unfold aidx
  rw [List.findIdx?_eq_none_iff]
  intro p hp
  obtain ⟨k, h1, h2, rfl⟩ := takL_mem hp
  simp only [beq_eq_false_iff_ne]
  exact fun e => h k h1 (keyT_inj e)
theorem tak_dup {l : List Anr} {c : Nat} (hc : l.getD c na ≠ na) (h : ¬ fresh l c) : ∃ i, aidx (takL l c) (keyT (l.getD c na)) = some i ∧ i < (takL l c).length ∧ (takL l c).getD i default = (keyT (l.getD c na), .int .i64 1) := by
  have h' : ∃ k, k < c ∧ l.getD k na = l.getD c na := by
    refine Classical.byContradiction fun hn => h fun k hk e => hn ⟨k, hk, e⟩
  obtain ⟨k, hk, e⟩ := h'
  cases hi : aidx (takL l c) (keyT (l.getD c na)) with
  | none =>
    have := (aidx_none hi).1
    refine (this ?_).elim
    rw [← e]
    exact List.mem_map.2 ⟨_, takL_has (by rw [e]; exact hc) hk, rfl⟩
  | some i =>
    obtain ⟨h1, h2, h3, _⟩ := aidx_some hi
    refine ⟨i, rfl, h1, ?_⟩
    have hm : (takL l c).getD i default ∈ takL l c := by
      simp only [List.getD, List.getElem?_eq_getElem h1, Option.getD_some]
      exact List.getElem_mem h1
    obtain ⟨k', _, _, e'⟩ := takL_mem hm
    rw [e'] at h2 ⊢
    simp only at h2
    rw [h2]
theorem alook_put (L : List (List Int × AV)) (k : List Int) (v : AV) : alook (aput L k v) k = some v := by
  cases hi : aidx L k with
  | none =>
    have h := (aidx_none hi)
    rw [h.2.2]
    unfold alook
    rw [List.find?_append]
    have h0 : L.find? (fun p => p.1 == k) = none := by
      have := h.2.1
      unfold alook at this
      simpa using this
    rw [h0]
    simp
  | some i =>
    obtain ⟨h1, h2, h3, h4⟩ := aidx_some hi
    rw [h4]
    unfold alook
    unfold aidx at hi
    obtain ⟨_, _, h6⟩ := List.findIdx?_eq_some_iff_getElem.1 hi
    have : (L.set i (k, v)).find? (fun p => p.1 == k) = some (k, v) := by
      rw [List.find?_eq_some_iff_getElem]
      refine ⟨by simp, i, by simpa using h1, by simp, fun j hj => ?_⟩
      rw [List.getElem_set_ne (by omega)]
      have := h6 j hj
      simpa using this
    rw [this]; rfl
theorem tak_put {l : List Anr} {c : Nat} (h : fresh l c) (v : AV) : (takL l c ++ [(keyT (l.getD c na), v)]).set (takL l c).length (keyT (l.getD c na), .int .i64 1) = takL l c ++ [(keyT (l.getD c na), .int .i64 1)] := by
  rw [List.set_append_right _ _ (Nat.le_refl _), Nat.sub_self]; rfl
set_option maxHeartbeats 4000000
set_option maxRecDepth 100000
theorem rall_no' {p : Nat → Bool} {n i : Nat} (h : i < n) (hp : p i = false) : (List.range n).all p = false := rall_no h hp
theorem right_len {s : Std} {l : List Anr} (h : l.length ≠ s.C) : rightL s l = false := by unfold rightL; rw [decide_eq_false h]; rfl
theorem right_at {s : Std} {l : List Anr} {i : Nat} (hi : i < s.C) (h : okAt s l i = false) : rightL s l = false := by unfold rightL; rw [rall_no hi h, Bool.and_false]
theorem right_yes {s : Std} {l : List Anr} (hl : l.length = s.C) (h : ∀ i, i < s.C → okAt s l i = true) : rightL s l = true := by unfold rightL; rw [decide_eq_true hl, rall_yes h]; rfl
theorem okAt_na {s : Std} {l : List Anr} {i : Nat} (h : l.getD i na = na) : okAt s l i = true := by unfold okAt; rw [decide_eq_true h]; rfl
theorem okAt_yes {s : Std} {l : List Anr} {i : Nat} (h1 : 0 ≤ (l.getD i na).g ∧ (l.getD i na).g ≤ (s.n : Int) - 1) (h2 : canA s (l.getD i na).g.toNat (l.getD i na).t i = true) (h3 : fresh l i) : okAt s l i = true := by
  unfold okAt; rw [h2, show inB (l.getD i na).g 0 (s.n - 1) = true from decide_eq_true h1, fresh_iff.2 h3]; simp
theorem okAt_no {s : Std} {l : List Anr} {i : Nat} (h0 : l.getD i na ≠ na) (h : ¬ (0 ≤ (l.getD i na).g ∧ (l.getD i na).g ≤ (s.n : Int) - 1) ∨ canA s (l.getD i na).g.toNat (l.getD i na).t i = false ∨ ¬ fresh l i) : okAt s l i = false := by
  unfold okAt
  rw [decide_eq_false h0, Bool.false_or]
  rcases h with h | h | h
  · rw [show inB (l.getD i na).g 0 (s.n - 1) = false from decide_eq_false h]; rfl
  · rw [h, Bool.and_false]; rfl
  · rw [Bool.eq_false_iff.2 (fun e => h (fresh_iff.1 e)), Bool.and_false]
theorem Need.in64 {a : Int} {K : Prop} (h : -9223372036854775808 ≤ a ∧ a ≤ 9223372036854775807) (k : K) : Need (in64 a) K := ⟨h, k⟩
theorem pairT {a b c d : Int} (h : a = b ∧ c = d) : (decide (a = b) && (decide (c = d) && true)) = true := by rw [decide_eq_true h.1, decide_eq_true h.2]; rfl
theorem pairF {a b c d : Int} (h : ¬ (a = b ∧ c = d)) : (decide (a = b) && (decide (c = d) && true)) = false := by
  rw [Bool.and_true, Bool.and_eq_false_iff, decide_eq_false_iff_not, decide_eq_false_iff_not]; omega
theorem refCan_i (f : StF) (s : Std) (hs : StdOk s) (g : Int) (c : Nat) (t : Int) (hg : 0 ≤ g ∧ g ≤ (s.n : Int) - 1) (hc : c < s.C) : ACall Try.prog 24 [aStd f s, AI g, AI c, AI t] [] (fun r h => r = .bool (canA s g.toNat t c) ∧ h = []) := by
  have := refCan_ok f s hs g.toNat c t (by omega) hc
  rwa [Int.toNat_of_nonneg hg.1] at this
theorem can_i (f : StF) (s : Std) (hs : StdOk s) (g : Int) (c : Nat) (t : Int) (hg : 0 ≤ g ∧ g ≤ (s.n : Int) - 1) (hc : c < s.C) : ACall Try.prog 54 [aStd f s, aSpot g t, AI c] [] (fun r h => r = .bool (canA s g.toNat t c) ∧ h = []) := by
  have := can_ok f s hs g.toNat c t (by omega) hc
  rwa [Int.toNat_of_nonneg hg.1] at this
theorem areRight_ok (f : StF) (s : Std) (hs : StdOk s) (z e : Bool) (l : List Anr) (hl : l.length ≤ 1000) : ACall Try.prog 23 [aStd f s, aAns z e l] [] (fun r h => r = .bool (rightL s l) ∧ h = []) := by
  have n4 : s.sg.length ≤ 4 := hs.n4
  have hsn : s.n = s.sg.length := rfl
  have c12 : s.rg.length ≤ 12 := hs.c12
  (refine fcall_of mixed Try.func23 rfl (by decide) (hs := {}) ?k (ac := ?ac) ?c (rs := ?rs) ?r ?l ?H; (case k => kernel_rfl); (case c => (conv => (lhs; cbv))); (case r => (conv => (lhs; cbv))); (case l => exact Nat.le_of_ble_eq_true rfl))
  (repeat' ((try (conv => whnf)); first | (with_reducible first | refine FCond.tA ?_ | refine FCond.fA ?_) | ((with_reducible refine FCond.i (fun hq => ?_) (fun hq => ?_)) <;> (try simp only [zA, zE, zD, zJ, zB, zI, Int.not_le, Int.not_lt] at hq)) | (with_reducible first | refine Fits.in64 (by omega) ?_ | refine FIdx.nat (by omega) ?_ | refine FIdx.int (by omega) ?_ | refine FTo.nat (by omega) ?_ | refine FTo.int (by omega) ?_) | ((with_reducible refine Need.mk ?_ ?_); focus exact needA) | (with_reducible refine FApp.grow ?_) | (with_reducible refine FOr.pub ?_)))
  all_goals (try (conv => whnf))
  · (refine ⟨⟨_, [], [], Cut.nil _, Ln.sameB _ rfl, ?_, rfl⟩⟩)
    rw [right_len (show l.length ≠ s.rg.length by omega)]
  · have hlen : l.length = s.rg.length := by omega
    refine FLoop.of (ACalls.mono _) (X := Nat) (fun i => [(1, aAns z e l), (2, .ptr 0 0), (5, AI i)]) (fun _ => [.box 3 (cStd f s)]) (fun i => i ≤ l.length ∧ ∀ k, k < i → okAt s l k = true) (fun i => l.length - i) 0 ⟨⟨Nat.zero_le _, below_zero⟩, [0], Cut.A, allA⟩ ?_
    rintro i ⟨hi, hL⟩
    by_cases hlt : i < l.length
    · have hic : i < s.C := by show i < s.rg.length; omega
      by_cases hna : (l.getD i na).t = -1 ∧ (l.getD i na).g = -1
      · (repeat' ((try (conv => whnf)); first | (with_reducible first | refine FCond.tA ?_ | refine FCond.fA ?_) | ((with_reducible refine FCond.i (fun hq => ?_) (fun hq => ?_)) <;> (try simp only [zA, zE, zD, zJ, zB, zI, Int.not_le, Int.not_lt] at hq)) | (with_reducible first | refine Fits.in64 (by omega) ?_ | refine FIdx.nat (by omega) ?_ | refine FIdx.int (by omega) ?_ | refine FTo.nat (by omega) ?_ | refine FTo.int (by omega) ?_) | ((with_reducible refine Need.mk ?_ ?_); focus exact needA) | (with_reducible refine FApp.grow ?_) | (with_reducible refine FOr.pub ?_)))
        all_goals (try (conv => whnf))
        (exact ⟨⟨(i + 1), ⟨hlt, below_step hL (okAt_na (anr_na hna.1 hna.2))⟩, by show _ < _; omega, [0], Cut.A, allA⟩⟩)
      · have hne := anr_ne hna
        by_cases hg : 0 ≤ (l.getD i na).g ∧ (l.getD i na).g ≤ (s.n : Int) - 1
        · have hcan := refCan_i f s hs (l.getD i na).g i (l.getD i na).t hg hic
          cases hc : canA s (l.getD i na).g.toNat (l.getD i na).t i
          · rw [hc] at hcan
            (repeat' ((try (conv => whnf)); first | (with_reducible first | refine FCond.tA ?_ | refine FCond.fA ?_) | ((with_reducible refine FCond.i (fun hq => ?_) (fun hq => ?_)) <;> (try simp only [zA, zE, zD, zJ, zB, zI, Int.not_le, Int.not_lt] at hq)) | (with_reducible first | refine Fits.in64 (by omega) ?_ | refine FIdx.nat (by omega) ?_ | refine FIdx.int (by omega) ?_ | refine FTo.nat (by omega) ?_ | refine FTo.int (by omega) ?_) | ((with_reducible refine Need.mk ?_ ?_); focus exact needA) | (with_reducible refine FApp.grow ?_) | (refine FCall.pure ((within_ok _ _ _)) ⟨Ln.sameB _ rfl, Ln.sameB _ rfl, Ln.sameB _ rfl, True.intro⟩ rfl ?_) | (refine FCall.pure (hcan) ⟨Ln.sameB _ rfl, Ln.sameB _ rfl, Ln.sameB _ rfl, Ln.sameB _ rfl, True.intro⟩ rfl ?_) | (with_reducible refine FOr.pub ?_)))
            all_goals (try (conv => whnf))
            all_goals ((refine ⟨⟨_, [], [], Cut.nil _, Ln.sameB _ rfl, ?_, rfl⟩⟩); rw [right_at hic (okAt_no hne (.inr (.inl hc)))])
          · rw [hc] at hcan
            (repeat' ((try (conv => whnf)); first | (with_reducible first | refine FCond.tA ?_ | refine FCond.fA ?_) | ((with_reducible refine FCond.i (fun hq => ?_) (fun hq => ?_)) <;> (try simp only [zA, zE, zD, zJ, zB, zI, Int.not_le, Int.not_lt] at hq)) | (with_reducible first | refine Fits.in64 (by omega) ?_ | refine FIdx.nat (by omega) ?_ | refine FIdx.int (by omega) ?_ | refine FTo.nat (by omega) ?_ | refine FTo.int (by omega) ?_) | ((with_reducible refine Need.mk ?_ ?_); focus exact needA) | (with_reducible refine FApp.grow ?_) | (refine FCall.pure ((within_ok _ _ _)) ⟨Ln.sameB _ rfl, Ln.sameB _ rfl, Ln.sameB _ rfl, True.intro⟩ rfl ?_) | (refine FCall.pure (hcan) ⟨Ln.sameB _ rfl, Ln.sameB _ rfl, Ln.sameB _ rfl, Ln.sameB _ rfl, True.intro⟩ rfl ?_) | (with_reducible refine FOr.pub ?_)))
            all_goals (try (conv => whnf))
            all_goals refine FLoop.of (ACalls.mono _) (X := Nat) (fun k => [(1, aAns z e l), (2, .ptr 0 0), (5, AI i), (6, .ptr 1 0), (7, AI k)]) (fun _ => [.box 3 (cStd f s), .box 2 (cAn (l.getD i na))]) (fun k => k ≤ i ∧ ∀ j, j < k → l.getD j na ≠ l.getD i na) (fun k => i - k) 0 ⟨⟨Nat.zero_le _, below_zero⟩, [0, 1], Cut.A, allA⟩ ?_
            all_goals
              rintro k ⟨hk, hK⟩
              by_cases hlk : k < i
              · by_cases he : (l.getD k na).t = (l.getD i na).t ∧ (l.getD k na).g = (l.getD i na).g
                · have hpt := pairT he
                  (repeat' ((try (conv => whnf)); first | (with_reducible first | refine FCond.tA ?_ | refine FCond.fA ?_) | ((with_reducible refine FCond.i (fun hq => ?_) (fun hq => ?_)) <;> (try simp only [zA, zE, zD, zJ, zB, zI, Int.not_le, Int.not_lt] at hq)) | (with_reducible first | refine Fits.in64 (by omega) ?_ | refine FIdx.nat (by omega) ?_ | refine FIdx.int (by omega) ?_ | refine FTo.nat (by omega) ?_ | refine FTo.int (by omega) ?_) | ((with_reducible refine Need.mk ?_ ?_); focus exact needA) | (with_reducible refine FApp.grow ?_) | (with_reducible refine And.intro rfl ?_) | (with_reducible refine FOr.pub ?_)))
                  all_goals (try (conv => whnf))
                  (refine ⟨⟨_, [], [], Cut.nil _, Ln.sameB _ rfl, ?_, rfl⟩⟩)
                  rw [right_at hic (okAt_no hne (.inr (.inr fun hf => hf k hlk (anr_eq he.1 he.2))))]
                · have hpf := pairF he
                  (repeat' ((try (conv => whnf)); first | (with_reducible first | refine FCond.tA ?_ | refine FCond.fA ?_) | ((with_reducible refine FCond.i (fun hq => ?_) (fun hq => ?_)) <;> (try simp only [zA, zE, zD, zJ, zB, zI, Int.not_le, Int.not_lt] at hq)) | (with_reducible first | refine Fits.in64 (by omega) ?_ | refine FIdx.nat (by omega) ?_ | refine FIdx.int (by omega) ?_ | refine FTo.nat (by omega) ?_ | refine FTo.int (by omega) ?_) | ((with_reducible refine Need.mk ?_ ?_); focus exact needA) | (with_reducible refine FApp.grow ?_) | (with_reducible refine And.intro rfl ?_) | (with_reducible refine FOr.pub ?_)))
                  all_goals (try (conv => whnf))
                  (exact ⟨⟨(k + 1), ⟨hlk, below_step hK (fun e => he (by rw [e]; exact ⟨rfl, rfl⟩))⟩, by show _ < _; omega, [0, 1], Cut.A, allA⟩⟩)
              · obtain rfl : k = i := by omega
                (repeat' ((try (conv => whnf)); first | (with_reducible first | refine FCond.tA ?_ | refine FCond.fA ?_) | ((with_reducible refine FCond.i (fun hq => ?_) (fun hq => ?_)) <;> (try simp only [zA, zE, zD, zJ, zB, zI, Int.not_le, Int.not_lt] at hq)) | (with_reducible first | refine Fits.in64 (by omega) ?_ | refine FIdx.nat (by omega) ?_ | refine FIdx.int (by omega) ?_ | refine FTo.nat (by omega) ?_ | refine FTo.int (by omega) ?_) | ((with_reducible refine Need.mk ?_ ?_); focus exact needA) | (with_reducible refine FApp.grow ?_) | (with_reducible refine FOr.pub ?_)))
                all_goals (try (conv => whnf))
                (exact ⟨⟨(k + 1), ⟨hlt, below_step hL (okAt_yes hg hc hK)⟩, by show _ < _; omega, [0], Cut.A, allA⟩⟩)
        · (repeat' ((try (conv => whnf)); first | (with_reducible first | refine FCond.tA ?_ | refine FCond.fA ?_) | ((with_reducible refine FCond.i (fun hq => ?_) (fun hq => ?_)) <;> (try simp only [zA, zE, zD, zJ, zB, zI, Int.not_le, Int.not_lt] at hq)) | (with_reducible first | refine Fits.in64 (by omega) ?_ | refine FIdx.nat (by omega) ?_ | refine FIdx.int (by omega) ?_ | refine FTo.nat (by omega) ?_ | refine FTo.int (by omega) ?_) | ((with_reducible refine Need.mk ?_ ?_); focus exact needA) | (with_reducible refine FApp.grow ?_) | (refine FCall.pure ((within_ok _ _ _)) ⟨Ln.sameB _ rfl, Ln.sameB _ rfl, Ln.sameB _ rfl, True.intro⟩ rfl ?_) | (with_reducible refine FOr.pub ?_)))
          all_goals (try (conv => whnf))
          all_goals ((refine ⟨⟨_, [], [], Cut.nil _, Ln.sameB _ rfl, ?_, rfl⟩⟩); rw [right_at hic (okAt_no hne (.inl hg))])
    · obtain rfl : i = l.length := by omega
      (repeat' ((try (conv => whnf)); first | (with_reducible first | refine FCond.tA ?_ | refine FCond.fA ?_) | ((with_reducible refine FCond.i (fun hq => ?_) (fun hq => ?_)) <;> (try simp only [zA, zE, zD, zJ, zB, zI, Int.not_le, Int.not_lt] at hq)) | (with_reducible first | refine Fits.in64 (by omega) ?_ | refine FIdx.nat (by omega) ?_ | refine FIdx.int (by omega) ?_ | refine FTo.nat (by omega) ?_ | refine FTo.int (by omega) ?_) | ((with_reducible refine Need.mk ?_ ?_); focus exact needA) | (with_reducible refine FApp.grow ?_) | (with_reducible refine FOr.pub ?_)))
      all_goals (try (conv => whnf))
      (refine ⟨⟨_, [], [], Cut.nil _, Ln.sameB _ rfl, ?_, rfl⟩⟩)
      rw [right_yes (show l.length = s.C from hlen) (fun i hi => hL i (by have : i < s.rg.length := hi; omega))]
theorem are_ok (f : StF) (s : Std) (hs : StdOk s) (z e : Bool) (l : List Anr) (hl : l.length ≤ 1000) (hb : ∀ c, c < l.length → in64 (l.getD c na).t ∧ in64 (l.getD c na).g) : ACall Try.prog 49 [aStd f s, aAns z e l] [] (fun r h => r = .bool (rightL s l) ∧ h = []) := by
  have n4 : s.sg.length ≤ 4 := hs.n4
  have hsn : s.n = s.sg.length := rfl
  have c12 : s.rg.length ≤ 12 := hs.c12
  (refine fcall_of mixed Try.func49 rfl (by decide) (hs := { ord := [(7, [(0, []), (1, []), (2, []), (3, []), (4, [2]), (5, []), (6, [])])] }) ?k (ac := ?ac) ?c (rs := ?rs) ?r ?l ?H; (case k => kernel_rfl); (case c => (conv => (lhs; cbv))); (case r => (conv => (lhs; cbv))); (case l => exact Nat.le_of_ble_eq_true rfl))
  (repeat' ((try (conv => whnf)); first | (with_reducible first | refine FCond.tA ?_ | refine FCond.fA ?_) | ((with_reducible refine FCond.i (fun hq => ?_) (fun hq => ?_)) <;> (try simp only [zA, zE, zD, zJ, zB, zI, Int.not_le, Int.not_lt] at hq)) | (with_reducible first | refine Fits.in64 (by omega) ?_ | refine FIdx.nat (by omega) ?_ | refine FIdx.int (by omega) ?_ | refine FTo.nat (by omega) ?_ | refine FTo.int (by omega) ?_) | ((with_reducible refine Need.mk ?_ ?_); focus exact needA) | (with_reducible refine FApp.grow ?_) | (with_reducible refine FOr.pub ?_)))
  all_goals (try (conv => whnf))
  refine FLoop.of (ACalls.mono _) (X := Nat) (fun i => [(1, aAns z e l), (2, .ptr 0 0), (5, .mpv 1), (10, aAns z e l), (11, AI l.length), (12, AI i)]) (fun i => [.box 3 (cStd f s), .mp 2 (takL l i)]) (fun i => i ≤ l.length ∧ ∀ k, k < i → k < s.C → okAt s l k = true) (fun i => l.length - i) 0 ⟨⟨Nat.zero_le _, below_zero⟩, [0, 1], Cut.A, allA⟩ ?_
  rintro i ⟨hi, hL⟩
  by_cases hlt : i < l.length
  · have hbi := hb i hlt
    unfold in64 at hbi
    by_cases hna : (l.getD i na).t = -1 ∧ (l.getD i na).g = -1
    · have e0 := takL_na (anr_na hna.1 hna.2)
      have hpt := pairT hna
      (repeat' ((try (conv => whnf)); first | (with_reducible first | refine FCond.tA ?_ | refine FCond.fA ?_) | ((with_reducible refine FCond.i (fun hq => ?_) (fun hq => ?_)) <;> (try simp only [zA, zE, zD, zJ, zB, zI, Int.not_le, Int.not_lt] at hq)) | (with_reducible first | refine Fits.in64 (by omega) ?_ | refine FIdx.nat (by omega) ?_ | refine FIdx.int (by omega) ?_ | refine FTo.nat (by omega) ?_ | refine FTo.int (by omega) ?_) | ((with_reducible refine Need.mk ?_ ?_); focus exact needA) | (with_reducible refine FApp.grow ?_) | (with_reducible refine And.intro rfl ?_) | (with_reducible refine FOr.pub ?_)))
      all_goals (try (conv => whnf))
      (exact ⟨⟨(i + 1), ⟨hlt, below_step hL (fun _ => okAt_na (anr_na hna.1 hna.2))⟩, by show _ < _; omega, [0, 1], (by (refine Cut.of (Nat.le_of_ble_eq_true rfl) rfl rfl ?_; repeat (first | exact CutL.done | (refine CutL.turned rfl (by first | exact LnB.rowS | (rw [e0]; exact LnB.mpS) | exact LnB.A) ?_) | (refine CutL.gone (Nat.lt_of_lt_of_le (Nat.lt_succ_self _) (Nat.le_of_ble_eq_true rfl)) ?_)))), allA⟩⟩)
    · have hne := anr_ne hna
      have hpf := pairF hna
      by_cases hf : fresh l i
      · have hidx := tak_fresh hf
        have hno := (aidx_none hidx).2.1
        have hset : (takL l i ++ [([(l.getD i na).g, (l.getD i na).t], AV.int .i64 0)]).set (takL l i).length (((takL l i ++ [([(l.getD i na).g, (l.getD i na).t], AV.int .i64 0)]).getD (takL l i).length default).1, AV.int .i64 (0 + 1)) = takL l i ++ [([(l.getD i na).g, (l.getD i na).t], AV.int .i64 1)] := by
          rw [show (takL l i ++ [([(l.getD i na).g, (l.getD i na).t], AV.int .i64 0)]).getD (takL l i).length default = ([(l.getD i na).g, (l.getD i na).t], AV.int .i64 0) by simp [List.getD]]
          exact tak_put hf (.int .i64 0)
        have hlook : alook (takL l i ++ [(keyT (l.getD i na), .int .i64 1)]) (keyT (l.getD i na)) = some (.int .i64 1) := by
          have := alook_put (takL l i) (keyT (l.getD i na)) (.int .i64 1)
          rwa [(aidx_none hidx).2.2] at this
        have hlook0 : alook (takL l i ++ [(keyT (l.getD i na), .int .i64 0)]) (keyT (l.getD i na)) = some (.int .i64 0) := by
          have := alook_put (takL l i) (keyT (l.getD i na)) (.int .i64 0)
          rwa [(aidx_none hidx).2.2] at this
        have e0 := takL_no hne
        by_cases hic : i < s.C
        · by_cases hg : 0 ≤ (l.getD i na).g ∧ (l.getD i na).g ≤ (s.n : Int) - 1
          · have hcan := can_i f s hs (l.getD i na).g i (l.getD i na).t hg hic
            have hic' : i < s.rg.length := hic
            cases hc : canA s (l.getD i na).g.toNat (l.getD i na).t i
            · rw [hc] at hcan
              (repeat' ((try (conv => whnf)); first | (with_reducible first | refine FCond.tA ?_ | refine FCond.fA ?_) | ((with_reducible refine FCond.i (fun hq => ?_) (fun hq => ?_)) <;> (try simp only [zA, zE, zD, zJ, zB, zI, Int.not_le, Int.not_lt] at hq)) | (with_reducible first | refine Fits.in64 (by omega) ?_ | refine FIdx.nat (by omega) ?_ | refine FIdx.int (by omega) ?_ | refine FTo.nat (by omega) ?_ | refine FTo.int (by omega) ?_) | ((with_reducible refine Need.mk ?_ ?_); focus exact needA) | (with_reducible refine FApp.grow ?_) | (with_reducible refine And.intro rfl ?_) | (with_reducible refine Need.in64 (by omega) ?_) | ((with_reducible refine Need.mk ?_ ?_); focus ((conv => whnf); (with_reducible refine Need.in64 (by omega) ?_); (conv => whnf); (with_reducible refine Need.in64 (by omega) ?_); (conv => whnf); (refine FLook.yes hlook0 ?_); (conv => whnf); exact ⟨rfl⟩)) | (refine FLook.no hno ?_) | (refine FLook.yes hlook ?_) | (refine FLookI.no hidx ?_) | ((refine FIdx.nat (by simp) ?_); simp only [hset]) | (refine FCall.pure (hcan) ⟨Ln.sameB _ rfl, Ln.sameB _ rfl, Ln.sameB _ rfl, True.intro⟩ rfl ?_) | (with_reducible refine FOr.pub ?_)))
              all_goals (try (conv => whnf))
              all_goals ((refine ⟨⟨_, [], [], Cut.nil _, Ln.sameB _ rfl, ?_, rfl⟩⟩); rw [right_at hic (okAt_no hne (.inr (.inl hc)))])
            · rw [hc] at hcan
              (repeat' ((try (conv => whnf)); first | (with_reducible first | refine FCond.tA ?_ | refine FCond.fA ?_) | ((with_reducible refine FCond.i (fun hq => ?_) (fun hq => ?_)) <;> (try simp only [zA, zE, zD, zJ, zB, zI, Int.not_le, Int.not_lt] at hq)) | (with_reducible first | refine Fits.in64 (by omega) ?_ | refine FIdx.nat (by omega) ?_ | refine FIdx.int (by omega) ?_ | refine FTo.nat (by omega) ?_ | refine FTo.int (by omega) ?_) | ((with_reducible refine Need.mk ?_ ?_); focus exact needA) | (with_reducible refine FApp.grow ?_) | (with_reducible refine And.intro rfl ?_) | (with_reducible refine Need.in64 (by omega) ?_) | ((with_reducible refine Need.mk ?_ ?_); focus ((conv => whnf); (with_reducible refine Need.in64 (by omega) ?_); (conv => whnf); (with_reducible refine Need.in64 (by omega) ?_); (conv => whnf); (refine FLook.yes hlook0 ?_); (conv => whnf); exact ⟨rfl⟩)) | (refine FLook.no hno ?_) | (refine FLook.yes hlook ?_) | (refine FLookI.no hidx ?_) | ((refine FIdx.nat (by simp) ?_); simp only [hset]) | (refine FCall.pure (hcan) ⟨Ln.sameB _ rfl, Ln.sameB _ rfl, Ln.sameB _ rfl, True.intro⟩ rfl ?_) | (with_reducible refine FOr.pub ?_)))
              all_goals (try (conv => whnf))
              (exact ⟨⟨(i + 1), ⟨hlt, below_step hL (fun _ => okAt_yes hg hc hf)⟩, by show _ < _; omega, [0, 1], (by (refine Cut.of (Nat.le_of_ble_eq_true rfl) rfl rfl ?_; repeat (first | exact CutL.done | (refine CutL.turned rfl (by first | exact LnB.rowS | (rw [e0]; exact LnB.mpS) | exact LnB.A) ?_) | (refine CutL.gone (Nat.lt_of_lt_of_le (Nat.lt_succ_self _) (Nat.le_of_ble_eq_true rfl)) ?_)))), allA⟩⟩)
          · (repeat' ((try (conv => whnf)); first | (with_reducible first | refine FCond.tA ?_ | refine FCond.fA ?_) | ((with_reducible refine FCond.i (fun hq => ?_) (fun hq => ?_)) <;> (try simp only [zA, zE, zD, zJ, zB, zI, Int.not_le, Int.not_lt] at hq)) | (with_reducible first | refine Fits.in64 (by omega) ?_ | refine FIdx.nat (by omega) ?_ | refine FIdx.int (by omega) ?_ | refine FTo.nat (by omega) ?_ | refine FTo.int (by omega) ?_) | ((with_reducible refine Need.mk ?_ ?_); focus exact needA) | (with_reducible refine FApp.grow ?_) | (with_reducible refine And.intro rfl ?_) | (with_reducible refine Need.in64 (by omega) ?_) | ((with_reducible refine Need.mk ?_ ?_); focus ((conv => whnf); (with_reducible refine Need.in64 (by omega) ?_); (conv => whnf); (with_reducible refine Need.in64 (by omega) ?_); (conv => whnf); (refine FLook.yes hlook0 ?_); (conv => whnf); exact ⟨rfl⟩)) | (refine FLook.no hno ?_) | (refine FLook.yes hlook ?_) | (refine FLookI.no hidx ?_) | ((refine FIdx.nat (by simp) ?_); simp only [hset]) | (with_reducible refine FOr.pub ?_)))
            all_goals (try (conv => whnf))
            all_goals ((refine ⟨⟨_, [], [], Cut.nil _, Ln.sameB _ rfl, ?_, rfl⟩⟩); rw [right_at hic (okAt_no hne (.inl hg))])
        · have hic' : ¬ i < s.rg.length := hic
          (repeat' ((try (conv => whnf)); first | (with_reducible first | refine FCond.tA ?_ | refine FCond.fA ?_) | ((with_reducible refine FCond.i (fun hq => ?_) (fun hq => ?_)) <;> (try simp only [zA, zE, zD, zJ, zB, zI, Int.not_le, Int.not_lt] at hq)) | (with_reducible first | refine Fits.in64 (by omega) ?_ | refine FIdx.nat (by omega) ?_ | refine FIdx.int (by omega) ?_ | refine FTo.nat (by omega) ?_ | refine FTo.int (by omega) ?_) | ((with_reducible refine Need.mk ?_ ?_); focus exact needA) | (with_reducible refine FApp.grow ?_) | (with_reducible refine And.intro rfl ?_) | (with_reducible refine Need.in64 (by omega) ?_) | ((with_reducible refine Need.mk ?_ ?_); focus ((conv => whnf); (with_reducible refine Need.in64 (by omega) ?_); (conv => whnf); (with_reducible refine Need.in64 (by omega) ?_); (conv => whnf); (refine FLook.yes hlook0 ?_); (conv => whnf); exact ⟨rfl⟩)) | (refine FLook.no hno ?_) | (refine FLook.yes hlook ?_) | (refine FLookI.no hidx ?_) | ((refine FIdx.nat (by simp) ?_); simp only [hset]) | (with_reducible refine FOr.pub ?_)))
          all_goals (try (conv => whnf))
          all_goals ((refine ⟨⟨_, [], [], Cut.nil _, Ln.sameB _ rfl, ?_, rfl⟩⟩); rw [right_len (show l.length ≠ s.rg.length by omega)])
      · obtain ⟨j, hidx, hj, hg0⟩ := tak_dup hne hf
        have hg2 : ((takL l i).getD j default).2 = .int .i64 1 := by rw [hg0]
        have hlook0 : alook (takL l i) (keyT (l.getD i na)) = some (.int .i64 1) := by rw [(aidx_some hidx).2.2.1, hg0]
        have hlook2 : alook ((takL l i).set j (((takL l i).getD j default).1, AV.int .i64 (1 + 1))) (keyT (l.getD i na)) = some (.int .i64 2) := by
          have := alook_put (takL l i) (keyT (l.getD i na)) (.int .i64 2)
          rw [(aidx_some hidx).2.2.2] at this
          rw [hg0]; exact this
        by_cases hic : i < s.C
        · by_cases hg : 0 ≤ (l.getD i na).g ∧ (l.getD i na).g ≤ (s.n : Int) - 1
          · have hcan := can_i f s hs (l.getD i na).g i (l.getD i na).t hg hic
            have hic' : i < s.rg.length := hic
            cases hc : canA s (l.getD i na).g.toNat (l.getD i na).t i
            · rw [hc] at hcan
              (repeat' ((try (conv => whnf)); first | (with_reducible first | refine FCond.tA ?_ | refine FCond.fA ?_) | ((with_reducible refine FCond.i (fun hq => ?_) (fun hq => ?_)) <;> (try simp only [zA, zE, zD, zJ, zB, zI, Int.not_le, Int.not_lt] at hq)) | (with_reducible first | refine Fits.in64 (by omega) ?_ | refine FIdx.nat (by omega) ?_ | refine FIdx.int (by omega) ?_ | refine FTo.nat (by omega) ?_ | refine FTo.int (by omega) ?_) | ((with_reducible refine Need.mk ?_ ?_); focus exact needA) | (with_reducible refine FApp.grow ?_) | (with_reducible refine And.intro rfl ?_) | (with_reducible refine Need.in64 (by omega) ?_) | ((with_reducible refine Need.mk ?_ ?_); focus ((conv => whnf); (with_reducible refine Need.in64 (by omega) ?_); (conv => whnf); (with_reducible refine Need.in64 (by omega) ?_); (conv => whnf); (refine FLook.yes hlook0 ?_); (conv => whnf); exact ⟨rfl⟩)) | (refine FLook.yes hlook0 ?_) | (refine FLook.yes hlook2 ?_) | (refine FLookI.yes hidx hg2 ?_) | (refine FCall.pure (hcan) ⟨Ln.sameB _ rfl, Ln.sameB _ rfl, Ln.sameB _ rfl, True.intro⟩ rfl ?_) | (with_reducible refine FOr.pub ?_)))
              all_goals (try (conv => whnf))
              all_goals ((refine ⟨⟨_, [], [], Cut.nil _, Ln.sameB _ rfl, ?_, rfl⟩⟩); rw [right_at hic (okAt_no hne (.inr (.inl hc)))])
            · rw [hc] at hcan
              (repeat' ((try (conv => whnf)); first | (with_reducible first | refine FCond.tA ?_ | refine FCond.fA ?_) | ((with_reducible refine FCond.i (fun hq => ?_) (fun hq => ?_)) <;> (try simp only [zA, zE, zD, zJ, zB, zI, Int.not_le, Int.not_lt] at hq)) | (with_reducible first | refine Fits.in64 (by omega) ?_ | refine FIdx.nat (by omega) ?_ | refine FIdx.int (by omega) ?_ | refine FTo.nat (by omega) ?_ | refine FTo.int (by omega) ?_) | ((with_reducible refine Need.mk ?_ ?_); focus exact needA) | (with_reducible refine FApp.grow ?_) | (with_reducible refine And.intro rfl ?_) | (with_reducible refine Need.in64 (by omega) ?_) | ((with_reducible refine Need.mk ?_ ?_); focus ((conv => whnf); (with_reducible refine Need.in64 (by omega) ?_); (conv => whnf); (with_reducible refine Need.in64 (by omega) ?_); (conv => whnf); (refine FLook.yes hlook0 ?_); (conv => whnf); exact ⟨rfl⟩)) | (refine FLook.yes hlook0 ?_) | (refine FLook.yes hlook2 ?_) | (refine FLookI.yes hidx hg2 ?_) | (refine FCall.pure (hcan) ⟨Ln.sameB _ rfl, Ln.sameB _ rfl, Ln.sameB _ rfl, True.intro⟩ rfl ?_) | (with_reducible refine FOr.pub ?_)))
              all_goals (try (conv => whnf))
              (refine ⟨⟨_, [], [], Cut.nil _, Ln.sameB _ rfl, ?_, rfl⟩⟩)
              rw [right_at hic (okAt_no hne (.inr (.inr hf)))]
          · (repeat' ((try (conv => whnf)); first | (with_reducible first | refine FCond.tA ?_ | refine FCond.fA ?_) | ((with_reducible refine FCond.i (fun hq => ?_) (fun hq => ?_)) <;> (try simp only [zA, zE, zD, zJ, zB, zI, Int.not_le, Int.not_lt] at hq)) | (with_reducible first | refine Fits.in64 (by omega) ?_ | refine FIdx.nat (by omega) ?_ | refine FIdx.int (by omega) ?_ | refine FTo.nat (by omega) ?_ | refine FTo.int (by omega) ?_) | ((with_reducible refine Need.mk ?_ ?_); focus exact needA) | (with_reducible refine FApp.grow ?_) | (with_reducible refine And.intro rfl ?_) | (with_reducible refine Need.in64 (by omega) ?_) | ((with_reducible refine Need.mk ?_ ?_); focus ((conv => whnf); (with_reducible refine Need.in64 (by omega) ?_); (conv => whnf); (with_reducible refine Need.in64 (by omega) ?_); (conv => whnf); (refine FLook.yes hlook0 ?_); (conv => whnf); exact ⟨rfl⟩)) | (refine FLook.yes hlook0 ?_) | (refine FLook.yes hlook2 ?_) | (refine FLookI.yes hidx hg2 ?_) | (with_reducible refine FOr.pub ?_)))
            all_goals (try (conv => whnf))
            all_goals ((refine ⟨⟨_, [], [], Cut.nil _, Ln.sameB _ rfl, ?_, rfl⟩⟩); rw [right_at hic (okAt_no hne (.inl hg))])
        · have hic' : ¬ i < s.rg.length := hic
          (repeat' ((try (conv => whnf)); first | (with_reducible first | refine FCond.tA ?_ | refine FCond.fA ?_) | ((with_reducible refine FCond.i (fun hq => ?_) (fun hq => ?_)) <;> (try simp only [zA, zE, zD, zJ, zB, zI, Int.not_le, Int.not_lt] at hq)) | (with_reducible first | refine Fits.in64 (by omega) ?_ | refine FIdx.nat (by omega) ?_ | refine FIdx.int (by omega) ?_ | refine FTo.nat (by omega) ?_ | refine FTo.int (by omega) ?_) | ((with_reducible refine Need.mk ?_ ?_); focus exact needA) | (with_reducible refine FApp.grow ?_) | (with_reducible refine And.intro rfl ?_) | (with_reducible refine Need.in64 (by omega) ?_) | ((with_reducible refine Need.mk ?_ ?_); focus ((conv => whnf); (with_reducible refine Need.in64 (by omega) ?_); (conv => whnf); (with_reducible refine Need.in64 (by omega) ?_); (conv => whnf); (refine FLook.yes hlook0 ?_); (conv => whnf); exact ⟨rfl⟩)) | (refine FLook.yes hlook0 ?_) | (refine FLook.yes hlook2 ?_) | (refine FLookI.yes hidx hg2 ?_) | (with_reducible refine FOr.pub ?_)))
          all_goals (try (conv => whnf))
          all_goals ((refine ⟨⟨_, [], [], Cut.nil _, Ln.sameB _ rfl, ?_, rfl⟩⟩); rw [right_len (show l.length ≠ s.rg.length by omega)])
  · obtain rfl : i = l.length := by omega
    (repeat' ((try (conv => whnf)); first | (with_reducible first | refine FCond.tA ?_ | refine FCond.fA ?_) | ((with_reducible refine FCond.i (fun hq => ?_) (fun hq => ?_)) <;> (try simp only [zA, zE, zD, zJ, zB, zI, Int.not_le, Int.not_lt] at hq)) | (with_reducible first | refine Fits.in64 (by omega) ?_ | refine FIdx.nat (by omega) ?_ | refine FIdx.int (by omega) ?_ | refine FTo.nat (by omega) ?_ | refine FTo.int (by omega) ?_) | ((with_reducible refine Need.mk ?_ ?_); focus exact needA) | (with_reducible refine FApp.grow ?_) | (with_reducible refine FOr.pub ?_)))
    all_goals (try (conv => whnf))
    (refine ⟨⟨_, [], [], Cut.nil _, Ln.sameB _ rfl, ?_, rfl⟩⟩)
    refine bool_eq ?_
    by_cases h : l.length = s.C
    · rw [right_yes h (fun k hk => hL k (by omega) hk)]
      exact decide_eq_true (by show (l.length : Int) = (s.C : Int); omega)
    · rw [right_len h]
      exact decide_eq_false (by show ¬ (l.length : Int) = (s.C : Int); omega)
end Go.Proofs.Ytnghcfmloljagaa
