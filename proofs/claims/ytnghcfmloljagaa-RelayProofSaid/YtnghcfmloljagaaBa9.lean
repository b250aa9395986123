/- Relay: Waits of both; what is far too large; small functions of the laws. / Relay: a call finds a spot, if need be by moving others: what is kept on the way / Relay: the program's place. / Relay: the program's open, and Most. / Relay: the greatest number of calls that can be answered / Relay: the emergencies alone -/
import Derived.Test.YtnghcfmloljagaaBa8
set_option linter.unusedSimpArgs false
set_option linter.unusedVariables false
namespace Go.Proofs.Ytnghcfmloljagaa
open Go.RowKit

def waitsE (s : Std) (l : List Anr) : Wt × Int := if s.ok then (if rightL s l then (waitL s l, 0) else (w0, 61)) else (w0, 60)
abbrev waitsV (s : Std) (l : List Anr) : AV := .tup 3 (ofL [AI (waitsE s l).1.u, AI (waitsE s l).1.o, AI (waitsE s l).2])
theorem waits_60 {s : Std} {l : List Anr} (h : s.ok = false) : waitsE s l = (w0, 60) := by unfold waitsE; rw [if_neg (by rw [h]; decide)]
theorem waits_61 {s : Std} {l : List Anr} (h : s.ok = true) (h2 : rightL s l = false) : waitsE s l = (w0, 61) := by unfold waitsE; rw [if_pos h, if_neg (by rw [h2]; decide)]
theorem waits_0 {s : Std} {l : List Anr} (h : s.ok = true) (h2 : rightL s l = true) : waitsE s l = (waitL s l, 0) := by unfold waitsE; rw [if_pos h, if_pos h2]
theorem until_bd {s : Std} (hs : StdOk s) {l : List Anr} (h : Right s l) {c : Nat} (hc : c < s.C) : (s.R c).at_ ≤ untilT s (l.getD c na).t ∧ untilT s (l.getD c na).t ≤ s.times ∧ -1 ≤ (l.getD c na).t ∧ (l.getD c na).t < s.times := by
  have r := hs.rg c hc
  unfold untilT
  rcases h.ok c hc with e | ⟨h1, h2, _⟩
  · rw [e, if_pos (by decide)]
    have : na.t = -1 := rfl
    omega
  · have h3 := can_time hs (by omega) h2
    have h4 := canA_d h2
    rw [if_neg (by omega)]; omega
theorem waitK_bd {s : Std} (hs : StdOk s) {l : List Anr} (h : Right s l) : ∀ k, k ≤ s.C → WBd (waitK s l k) k
  | 0, _ => ⟨by unfold waitK sumW; simp, by unfold waitK sumW; simp⟩
  | k + 1, hk => by
    have ih := waitK_bd hs h k (by omega)
    have b := until_bd hs h (show k < s.C by omega)
    have e : waitK s l (k + 1) = (waitK s l k).add ((s.R k).w (untilT s (l.getD k na).t)) := rfl
    rw [e, ← more_add]
    exact ih.more hs (by omega) b.1 b.2.1
theorem waitK_more {s : Std} {l : List Anr} {k : Nat} : (waitK s l k).more (s.R k) (untilT s (l.getD k na).t) = waitK s l (k + 1) := by rw [more_add]; rfl
theorem more_urg {s : Std} {l : List Anr} {k : Nat} (h : (s.R k).urg = true) : waitK s l (k + 1) = ⟨(waitK s l k).u + (untilT s (l.getD k na).t - (s.R k).at_), (waitK s l k).o⟩ := by
  rw [← waitK_more]; unfold Wt.more; rw [if_pos h]
theorem more_oth {s : Std} {l : List Anr} {k : Nat} (h : (s.R k).urg = false) : waitK s l (k + 1) = ⟨(waitK s l k).u, (waitK s l k).o + (untilT s (l.getD k na).t - (s.R k).at_)⟩ := by
  rw [← waitK_more]; unfold Wt.more; rw [if_neg (by rw [h]; decide)]
set_option maxHeartbeats 4000000
set_option maxRecDepth 100000
theorem waits_ok (f : StF) (s : Std) (hn : NearS s) (z e : Bool) (l : List Anr) (hl : l.length ≤ 1000) (hb : ∀ c, c < l.length → in64 (l.getD c na).t ∧ in64 (l.getD c na).g) : ACall Try.prog 31 [aStd f s, aAns z e l] [] (fun r h => r = waitsV s l ∧ h = []) := by
  have cC := check_ok f s hn
  (refine fcall_of mixed Try.func31 rfl (by decide) (hs := {}) ?k (ac := ?ac) ?c (rs := ?rs) ?r ?l ?H; (case k => kernel_rfl); (case c => (conv => (lhs; cbv))); (case r => (conv => (lhs; cbv))); (case l => exact Nat.le_of_ble_eq_true rfl))
  cases hk : s.ok
  · rw [check_60 hk] at cC
    (repeat' ((try (conv => whnf)); first | (with_reducible first | refine FCond.tA ?_ | refine FCond.fA ?_) | ((with_reducible refine FCond.i (fun hq => ?_) (fun hq => ?_)) <;> (try simp only [zA, zE, zD, zJ, zB, zI, Int.not_le, Int.not_lt] at hq)) | (with_reducible first | refine Fits.in64 (by omega) ?_ | refine FIdx.nat (by omega) ?_ | refine FIdx.int (by omega) ?_ | refine FTo.nat (by omega) ?_ | refine FTo.int (by omega) ?_) | ((with_reducible refine Need.mk ?_ ?_); focus exact needA) | (with_reducible refine FApp.grow ?_) | (refine FCall.pure (cC) ⟨Ln.sameB _ rfl, True.intro⟩ rfl ?_) | (with_reducible refine FOr.pub ?_)))
    all_goals (try (conv => whnf))
    (refine ⟨⟨_, [], [], Cut.nil _, Ln.sameB _ rfl, ?_, rfl⟩⟩)
    unfold waitsV; rw [waits_60 hk]; rfl
  · rw [check_ok' hk] at cC
    have hs := std_d hk
    have cA := are_ok f s hs z e l hl hb
    cases hr : rightL s l
    · rw [hr] at cA
      (repeat' ((try (conv => whnf)); first | (with_reducible first | refine FCond.tA ?_ | refine FCond.fA ?_) | ((with_reducible refine FCond.i (fun hq => ?_) (fun hq => ?_)) <;> (try simp only [zA, zE, zD, zJ, zB, zI, Int.not_le, Int.not_lt] at hq)) | (with_reducible first | refine Fits.in64 (by omega) ?_ | refine FIdx.nat (by omega) ?_ | refine FIdx.int (by omega) ?_ | refine FTo.nat (by omega) ?_ | refine FTo.int (by omega) ?_) | ((with_reducible refine Need.mk ?_ ?_); focus exact needA) | (with_reducible refine FApp.grow ?_) | (refine FCall.pure (cC) ⟨Ln.sameB _ rfl, True.intro⟩ rfl ?_) | (refine FCall.pure (cA) ⟨Ln.sameB _ rfl, Ln.sameB _ rfl, True.intro⟩ rfl ?_) | (with_reducible refine FOr.pub ?_)))
      all_goals (try (conv => whnf))
      (refine ⟨⟨_, [], [], Cut.nil _, Ln.sameB _ rfl, ?_, rfl⟩⟩)
      unfold waitsV; rw [waits_61 hk hr]; rfl
    · rw [hr] at cA
      have hR := right_d.1 hr
      have hlen := hR.len
      (repeat' ((try (conv => whnf)); first | (with_reducible first | refine FCond.tA ?_ | refine FCond.fA ?_) | ((with_reducible refine FCond.i (fun hq => ?_) (fun hq => ?_)) <;> (try simp only [zA, zE, zD, zJ, zB, zI, Int.not_le, Int.not_lt] at hq)) | (with_reducible first | refine Fits.in64 (by omega) ?_ | refine FIdx.nat (by omega) ?_ | refine FIdx.int (by omega) ?_ | refine FTo.nat (by omega) ?_ | refine FTo.int (by omega) ?_) | ((with_reducible refine Need.mk ?_ ?_); focus exact needA) | (with_reducible refine FApp.grow ?_) | (refine FCall.pure (cC) ⟨Ln.sameB _ rfl, True.intro⟩ rfl ?_) | (refine FCall.pure (cA) ⟨Ln.sameB _ rfl, Ln.sameB _ rfl, True.intro⟩ rfl ?_) | (with_reducible refine FOr.pub ?_)))
      all_goals (try (conv => whnf))
      refine FLoop.of (ACalls.mono _) (X := Nat) (fun i => [(8, .ptr 1 0), (9, .ptr 2 0), (24, aAns z e l), (25, AI l.length), (26, AI i)]) (fun i => [.dead, .box 3 (cStd f s), .box 2 (ofL [AI (waitK s l i).u, AI (waitK s l i).o])]) (fun i => i ≤ l.length) (fun i => l.length - i) 0 ⟨Nat.zero_le _, [0, 1, 2], Cut.A, allA⟩ ?_
      intro i hi
      have t8 := hs.t8
      have tt := hs.t
      have c12 := hs.c12
      by_cases hlt : i < l.length
      · have hic : i < s.C := by omega
        have hic' : i < s.rg.length := hic
        have b := until_bd hs hR hic
        have bd := waitK_bd hs hR i (by omega)
        have b1 := bd.u
        have b2 := bd.o
        have rr := hs.rg i hic
        have cM := more_ok (waitK s l i) (s.R i) (untilT s (l.getD i na).t) (by omega) (by omega) (by omega)
        rw [waitK_more] at cM
        by_cases hneg : (l.getD i na).t < 0
        · rw [show untilT s (l.getD i na).t = s.times by unfold untilT; rw [if_pos hneg]] at cM
          (repeat' ((try (conv => whnf)); first | (with_reducible first | refine FCond.tA ?_ | refine FCond.fA ?_) | ((with_reducible refine FCond.i (fun hq => ?_) (fun hq => ?_)) <;> (try simp only [zA, zE, zD, zJ, zB, zI, Int.not_le, Int.not_lt] at hq)) | (with_reducible first | refine Fits.in64 (by omega) ?_ | refine FIdx.nat (by omega) ?_ | refine FIdx.int (by omega) ?_ | refine FTo.nat (by omega) ?_ | refine FTo.int (by omega) ?_) | ((with_reducible refine Need.mk ?_ ?_); focus exact needA) | (with_reducible refine FApp.grow ?_) | (refine FCall.pure (cM) ⟨Ln.sameB _ rfl, Ln.sameB _ rfl, Ln.sameB _ rfl, True.intro⟩ rfl ?_) | (with_reducible refine FOr.pub ?_)))
          all_goals (try (conv => whnf))
          (exact ⟨⟨(i + 1), hlt, by show _ < _; omega, [0, 1, 2], Cut.A, allA⟩⟩)
        · rw [show untilT s (l.getD i na).t = (l.getD i na).t by unfold untilT; rw [if_neg hneg]] at cM
          (repeat' ((try (conv => whnf)); first | (with_reducible first | refine FCond.tA ?_ | refine FCond.fA ?_) | ((with_reducible refine FCond.i (fun hq => ?_) (fun hq => ?_)) <;> (try simp only [zA, zE, zD, zJ, zB, zI, Int.not_le, Int.not_lt] at hq)) | (with_reducible first | refine Fits.in64 (by omega) ?_ | refine FIdx.nat (by omega) ?_ | refine FIdx.int (by omega) ?_ | refine FTo.nat (by omega) ?_ | refine FTo.int (by omega) ?_) | ((with_reducible refine Need.mk ?_ ?_); focus exact needA) | (with_reducible refine FApp.grow ?_) | (refine FCall.pure (cM) ⟨Ln.sameB _ rfl, Ln.sameB _ rfl, Ln.sameB _ rfl, True.intro⟩ rfl ?_) | (with_reducible refine FOr.pub ?_)))
          all_goals (try (conv => whnf))
          (exact ⟨⟨(i + 1), hlt, by show _ < _; omega, [0, 1, 2], Cut.A, allA⟩⟩)
      · obtain rfl : i = l.length := by omega
        (repeat' ((try (conv => whnf)); first | (with_reducible first | refine FCond.tA ?_ | refine FCond.fA ?_) | ((with_reducible refine FCond.i (fun hq => ?_) (fun hq => ?_)) <;> (try simp only [zA, zE, zD, zJ, zB, zI, Int.not_le, Int.not_lt] at hq)) | (with_reducible first | refine Fits.in64 (by omega) ?_ | refine FIdx.nat (by omega) ?_ | refine FIdx.int (by omega) ?_ | refine FTo.nat (by omega) ?_ | refine FTo.int (by omega) ?_) | ((with_reducible refine Need.mk ?_ ?_); focus exact needA) | (with_reducible refine FApp.grow ?_) | (with_reducible refine FOr.pub ?_)))
        all_goals (try (conv => whnf))
        (refine ⟨⟨_, [], [], Cut.nil _, Ln.sameB _ rfl, ?_, rfl⟩⟩)
        unfold waitsV
        rw [waits_0 hk hr]
        unfold waitL
        rw [hlen]; rfl
theorem checkAnswers_ok (f : StF) (s : Std) (hn : NearS s) (z e : Bool) (l : List Anr) (hl : l.length ≤ 1000) : ACall Try.prog 52 [aStd f s, aAns z e l] [] (fun r h => r = AI (checkA s l) ∧ h = []) := by
  have cC := refCheck_ok f s hn
  (refine fcall_of mixed Try.func52 rfl (by decide) (hs := {}) ?k (ac := ?ac) ?c (rs := ?rs) ?r ?l ?H; (case k => kernel_rfl); (case c => (conv => (lhs; cbv))); (case r => (conv => (lhs; cbv))); (case l => exact Nat.le_of_ble_eq_true rfl))
  cases hk : s.ok
  · rw [check_60 hk] at cC
    (repeat' ((try (conv => whnf)); first | (with_reducible first | refine FCond.tA ?_ | refine FCond.fA ?_) | ((with_reducible refine FCond.i (fun hq => ?_) (fun hq => ?_)) <;> (try simp only [zA, zE, zD, zJ, zB, zI, Int.not_le, Int.not_lt] at hq)) | (with_reducible first | refine Fits.in64 (by omega) ?_ | refine FIdx.nat (by omega) ?_ | refine FIdx.int (by omega) ?_ | refine FTo.nat (by omega) ?_ | refine FTo.int (by omega) ?_) | ((with_reducible refine Need.mk ?_ ?_); focus exact needA) | (with_reducible refine FApp.grow ?_) | (refine FCall.pure (cC) ⟨Ln.sameB _ rfl, True.intro⟩ rfl ?_) | (with_reducible refine FOr.pub ?_)))
    all_goals (try (conv => whnf))
    (refine ⟨⟨_, [], [], Cut.nil _, Ln.sameB _ rfl, ?_, rfl⟩⟩)
    unfold checkA; rw [hk]; rfl
  · rw [check_ok' hk] at cC
    (repeat' ((try (conv => whnf)); first | (with_reducible first | refine FCond.tA ?_ | refine FCond.fA ?_) | ((with_reducible refine FCond.i (fun hq => ?_) (fun hq => ?_)) <;> (try simp only [zA, zE, zD, zJ, zB, zI, Int.not_le, Int.not_lt] at hq)) | (with_reducible first | refine Fits.in64 (by omega) ?_ | refine FIdx.nat (by omega) ?_ | refine FIdx.int (by omega) ?_ | refine FTo.nat (by omega) ?_ | refine FTo.int (by omega) ?_) | ((with_reducible refine Need.mk ?_ ?_); focus exact needA) | (with_reducible refine FApp.grow ?_) | (refine FCall.pure (cC) ⟨Ln.sameB _ rfl, True.intro⟩ rfl ?_) | (refine FCall.pure ((areRight_ok f s (std_d hk) z e l hl)) ⟨Ln.sameB _ rfl, Ln.sameB _ rfl, True.intro⟩ rfl ?_) | (with_reducible refine FOr.pub ?_)))
    all_goals (try (conv => whnf))
    all_goals
      (refine ⟨⟨_, [], [], Cut.nil _, Ln.sameB _ rfl, ?_, rfl⟩⟩)
      unfold checkA; rw [hk, hq]; rfl
theorem refWaits_ok (f : StF) (s : Std) (hn : NearS s) (z e : Bool) (l : List Anr) (hl : l.length ≤ 1000) : ACall Try.prog 33 [aStd f s, aAns z e l] [] (fun r h => r = waitsV s l ∧ h = []) := by
  have cC := checkAnswers_ok f s hn z e l hl
  (refine fcall_of mixed Try.func33 rfl (by decide) (hs := {}) ?k (ac := ?ac) ?c (rs := ?rs) ?r ?l ?H; (case k => kernel_rfl); (case c => (conv => (lhs; cbv))); (case r => (conv => (lhs; cbv))); (case l => exact Nat.le_of_ble_eq_true rfl))
  cases hk : s.ok
  · rw [show checkA s l = 60 by unfold checkA; rw [hk]; rfl] at cC
    (repeat' ((try (conv => whnf)); first | (with_reducible first | refine FCond.tA ?_ | refine FCond.fA ?_) | ((with_reducible refine FCond.i (fun hq => ?_) (fun hq => ?_)) <;> (try simp only [zA, zE, zD, zJ, zB, zI, Int.not_le, Int.not_lt] at hq)) | (with_reducible first | refine Fits.in64 (by omega) ?_ | refine FIdx.nat (by omega) ?_ | refine FIdx.int (by omega) ?_ | refine FTo.nat (by omega) ?_ | refine FTo.int (by omega) ?_) | ((with_reducible refine Need.mk ?_ ?_); focus exact needA) | (with_reducible refine FApp.grow ?_) | (refine FCall.pure (cC) ⟨Ln.sameB _ rfl, Ln.sameB _ rfl, True.intro⟩ rfl ?_) | (with_reducible refine FOr.pub ?_)))
    all_goals (try (conv => whnf))
    (refine ⟨⟨_, [], [], Cut.nil _, Ln.sameB _ rfl, ?_, rfl⟩⟩)
    unfold waitsV; rw [waits_60 hk]; rfl
  · have hs := std_d hk
    cases hr : rightL s l
    · rw [show checkA s l = 61 by unfold checkA; rw [hk, hr]; rfl] at cC
      (repeat' ((try (conv => whnf)); first | (with_reducible first | refine FCond.tA ?_ | refine FCond.fA ?_) | ((with_reducible refine FCond.i (fun hq => ?_) (fun hq => ?_)) <;> (try simp only [zA, zE, zD, zJ, zB, zI, Int.not_le, Int.not_lt] at hq)) | (with_reducible first | refine Fits.in64 (by omega) ?_ | refine FIdx.nat (by omega) ?_ | refine FIdx.int (by omega) ?_ | refine FTo.nat (by omega) ?_ | refine FTo.int (by omega) ?_) | ((with_reducible refine Need.mk ?_ ?_); focus exact needA) | (with_reducible refine FApp.grow ?_) | (refine FCall.pure (cC) ⟨Ln.sameB _ rfl, Ln.sameB _ rfl, True.intro⟩ rfl ?_) | (with_reducible refine FOr.pub ?_)))
      all_goals (try (conv => whnf))
      (refine ⟨⟨_, [], [], Cut.nil _, Ln.sameB _ rfl, ?_, rfl⟩⟩)
      unfold waitsV; rw [waits_61 hk hr]; rfl
    · rw [show checkA s l = 0 by unfold checkA; rw [hk, hr]; rfl] at cC
      have hR := right_d.1 hr
      have hlen := hR.len
      (repeat' ((try (conv => whnf)); first | (with_reducible first | refine FCond.tA ?_ | refine FCond.fA ?_) | ((with_reducible refine FCond.i (fun hq => ?_) (fun hq => ?_)) <;> (try simp only [zA, zE, zD, zJ, zB, zI, Int.not_le, Int.not_lt] at hq)) | (with_reducible first | refine Fits.in64 (by omega) ?_ | refine FIdx.nat (by omega) ?_ | refine FIdx.int (by omega) ?_ | refine FTo.nat (by omega) ?_ | refine FTo.int (by omega) ?_) | ((with_reducible refine Need.mk ?_ ?_); focus exact needA) | (with_reducible refine FApp.grow ?_) | (refine FCall.pure (cC) ⟨Ln.sameB _ rfl, Ln.sameB _ rfl, True.intro⟩ rfl ?_) | (with_reducible refine FOr.pub ?_)))
      all_goals (try (conv => whnf))
      refine FLoop.of (ACalls.mono _) (X := Nat) (fun i => [(1, aAns z e l), (2, .ptr 0 0), (4, AI (waitK s l i).u), (5, AI (waitK s l i).o), (8, AI i)]) (fun i => [.box 3 (cStd f s)]) (fun i => i ≤ l.length) (fun i => l.length - i) 0 ⟨Nat.zero_le _, [0], Cut.A, allA⟩ ?_
      intro i hi
      have t8 := hs.t8
      have tt := hs.t
      have c12 := hs.c12
      by_cases hlt : i < l.length
      · have hic : i < s.C := by omega
        have hic' : i < s.rg.length := hic
        have b := until_bd hs hR hic
        have bd := waitK_bd hs hR i (by omega)
        have b1 := bd.u
        have b2 := bd.o
        have rr := hs.rg i hic
        have cW := wait_ok f s hs i (l.getD i na).t (by omega) hic
        cases hu : (s.R i).urg
        · have hst := more_oth (l := l) hu
          unfold Std.R at hu
          (repeat' ((try (conv => whnf)); first | (with_reducible first | refine FCond.tA ?_ | refine FCond.fA ?_) | ((with_reducible refine FCond.i (fun hq => ?_) (fun hq => ?_)) <;> (try simp only [zA, zE, zD, zJ, zB, zI, Int.not_le, Int.not_lt] at hq)) | (with_reducible first | refine Fits.in64 (by omega) ?_ | refine FIdx.nat (by omega) ?_ | refine FIdx.int (by omega) ?_ | refine FTo.nat (by omega) ?_ | refine FTo.int (by omega) ?_) | ((with_reducible refine Need.mk ?_ ?_); focus exact needA) | (with_reducible refine FApp.grow ?_) | (refine FCall.pure (cW) ⟨Ln.sameB _ rfl, Ln.sameB _ rfl, Ln.sameB _ rfl, True.intro⟩ rfl ?_) | (with_reducible refine FOr.pub ?_)))
          all_goals (try (conv => whnf))
          exact ⟨⟨i + 1, hlt, by omega, [0], Cut.A, ⟨Ln.A, Ln.A, Ln.int (by rw [hst]), Ln.int (by rw [hst]), Ln.A, True.intro⟩⟩⟩
        · have hst := more_urg (l := l) hu
          unfold Std.R at hu
          (repeat' ((try (conv => whnf)); first | (with_reducible first | refine FCond.tA ?_ | refine FCond.fA ?_) | ((with_reducible refine FCond.i (fun hq => ?_) (fun hq => ?_)) <;> (try simp only [zA, zE, zD, zJ, zB, zI, Int.not_le, Int.not_lt] at hq)) | (with_reducible first | refine Fits.in64 (by omega) ?_ | refine FIdx.nat (by omega) ?_ | refine FIdx.int (by omega) ?_ | refine FTo.nat (by omega) ?_ | refine FTo.int (by omega) ?_) | ((with_reducible refine Need.mk ?_ ?_); focus exact needA) | (with_reducible refine FApp.grow ?_) | (refine FCall.pure (cW) ⟨Ln.sameB _ rfl, Ln.sameB _ rfl, Ln.sameB _ rfl, True.intro⟩ rfl ?_) | (with_reducible refine FOr.pub ?_)))
          all_goals (try (conv => whnf))
          exact ⟨⟨i + 1, hlt, by omega, [0], Cut.A, ⟨Ln.A, Ln.A, Ln.int (by rw [hst]), Ln.int (by rw [hst]), Ln.A, True.intro⟩⟩⟩
      · obtain rfl : i = l.length := by omega
        (repeat' ((try (conv => whnf)); first | (with_reducible first | refine FCond.tA ?_ | refine FCond.fA ?_) | ((with_reducible refine FCond.i (fun hq => ?_) (fun hq => ?_)) <;> (try simp only [zA, zE, zD, zJ, zB, zI, Int.not_le, Int.not_lt] at hq)) | (with_reducible first | refine Fits.in64 (by omega) ?_ | refine FIdx.nat (by omega) ?_ | refine FIdx.int (by omega) ?_ | refine FTo.nat (by omega) ?_ | refine FTo.int (by omega) ?_) | ((with_reducible refine Need.mk ?_ ?_); focus exact needA) | (with_reducible refine FApp.grow ?_) | (with_reducible refine FOr.pub ?_)))
        all_goals (try (conv => whnf))
        (refine ⟨⟨_, [], [], Cut.nil _, Ln.sameB _ rfl, ?_, rfl⟩⟩)
        unfold waitsV
        rw [waits_0 hk hr]
        unfold waitL
        rw [hlen]; rfl
/-- Larger than a statement looks at. -/
def farS (s : Std) : Bool := decide (20 < s.n) || decide (30 < s.C) || (s.ok && (decide (3 < s.n) || decide (6 < s.times) || decide (6 < s.C)))
theorem far_no {s : Std} (h : farS s = false) : (s.n ≤ 20 ∧ s.C ≤ 30) ∧ (s.ok = true → s.n ≤ 3 ∧ s.times ≤ 6 ∧ s.C ≤ 6) := by
  unfold farS at h
  simp only [Bool.or_eq_false_iff, decide_eq_false_iff_not, Bool.and_eq_false_iff] at h
  refine ⟨by omega, fun hk => ?_⟩
  rcases h.2 with h2 | h2
  · rw [hk] at h2; cases h2
  · omega
theorem near_of {s : Std} (h : farS s = false) : NearS s := by
  have := (far_no h).1
  exact ⟨by show s.n ≤ 1000; omega, by show s.C ≤ 1000; omega⟩
theorem far_ok (f : StF) (s : Std) (hn2 : s.sg.length ≤ 9223372036854775807) (hc2 : s.rg.length ≤ 9223372036854775807) : ACall Try.prog 26 [aStd f s] [] (fun r h => r = .bool (farS s) ∧ h = []) := by
  have hsn : s.n = s.sg.length := rfl
  have hsc : s.C = s.rg.length := rfl
  (refine fcall_of mixed Try.func26 rfl (by decide) (hs := {}) ?k (ac := ?ac) ?c (rs := ?rs) ?r ?l ?H; (case k => kernel_rfl); (case c => (conv => (lhs; cbv))); (case r => (conv => (lhs; cbv))); (case l => exact Nat.le_of_ble_eq_true rfl))
  by_cases h : s.sg.length ≤ 20 ∧ s.rg.length ≤ 30
  · have cC := refCheck_ok f s ⟨by omega, by omega⟩
    cases hk : s.ok
    · rw [check_60 hk] at cC
      (repeat' ((try (conv => whnf)); first | (with_reducible first | refine FCond.tA ?_ | refine FCond.fA ?_) | ((with_reducible refine FCond.i (fun hq => ?_) (fun hq => ?_)) <;> (try simp only [zA, zE, zD, zJ, zB, zI, Int.not_le, Int.not_lt] at hq)) | (with_reducible first | refine Fits.in64 (by omega) ?_ | refine FIdx.nat (by omega) ?_ | refine FIdx.int (by omega) ?_ | refine FTo.nat (by omega) ?_ | refine FTo.int (by omega) ?_) | ((with_reducible refine Need.mk ?_ ?_); focus exact needA) | (with_reducible refine FApp.grow ?_) | (refine FCall.pure (cC) ⟨Ln.sameB _ rfl, True.intro⟩ rfl ?_) | (with_reducible refine FOr.pub ?_)))
      all_goals (try (conv => whnf))
      all_goals (refine ⟨⟨_, [], [], Cut.nil _, Ln.sameB _ rfl, ?_, rfl⟩⟩)
      all_goals (refine bool_eq ?_; unfold farS; rw [hk, decide_eq_false (show ¬ 20 < s.n by omega), decide_eq_false (show ¬ 30 < s.C by omega)]; rfl)
    · rw [check_ok' hk] at cC
      (repeat' ((try (conv => whnf)); first | (with_reducible first | refine FCond.tA ?_ | refine FCond.fA ?_) | ((with_reducible refine FCond.i (fun hq => ?_) (fun hq => ?_)) <;> (try simp only [zA, zE, zD, zJ, zB, zI, Int.not_le, Int.not_lt] at hq)) | (with_reducible first | refine Fits.in64 (by omega) ?_ | refine FIdx.nat (by omega) ?_ | refine FIdx.int (by omega) ?_ | refine FTo.nat (by omega) ?_ | refine FTo.int (by omega) ?_) | ((with_reducible refine Need.mk ?_ ?_); focus exact needA) | (with_reducible refine FApp.grow ?_) | (refine FCall.pure (cC) ⟨Ln.sameB _ rfl, True.intro⟩ rfl ?_) | (with_reducible refine FOr.pub ?_)))
      all_goals (try (conv => whnf))
      all_goals (refine ⟨⟨_, [], [], Cut.nil _, Ln.sameB _ rfl, ?_, rfl⟩⟩)
      all_goals (refine bool_eq ?_; unfold farS; rw [hk, decide_eq_false (show ¬ 20 < s.n by omega), decide_eq_false (show ¬ 30 < s.C by omega), Bool.eq_iff_iff]; simp only [Bool.false_or, Bool.true_and, Bool.or_eq_true, decide_eq_true_eq, true_iff, Bool.false_eq_true, false_iff]; omega)
  · (repeat' ((try (conv => whnf)); first | (with_reducible first | refine FCond.tA ?_ | refine FCond.fA ?_) | ((with_reducible refine FCond.i (fun hq => ?_) (fun hq => ?_)) <;> (try simp only [zA, zE, zD, zJ, zB, zI, Int.not_le, Int.not_lt] at hq)) | (with_reducible first | refine Fits.in64 (by omega) ?_ | refine FIdx.nat (by omega) ?_ | refine FIdx.int (by omega) ?_ | refine FTo.nat (by omega) ?_ | refine FTo.int (by omega) ?_) | ((with_reducible refine Need.mk ?_ ?_); focus exact needA) | (with_reducible refine FApp.grow ?_) | (with_reducible refine FOr.pub ?_)))
    all_goals (try (conv => whnf))
    all_goals (refine ⟨⟨_, [], [], Cut.nil _, Ln.sameB _ rfl, ?_, rfl⟩⟩)
    all_goals (refine bool_eq ?_; unfold farS; rw [Bool.eq_iff_iff]; simp only [Bool.or_eq_true, decide_eq_true_eq, true_iff]; omega)
def validS (s : Std) : Bool := !farS s && s.ok
theorem valid_ok (f : StF) (s : Std) (hn2 : s.sg.length ≤ 9223372036854775807) (hc2 : s.rg.length ≤ 9223372036854775807) : ACall Try.prog 13 [aStd f s] [] (fun r h => r = .bool (validS s) ∧ h = []) := by
  have cF := far_ok f s hn2 hc2
  (refine fcall_of mixed Try.func13 rfl (by decide) (hs := {}) ?k (ac := ?ac) ?c (rs := ?rs) ?r ?l ?H; (case k => kernel_rfl); (case c => (conv => (lhs; cbv))); (case r => (conv => (lhs; cbv))); (case l => exact Nat.le_of_ble_eq_true rfl))
  cases hf : farS s
  · rw [hf] at cF
    have cC := refCheck_ok f s (near_of hf)
    cases hk : s.ok
    · rw [check_60 hk] at cC
      (repeat' ((try (conv => whnf)); first | (with_reducible first | refine FCond.tA ?_ | refine FCond.fA ?_) | ((with_reducible refine FCond.i (fun hq => ?_) (fun hq => ?_)) <;> (try simp only [zA, zE, zD, zJ, zB, zI, Int.not_le, Int.not_lt] at hq)) | (with_reducible first | refine Fits.in64 (by omega) ?_ | refine FIdx.nat (by omega) ?_ | refine FIdx.int (by omega) ?_ | refine FTo.nat (by omega) ?_ | refine FTo.int (by omega) ?_) | ((with_reducible refine Need.mk ?_ ?_); focus exact needA) | (with_reducible refine FApp.grow ?_) | (refine FCall.pure (cF) ⟨Ln.sameB _ rfl, True.intro⟩ rfl ?_) | (refine FCall.pure (cC) ⟨Ln.sameB _ rfl, True.intro⟩ rfl ?_) | (with_reducible refine FOr.pub ?_)))
      all_goals (try (conv => whnf))
      all_goals (refine ⟨⟨_, [], [], Cut.nil _, Ln.sameB _ rfl, ?_, rfl⟩⟩)
      all_goals (unfold validS; rw [hf, hk]; rfl)
    · rw [check_ok' hk] at cC
      (repeat' ((try (conv => whnf)); first | (with_reducible first | refine FCond.tA ?_ | refine FCond.fA ?_) | ((with_reducible refine FCond.i (fun hq => ?_) (fun hq => ?_)) <;> (try simp only [zA, zE, zD, zJ, zB, zI, Int.not_le, Int.not_lt] at hq)) | (with_reducible first | refine Fits.in64 (by omega) ?_ | refine FIdx.nat (by omega) ?_ | refine FIdx.int (by omega) ?_ | refine FTo.nat (by omega) ?_ | refine FTo.int (by omega) ?_) | ((with_reducible refine Need.mk ?_ ?_); focus exact needA) | (with_reducible refine FApp.grow ?_) | (refine FCall.pure (cF) ⟨Ln.sameB _ rfl, True.intro⟩ rfl ?_) | (refine FCall.pure (cC) ⟨Ln.sameB _ rfl, True.intro⟩ rfl ?_) | (with_reducible refine FOr.pub ?_)))
      all_goals (try (conv => whnf))
      all_goals (refine ⟨⟨_, [], [], Cut.nil _, Ln.sameB _ rfl, ?_, rfl⟩⟩)
      all_goals (unfold validS; rw [hf, hk]; rfl)
  · rw [hf] at cF
    (repeat' ((try (conv => whnf)); first | (with_reducible first | refine FCond.tA ?_ | refine FCond.fA ?_) | ((with_reducible refine FCond.i (fun hq => ?_) (fun hq => ?_)) <;> (try simp only [zA, zE, zD, zJ, zB, zI, Int.not_le, Int.not_lt] at hq)) | (with_reducible first | refine Fits.in64 (by omega) ?_ | refine FIdx.nat (by omega) ?_ | refine FIdx.int (by omega) ?_ | refine FTo.nat (by omega) ?_ | refine FTo.int (by omega) ?_) | ((with_reducible refine Need.mk ?_ ?_); focus exact needA) | (with_reducible refine FApp.grow ?_) | (refine FCall.pure (cF) ⟨Ln.sameB _ rfl, True.intro⟩ rfl ?_) | (with_reducible refine FOr.pub ?_)))
    all_goals (try (conv => whnf))
    all_goals (refine ⟨⟨_, [], [], Cut.nil _, Ln.sameB _ rfl, ?_, rfl⟩⟩)
    all_goals (unfold validS; rw [hf]; rfl)
end Go.Proofs.Ytnghcfmloljagaa

namespace Go.Proofs.Ytnghcfmloljagaa
open Go.RowKit

/-- The call that a map says of a spot. -/
def lk (L : List (List Int × AV)) (p : Nat) : Option Nat := match alook L [(p : Int)] with
  | some (.int .i64 c) => some c.toNat
  | _ => none
theorem alook_aput (L : List (List Int × AV)) (k : List Int) (v : AV) (k' : List Int) : alook (aput L k v) k' = if k' = k then some v else alook L k' := by
  by_cases h : k' = k
  · rw [if_pos h, h, alook_put]
  · rw [if_neg h]
    induction L with
    | nil =>
      unfold alook aput
      simp [show ¬ k = k' from fun e => h e.symm]
    | cons q L ih =>
      unfold aput
      by_cases hq : q.1 = k
      · rw [if_pos hq]
        unfold alook
        simp only [List.find?_cons]
        rw [show (k == k') = false by simpa using fun e => h e.symm, show (q.1 == k') = false by rw [hq]; simpa using fun e => h e.symm]
      · rw [if_neg hq]
        unfold alook at ih ⊢
        simp only [List.find?_cons]
        cases q.1 == k'
        · exact ih
        · rfl
/-- A spot's answers as the map has them are numbers of calls. -/
def Nums (L : List (List Int × AV)) : Prop := ∀ k v, alook L k = some v → ∃ c : Nat, v = .int .i64 (c : Int)
theorem lk_some {L : List (List Int × AV)} (h : Nums L) {p c : Nat} : lk L p = some c ↔ alook L [(p : Int)] = some (.int .i64 (c : Int)) := by
  unfold lk
  cases ha : alook L [(p : Int)] with
  | none => simp
  | some v =>
    obtain ⟨c', rfl⟩ := h _ _ ha
    simp
    omega
theorem lk_none {L : List (List Int × AV)} (h : Nums L) {p : Nat} : lk L p = none ↔ alook L [(p : Int)] = none := by
  unfold lk
  cases ha : alook L [(p : Int)] with
  | none => simp
  | some v =>
    obtain ⟨c', rfl⟩ := h _ _ ha
    simp
theorem nums_nil : Nums [] := fun k v h => by simp [alook] at h
theorem nums_put {L : List (List Int × AV)} (h : Nums L) (k : List Int) (c : Nat) : Nums (aput L k (.int .i64 (c : Int))) := fun k' v hv => by
  rw [alook_aput] at hv
  split at hv
  · injection hv with hv; exact ⟨c, hv.symm⟩
  · exact h k' v hv
theorem lk_put {L : List (List Int × AV)} (i c p : Nat) : lk (aput L [(i : Int)] (.int .i64 (c : Int))) p = if p = i then some c else lk L p := by
  unfold lk
  rw [alook_aput]
  by_cases h : p = i
  · subst h; simp
  · rw [if_neg h, if_neg (by simp; omega)]
/-- How many of the first. -/
def cntB (f : Nat → Bool) : Nat → Nat
  | 0 => 0
  | k + 1 => cntB f k + if f k then 1 else 0
theorem cntB_congr {f g : Nat → Bool} : ∀ {n : Nat}, (∀ k, k < n → f k = g k) → cntB f n = cntB g n
  | 0, _ => rfl
  | n + 1, h => by simp only [cntB]; rw [cntB_congr (fun k hk => h k (by omega)), h n (by omega)]
theorem cntB_le (f : Nat → Bool) : ∀ n, cntB f n ≤ n
  | 0 => Nat.le_refl _
  | n + 1 => by have := cntB_le f n; simp only [cntB]; split <;> omega
theorem cntB_one {f g : Nat → Bool} {i : Nat} (h : ∀ k, k ≠ i → g k = f k) (h1 : f i = false) (h2 : g i = true) : ∀ n, cntB g n = cntB f n + if i < n then 1 else 0
  | 0 => rfl
  | n + 1 => by
    have ih := cntB_one h h1 h2 n
    simp only [cntB]
    rw [ih]
    by_cases hn : n = i
    · subst hn; simp [h1, h2]
    · rw [h n hn]
      have e : (i < n + 1) ↔ (i < n) := by omega
      simp only [e]
      omega
theorem cntB_mono {f g : Nat → Bool} : ∀ {n : Nat}, (∀ k, k < n → f k = true → g k = true) → cntB f n ≤ cntB g n
  | 0, _ => Nat.le_refl _
  | n + 1, h => by
    have ih := cntB_mono (f := f) (g := g) (n := n) (fun k hk => h k (by omega))
    have := h n (by omega)
    simp only [cntB]
    cases hf : f n
    · simp; omega
    · rw [this hf]; simp; omega
theorem cntB_filter (f : Nat → Bool) (n : Nat) : cntB f n = ((List.range n).filter f).length := by
  induction n with
  | zero => rfl
  | succ n ih =>
    rw [List.range_succ, List.filter_append, List.length_append, ← ih]
    simp only [cntB]
    cases h : f n <;> simp [h]
/-- No more than there is room for. -/
theorem pig {α : Type} [DecidableEq α] : ∀ {l1 l2 : List α}, l1.Nodup → (∀ x, x ∈ l1 → x ∈ l2) → l1.length ≤ l2.length
  | [], _, _, _ => Nat.zero_le _
  | x :: l1, l2, h1, h2 => by
    have hx := h2 x List.mem_cons_self
    have hn := List.nodup_cons.1 h1
    have := pig (l1 := l1) (l2 := l2.erase x) hn.2 (fun y hy => by
      refine (List.mem_erase_of_ne ?_).2 (h2 y (List.mem_cons_of_mem _ hy))
      intro e
      subst e
      exact hn.1 hy)
    rw [List.length_erase_of_mem hx] at this
    have hp : 0 < l2.length := List.length_pos_of_mem hx
    simp only [List.length_cons]
    omega
theorem nodup_map {α β : Type} {f : α → β} : ∀ {l : List α}, l.Nodup → (∀ x, x ∈ l → ∀ y, y ∈ l → f x = f y → x = y) → (l.map f).Nodup
  | [], _, _ => List.nodup_nil
  | x :: l, h, hf => by
    have hn := List.nodup_cons.1 h
    rw [List.map_cons, List.nodup_cons]
    refine ⟨fun hm => ?_, nodup_map hn.2 (fun a ha b hb e => hf a (List.mem_cons_of_mem _ ha) b (List.mem_cons_of_mem _ hb) e)⟩
    obtain ⟨y, hy, e⟩ := List.mem_map.1 hm
    have := hf y (List.mem_cons_of_mem _ hy) x List.mem_cons_self e
    subst this
    exact hn.1 hy

section
variable (N K : Nat) (adj : Nat → Nat → Bool)
/-- The map is a matching of spots and calls. -/
structure Mat (m : Nat → Option Nat) : Prop where
  ok : ∀ p c, m p = some c → p < N ∧ c < K ∧ adj p c = true
  inj : ∀ p q c, m p = some c → m q = some c → p = q
/-- Calls from which no way leads to a free spot, and the spots that they reach. -/
structure Closed (m : Nat → Option Nat) (R Z : Nat → Prop) : Prop where
  out : ∀ c p, R c → p < N → adj p c = true → Z p
  back : ∀ p, Z p → ∃ c, R c ∧ m p = some c
/-- A call has found a spot. -/
structure Got (m : Nat → Option Nat) (seen : Nat → Bool) (call : Nat) (m' : Nat → Option Nat) : Prop where
  same : ∀ p, seen p = true → m' p = m p
  at_ : ∃ p, p < N ∧ seen p = false ∧ m' p = some call ∧ ∀ q, seen q = false → m' q = some call → q = p
  ok : ∀ p c, m' p = some c → p < N ∧ c < K ∧ adj p c = true
  inj : ∀ p q c, c ≠ call → m' p = some c → m' q = some c → p = q
  all : ∀ c, c ≠ call → ((∃ p, m' p = some c) ↔ ∃ p, m p = some c)
  keep : ∀ R Z, Closed N adj m R Z → ∀ p, Z p → m' p = m p
/-- It has found none. -/
structure Lost (m : Nat → Option Nat) (seen : Nat → Bool) (call : Nat) (seen' : Nat → Bool) : Prop where
  up : ∀ p, seen p = true → seen' p = true
  call : ∀ p, p < N → adj p call = true → seen' p = true
  new : ∀ p, seen' p = true → seen p = false → p < N ∧ ∃ c, m p = some c ∧ ∀ q, q < N → adj q c = true → seen' q = true
variable {N K adj}
/-- The spot is free. -/
theorem got_free {m : Nat → Option Nat} {seen : Nat → Bool} {call i : Nat} (h : Mat N K adj m) (hs : ∀ q, m q = some call → seen q = true) (hi : i < N) (hc : call < K) (ha : adj i call = true) (h0 : seen i = false) (hm : m i = none) : Got N K adj m seen call (fun p => if p = i then some call else m p) := by
  refine ⟨fun p hp => ?_, ⟨i, hi, h0, by simp, fun q hq e => ?_⟩, fun p c e => ?_, fun p q c hne e1 e2 => ?_, fun c hne => ⟨fun ⟨p, e⟩ => ?_, fun ⟨p, e⟩ => ?_⟩, fun R Z hZ p hp => ?_⟩
  · rw [if_neg (fun e => by rw [e, h0] at hp; cases hp)]
  · by_cases hq2 : q = i
    · exact hq2
    · rw [if_neg hq2] at e; rw [hs q e] at hq; cases hq
  · by_cases hp : p = i
    · rw [if_pos hp] at e; injection e with e; subst e; subst hp; exact ⟨hi, hc, ha⟩
    · rw [if_neg hp] at e; exact h.ok p c e
  · have f : ∀ p, (if p = i then some call else m p) = some c → m p = some c := fun p e => by
      by_cases hp : p = i
      · rw [if_pos hp] at e; injection e with e; exact (hne e.symm).elim
      · rwa [if_neg hp] at e
    exact h.inj p q c (f p e1) (f q e2)
  · by_cases hp : p = i
    · rw [if_pos hp] at e; injection e with e; exact (hne e.symm).elim
    · rw [if_neg hp] at e; exact ⟨p, e⟩
  · refine ⟨p, ?_⟩
    rw [if_neg (fun e2 => by rw [e2, hm] at e; cases e)]; exact e
  · obtain ⟨c, _, e⟩ := hZ.back p hp
    rw [if_neg (fun e2 => by rw [e2, hm] at e; cases e)]
/-- Its call has found another one. -/
theorem got_moved {m m1 : Nat → Option Nat} {seen : Nat → Bool} {call other i : Nat} (h : Mat N K adj m) (hs : ∀ q, m q = some call → seen q = true) (hi : i < N) (hc : call < K) (ha : adj i call = true) (h0 : seen i = false) (hm : m i = some other)
    (hg : Got N K adj m (fun p => if p = i then true else seen p) other m1) (hR : ∀ R Z, Closed N adj m R Z → R other → False) : Got N K adj m seen call (fun p => if p = i then some call else m1 p) := by
  have hne : other ≠ call := fun e => by rw [e] at hm; rw [hs i hm] at h0; cases h0
  obtain ⟨p1, hp1, hs1, hm1, hu1⟩ := hg.at_
  have hp1i : p1 ≠ i := fun e => by rw [if_pos e] at hs1; cases hs1
  have m1i : m1 i = some other := (hg.same i (by simp)).trans hm
  have m1s : ∀ p, seen p = true → m1 p = m p := fun p hp => hg.same p (by by_cases e : p = i <;> simp [e, hp])
  refine ⟨fun p hp => ?_, ⟨i, hi, h0, by simp, fun q hq e => ?_⟩, fun p c e => ?_, fun p q c hnc e1 e2 => ?_, fun c hnc => ⟨fun ⟨p, e⟩ => ?_, fun ⟨p, e⟩ => ?_⟩, fun R Z hZ p hp => ?_⟩
  · rw [if_neg (fun e => by rw [e, h0] at hp; cases hp), m1s p hp]
  · by_cases hq2 : q = i
    · exact hq2
    · rw [if_neg hq2] at e
      exfalso
      obtain ⟨q0, hq0⟩ := (hg.all call (fun e => hne e.symm)).1 ⟨q, e⟩
      have h1 := hs q0 hq0
      have h2 := m1s q0 h1
      rw [hq0] at h2
      have := hg.inj q q0 call (fun e => hne e.symm) e h2
      subst this
      rw [h1] at hq; cases hq
  · by_cases hp : p = i
    · rw [if_pos hp] at e; injection e with e; subst e; subst hp; exact ⟨hi, hc, ha⟩
    · rw [if_neg hp] at e; exact hg.ok p c e
  · have f : ∀ p, (if p = i then some call else m1 p) = some c → p ≠ i ∧ m1 p = some c := fun p e => by
      by_cases hp : p = i
      · rw [if_pos hp] at e; injection e with e; exact (hnc e.symm).elim
      · rw [if_neg hp] at e; exact ⟨hp, e⟩
    obtain ⟨a1, a2⟩ := f p e1
    obtain ⟨b1, b2⟩ := f q e2
    by_cases ho : c = other
    · subst ho
      have u : ∀ p, p ≠ i → m1 p = some c → p = p1 := fun p hp e => by
        refine hu1 p ?_ e
        rw [if_neg hp]
        cases hsp : seen p with
        | false => rfl
        | true =>
          rw [m1s p hsp] at e
          exact (hp (h.inj p i c e hm)).elim
      rw [u p a1 a2, u q b1 b2]
    · exact hg.inj p q c ho a2 b2
  · by_cases hp : p = i
    · rw [if_pos hp] at e; injection e with e; exact (hnc e.symm).elim
    · rw [if_neg hp] at e
      by_cases ho : c = other
      · exact ⟨i, by rw [hm, ho]⟩
      · exact (hg.all c ho).1 ⟨p, e⟩
  · by_cases ho : c = other
    · exact ⟨p1, by rw [if_neg hp1i, hm1, ho]⟩
    · obtain ⟨q, e2⟩ := (hg.all c ho).2 ⟨p, e⟩
      refine ⟨q, ?_⟩
      rw [if_neg (fun e3 => by rw [e3, m1i] at e2; injection e2 with e2; exact ho e2.symm)]; exact e2
  · have hpi : p ≠ i := fun e => by
      subst e
      obtain ⟨c, hc1, hc2⟩ := hZ.back p hp
      rw [hm] at hc2
      injection hc2 with hc2
      subst hc2
      exact hR R Z hZ hc1
    rw [if_neg hpi]
    exact hg.keep R Z hZ p hp
end
end Go.Proofs.Ytnghcfmloljagaa

namespace Go.Proofs.Ytnghcfmloljagaa
open Go.RowKit

abbrev aNats (z e : Bool) (l : List Nat) : AV := .sl z e l.length 1 (fun k _ => AI ((l.getD k 0 : Nat) : Int))
/-- What has been opened: the studio, the spots, the calls that count, the calls of the spots. -/
abbrev cMt (f : StF) (s : Std) (T N : Nat) (zc ec : Bool) (cl : List Nat) (d : Nat) : Nat → AV := ofL [AI s.times, aSgns f.zs f.es s.sg, aRngs f.zr f.er s.rg, aSpots false false T N, aNats zc ec cl, .mpv d]
def adjS (s : Std) (T : Nat) (cl : List Nat) (p j : Nat) : Bool := canA s (sp T p).1 ((sp T p).2 : Int) (cl.getD j 0)
abbrev rowS (N : Nat) (sn : Nat → Bool) : AB := .row N 1 (fun k _ => .bool (sn k))
/-- A map has as many entries as there are spots with a call. -/
def Len (N : Nat) (L : List (List Int × AV)) : Prop := L.length = cntB (fun p => (lk L p).isSome) N
theorem len_nil (N : Nat) : Len N [] := by
  unfold Len
  have : ∀ n, cntB (fun p => (lk [] p).isSome) n = 0 := fun n => by
    induction n with
    | zero => rfl
    | succ n ih => simp only [cntB]; rw [ih]; rfl
  rw [this]; rfl
theorem len_put {N : Nat} {L : List (List Int × AV)} (hn : Nums L) (h : Len N L) {i : Nat} (hi : i < N) (c : Nat) : Len N (aput L [(i : Int)] (.int .i64 (c : Int))) := by
  unfold Len at h ⊢
  cases hx : aidx L [(i : Int)] with
  | none =>
    have hl := aidx_none hx
    rw [hl.2.2, List.length_append, h]
    have hf : lk L i = none := (lk_none hn).2 hl.2.1
    have := cntB_one (f := fun p => (lk L p).isSome) (g := fun p => (lk (aput L [(i : Int)] (.int .i64 (c : Int))) p).isSome) (i := i) (fun k hk => by simp only [lk_put]; rw [if_neg hk]) (by simp only [hf]; rfl) (by simp [lk_put]) N
    rw [if_pos hi, hl.2.2] at this
    rw [this]; rfl
  | some j =>
    have hl := aidx_some hx
    rw [hl.2.2.2, List.length_set, h, ← hl.2.2.2]
    refine cntB_congr fun k _ => ?_
    simp only [lk_put]
    by_cases hk : k = i
    · rw [if_pos hk, hk]
      have : lk L i ≠ none := fun e => by
        have := (lk_none hn).1 e
        rw [hl.2.2.1] at this; cases this
      cases hq : lk L i with
      | none => exact (this hq).elim
      | some _ => rfl
    · rw [if_neg hk]
structure PlaceS (s : Std) (T N : Nat) (cl : List Nat) (L : List (List Int × AV)) (sn : Nat → Bool) (call : Nat) (b : Bool) (L' : List (List Int × AV)) (sn' : Nat → Bool) : Prop where
  nums : Nums L'
  len : Len N L'
  res : (b = true ∧ Got N cl.length (adjS s T cl) (lk L) sn call (lk L')) ∨ (b = false ∧ L' = L ∧ Lost N (adjS s T cl) (lk L) sn call sn')
  no : ∀ R Z, Closed N (adjS s T cl) (lk L) R Z → R call → b = false
/-- What is known ahead of the call. -/
structure PlaceH (s : Std) (T N : Nat) (cl : List Nat) (L : List (List Int × AV)) (sn : Nat → Bool) (call : Nat) : Prop where
  nums : Nums L
  len : Len N L
  mat : Mat N cl.length (adjS s T cl) (lk L)
  old : ∀ q, lk L q = some call → sn q = true
  call : call < cl.length
def unseen (N : Nat) (sn : Nat → Bool) : Nat := cntB (fun p => !sn p) N
structure PlaceB (s : Std) (T N : Nat) (cl : List Nat) : Prop where
  N32 : N = s.n * T
  T8 : T ≤ s.T
  T1 : 1 ≤ T
  len : cl.length ≤ 12
  clC : ∀ j, j < cl.length → cl.getD j 0 < s.C
def PlaceC (f : StF) (s : Std) (T N : Nat) (zc ec : Bool) (cl : List Nat) (L : List (List Int × AV)) (sn : Nat → Bool) (call : Nat) : Prop :=
  ACall Try.prog 63 [.ptr 0 0, AI call, .own 2 N] [.box 6 (cMt f s T N zc ec cl 1), .mp 0 L, rowS N sn] (fun r h => ∃ b L' sn', r = .bool b ∧ h = [.box 6 (cMt f s T N zc ec cl 1), .mp 0 L', rowS N sn'] ∧ PlaceS s T N cl L sn call b L' sn')
theorem sp_in' {s : Std} {T N : Nat} {cl : List Nat} (h : PlaceB s T N cl) {k : Nat} (hk : k < N) : (sp T k).1 < s.n ∧ (sp T k).2 < T := (Dk_all (sp T k)).1 ⟨k, by rw [← h.N32]; exact hk, rfl⟩
def setS (sn : Nat → Bool) (k : Nat) : Nat → Bool := fun p => if p = k then true else sn p
theorem unseen_set {N : Nat} {sn : Nat → Bool} {k : Nat} (hk : k < N) (h : sn k = false) : unseen N (setS sn k) < unseen N sn := by
  have := cntB_one (f := fun p => !setS sn k p) (g := fun p => !sn p) (i := k) (fun j hj => by simp only [setS]; rw [if_neg hj]) (by simp [setS]) (by simp [h]) N
  rw [if_pos hk] at this
  unfold unseen; omega
theorem unseen_mono {N : Nat} {a b : Nat → Bool} (h : ∀ p, a p = true → b p = true) : unseen N b ≤ unseen N a := cntB_mono fun k _ hk => by
  cases ha : a k with
  | false => rfl
  | true => rw [h k ha] at hk; cases hk
theorem got_weak {N K : Nat} {adj : Nat → Nat → Bool} {m m' : Nat → Option Nat} {a b : Nat → Bool} {call : Nat} (h : Got N K adj m b call m') (hab : ∀ p, a p = true → b p = true) (ho : ∀ q, m q = some call → a q = true) : Got N K adj m a call m' := by
  obtain ⟨p, h1, h2, h3, h4⟩ := h.at_
  have low : ∀ q, b q = false → a q = false := fun q hq => by
    cases ha : a q with
    | false => rfl
    | true => rw [hab q ha] at hq; cases hq
  refine ⟨fun p hp => h.same p (hab p hp), ⟨p, h1, low p h2, h3, fun q hq e => ?_⟩, h.ok, h.inj, h.all, h.keep⟩
  cases hb : b q with
  | false => exact h4 q hb e
  | true =>
    rw [h.same q hb] at e
    rw [ho q e] at hq; cases hq
theorem lk_putf (L : List (List Int × AV)) (i c : Nat) : lk (aput L [(i : Int)] (.int .i64 (c : Int))) = fun p => if p = i then some c else lk L p := funext fun p => lk_put i c p
set_option maxHeartbeats 8000000
set_option maxRecDepth 100000
theorem place_step (f : StF) (s : Std) (hs : StdOk s) (T N : Nat) (zc ec : Bool) (cl : List Nat) (hB : PlaceB s T N cl) (u : Nat) (IH : ∀ L sn call, PlaceH s T N cl L sn call → unseen N sn < u → PlaceC f s T N zc ec cl L sn call) (L : List (List Int × AV)) (sn : Nat → Bool) (call : Nat) (hH : PlaceH s T N cl L sn call) (hu : unseen N sn ≤ u) : PlaceC f s T N zc ec cl L sn call := by
  have hN32 : N ≤ 32 := by rw [hB.N32]; exact Nat.le_trans (Nat.mul_le_mul hs.n4 (Nat.le_trans hB.T8 hs.t8)) (by decide)
  have hcl := hB.len
  have hcall := hH.call
  have hcC := hB.clC call hcall
  unfold PlaceC
  (refine fcall_of mixed Try.func63 rfl (by decide) (hs := {}) ?k (ac := ?ac) ?c (rs := ?rs) ?r ?l ?H; (case k => kernel_rfl); (case c => (conv => (lhs; cbv))); (case r => (conv => (lhs; cbv))); (case l => exact Nat.le_of_ble_eq_true rfl))
  (repeat' ((try (conv => whnf)); first | (with_reducible first | refine FCond.tA ?_ | refine FCond.fA ?_) | ((with_reducible refine FCond.i (fun hq => ?_) (fun hq => ?_)) <;> (try simp only [zA, zE, zD, zJ, zB, zI, Int.not_le, Int.not_lt] at hq)) | (with_reducible first | refine Fits.in64 (by omega) ?_ | refine FIdx.nat (by omega) ?_ | refine FIdx.int (by omega) ?_ | refine FTo.nat (by omega) ?_ | refine FTo.int (by omega) ?_) | ((with_reducible refine Need.mk ?_ ?_); focus exact needA) | (with_reducible refine FApp.grow ?_) | (with_reducible refine FOr.pub ?_)))
  all_goals (try (conv => whnf))
  refine FLoop.of (ACalls.mono _) (X := Nat × (Nat → Bool)) (fun x => [(0, .ptr 0 0), (1, AI call), (2, .own 2 N), (14, aSpots false false T N), (15, AI N), (16, AI x.1)]) (fun x => [.box 6 (cMt f s T N zc ec cl 1), .mp 0 L, rowS N x.2])
    (fun x => x.1 ≤ N ∧ (∀ p, sn p = true → x.2 p = true) ∧ (∀ p, p < x.1 → adjS s T cl p call = true → x.2 p = true) ∧ (∀ p, x.2 p = true → sn p = false → p < N ∧ ∃ c, lk L p = some c ∧ ∀ q, q < N → adjS s T cl q c = true → x.2 q = true)) (fun x => N - x.1) (0, sn)
    ⟨⟨Nat.zero_le _, fun _ h => h, below_zero, fun p h1 h2 => (by simp only at h1; rw [h1] at h2; cases h2)⟩, [0, 1, 2], Cut.A, allA⟩ ?_
  rintro ⟨k, sk⟩ ⟨hk, hup, hadj, hnew⟩
  simp only at hk hup hadj hnew
  by_cases hlt : k < N
  · cases hsk : sk k
    · have hin := sp_in' hB hlt
      have hcan := can_ok f s hs (sp T k).1 (cl.getD call 0) (sp T k).2 hin.1 hcC
      cases hq7 : adjS s T cl k call
      · rw [show canA s (sp T k).1 ((sp T k).2 : Int) (cl.getD call 0) = false from hq7] at hcan
        (repeat' ((try (conv => whnf)); first | (with_reducible first | refine FCond.tA ?_ | refine FCond.fA ?_) | ((with_reducible refine FCond.i (fun hq => ?_) (fun hq => ?_)) <;> (try simp only [zA, zE, zD, zJ, zB, zI, Int.not_le, Int.not_lt] at hq)) | (with_reducible first | refine Fits.in64 (by omega) ?_ | refine FIdx.nat (by omega) ?_ | refine FIdx.int (by omega) ?_ | refine FTo.nat (by omega) ?_ | refine FTo.int (by omega) ?_) | ((with_reducible refine Need.mk ?_ ?_); focus exact needA) | (with_reducible refine FApp.grow ?_) | (refine FCall.pure (hcan) ⟨Ln.sameB _ rfl, Ln.sameB _ rfl, Ln.sameB _ rfl, True.intro⟩ rfl ?_) | (with_reducible refine FOr.pub ?_)))
        all_goals (try (conv => whnf))
        (exact ⟨⟨(k + 1, sk), ⟨hlt, hup, below_step hadj (fun h => by rw [hq7] at h; cases h), hnew⟩, by show _ < _; simp only; omega, [0, 1, 2], Cut.A, allA⟩⟩)
      · rw [show canA s (sp T k).1 ((sp T k).2 : Int) (cl.getD call 0) = true from hq7] at hcan
        have hset : ∀ j, j < N → ∀ o, o < 1 → (AV.bool (setS sk k j)) = updRm (fun j _ => .bool (sk j)) k (elemC (.bool true)) j o := fun j _ o ho => by
          simp only [updRm, setS]
          by_cases e : j = k
          · rw [if_pos e, if_pos e]; rfl
          · rw [if_neg e, if_neg e]
        have h0 : sn k = false := by
          cases h : sn k with
          | false => rfl
          | true => rw [hup k h] at hsk; cases hsk
        cases hm : lk L k with
        | none =>
          have hlook := (lk_none hH.nums).1 hm
          (repeat' ((try (conv => whnf)); first | (with_reducible first | refine FCond.tA ?_ | refine FCond.fA ?_) | ((with_reducible refine FCond.i (fun hq => ?_) (fun hq => ?_)) <;> (try simp only [zA, zE, zD, zJ, zB, zI, Int.not_le, Int.not_lt] at hq)) | (with_reducible first | refine Fits.in64 (by omega) ?_ | refine FIdx.nat (by omega) ?_ | refine FIdx.int (by omega) ?_ | refine FTo.nat (by omega) ?_ | refine FTo.int (by omega) ?_) | ((with_reducible refine Need.mk ?_ ?_); focus exact needA) | (with_reducible refine FApp.grow ?_) | (refine FCall.pure (hcan) ⟨Ln.sameB _ rfl, Ln.sameB _ rfl, Ln.sameB _ rfl, True.intro⟩ rfl ?_) | (with_reducible refine Need.in64 (by omega) ?_) | (refine FLook.no hlook ?_) | (with_reducible refine FOr.pub ?_)))
          all_goals (try (conv => whnf))
          refine ⟨⟨.bool true, [.box 6 (cMt f s T N zc ec cl 1), .mp 0 (aput L [(k : Int)] (.int .i64 (call : Int))), rowS N (setS sk k)], [0, 1, 2], ?_, Ln.A, ⟨true, _, _, rfl, rfl, nums_put hH.nums _ _, len_put hH.nums hH.len hlt _, .inl ⟨rfl, ?_⟩, fun R Z hZ hR => ?_⟩⟩⟩
          · exact Cut.of (Nat.le_of_ble_eq_true rfl) rfl rfl (CutL.turned rfl LnB.A (CutL.turned rfl LnB.A (CutL.turned rfl (LnB.rowE (Nat.le_refl _) hset) CutL.done)))
          · rw [lk_putf]
            exact got_free hH.mat hH.old hlt hcall hq7 h0 hm
          · obtain ⟨c, _, e⟩ := hZ.back k (hZ.out call k hR hlt hq7)
            rw [hm] at e; cases e
        | some other =>
          have hlook := (lk_some hH.nums).1 hm
          have hoth := hH.mat.ok k other hm
          have hsu := unseen_set hlt hsk
          have hsm := unseen_mono (N := N) hup
          have hP := IH L (setS sk k) other ⟨hH.nums, hH.len, hH.mat, fun q hq => by rw [hH.mat.inj q k other hq hm]; simp [setS], hoth.2.1⟩ (by omega)
          (repeat' ((try (conv => whnf)); first | (with_reducible first | refine FCond.tA ?_ | refine FCond.fA ?_) | ((with_reducible refine FCond.i (fun hq => ?_) (fun hq => ?_)) <;> (try simp only [zA, zE, zD, zJ, zB, zI, Int.not_le, Int.not_lt] at hq)) | (with_reducible first | refine Fits.in64 (by omega) ?_ | refine FIdx.nat (by omega) ?_ | refine FIdx.int (by omega) ?_ | refine FTo.nat (by omega) ?_ | refine FTo.int (by omega) ?_) | ((with_reducible refine Need.mk ?_ ?_); focus exact needA) | (with_reducible refine FApp.grow ?_) | (refine FCall.pure (hcan) ⟨Ln.sameB _ rfl, Ln.sameB _ rfl, Ln.sameB _ rfl, True.intro⟩ rfl ?_) | (with_reducible refine Need.in64 (by omega) ?_) | (refine FLook.yes hlook ?_) | (with_reducible refine FOr.pub ?_)))
          all_goals (try (conv => whnf))
          refine FCall.give [0, 1, 2] [] hP rfl rfl ⟨⟨_, rfl, trivial, LnB.A⟩, ⟨_, rfl, trivial, LnB.A⟩, ⟨_, rfl, trivial, LnB.rowE (Nat.le_refl _) hset⟩, True.intro⟩ ⟨Ln.A, Ln.A, Ln.A, True.intro⟩ ?_
          rintro _ _ ⟨b, L', sn', rfl, rfl, hS⟩
          refine ⟨Nat.le_of_ble_eq_true rfl, .inl rfl, ?_⟩
          rcases hS.res with ⟨rfl, hG⟩ | ⟨rfl, rfl, hLo⟩
          · (repeat' ((try (conv => whnf)); first | (with_reducible first | refine FCond.tA ?_ | refine FCond.fA ?_) | ((with_reducible refine FCond.i (fun hq => ?_) (fun hq => ?_)) <;> (try simp only [zA, zE, zD, zJ, zB, zI, Int.not_le, Int.not_lt] at hq)) | (with_reducible first | refine Fits.in64 (by omega) ?_ | refine FIdx.nat (by omega) ?_ | refine FIdx.int (by omega) ?_ | refine FTo.nat (by omega) ?_ | refine FTo.int (by omega) ?_) | ((with_reducible refine Need.mk ?_ ?_); focus exact needA) | (with_reducible refine FApp.grow ?_) | (with_reducible refine Need.in64 (by omega) ?_) | (with_reducible refine FOr.pub ?_)))
            all_goals (try (conv => whnf))
            refine ⟨⟨.bool true, [.box 6 (cMt f s T N zc ec cl 1), .mp 0 (aput L' [(k : Int)] (.int .i64 (call : Int))), rowS N sn'], [0, 1, 2], Cut.A, Ln.A, ⟨true, _, _, rfl, rfl, nums_put hS.nums _ _, len_put hS.nums hS.len hlt _, .inl ⟨rfl, ?_⟩, fun R Z hZ hR => ?_⟩⟩⟩
            · rw [lk_putf]
              refine got_weak (got_moved hH.mat (fun q hq => hup q (hH.old q hq)) hlt hcall hq7 hsk hm hG (fun R Z hZ hR => ?_)) hup hH.old
              have := hS.no R Z hZ hR; cases this
            · obtain ⟨c, hc, e⟩ := hZ.back k (hZ.out call k hR hlt hq7)
              rw [hm] at e
              injection e with e
              subst e
              have := hS.no R Z hZ hc; cases this
          · have hlow : ∀ p, sk p = true → sn' p = true := fun p hp => hLo.up p (by simp only [setS]; split; rfl; exact hp)
            (repeat' ((try (conv => whnf)); first | (with_reducible first | refine FCond.tA ?_ | refine FCond.fA ?_) | ((with_reducible refine FCond.i (fun hq => ?_) (fun hq => ?_)) <;> (try simp only [zA, zE, zD, zJ, zB, zI, Int.not_le, Int.not_lt] at hq)) | (with_reducible first | refine Fits.in64 (by omega) ?_ | refine FIdx.nat (by omega) ?_ | refine FIdx.int (by omega) ?_ | refine FTo.nat (by omega) ?_ | refine FTo.int (by omega) ?_) | ((with_reducible refine Need.mk ?_ ?_); focus exact needA) | (with_reducible refine FApp.grow ?_) | (with_reducible refine FOr.pub ?_)))
            all_goals (try (conv => whnf))
            refine ⟨⟨(k + 1, sn'), ⟨hlt, fun p hp => hlow p (hup p hp), below_step (fun p hp ha => hlow p (hadj p hp ha)) (fun _ => hLo.up k (by simp [setS])), fun p h1 h2 => ?_⟩, by show _ < _; simp only; omega, [0, 1, 2], Cut.A, allA⟩⟩
            simp only at h1 ⊢
            by_cases hpk : p = k
            · subst hpk
              exact ⟨hlt, other, hm, hLo.call⟩
            · cases hp : sk p with
              | true =>
                obtain ⟨a1, c, a2, a3⟩ := hnew p hp h2
                exact ⟨a1, c, a2, fun q hq ha => hlow q (a3 q hq ha)⟩
              | false => exact hLo.new p h1 (by simp only [setS]; rw [if_neg hpk]; exact hp)
    · (repeat' ((try (conv => whnf)); first | (with_reducible first | refine FCond.tA ?_ | refine FCond.fA ?_) | ((with_reducible refine FCond.i (fun hq => ?_) (fun hq => ?_)) <;> (try simp only [zA, zE, zD, zJ, zB, zI, Int.not_le, Int.not_lt] at hq)) | (with_reducible first | refine Fits.in64 (by omega) ?_ | refine FIdx.nat (by omega) ?_ | refine FIdx.int (by omega) ?_ | refine FTo.nat (by omega) ?_ | refine FTo.int (by omega) ?_) | ((with_reducible refine Need.mk ?_ ?_); focus exact needA) | (with_reducible refine FApp.grow ?_) | (with_reducible refine FOr.pub ?_)))
      all_goals (try (conv => whnf))
      (exact ⟨⟨(k + 1, sk), ⟨hlt, hup, below_step hadj (fun _ => hsk), hnew⟩, by show _ < _; simp only; omega, [0, 1, 2], Cut.A, allA⟩⟩)
  · obtain rfl : k = N := by omega
    (repeat' ((try (conv => whnf)); first | (with_reducible first | refine FCond.tA ?_ | refine FCond.fA ?_) | ((with_reducible refine FCond.i (fun hq => ?_) (fun hq => ?_)) <;> (try simp only [zA, zE, zD, zJ, zB, zI, Int.not_le, Int.not_lt] at hq)) | (with_reducible first | refine Fits.in64 (by omega) ?_ | refine FIdx.nat (by omega) ?_ | refine FIdx.int (by omega) ?_ | refine FTo.nat (by omega) ?_ | refine FTo.int (by omega) ?_) | ((with_reducible refine Need.mk ?_ ?_); focus exact needA) | (with_reducible refine FApp.grow ?_) | (with_reducible refine FOr.pub ?_)))
    all_goals (try (conv => whnf))
    exact ⟨⟨.bool false, [.box 6 (cMt f s T k zc ec cl 1), .mp 0 L, rowS k sk], [0, 1, 2], Cut.A, Ln.A, ⟨false, L, sk, rfl, rfl, hH.nums, hH.len, .inr ⟨rfl, rfl, hup, hadj, hnew⟩, fun _ _ _ _ => rfl⟩⟩⟩
theorem place_ok (f : StF) (s : Std) (hs : StdOk s) (T N : Nat) (zc ec : Bool) (cl : List Nat) (hB : PlaceB s T N cl) : ∀ (u : Nat) (L : List (List Int × AV)) (sn : Nat → Bool) (call : Nat), PlaceH s T N cl L sn call → unseen N sn ≤ u → PlaceC f s T N zc ec cl L sn call
  | 0, L, sn, call, hH, hu => place_step f s hs T N zc ec cl hB 0 (fun _ _ _ _ h => absurd h (Nat.not_lt_zero _)) L sn call hH hu
  | u + 1, L, sn, call, hH, hu => place_step f s hs T N zc ec cl hB (u + 1) (fun L sn call h hlt => place_ok f s hs T N zc ec cl hB u L sn call h (by omega)) L sn call hH hu
end Go.Proofs.Ytnghcfmloljagaa

namespace Go.Proofs.Ytnghcfmloljagaa
open Go.RowKit

def clK (s : Std) (u : Bool) (c : Nat) : List Nat := (List.range c).filter (counts s u)
theorem clK_succ (s : Std) (u : Bool) (c : Nat) : clK s u (c + 1) = if counts s u c then clK s u c ++ [c] else clK s u c := by
  unfold clK
  rw [List.range_succ, List.filter_append]
  cases h : counts s u c <;> simp [h]
theorem clK_len (s : Std) (u : Bool) (c : Nat) : (clK s u c).length ≤ c := by
  unfold clK
  exact Nat.le_trans (List.length_filter_le _ _) (by simp)
theorem clK_mem {s : Std} {u : Bool} {c j : Nat} (h : j < (clK s u c).length) : (clK s u c).getD j 0 < c := by
  have : (clK s u c).getD j 0 ∈ clK s u c := by
    simp only [List.getD, List.getElem?_eq_getElem h, Option.getD_some]
    exact List.getElem_mem h
  unfold clK at this ⊢
  simpa using (List.mem_filter.1 this).1
/-- A greatest matching, and why. -/
structure Full (s : Std) (T N : Nat) (cl : List Nat) (L : List (List Int × AV)) : Prop where
  nums : Nums L
  len : Len N L
  mat : Mat N cl.length (adjS s T cl) (lk L)
  full : ∃ R Z, Closed N (adjS s T cl) (lk L) R Z ∧ ∀ j, j < cl.length → R j ∨ ∃ p, lk L p = some j
/-- Ahead of a call's turn. -/
structure Part (s : Std) (T N : Nat) (cl : List Nat) (L : List (List Int × AV)) (j : Nat) : Prop where
  nums : Nums L
  len : Len N L
  mat : Mat N cl.length (adjS s T cl) (lk L)
  low : ∀ p c, lk L p = some c → c < j
  full : ∃ R Z, Closed N (adjS s T cl) (lk L) R Z ∧ (∀ c, c < j → R c ∨ ∃ p, lk L p = some c) ∧ ∀ c, R c → c < j
theorem part_zero (s : Std) (T N : Nat) (cl : List Nat) : Part s T N cl [] 0 :=
  ⟨nums_nil, len_nil N, ⟨fun p c h => (by cases h), fun p q c h => (by cases h)⟩, fun p c h => (by cases h), fun _ => False, fun _ => False, ⟨fun _ _ h => h.elim, fun _ h => h.elim⟩, fun c h => (by omega), fun _ h => h.elim⟩
theorem part_next {s : Std} {T N : Nat} {cl : List Nat} {L L' : List (List Int × AV)} {j : Nat} {b : Bool} {sn' : Nat → Bool} (h : Part s T N cl L j) (hS : PlaceS s T N cl L (fun _ => false) j b L' sn') : Part s T N cl L' (j + 1) := by
  obtain ⟨R, Z, hZ, hf, hR⟩ := h.full
  rcases hS.res with ⟨_, hG⟩ | ⟨_, rfl, hLo⟩
  · obtain ⟨p0, hp0, _, hm0, hu0⟩ := hG.at_
    refine ⟨hS.nums, hS.len, ⟨hG.ok, fun p q c e1 e2 => ?_⟩, fun p c e => ?_, R, Z, ⟨hZ.out, fun p hp => ?_⟩, fun c hc => ?_, fun c hc => by have := hR c hc; omega⟩
    · by_cases hc : c = j
      · subst hc; rw [hu0 p rfl e1, hu0 q rfl e2]
      · exact hG.inj p q c hc e1 e2
    · by_cases hc : c = j
      · omega
      · obtain ⟨q, hq⟩ := (hG.all c hc).1 ⟨p, e⟩
        have := h.low q c hq; omega
    · obtain ⟨c, h1, h2⟩ := hZ.back p hp
      exact ⟨c, h1, (hG.keep R Z hZ p hp).trans h2⟩
    · by_cases e : c = j
      · subst e; exact .inr ⟨p0, hm0⟩
      · exact (hf c (by omega)).imp id fun hx => (hG.all c e).2 hx
  · have mate : ∀ p c, sn' p = true → lk L' p = some c → ∀ q, q < N → adjS s T cl q c = true → sn' q = true := fun p c hp e => by
      obtain ⟨_, c', e', h3⟩ := hLo.new p hp rfl
      rw [e] at e'
      injection e' with e'
      subst e'
      exact h3
    refine ⟨hS.nums, hS.len, h.mat, fun p c e => by have := h.low p c e; omega, fun c => R c ∨ c = j ∨ ∃ p, sn' p = true ∧ lk L' p = some c, fun p => Z p ∨ sn' p = true, ⟨fun c p hc hp ha => ?_, fun p hp => ?_⟩, fun c hc => ?_, fun c hc => ?_⟩
    · rcases hc with hc | rfl | ⟨q, hq, e⟩
      · exact .inl (hZ.out c p hc hp ha)
      · exact .inr (hLo.call p hp ha)
      · exact .inr (mate q c hq e p hp ha)
    · rcases hp with hp | hp
      · obtain ⟨c, h1, h2⟩ := hZ.back p hp
        exact ⟨c, .inl h1, h2⟩
      · obtain ⟨_, c, e, _⟩ := hLo.new p hp rfl
        exact ⟨c, .inr (.inr ⟨p, hp, e⟩), e⟩
    · by_cases e : c = j
      · exact .inl (.inr (.inl e))
      · exact (hf c (by omega)).imp .inl id
    · rcases hc with hc | rfl | ⟨q, hq, e⟩
      · have := hR c hc; omega
      · omega
      · have := h.low q c e; omega
theorem part_all {s : Std} {T N : Nat} {cl : List Nat} {L : List (List Int × AV)} (h : Part s T N cl L cl.length) : Full s T N cl L := by
  obtain ⟨R, Z, hZ, hf, _⟩ := h.full
  exact ⟨h.nums, h.len, h.mat, R, Z, hZ, hf⟩
theorem snoc_old {x c : Nat} {xs : List Nat} {k : Nat} (h : k < xs.length + 1) : (x :: (xs ++ [c])).getD k 0 = (x :: xs).getD k 0 := by
  cases k with
  | zero => rfl
  | succ k => simp [List.getD, List.getElem?_append_left (show k < xs.length by omega)]
theorem snoc_new {x c : Nat} {xs : List Nat} : (x :: (xs ++ [c])).getD (xs.length + 1) 0 = c := by simp [List.getD]
set_option maxHeartbeats 8000000
set_option maxRecDepth 100000
def hO : StF → Std → Nat → Nat → List Nat → List AB
  | f, s, T, N, [] => [.box 6 (ofL [AI s.times, aSgns f.zs f.es s.sg, aRngs f.zr f.er s.rg, aSpots false false T N, nilS, .mpv 1]), .mp 0 []]
  | f, s, T, N, x :: xs => [.box 6 (ofL [AI s.times, aSgns f.zs f.es s.sg, aRngs f.zr f.er s.rg, aSpots false false T N, .own 2 (xs.length + 1), .mpv 1]), .mp 0 [], .row (xs.length + 1) 1 (fun k _ => AI (((x :: xs).getD k 0 : Nat) : Int))]
theorem open_yes (f : StF) (s : Std) (hn : NearS s) (hk : s.ok = true) (t : Nat) (ht : t < s.T) (u : Bool) : ACall Try.prog 42 [aStd f s, AI t, .bool u] [] (fun r h => ∃ zc ec L, r = .tup 2 (ofL [.ptr 0 0, AI 0]) ∧ h = [.box 6 (cMt f s (t + 1) (s.n * (t + 1)) zc ec (clK s u s.C) 1), .mp 0 L] ∧ Full s (t + 1) (s.n * (t + 1)) (clK s u s.C) L) := by
  have hs := std_d hk
  have cC := check_ok f s hn
  rw [check_ok' hk] at cC
  have tt := hs.t
  have t8 := hs.t8
  have c12 : s.rg.length ≤ 12 := hs.c12
  have hB : PlaceB s (t + 1) (s.n * (t + 1)) (clK s u s.C) := ⟨rfl, by omega, by omega, Nat.le_trans (clK_len s u s.C) hs.c12, fun j hj => clK_mem hj⟩
  have hN32 : s.n * (t + 1) ≤ 32 := Nat.le_trans (Nat.mul_le_mul hs.n4 (show t + 1 ≤ 8 by omega)) (by decide)
  have cS := spots_ok f s t (t + 1) rfl (by omega) hs.n1 hs.n4
  (refine fcall_of mixed Try.func42 rfl (by decide) (hs := { alt := [(6, ⟨[0, 1, 2, 3, 4], (.alt 5 [] (.alt 6 [7] (.alt 8 [9] .leaf .leaf) .leaf) (.alt 6 [] (.alt 5 [7] (.alt 8 [9] .leaf .leaf) .leaf) .leaf)), [(5, [0]), (6, [0, 2])]⟩)] }) ?k (ac := ?ac) ?c (rs := ?rs) ?r ?l ?H; (case k => kernel_rfl); (case c => (conv => (lhs; cbv))); (case r => (conv => (lhs; cbv))); (case l => exact Nat.le_of_ble_eq_true rfl))
  (repeat' ((try (conv => whnf)); first | (with_reducible first | refine FCond.tA ?_ | refine FCond.fA ?_) | ((with_reducible refine FCond.i (fun hq => ?_) (fun hq => ?_)) <;> (try simp only [zA, zE, zD, zJ, zB, zI, Int.not_le, Int.not_lt] at hq)) | (with_reducible first | refine Fits.in64 (by omega) ?_ | refine FIdx.nat (by omega) ?_ | refine FIdx.int (by omega) ?_ | refine FTo.nat (by omega) ?_ | refine FTo.int (by omega) ?_) | ((with_reducible refine Need.mk ?_ ?_); focus exact needA) | (with_reducible refine FApp.grow ?_) | (refine FCall.pure (cC) ⟨Ln.sameB _ rfl, True.intro⟩ rfl ?_) | (refine FCall.pure (cS) ⟨Ln.sameB _ rfl, Ln.sameB _ rfl, True.intro⟩ rfl ?_) | (refine FAlt.mk ?_ ?_) | (with_reducible refine FOr.pub ?_)))
  all_goals (try (conv => whnf))
  all_goals
    refine FLoop.of (ACalls.mono _) (X := Nat × List Nat) (fun x => [(2, .bool u), (9, .ptr 0 0), (36, aRngs f.zr f.er s.rg), (37, AI s.rg.length), (38, AI x.1)]) (fun x => hO f s (t + 1) (s.n * (t + 1)) x.2) (fun x => x.1 ≤ s.rg.length ∧ x.2 = clK s u x.1) (fun x => s.rg.length - x.1) (0, []) ⟨⟨Nat.zero_le _, rfl⟩, [2, 1], Cut.A, allA⟩ ?_
    rintro ⟨c, l⟩ ⟨hc, hl⟩
    simp only at hc hl
    have hll := clK_len s u c
    rw [← hl] at hll
    by_cases hlt : c < s.rg.length
    · have hst := clK_succ s u c
      rw [← hl] at hst
      by_cases hq : (s.rg.getD c rg0).urg = true ∨ u = false
      · have hcn : counts s u c = true := by
          unfold counts Std.R
          rcases hq with h | h
          · rw [h]; rfl
          · rw [h]; simp
        rw [hcn, if_pos rfl] at hst
        rcases l with _ | ⟨x, xs⟩
        · rcases hq with h | h
          all_goals
            (repeat' ((try (conv => whnf)); first | (with_reducible first | refine FCond.tA ?_ | refine FCond.fA ?_) | ((with_reducible refine FCond.i (fun hq => ?_) (fun hq => ?_)) <;> (try simp only [zA, zE, zD, zJ, zB, zI, Int.not_le, Int.not_lt] at hq)) | (with_reducible first | refine Fits.in64 (by omega) ?_ | refine FIdx.nat (by omega) ?_ | refine FIdx.int (by omega) ?_ | refine FTo.nat (by omega) ?_ | refine FTo.int (by omega) ?_) | ((with_reducible refine Need.mk ?_ ?_); focus exact needA) | (with_reducible refine FApp.grow ?_) | (with_reducible refine FOr.pub ?_)))
            all_goals (try (conv => whnf))
          all_goals
            (exact ⟨⟨(c + 1, [c]), ⟨hlt, hst.symm⟩, by show _ < _; simp only; omega, [0, 1, 3], (by (refine Cut.of (Nat.le_of_ble_eq_true rfl) rfl rfl ?_; repeat (first | exact CutL.done | (refine CutL.turned rfl (by first | exact LnB.rowS | exact LnB.app (fun k hk => absurd hk (Nat.not_lt_zero k)) (fun o ho => by obtain rfl : o = 0 := (by omega); rfl) | exact LnB.A) ?_) | (refine CutL.gone (Nat.lt_of_lt_of_le (Nat.lt_succ_self _) (Nat.le_of_ble_eq_true rfl)) ?_)))), allA⟩⟩)
        · simp only [List.length_cons] at hll
          rcases hq with h | h
          all_goals
            (repeat' ((try (conv => whnf)); first | (with_reducible first | refine FCond.tA ?_ | refine FCond.fA ?_) | ((with_reducible refine FCond.i (fun hq => ?_) (fun hq => ?_)) <;> (try simp only [zA, zE, zD, zJ, zB, zI, Int.not_le, Int.not_lt] at hq)) | (with_reducible first | refine Fits.in64 (by omega) ?_ | refine FIdx.nat (by omega) ?_ | refine FIdx.int (by omega) ?_ | refine FTo.nat (by omega) ?_ | refine FTo.int (by omega) ?_) | ((with_reducible refine Need.mk ?_ ?_); focus exact needA) | (with_reducible refine FApp.grow ?_) | (with_reducible refine FOr.pub ?_)))
            all_goals (try (conv => whnf))
          all_goals
            refine ⟨⟨(c + 1, x :: (xs ++ [c])), ⟨hlt, hst.symm⟩, by show _ < _; simp only; omega, [0, 1, 4], ?_, allA⟩⟩
            refine Cut.of (Nat.le_of_ble_eq_true rfl) rfl rfl (CutL.turned rfl (LnB.boxN ⟨⟨⟨⟨⟨⟨True.intro, Ln.A⟩, Ln.A⟩, Ln.A⟩, Ln.A⟩, Ln.ownE rfl (by simp)⟩, Ln.A⟩) (CutL.turned rfl LnB.A (CutL.turned rfl (LnB.rowE (by simp) fun k hk o ho => ?_) CutL.done)))
            obtain rfl : o = 0 := by omega
            simp only [appc]
            by_cases hk2 : k < xs.length + 1
            · rw [if_pos hk2, snoc_old hk2]
            · simp only [List.length_append, List.length_singleton] at hk
              obtain rfl : k = xs.length + 1 := by omega
              rw [if_neg hk2, snoc_new, Nat.sub_self]
              try rfl
      · have hu : u = true := by cases u with
          | true => rfl
          | false => exact (hq (.inr rfl)).elim
        have hur : (s.rg.getD c rg0).urg = false := by cases hx : (s.rg.getD c rg0).urg with
          | false => rfl
          | true => exact (hq (.inl hx)).elim
        have hcn : counts s u c = false := by unfold counts Std.R; rw [hur, hu]; rfl
        rw [hcn, if_neg (by decide)] at hst
        rcases l with _ | ⟨x, xs⟩
        all_goals
          (repeat' ((try (conv => whnf)); first | (with_reducible first | refine FCond.tA ?_ | refine FCond.fA ?_) | ((with_reducible refine FCond.i (fun hq => ?_) (fun hq => ?_)) <;> (try simp only [zA, zE, zD, zJ, zB, zI, Int.not_le, Int.not_lt] at hq)) | (with_reducible first | refine Fits.in64 (by omega) ?_ | refine FIdx.nat (by omega) ?_ | refine FIdx.int (by omega) ?_ | refine FTo.nat (by omega) ?_ | refine FTo.int (by omega) ?_) | ((with_reducible refine Need.mk ?_ ?_); focus exact needA) | (with_reducible refine FApp.grow ?_) | (with_reducible refine FOr.pub ?_)))
          all_goals (try (conv => whnf))
        · (exact ⟨⟨(c + 1, []), ⟨hlt, hst.symm⟩, by show _ < _; simp only; omega, [0, 1], Cut.A, allA⟩⟩)
        · (exact ⟨⟨(c + 1, x :: xs), ⟨hlt, hst.symm⟩, by show _ < _; simp only; omega, [0, 1, 2], Cut.A, allA⟩⟩)
    · obtain rfl : c = s.rg.length := by omega
      have hlC : l = clK s u s.C := hl
      rcases l with _ | ⟨x, xs⟩
      · have hl0 : (clK s u s.C).length = 0 := by rw [← hlC]; rfl
        (repeat' ((try (conv => whnf)); first | (with_reducible first | refine FCond.tA ?_ | refine FCond.fA ?_) | ((with_reducible refine FCond.i (fun hq => ?_) (fun hq => ?_)) <;> (try simp only [zA, zE, zD, zJ, zB, zI, Int.not_le, Int.not_lt] at hq)) | (with_reducible first | refine Fits.in64 (by omega) ?_ | refine FIdx.nat (by omega) ?_ | refine FIdx.int (by omega) ?_ | refine FTo.nat (by omega) ?_ | refine FTo.int (by omega) ?_) | ((with_reducible refine Need.mk ?_ ?_); focus exact needA) | (with_reducible refine FApp.grow ?_) | (with_reducible refine FOr.pub ?_)))
        all_goals (try (conv => whnf))
        refine FLoop.of (ACalls.mono _) (X := Nat × List (List Int × AV)) (fun x => [(9, .ptr 0 0), (64, AI (clK s u s.C).length), (65, AI x.1)]) (fun x => [.box 6 (cMt f s (t + 1) (s.n * (t + 1)) true true (clK s u s.C) 1), .mp 0 x.2]) (fun x => x.1 ≤ (clK s u s.C).length ∧ Part s (t + 1) (s.n * (t + 1)) (clK s u s.C) x.2 x.1) (fun x => (clK s u s.C).length - x.1) (0, [])
          ⟨⟨Nat.zero_le _, part_zero _ _ _ _⟩, [0, 1], Cut.of (Nat.le_of_ble_eq_true rfl) rfl rfl (CutL.turned rfl (LnB.boxN ⟨⟨⟨⟨⟨⟨True.intro, Ln.A⟩, Ln.A⟩, Ln.A⟩, Ln.A⟩, by rw [← hlC]; exact Ln.A⟩, Ln.A⟩) (CutL.turned rfl LnB.A CutL.done)), ⟨Ln.A, Ln.int (by rw [hl0]), Ln.A, True.intro⟩⟩ ?_
        rintro ⟨j, L⟩ ⟨hj, hP⟩
        simp only at hj hP
        have hcl12 := hB.len
        by_cases hlj : j < (clK s u s.C).length
        · have hpl := place_ok f s hs (t + 1) (s.n * (t + 1)) true true (clK s u s.C) hB _ L (fun _ => false) j ⟨hP.nums, hP.len, hP.mat, fun q hq => by have := hP.low q j hq; omega, hlj⟩ (Nat.le_refl _)
          (repeat' ((try (conv => whnf)); first | (with_reducible first | refine FCond.tA ?_ | refine FCond.fA ?_) | ((with_reducible refine FCond.i (fun hq => ?_) (fun hq => ?_)) <;> (try simp only [zA, zE, zD, zJ, zB, zI, Int.not_le, Int.not_lt] at hq)) | (with_reducible first | refine Fits.in64 (by omega) ?_ | refine FIdx.nat (by omega) ?_ | refine FIdx.int (by omega) ?_ | refine FTo.nat (by omega) ?_ | refine FTo.int (by omega) ?_) | ((with_reducible refine Need.mk ?_ ?_); focus exact needA) | (with_reducible refine FApp.grow ?_) | (with_reducible refine FOr.pub ?_)))
          all_goals (try (conv => whnf))
          refine FCall.give [0, 1, 2] [] hpl rfl rfl ⟨⟨_, rfl, trivial, LnB.A⟩, ⟨_, rfl, trivial, LnB.A⟩, ⟨_, rfl, trivial, LnB.rowE (by omega) (fun k hk o ho => by obtain rfl : o = 0 := (by omega); rfl)⟩, True.intro⟩ ⟨Ln.A, Ln.A, Ln.ownE rfl (by omega), True.intro⟩ ?_
          rintro _ _ ⟨b, L', sn', rfl, rfl, hS⟩
          refine ⟨Nat.le_of_ble_eq_true rfl, .inl rfl, ?_⟩
          have hN := part_next hP hS
          (repeat' ((try (conv => whnf)); first | (with_reducible first | refine FCond.tA ?_ | refine FCond.fA ?_) | ((with_reducible refine FCond.i (fun hq => ?_) (fun hq => ?_)) <;> (try simp only [zA, zE, zD, zJ, zB, zI, Int.not_le, Int.not_lt] at hq)) | (with_reducible first | refine Fits.in64 (by omega) ?_ | refine FIdx.nat (by omega) ?_ | refine FIdx.int (by omega) ?_ | refine FTo.nat (by omega) ?_ | refine FTo.int (by omega) ?_) | ((with_reducible refine Need.mk ?_ ?_); focus exact needA) | (with_reducible refine FApp.grow ?_) | (with_reducible refine FOr.pub ?_)))
          all_goals (try (conv => whnf))
          exact ⟨⟨(j + 1, L'), ⟨hlj, hN⟩, by show _ < _; simp only; omega, [0, 1], Cut.A, ⟨Ln.A, Ln.A, Ln.A, True.intro⟩⟩⟩
        · obtain rfl : j = (clK s u s.C).length := by omega
          (repeat' ((try (conv => whnf)); first | (with_reducible first | refine FCond.tA ?_ | refine FCond.fA ?_) | ((with_reducible refine FCond.i (fun hq => ?_) (fun hq => ?_)) <;> (try simp only [zA, zE, zD, zJ, zB, zI, Int.not_le, Int.not_lt] at hq)) | (with_reducible first | refine Fits.in64 (by omega) ?_ | refine FIdx.nat (by omega) ?_ | refine FIdx.int (by omega) ?_ | refine FTo.nat (by omega) ?_ | refine FTo.int (by omega) ?_) | ((with_reducible refine Need.mk ?_ ?_); focus exact needA) | (with_reducible refine FApp.grow ?_) | (with_reducible refine FOr.pub ?_)))
          all_goals (try (conv => whnf))
          exact ⟨⟨.tup 2 (ofL [.ptr 0 0, AI 0]), [.box 6 (cMt f s (t + 1) (s.n * (t + 1)) true true (clK s u s.C) 1), .mp 0 L], [0, 1], Cut.A, Ln.tupN ⟨⟨True.intro, Ln.A⟩, Ln.A⟩, true, true, L, rfl, rfl, part_all hP⟩⟩
      · have hlc : (clK s u s.C).length = xs.length + 1 := by rw [← hlC]; rfl
        (repeat' ((try (conv => whnf)); first | (with_reducible first | refine FCond.tA ?_ | refine FCond.fA ?_) | ((with_reducible refine FCond.i (fun hq => ?_) (fun hq => ?_)) <;> (try simp only [zA, zE, zD, zJ, zB, zI, Int.not_le, Int.not_lt] at hq)) | (with_reducible first | refine Fits.in64 (by omega) ?_ | refine FIdx.nat (by omega) ?_ | refine FIdx.int (by omega) ?_ | refine FTo.nat (by omega) ?_ | refine FTo.int (by omega) ?_) | ((with_reducible refine Need.mk ?_ ?_); focus exact needA) | (with_reducible refine FApp.grow ?_) | (with_reducible refine FOr.pub ?_)))
        all_goals (try (conv => whnf))
        refine FLoop.of (ACalls.mono _) (X := Nat × List (List Int × AV)) (fun x => [(9, .ptr 0 0), (64, AI (clK s u s.C).length), (65, AI x.1)]) (fun x => [.box 6 (cMt f s (t + 1) (s.n * (t + 1)) false false (clK s u s.C) 1), .mp 0 x.2]) (fun x => x.1 ≤ (clK s u s.C).length ∧ Part s (t + 1) (s.n * (t + 1)) (clK s u s.C) x.2 x.1) (fun x => (clK s u s.C).length - x.1) (0, [])
          ⟨⟨Nat.zero_le _, part_zero _ _ _ _⟩, [0, 1], Cut.of (Nat.le_of_ble_eq_true rfl) rfl rfl (CutL.turned rfl (LnB.boxN ⟨⟨⟨⟨⟨⟨True.intro, Ln.A⟩, Ln.A⟩, Ln.A⟩, Ln.A⟩, Ln.pubE (goneB rfl) rfl (Nat.le_refl _) hlc.symm (fun k hk o ho => by rw [← hlC])⟩, Ln.A⟩) (CutL.turned rfl LnB.A CutL.done)), ⟨Ln.A, Ln.int (by rw [hlc]), Ln.A, True.intro⟩⟩ ?_
        rintro ⟨j, L⟩ ⟨hj, hP⟩
        simp only at hj hP
        have hcl12 := hB.len
        by_cases hlj : j < (clK s u s.C).length
        · have hpl := place_ok f s hs (t + 1) (s.n * (t + 1)) false false (clK s u s.C) hB _ L (fun _ => false) j ⟨hP.nums, hP.len, hP.mat, fun q hq => by have := hP.low q j hq; omega, hlj⟩ (Nat.le_refl _)
          (repeat' ((try (conv => whnf)); first | (with_reducible first | refine FCond.tA ?_ | refine FCond.fA ?_) | ((with_reducible refine FCond.i (fun hq => ?_) (fun hq => ?_)) <;> (try simp only [zA, zE, zD, zJ, zB, zI, Int.not_le, Int.not_lt] at hq)) | (with_reducible first | refine Fits.in64 (by omega) ?_ | refine FIdx.nat (by omega) ?_ | refine FIdx.int (by omega) ?_ | refine FTo.nat (by omega) ?_ | refine FTo.int (by omega) ?_) | ((with_reducible refine Need.mk ?_ ?_); focus exact needA) | (with_reducible refine FApp.grow ?_) | (with_reducible refine FOr.pub ?_)))
          all_goals (try (conv => whnf))
          refine FCall.give [0, 1, 2] [] hpl rfl rfl ⟨⟨_, rfl, trivial, LnB.A⟩, ⟨_, rfl, trivial, LnB.A⟩, ⟨_, rfl, trivial, LnB.rowE (by omega) (fun k hk o ho => by obtain rfl : o = 0 := (by omega); rfl)⟩, True.intro⟩ ⟨Ln.A, Ln.A, Ln.ownE rfl (by omega), True.intro⟩ ?_
          rintro _ _ ⟨b, L', sn', rfl, rfl, hS⟩
          refine ⟨Nat.le_of_ble_eq_true rfl, .inl rfl, ?_⟩
          have hN := part_next hP hS
          (repeat' ((try (conv => whnf)); first | (with_reducible first | refine FCond.tA ?_ | refine FCond.fA ?_) | ((with_reducible refine FCond.i (fun hq => ?_) (fun hq => ?_)) <;> (try simp only [zA, zE, zD, zJ, zB, zI, Int.not_le, Int.not_lt] at hq)) | (with_reducible first | refine Fits.in64 (by omega) ?_ | refine FIdx.nat (by omega) ?_ | refine FIdx.int (by omega) ?_ | refine FTo.nat (by omega) ?_ | refine FTo.int (by omega) ?_) | ((with_reducible refine Need.mk ?_ ?_); focus exact needA) | (with_reducible refine FApp.grow ?_) | (with_reducible refine FOr.pub ?_)))
          all_goals (try (conv => whnf))
          exact ⟨⟨(j + 1, L'), ⟨hlj, hN⟩, by show _ < _; simp only; omega, [0, 1], Cut.A, ⟨Ln.A, Ln.A, Ln.A, True.intro⟩⟩⟩
        · obtain rfl : j = (clK s u s.C).length := by omega
          (repeat' ((try (conv => whnf)); first | (with_reducible first | refine FCond.tA ?_ | refine FCond.fA ?_) | ((with_reducible refine FCond.i (fun hq => ?_) (fun hq => ?_)) <;> (try simp only [zA, zE, zD, zJ, zB, zI, Int.not_le, Int.not_lt] at hq)) | (with_reducible first | refine Fits.in64 (by omega) ?_ | refine FIdx.nat (by omega) ?_ | refine FIdx.int (by omega) ?_ | refine FTo.nat (by omega) ?_ | refine FTo.int (by omega) ?_) | ((with_reducible refine Need.mk ?_ ?_); focus exact needA) | (with_reducible refine FApp.grow ?_) | (with_reducible refine FOr.pub ?_)))
          all_goals (try (conv => whnf))
          exact ⟨⟨.tup 2 (ofL [.ptr 0 0, AI 0]), [.box 6 (cMt f s (t + 1) (s.n * (t + 1)) false false (clK s u s.C) 1), .mp 0 L], [0, 1], Cut.A, Ln.tupN ⟨⟨True.intro, Ln.A⟩, Ln.A⟩, false, false, L, rfl, rfl, part_all hP⟩⟩
end Go.Proofs.Ytnghcfmloljagaa

namespace Go.Proofs.Ytnghcfmloljagaa
open Go.RowKit

def upT (s : Std) (t : Nat) (p : Nat × Nat) : Prop := p.1 < s.n ∧ p.2 ≤ t
/-- How many calls of a set count. -/
def cntM (s : Std) (u : Bool) (S : Nat) : Nat := cntB (fun c => S.testBit c && counts s u c) s.C
structure IsMost (s : Std) (t : Nat) (u : Bool) (k : Nat) : Prop where
  is : ∃ S a, IsM s (upT s t) S a ∧ cntM s u S = k
  le : ∀ S a, IsM s (upT s t) S a → cntM s u S ≤ k
theorem isMost_eq {s : Std} {t : Nat} {u : Bool} {k k' : Nat} (h : IsMost s t u k) (h' : IsMost s t u k') : k = k' := by
  obtain ⟨S, a, h1, h2⟩ := h.is
  obtain ⟨S', a', h3, h4⟩ := h'.is
  have := h.le S' a' h3
  have := h'.le S a h1
  omega
open Classical in
noncomputable def mostN (s : Std) (t : Nat) (u : Bool) : Nat := if h : ∃ k, IsMost s t u k then h.choose else 0
theorem mostN_eq {s : Std} {t : Nat} {u : Bool} {k : Nat} (h : IsMost s t u k) : mostN s t u = k := by
  unfold mostN
  rw [dif_pos ⟨k, h⟩]
  exact isMost_eq (Exists.choose_spec ⟨k, h⟩) h
theorem range_getD {α : Type} (l : List α) (d : α) : (List.range l.length).map (fun j => l.getD j d) = l := by
  apply List.ext_getElem
  · simp
  · intro i h1 h2
    simp [List.getD, List.getElem?_eq_getElem h2]
theorem filter_idx (l : List Nat) (P : Nat → Bool) : (l.filter P).length = ((List.range l.length).filter fun j => P (l.getD j 0)).length := by
  have h := congrArg (fun x => (x.filter P).length) (range_getD l 0)
  simp only [List.filter_map, List.length_map] at h
  exact h.symm
theorem clK_nodup (s : Std) (u : Bool) (c : Nat) : (clK s u c).Nodup := by
  unfold clK
  exact List.Nodup.sublist List.filter_sublist List.nodup_range
theorem getD_inj {l : List Nat} (h : l.Nodup) {i j : Nat} (hi : i < l.length) (hj : j < l.length) (e : l.getD i 0 = l.getD j 0) : i = j := by
  simp only [List.getD, List.getElem?_eq_getElem hi, List.getElem?_eq_getElem hj, Option.getD_some] at e
  exact (List.getElem_inj h).1 e
theorem cntM_idx (s : Std) (u : Bool) (S : Nat) : cntM s u S = ((List.range (clK s u s.C).length).filter fun j => S.testBit ((clK s u s.C).getD j 0)).length := by
  unfold cntM
  rw [cntB_filter, ← filter_idx]
  unfold clK
  rw [List.filter_filter]
theorem clK_has {s : Std} {u : Bool} {c : Nat} (hc : c < s.C) (h : counts s u c = true) : ∃ j, j < (clK s u s.C).length ∧ (clK s u s.C).getD j 0 = c := by
  have : c ∈ clK s u s.C := by unfold clK; simp [hc, h]
  obtain ⟨j, hj, e⟩ := List.getElem_of_mem this
  exact ⟨j, hj, by simp [List.getD, List.getElem?_eq_getElem hj, e]⟩
theorem clK_counts {s : Std} {u : Bool} {j : Nat} (h : j < (clK s u s.C).length) : counts s u ((clK s u s.C).getD j 0) = true := by
  have : (clK s u s.C).getD j 0 ∈ clK s u s.C := by
    simp only [List.getD, List.getElem?_eq_getElem h, Option.getD_some]
    exact List.getElem_mem h
  unfold clK at this ⊢
  exact (List.mem_filter.1 this).2
section
variable {s : Std} {t : Nat} {u : Bool} {L : List (List Int × AV)}
theorem len_list {N : Nat} (h : Len N L) : L.length = ((List.range N).filter fun p => (lk L p).isSome).length := by
  unfold Len at h
  rw [h, cntB_filter]
open Classical in
theorem full_le (h : Full s (t + 1) (s.n * (t + 1)) (clK s u s.C) L) {S : Nat} {a : Asg} (ha : IsM s (upT s t) S a) : cntM s u S ≤ L.length := by
  obtain ⟨R, Z, hZ, hf⟩ := h.full
  have hnd := clK_nodup s u s.C
  rw [cntM_idx, len_list h.len]
  let φ : Nat → Nat := fun j => if R j then (match a ((clK s u s.C).getD j 0) with | some p => p.1 * (t + 1) + p.2 | none => 0) else (if hx : ∃ p, lk L p = some j then hx.choose else 0)
  have hJ : ∀ j, j ∈ (List.range (clK s u s.C).length).filter (fun j => S.testBit ((clK s u s.C).getD j 0)) → j < (clK s u s.C).length ∧ ∃ p, a ((clK s u s.C).getD j 0) = some p ∧ p.1 < s.n ∧ p.2 < t + 1 ∧ canA s p.1 p.2 ((clK s u s.C).getD j 0) = true := fun j hj => by
    simp only [List.mem_filter, List.mem_range] at hj
    obtain ⟨p, hp⟩ := isM_get ha (clK_mem hj.1) hj.2
    obtain ⟨⟨h1, h2⟩, h3⟩ := ha.can _ p hp
    exact ⟨hj.1, p, hp, h1, by omega, h3⟩
  have hR : ∀ j, j ∈ (List.range (clK s u s.C).length).filter (fun j => S.testBit ((clK s u s.C).getD j 0)) → R j → Z (φ j) ∧ ∃ p, a ((clK s u s.C).getD j 0) = some p ∧ sp (t + 1) (φ j) = p ∧ φ j < s.n * (t + 1) := fun j hj hRj => by
    obtain ⟨h1, p, h2, h3, h4, h5⟩ := hJ j hj
    have e : φ j = p.1 * (t + 1) + p.2 := by simp only [φ]; rw [if_pos hRj, h2]
    have e2 : sp (t + 1) (φ j) = p := by rw [e]; exact sp_mul h4
    have hlt : φ j < s.n * (t + 1) := by
      rw [e]
      have : (p.1 + 1) * (t + 1) ≤ s.n * (t + 1) := Nat.mul_le_mul_right _ h3
      rw [Nat.add_mul, Nat.one_mul] at this; omega
    refine ⟨hZ.out j (φ j) hRj hlt ?_, p, h2, e2, hlt⟩
    unfold adjS
    rw [e2]; exact h5
  have hN : ∀ j, j ∈ (List.range (clK s u s.C).length).filter (fun j => S.testBit ((clK s u s.C).getD j 0)) → ¬ R j → lk L (φ j) = some j ∧ ¬ Z (φ j) := fun j hj hRj => by
    obtain ⟨h1, _⟩ := hJ j hj
    have hx := (hf j h1).resolve_left hRj
    have e : φ j = hx.choose := by simp only [φ]; rw [if_neg hRj, dif_pos hx]
    have e2 := hx.choose_spec
    rw [← e] at e2
    refine ⟨e2, fun hz => ?_⟩
    obtain ⟨c, hc, e3⟩ := hZ.back _ hz
    rw [e2] at e3
    injection e3 with e3
    subst e3
    exact hRj hc
  rw [← List.length_map (f := φ)]
  refine pig (nodup_map (List.Nodup.sublist List.filter_sublist List.nodup_range) (fun x hx y hy e => ?_)) (fun p hp => ?_)
  · by_cases hRx : R x <;> by_cases hRy : R y
    · obtain ⟨_, p, a1, a2, _⟩ := hR x hx hRx
      obtain ⟨_, q, b1, b2, _⟩ := hR y hy hRy
      rw [e, b2] at a2
      subst a2
      exact getD_inj hnd (hJ x hx).1 (hJ y hy).1 (ha.inj _ _ _ a1 b1)
    · exact ((hN y hy hRy).2 (e ▸ (hR x hx hRx).1)).elim
    · exact ((hN x hx hRx).2 (e ▸ (hR y hy hRy).1)).elim
    · have h1 := (hN x hx hRx).1
      rw [e, (hN y hy hRy).1] at h1
      injection h1 with h1
      exact h1.symm
  · obtain ⟨j, hj, rfl⟩ := List.mem_map.1 hp
    simp only [List.mem_filter, List.mem_range]
    by_cases hRj : R j
    · obtain ⟨h1, p, _, _, h4⟩ := hR j hj hRj
      obtain ⟨c, _, e⟩ := hZ.back _ h1
      exact ⟨h4, by rw [e]; rfl⟩
    · have e := (hN j hj hRj).1
      exact ⟨(h.mat.ok _ _ e).1, by rw [e]; rfl⟩
open Classical in
theorem full_is (h : Full s (t + 1) (s.n * (t + 1)) (clK s u s.C) L) : ∃ S a, IsM s (upT s t) S a ∧ cntM s u S = L.length := by
  have hnd := clK_nodup s u s.C
  let E : Nat → Nat → Nat → Prop := fun c p j => lk L p = some j ∧ (clK s u s.C).getD j 0 = c
  let a : Asg := fun c => if hx : ∃ p j, E c p j then some (sp (t + 1) hx.choose) else none
  have ha : ∀ c q, a c = some q → ∃ p j, E c p j ∧ q = sp (t + 1) p := fun c q hq => by
    simp only [a] at hq
    split at hq
    · rename_i hx
      injection hq with hq
      obtain ⟨j, hj⟩ := hx.choose_spec
      exact ⟨hx.choose, j, hj, hq.symm⟩
    · cases hq
  have hlt : ∀ c q, a c = some q → c < s.C := fun c q hq => by
    obtain ⟨p, j, ⟨h1, h2⟩, _⟩ := ha c q hq
    rw [← h2]; exact clK_mem (h.mat.ok p j h1).2.1
  have hM : IsM s (upT s t) (maskOf (fun c => (a c).isSome) s.C) a := by
    refine ⟨fun c => ?_, fun c q hq => ?_, fun c c' q h1 h2 => ?_⟩
    · rw [test_maskOf]
      cases hc : a c with
      | none => simp
      | some q => simp [hlt c q hc]
    · obtain ⟨p, j, ⟨h1, h2⟩, rfl⟩ := ha c q hq
      obtain ⟨g1, g2, g3⟩ := h.mat.ok p j h1
      have := (Dk_all (n := s.n) (T := t + 1) (sp (t + 1) p)).1 ⟨p, g1, rfl⟩
      refine ⟨⟨this.1, by omega⟩, ?_⟩
      unfold adjS at g3
      rw [h2] at g3; exact g3
    · obtain ⟨p, j, ⟨e1, e2⟩, rfl⟩ := ha c q h1
      obtain ⟨p', j', ⟨e3, e4⟩, e5⟩ := ha c' _ h2
      have := sp_inj _ _ e5
      subst this
      rw [e1] at e3
      injection e3 with e3
      subst e3
      exact e2.symm.trans e4
  refine ⟨_, a, hM, Nat.le_antisymm (full_le h hM) ?_⟩
  rw [cntM_idx, len_list h.len]
  rw [← List.length_map (f := fun p => (lk L p).getD 0)]
  have hp : ∀ p, p ∈ (List.range (s.n * (t + 1))).filter (fun p => (lk L p).isSome) → ∃ j, lk L p = some j := fun p hp => by
    simp only [List.mem_filter] at hp
    exact Option.isSome_iff_exists.1 hp.2
  refine pig (nodup_map (List.Nodup.sublist List.filter_sublist List.nodup_range) (fun x hx y hy e => ?_)) (fun j hj => ?_)
  · obtain ⟨j, e1⟩ := hp x hx
    obtain ⟨j', e2⟩ := hp y hy
    rw [e1, e2] at e
    simp only [Option.getD_some] at e
    subst e
    exact h.mat.inj x y j e1 e2
  · obtain ⟨p, hpm, rfl⟩ := List.mem_map.1 hj
    obtain ⟨j, e1⟩ := hp p hpm
    rw [e1]
    simp only [Option.getD_some, List.mem_filter, List.mem_range]
    have g := h.mat.ok p j e1
    refine ⟨g.2.1, ?_⟩
    rw [test_maskOf, decide_eq_true (clK_mem g.2.1), Bool.true_and]
    have hx : ∃ p j', E ((clK s u s.C).getD j 0) p j' := ⟨p, j, e1, rfl⟩
    simp only [a]
    rw [dif_pos hx]; rfl
theorem full_most (h : Full s (t + 1) (s.n * (t + 1)) (clK s u s.C) L) : IsMost s t u L.length := ⟨full_is h, fun _ _ ha => full_le h ha⟩
end
/-- What Most returns. -/
noncomputable def mostE (s : Std) (t : Int) (u : Bool) : Int × Int := if s.ok then (if 0 ≤ t ∧ t < s.times then ((mostN s t.toNat u : Nat), 0) else (0, 1)) else (0, 60)
def checkT (s : Std) (t : Int) : Int := if s.ok then (if 0 ≤ t ∧ t < s.times then 0 else 1) else 60
noncomputable abbrev mostV (s : Std) (t : Int) (u : Bool) : AV := .tup 2 (ofL [AI (mostE s t u).1, AI (mostE s t u).2])
set_option maxHeartbeats 4000000
set_option maxRecDepth 100000
theorem most_yes (f : StF) (s : Std) (hn : NearS s) (hk : s.ok = true) (t : Nat) (ht : t < s.T) (u : Bool) : ACall Try.prog 19 [aStd f s, AI t, .bool u] [] (fun r h => r = .tup 2 (ofL [AI (mostN s t u : Nat), AI 0]) ∧ h = []) := by
  (refine fcall_of mixed Try.func19 rfl (by decide) (hs := {}) ?k (ac := ?ac) ?c (rs := ?rs) ?r ?l ?H; (case k => kernel_rfl); (case c => (conv => (lhs; cbv))); (case r => (conv => (lhs; cbv))); (case l => exact Nat.le_of_ble_eq_true rfl))
  (repeat' ((try (conv => whnf)); first | (with_reducible first | refine FCond.tA ?_ | refine FCond.fA ?_) | ((with_reducible refine FCond.i (fun hq => ?_) (fun hq => ?_)) <;> (try simp only [zA, zE, zD, zJ, zB, zI, Int.not_le, Int.not_lt] at hq)) | (with_reducible first | refine Fits.in64 (by omega) ?_ | refine FIdx.nat (by omega) ?_ | refine FIdx.int (by omega) ?_ | refine FTo.nat (by omega) ?_ | refine FTo.int (by omega) ?_) | ((with_reducible refine Need.mk ?_ ?_); focus exact needA) | (with_reducible refine FApp.grow ?_) | (with_reducible refine FOr.pub ?_)))
  all_goals (try (conv => whnf))
  refine FCall.give [] [] (open_yes f s hn hk t ht u) rfl rfl True.intro ⟨Ln.A, Ln.A, Ln.A, True.intro⟩ ?_
  rintro _ _ ⟨zc, ec, L, rfl, rfl, hF⟩
  refine ⟨Nat.le_of_ble_eq_true rfl, .inl rfl, ?_⟩
  have hm := mostN_eq (full_most hF)
  (repeat' ((try (conv => whnf)); first | (with_reducible first | refine FCond.tA ?_ | refine FCond.fA ?_) | ((with_reducible refine FCond.i (fun hq => ?_) (fun hq => ?_)) <;> (try simp only [zA, zE, zD, zJ, zB, zI, Int.not_le, Int.not_lt] at hq)) | (with_reducible first | refine Fits.in64 (by omega) ?_ | refine FIdx.nat (by omega) ?_ | refine FIdx.int (by omega) ?_ | refine FTo.nat (by omega) ?_ | refine FTo.int (by omega) ?_) | ((with_reducible refine Need.mk ?_ ?_); focus exact needA) | (with_reducible refine FApp.grow ?_) | (with_reducible refine FOr.pub ?_)))
  all_goals (try (conv => whnf))
  (refine ⟨⟨_, [], [], Cut.nil _, Ln.sameB _ rfl, ?_, rfl⟩⟩)
  rw [hm]; rfl
theorem open_no (f : StF) (s : Std) (hn : NearS s) (t : Int) (u : Bool) (h : checkT s t ≠ 0) : ACall Try.prog 42 [aStd f s, AI t, .bool u] [] (fun r h => r = .tup 2 (ofL [.nilp, AI (checkT s t)]) ∧ h = []) := by
  have cC := check_ok f s hn
  (refine fcall_of mixed Try.func42 rfl (by decide) (hs := { alt := [(6, ⟨[0, 1, 2, 3, 4], (.alt 5 [] (.alt 6 [7] (.alt 8 [9] .leaf .leaf) .leaf) (.alt 6 [] (.alt 5 [7] (.alt 8 [9] .leaf .leaf) .leaf) .leaf)), [(5, [0]), (6, [0, 2])]⟩)] }) ?k (ac := ?ac) ?c (rs := ?rs) ?r ?l ?H; (case k => kernel_rfl); (case c => (conv => (lhs; cbv))); (case r => (conv => (lhs; cbv))); (case l => exact Nat.le_of_ble_eq_true rfl))
  cases hk : s.ok
  · rw [check_60 hk] at cC
    (repeat' ((try (conv => whnf)); first | (with_reducible first | refine FCond.tA ?_ | refine FCond.fA ?_) | ((with_reducible refine FCond.i (fun hq => ?_) (fun hq => ?_)) <;> (try simp only [zA, zE, zD, zJ, zB, zI, Int.not_le, Int.not_lt] at hq)) | (with_reducible first | refine Fits.in64 (by omega) ?_ | refine FIdx.nat (by omega) ?_ | refine FIdx.int (by omega) ?_ | refine FTo.nat (by omega) ?_ | refine FTo.int (by omega) ?_) | ((with_reducible refine Need.mk ?_ ?_); focus exact needA) | (with_reducible refine FApp.grow ?_) | (refine FCall.pure (cC) ⟨Ln.sameB _ rfl, True.intro⟩ rfl ?_) | (with_reducible refine FOr.pub ?_)))
    all_goals (try (conv => whnf))
    (refine ⟨⟨_, [], [], Cut.nil _, Ln.sameB _ rfl, ?_, rfl⟩⟩)
    unfold checkT; rw [hk]; rfl
  · rw [check_ok' hk] at cC
    have ht : ¬ (0 ≤ t ∧ t < s.times) := fun hh => h (by unfold checkT; rw [hk, if_pos rfl, if_pos hh])
    have e : checkT s t = 1 := by unfold checkT; rw [hk, if_pos rfl, if_neg ht]
    by_cases h0 : t < 0
    · (repeat' ((try (conv => whnf)); first | (with_reducible first | refine FCond.tA ?_ | refine FCond.fA ?_) | ((with_reducible refine FCond.i (fun hq => ?_) (fun hq => ?_)) <;> (try simp only [zA, zE, zD, zJ, zB, zI, Int.not_le, Int.not_lt] at hq)) | (with_reducible first | refine Fits.in64 (by omega) ?_ | refine FIdx.nat (by omega) ?_ | refine FIdx.int (by omega) ?_ | refine FTo.nat (by omega) ?_ | refine FTo.int (by omega) ?_) | ((with_reducible refine Need.mk ?_ ?_); focus exact needA) | (with_reducible refine FApp.grow ?_) | (refine FCall.pure (cC) ⟨Ln.sameB _ rfl, True.intro⟩ rfl ?_) | (with_reducible refine FOr.pub ?_)))
      all_goals (try (conv => whnf))
      (refine ⟨⟨_, [], [], Cut.nil _, Ln.sameB _ rfl, ?_, rfl⟩⟩)
      rw [e]; rfl
    · (repeat' ((try (conv => whnf)); first | (with_reducible first | refine FCond.tA ?_ | refine FCond.fA ?_) | ((with_reducible refine FCond.i (fun hq => ?_) (fun hq => ?_)) <;> (try simp only [zA, zE, zD, zJ, zB, zI, Int.not_le, Int.not_lt] at hq)) | (with_reducible first | refine Fits.in64 (by omega) ?_ | refine FIdx.nat (by omega) ?_ | refine FIdx.int (by omega) ?_ | refine FTo.nat (by omega) ?_ | refine FTo.int (by omega) ?_) | ((with_reducible refine Need.mk ?_ ?_); focus exact needA) | (with_reducible refine FApp.grow ?_) | (refine FCall.pure (cC) ⟨Ln.sameB _ rfl, True.intro⟩ rfl ?_) | (with_reducible refine FOr.pub ?_)))
      all_goals (try (conv => whnf))
      (refine ⟨⟨_, [], [], Cut.nil _, Ln.sameB _ rfl, ?_, rfl⟩⟩)
      rw [e]; rfl
theorem most_no (f : StF) (s : Std) (hn : NearS s) (t : Int) (u : Bool) (h : checkT s t ≠ 0) : ACall Try.prog 19 [aStd f s, AI t, .bool u] [] (fun r h => r = .tup 2 (ofL [AI 0, AI (checkT s t)]) ∧ h = []) := by
  (refine fcall_of mixed Try.func19 rfl (by decide) (hs := {}) ?k (ac := ?ac) ?c (rs := ?rs) ?r ?l ?H; (case k => kernel_rfl); (case c => (conv => (lhs; cbv))); (case r => (conv => (lhs; cbv))); (case l => exact Nat.le_of_ble_eq_true rfl))
  (repeat' ((try (conv => whnf)); first | (with_reducible first | refine FCond.tA ?_ | refine FCond.fA ?_) | ((with_reducible refine FCond.i (fun hq => ?_) (fun hq => ?_)) <;> (try simp only [zA, zE, zD, zJ, zB, zI, Int.not_le, Int.not_lt] at hq)) | (with_reducible first | refine Fits.in64 (by omega) ?_ | refine FIdx.nat (by omega) ?_ | refine FIdx.int (by omega) ?_ | refine FTo.nat (by omega) ?_ | refine FTo.int (by omega) ?_) | ((with_reducible refine Need.mk ?_ ?_); focus exact needA) | (with_reducible refine FApp.grow ?_) | (refine FCall.pure ((open_no f s hn t u h)) ⟨Ln.sameB _ rfl, Ln.sameB _ rfl, Ln.sameB _ rfl, True.intro⟩ rfl ?_) | (with_reducible refine FOr.pub ?_)))
  all_goals (try (conv => whnf))
  all_goals (refine ⟨⟨_, [], [], Cut.nil _, Ln.sameB _ rfl, ?_, rfl⟩⟩)
  all_goals rfl
theorem most_ok (f : StF) (s : Std) (hn : NearS s) (t : Int) (u : Bool) : ACall Try.prog 19 [aStd f s, AI t, .bool u] [] (fun r h => r = mostV s t u ∧ h = []) := by
  by_cases h : checkT s t = 0
  · unfold checkT at h
    by_cases hk : s.ok = true
    · rw [if_pos hk] at h
      by_cases ht : 0 ≤ t ∧ t < s.times
      · have hs := std_d hk
        have tt := hs.t
        have := most_yes f s hn hk t.toNat (by omega) u
        rw [Int.toNat_of_nonneg ht.1] at this
        unfold mostV mostE
        rw [if_pos hk, if_pos ht]
        exact this
      · rw [if_neg ht] at h; cases h
    · rw [if_neg hk] at h; cases h
  · have := most_no f s hn t u h
    have e : mostE s t u = (0, checkT s t) := by
      unfold mostE checkT at *
      by_cases hk : s.ok = true
      · rw [if_pos hk] at h ⊢
        by_cases ht : 0 ≤ t ∧ t < s.times
        · rw [if_pos ht] at h; exact (h rfl).elim
        · rw [if_pos hk, if_neg ht, if_neg ht]
      · rw [if_neg hk, if_neg hk]
    unfold mostV
    rw [e]; exact this
end Go.Proofs.Ytnghcfmloljagaa

namespace Go.Proofs.Ytnghcfmloljagaa
open Go.RowKit

def al (s : Std) : Std := { s with rg := s.rg.filter (·.urg) }
theorem al_ok {s : Std} (h : s.ok = true) : (al s).ok = true := by
  unfold Std.ok Std.head at h ⊢
  simp only [Bool.and_eq_true, decide_eq_true_eq, List.all_eq_true] at h ⊢
  obtain ⟨⟨⟨⟨a, b⟩, c⟩, d⟩, e⟩ := h
  refine ⟨⟨⟨⟨a, b⟩, ?_⟩, d⟩, fun x hx => e x (List.mem_filter.1 hx).1⟩
  have : (al s).rg.length ≤ s.rg.length := List.length_filter_le _ _
  omega
theorem counts_true (s : Std) (c : Nat) : counts s true c = (s.R c).urg := by unfold counts; simp
theorem al_rg (s : Std) : (al s).rg = (clK s true s.C).map s.R := by
  unfold clK al
  have h : s.rg = (List.range s.C).map s.R := (range_getD s.rg rg0).symm
  have e : (counts s true) = (fun c => (s.R c).urg) := funext (counts_true s)
  rw [e]
  show s.rg.filter (·.urg) = _
  rw [h, List.filter_map]
  rfl
theorem al_C (s : Std) : (al s).C = (clK s true s.C).length := by
  have := congrArg List.length (al_rg s)
  simpa [Std.C] using this
theorem al_R {s : Std} {j : Nat} (hj : j < (al s).C) : (al s).R j = s.R ((clK s true s.C).getD j 0) := by
  have hj' : j < (clK s true s.C).length := by rw [← al_C]; exact hj
  unfold Std.R
  rw [al_rg]
  simp only [List.getD, List.getElem?_map, List.getElem?_eq_getElem hj', Option.map_some, Option.getD_some]
  rfl
theorem al_can {s : Std} {i j : Nat} {t : Int} (hj : j < (al s).C) : canA (al s) i t j = canA s i t ((clK s true s.C).getD j 0) := by
  unfold canA
  rw [al_R hj]; rfl
/-- The urgent part of a sum. -/
def sumI (g : Nat → Int) : Nat → Int
  | 0 => 0
  | k + 1 => sumI g k + g k
theorem sumW_u (f : Nat → Wt) : ∀ k, (sumW f k).u = sumI (fun c => (f c).u) k
  | 0 => rfl
  | k + 1 => by simp only [sumW, sumI, add_u]; rw [sumW_u f k]
theorem sumW_o (f : Nat → Wt) : ∀ k, (sumW f k).o = sumI (fun c => (f c).o) k
  | 0 => rfl
  | k + 1 => by simp only [sumW, sumI, add_o]; rw [sumW_o f k]
theorem sumI_congr {f g : Nat → Int} : ∀ {k : Nat}, (∀ c, c < k → f c = g c) → sumI f k = sumI g k
  | 0, _ => rfl
  | k + 1, h => by simp only [sumI]; rw [sumI_congr (fun c hc => h c (by omega)), h k (by omega)]
theorem sumI_zero : ∀ k : Nat, sumI (fun _ => 0) k = 0
  | 0 => rfl
  | k + 1 => by simp only [sumI]; rw [sumI_zero k]; rfl
/-- A sum over those that count is the sum over all, if the others give nothing. -/
theorem sumI_clK {s : Std} {u : Bool} {g : Nat → Int} : ∀ {C : Nat}, (∀ c, c < C → counts s u c = false → g c = 0) → sumI (fun j => g ((clK s u C).getD j 0)) (clK s u C).length = sumI g C
  | 0, _ => rfl
  | C + 1, h => by
    have ih := sumI_clK (s := s) (u := u) (g := g) (C := C) (fun c hc => h c (by omega))
    rw [clK_succ]
    cases hc : counts s u C
    · rw [if_neg (by decide), ih]
      simp only [sumI]
      rw [h C (by omega) hc]; omega
    · rw [if_pos rfl, List.length_append, List.length_singleton]
      simp only [sumI]
      rw [show (clK s u C ++ [C]).getD (clK s u C).length 0 = C by simp [List.getD], ← ih]
      congr 1
      refine sumI_congr fun j hj => ?_
      congr 1
      simp [List.getD, List.getElem?_append_left hj]
theorem w_urg {r : Rng} (h : r.urg = true) (t : Int) : (r.w t).u = t - r.at_ ∧ (r.w t).o = 0 := by unfold Rng.w; rw [if_pos h]; exact ⟨rfl, rfl⟩
theorem w_oth {r : Rng} (h : r.urg = false) (t : Int) : (r.w t).u = 0 ∧ (r.w t).o = t - r.at_ := by unfold Rng.w; rw [if_neg (by rw [h]; decide)]; exact ⟨rfl, rfl⟩
theorem R_urg {s : Std} {j : Nat} (hj : j < (al s).C) : ((al s).R j).urg = true := by
  rw [al_R hj, ← counts_true]
  exact clK_counts (by rw [← al_C]; exact hj)
/-- What a way to answer is for the emergencies. -/
def toAl (s : Std) (a : Asg) : Asg := fun j => if j < (al s).C then a ((clK s true s.C).getD j 0) else none
theorem toAl_isM {s : Std} {D : Nat × Nat → Prop} {S : Nat} {a : Asg} (h : IsM s D S a) : IsM (al s) D (maskOf (fun j => (toAl s a j).isSome) (al s).C) (toAl s a) := by
  have hlt : ∀ j p, toAl s a j = some p → j < (al s).C ∧ a ((clK s true s.C).getD j 0) = some p := fun j p hp => by
    unfold toAl at hp
    split at hp
    · rename_i hj; exact ⟨hj, hp⟩
    · cases hp
  refine ⟨fun j => ?_, fun j p hp => ?_, fun j j' p h1 h2 => ?_⟩
  · rw [test_maskOf]
    cases hx : toAl s a j with
    | none => simp
    | some p => simp [(hlt j p hx).1]
  · obtain ⟨hj, hp⟩ := hlt j p hp
    obtain ⟨a1, a2⟩ := h.can _ p hp
    exact ⟨a1, by rw [al_can hj]; exact a2⟩
  · obtain ⟨a1, a2⟩ := hlt j p h1
    obtain ⟨b1, b2⟩ := hlt j' p h2
    rw [al_C] at a1 b1
    exact getD_inj (clK_nodup s true s.C) a1 b1 (h.inj _ _ p a2 b2)
theorem total_u {s : Std} {a : Asg} : (total (al s) (toAl s a)).u = (total s a).u := by
  unfold total
  rw [sumW_u, sumW_u]
  refine Eq.trans ?_ (sumI_clK (s := s) (u := true) fun c hc h => ?_)
  · rw [al_C]
    refine sumI_congr fun j hj => ?_
    have hj' : j < (al s).C := by rw [al_C]; exact hj
    unfold toAl
    rw [if_pos hj', al_R hj']
    rfl
  · rw [counts_true] at h
    cases a c with
    | none => exact (w_oth h _).1
    | some p => exact (w_oth h _).1
theorem total_o {s : Std} {a : Asg} : (total (al s) a).o = 0 := by
  unfold total
  rw [sumW_o, ← sumI_zero (al s).C]
  refine sumI_congr fun j hj => ?_
  cases a j with
  | none => exact (w_urg (R_urg hj) _).2
  | some p => exact (w_urg (R_urg hj) _).2
open Classical in
/-- And the other way round. -/
noncomputable def ofAl (s : Std) (b : Asg) : Asg := fun c => if h : ∃ j, j < (al s).C ∧ (clK s true s.C).getD j 0 = c then b h.choose else none
theorem ofAl_get {s : Std} {b : Asg} {c : Nat} {p : Nat × Nat} (h : ofAl s b c = some p) : ∃ j, j < (al s).C ∧ (clK s true s.C).getD j 0 = c ∧ b j = some p := by
  unfold ofAl at h
  split at h
  · rename_i hx
    exact ⟨hx.choose, hx.choose_spec.1, hx.choose_spec.2, h⟩
  · cases h
theorem ofAl_isM {s : Std} {D : Nat × Nat → Prop} {S : Nat} {b : Asg} (h : IsM (al s) D S b) : IsM s D (maskOf (fun c => (ofAl s b c).isSome) s.C) (ofAl s b) := by
  have hlt : ∀ c p, ofAl s b c = some p → c < s.C := fun c p hp => by
    obtain ⟨j, h1, h2, _⟩ := ofAl_get hp
    rw [← h2]; exact clK_mem (by rw [← al_C]; exact h1)
  refine ⟨fun c => ?_, fun c p hp => ?_, fun c c' p h1 h2 => ?_⟩
  · rw [test_maskOf]
    cases hx : ofAl s b c with
    | none => simp
    | some p => simp [hlt c p hx]
  · obtain ⟨j, h1, h2, h3⟩ := ofAl_get hp
    obtain ⟨a1, a2⟩ := h.can j p h3
    exact ⟨a1, by rw [al_can h1, h2] at a2; exact a2⟩
  · obtain ⟨j, a1, a2, a3⟩ := ofAl_get h1
    obtain ⟨j', b1, b2, b3⟩ := ofAl_get h2
    have := h.inj j j' p a3 b3
    subst this
    exact a2.symm.trans b2
theorem toAl_ofAl {s : Std} {D : Nat × Nat → Prop} {S : Nat} {b : Asg} (h : IsM (al s) D S b) : toAl s (ofAl s b) = b := by
  funext j
  unfold toAl
  by_cases hj : j < (al s).C
  · rw [if_pos hj]
    unfold ofAl
    have hx : ∃ j', j' < (al s).C ∧ (clK s true s.C).getD j' 0 = (clK s true s.C).getD j 0 := ⟨j, hj, rfl⟩
    rw [dif_pos hx]
    have e := hx.choose_spec
    rw [getD_inj (clK_nodup s true s.C) (by rw [← al_C]; exact e.1) (by rw [← al_C]; exact hj) e.2]
  · rw [if_neg hj]
    exact ((h.dom j).2 (fun hh => hj hh.1)).symm
/-- THE OTHER CALLS DO NOT COUNT. -/
theorem best_alone (s : Std) : bestW (al s) = ⟨(bestW s).u, 0⟩ := by
  obtain ⟨⟨S, h1⟩, h2, h3⟩ := best_ok s
  obtain ⟨⟨S', g1⟩, g2, g3⟩ := best_ok (al s)
  have hD : AllD (al s) = AllD s := rfl
  rw [hD] at g1 g3
  have a1 := g3 _ _ (toAl_isM h1)
  have a2 := h3 _ _ (ofAl_isM g1)
  have e1 : (total (al s) (toAl s (bestA s))).u = (bestW s).u := by rw [total_u, h2]
  have e2 : (total s (ofAl s (bestA (al s)))).u = (bestW (al s)).u := by rw [← total_u, toAl_ofAl g1, g2]
  have e3 : (bestW (al s)).o = 0 := by rw [← g2]; exact total_o
  have e4 : (total (al s) (toAl s (bestA s))).o = 0 := total_o
  rw [nlt_iff] at a1 a2
  refine Wt.ext' ?_ e3
  show (bestW (al s)).u = (bestW s).u
  omega
end Go.Proofs.Ytnghcfmloljagaa
