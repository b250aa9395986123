/- Secrets: span, Range, safe, Safe of the program. / Secrets: OnesCount of small sets, Compare, Or. / Secrets: covers, price, lone of the program. -/
import Derived.Test.YtlffjnmbpoemnaaBk9
import Derived.Test.YtlffjnmbpoemnaaBk10
import Derived.Test.YtlffjnmbpoemnaaBk11
import Derived.Test.YtlffjnmbpoemnaaBk12
import Derived.Test.YtlffjnmbpoemnaaBk13
import Derived.Test.YtlffjnmbpoemnaaBk14
set_option linter.unusedSimpArgs false
set_option linter.unusedVariables false
namespace Go.Proofs.Ytlffjnmbpoemnaa
open Go.RowKit

theorem push_lo {s : Sheet} {m : List Int} {r c : Nat} (hr : r < s.R) (hc : c < s.C) {y : Nat → Nat → Int} {d : Int} {most : Int} (hm : s.A r c ≤ most) (h : PushOut s m r c false (min most (s.A r c)) y d) : loV s m r c = s.A r c - d := by
  obtain ⟨hy, hd, _, h2, h3⟩ := h
  have h2 := h2 rfl
  refine IsLo.eq ⟨⟨y, hy, h2⟩, fun w hw => ?_⟩
  rcases h3 with h3 | h3
  · have := hw.nn r c hr hc; omega
  · have := h3.2 rfl w hw; omega
theorem push_hi {s : Sheet} (hs : SheetOk s) {m : List Int} {r c : Nat} (hr : r < s.R) (hc : c < s.C) {y : Nat → Nat → Int} {d : Int} {most : Int} (hm : 40000 < most) (h : PushOut s m r c true most y d) : hiV s m r c = s.A r c + d := by
  obtain ⟨hy, hd, h1, _, h3⟩ := h
  have h1 := h1 rfl
  refine IsHi.eq ⟨⟨y, hy, h1⟩, fun w hw => ?_⟩
  rcases h3 with h3 | h3
  · have := hy.le hs hr hc
    have := hs.amt r c hr hc
    omega
  · have := h3.1 rfl w hw; omega
set_option maxHeartbeats 16000000
set_option maxRecDepth 100000
theorem span1 (f : ShF) (s : Sheet) (hs : SheetOk s) (z em : Bool) (m : List Int) (hm : MaskOk s m) (r0 c0 : Nat) (hr0 : r0 < s.R) (hc0 : c0 < s.C) (ho : outS m r0 c0 = true) (hR : s.R = 1) : ACall Try.prog 49 [iSt f s z em m, AI r0, AI c0] [] (fun v h => v = spanA (loV s m r0 c0) (hiV s m r0 c0) ∧ h = []) := by
  have c4 := hs.c4
  have hml := hm.len
  have hR' : s.amounts.length = 1 := hR
  have hrow := hs.row r0 hr0
  have hA0 : 0 ≤ (s.amounts.getD r0 []).getD c0 0 ∧ (s.amounts.getD r0 []).getD c0 0 ≤ 10000 := hs.amt r0 c0 hr0 hc0
  have hAA : s.A r0 c0 = (s.amounts.getD r0 []).getD c0 0 := rfl
  have cO := outP_ok f s z em m r0 c0 (by omega) (hm.bd r0 hr0).1 (by omega)
  rw [ho] at cO
  have cb1 := begin_ok f s hs (by omega) z em m r0 c0 (-1)
  have cb2 := begin_ok f s hs (by omega) z em m r0 c0 1
  rw [hR] at cb1 cb2
  (refine fcall_of mixed Try.func49 rfl (by decide) (hs := {}) ?k (ac := ?ac) ?c (rs := ?rs) ?r ?l ?H; (case k => kernel_rfl); (case c => (conv => (lhs; cbv))); (case r => (conv => (lhs; cbv))); (case l => exact Nat.le_of_ble_eq_true rfl))
  (repeat' ((try (conv => whnf)); first | (with_reducible first | refine FCond.tA ?_ | refine FCond.fA ?_) | ((with_reducible refine FCond.i (fun hq => ?_) (fun hq => ?_)) <;> (try simp only [zA, zE, zD, zJ, zB, zI, Int.not_le, Int.not_lt] at hq)) | (with_reducible first | refine Fits.in64 (by omega) ?_ | refine FIdx.nat (by omega) ?_ | refine FIdx.int (by omega) ?_ | refine FTo.nat (by omega) ?_ | refine FTo.int (by omega) ?_) | ((with_reducible refine Need.mk ?_ ?_); focus exact needA) | (with_reducible refine FApp.grow ?_) | (refine FCall.pure (cO) ⟨Ln.sameB _ rfl, Ln.sameB _ rfl, Ln.sameB _ rfl, True.intro⟩ rfl ?_) | (with_reducible refine FOr.pub ?_)))
  all_goals (try (conv => whnf))
  ((refine FCall.give [] [] (cb1) rfl rfl True.intro ⟨Ln.A, Ln.A, Ln.A, Ln.A, True.intro⟩ ?_); rintro _ _ ⟨rfl, rfl⟩; (refine ⟨by first | exact Nat.le_of_ble_eq_true rfl | omega, .inl rfl, ?_⟩))
  (repeat' ((try (conv => whnf)); first | (with_reducible first | refine FCond.tA ?_ | refine FCond.fA ?_) | ((with_reducible refine FCond.i (fun hq => ?_) (fun hq => ?_)) <;> (try simp only [zA, zE, zD, zJ, zB, zI, Int.not_le, Int.not_lt] at hq)) | (with_reducible first | refine Fits.in64 (by omega) ?_ | refine FIdx.nat (by omega) ?_ | refine FIdx.int (by omega) ?_ | refine FTo.nat (by omega) ?_ | refine FTo.int (by omega) ?_) | ((with_reducible refine Need.mk ?_ ?_); focus exact needA) | (with_reducible refine FApp.grow ?_) | (with_reducible refine FOr.pub ?_)))
  all_goals (try (conv => whnf))
  refine FCall.give [1, 2, 3] [] (push1D f s hs z em m hm r0 c0 hr0 hc0 ho 160000 (by decide) hR) rfl rfl ⟨⟨_, rfl, trivial, LnB.boxN ⟨⟨⟨⟨⟨True.intro, Ln.A⟩, Ln.ownE rfl rfl⟩, Ln.A⟩, Ln.A⟩, Ln.A⟩⟩, ⟨_, rfl, trivial, LnB.rwg1 (Ln.ownE rfl rfl) (Nat.le_refl _)⟩, ⟨_, rfl, trivial, LnB.A⟩, True.intro⟩ ⟨Ln.A, Ln.A, True.intro⟩ ?_
  rintro _ _ ⟨y1, d1, rfl, rfl, hP1⟩
  refine ⟨Nat.le_of_ble_eq_true rfl, .inl rfl, ?_⟩
  have e1 := push_lo hr0 hc0 (by omega) hP1
  have b1 := hP1.2.1
  (repeat' ((try (conv => whnf)); first | (with_reducible first | refine FCond.tA ?_ | refine FCond.fA ?_) | ((with_reducible refine FCond.i (fun hq => ?_) (fun hq => ?_)) <;> (try simp only [zA, zE, zD, zJ, zB, zI, Int.not_le, Int.not_lt] at hq)) | (with_reducible first | refine Fits.in64 (by omega) ?_ | refine FIdx.nat (by omega) ?_ | refine FIdx.int (by omega) ?_ | refine FTo.nat (by omega) ?_ | refine FTo.int (by omega) ?_) | ((with_reducible refine Need.mk ?_ ?_); focus exact needA) | (with_reducible refine FApp.grow ?_) | (with_reducible refine FOr.pub ?_)))
  all_goals (try (conv => whnf))
  ((refine FCall.give [] [] (cb2) rfl rfl True.intro ⟨Ln.A, Ln.A, Ln.A, Ln.A, True.intro⟩ ?_); rintro _ _ ⟨rfl, rfl⟩; (refine ⟨by first | exact Nat.le_of_ble_eq_true rfl | omega, .inl rfl, ?_⟩))
  (repeat' ((try (conv => whnf)); first | (with_reducible first | refine FCond.tA ?_ | refine FCond.fA ?_) | ((with_reducible refine FCond.i (fun hq => ?_) (fun hq => ?_)) <;> (try simp only [zA, zE, zD, zJ, zB, zI, Int.not_le, Int.not_lt] at hq)) | (with_reducible first | refine Fits.in64 (by omega) ?_ | refine FIdx.nat (by omega) ?_ | refine FIdx.int (by omega) ?_ | refine FTo.nat (by omega) ?_ | refine FTo.int (by omega) ?_) | ((with_reducible refine Need.mk ?_ ?_); focus exact needA) | (with_reducible refine FApp.grow ?_) | (with_reducible refine FOr.pub ?_)))
  all_goals (try (conv => whnf))
  refine FCall.give [4, 5, 6] [] (push1U f s hs z em m hm r0 c0 hr0 hc0 ho 160000 (by decide) hR) rfl rfl ⟨⟨_, rfl, trivial, LnB.boxN ⟨⟨⟨⟨⟨True.intro, Ln.A⟩, Ln.ownE rfl rfl⟩, Ln.A⟩, Ln.A⟩, Ln.A⟩⟩, ⟨_, rfl, trivial, LnB.rwg1 (Ln.ownE rfl rfl) (Nat.le_refl _)⟩, ⟨_, rfl, trivial, LnB.A⟩, True.intro⟩ ⟨Ln.A, Ln.A, True.intro⟩ ?_
  rintro _ _ ⟨y2, d2, rfl, rfl, hP2⟩
  refine ⟨Nat.le_of_ble_eq_true rfl, .inl rfl, ?_⟩
  have e2 := push_hi hs hr0 hc0 (by omega) hP2
  have b2 := hP2.2.1
  (repeat' ((try (conv => whnf)); first | (with_reducible first | refine FCond.tA ?_ | refine FCond.fA ?_) | ((with_reducible refine FCond.i (fun hq => ?_) (fun hq => ?_)) <;> (try simp only [zA, zE, zD, zJ, zB, zI, Int.not_le, Int.not_lt] at hq)) | (with_reducible first | refine Fits.in64 (by omega) ?_ | refine FIdx.nat (by omega) ?_ | refine FIdx.int (by omega) ?_ | refine FTo.nat (by omega) ?_ | refine FTo.int (by omega) ?_) | ((with_reducible refine Need.mk ?_ ?_); focus exact needA) | (with_reducible refine FApp.grow ?_) | (with_reducible refine FOr.pub ?_)))
  all_goals (try (conv => whnf))
  rw [e1, e2]
  (refine ⟨⟨_, [], [], Cut.nil _, Ln.sameB _ rfl, ?_, rfl⟩⟩)
  rfl
theorem span2 (f : ShF) (s : Sheet) (hs : SheetOk s) (z em : Bool) (m : List Int) (hm : MaskOk s m) (r0 c0 : Nat) (hr0 : r0 < s.R) (hc0 : c0 < s.C) (ho : outS m r0 c0 = true) (hR : s.R = 2) : ACall Try.prog 49 [iSt f s z em m, AI r0, AI c0] [] (fun v h => v = spanA (loV s m r0 c0) (hiV s m r0 c0) ∧ h = []) := by
  have c4 := hs.c4
  have hml := hm.len
  have hR' : s.amounts.length = 2 := hR
  have hrow := hs.row r0 hr0
  have hA0 : 0 ≤ (s.amounts.getD r0 []).getD c0 0 ∧ (s.amounts.getD r0 []).getD c0 0 ≤ 10000 := hs.amt r0 c0 hr0 hc0
  have hAA : s.A r0 c0 = (s.amounts.getD r0 []).getD c0 0 := rfl
  have cO := outP_ok f s z em m r0 c0 (by omega) (hm.bd r0 hr0).1 (by omega)
  rw [ho] at cO
  have cb1 := begin_ok f s hs (by omega) z em m r0 c0 (-1)
  have cb2 := begin_ok f s hs (by omega) z em m r0 c0 1
  rw [hR] at cb1 cb2
  (refine fcall_of mixed Try.func49 rfl (by decide) (hs := {}) ?k (ac := ?ac) ?c (rs := ?rs) ?r ?l ?H; (case k => kernel_rfl); (case c => (conv => (lhs; cbv))); (case r => (conv => (lhs; cbv))); (case l => exact Nat.le_of_ble_eq_true rfl))
  (repeat' ((try (conv => whnf)); first | (with_reducible first | refine FCond.tA ?_ | refine FCond.fA ?_) | ((with_reducible refine FCond.i (fun hq => ?_) (fun hq => ?_)) <;> (try simp only [zA, zE, zD, zJ, zB, zI, Int.not_le, Int.not_lt] at hq)) | (with_reducible first | refine Fits.in64 (by omega) ?_ | refine FIdx.nat (by omega) ?_ | refine FIdx.int (by omega) ?_ | refine FTo.nat (by omega) ?_ | refine FTo.int (by omega) ?_) | ((with_reducible refine Need.mk ?_ ?_); focus exact needA) | (with_reducible refine FApp.grow ?_) | (refine FCall.pure (cO) ⟨Ln.sameB _ rfl, Ln.sameB _ rfl, Ln.sameB _ rfl, True.intro⟩ rfl ?_) | (with_reducible refine FOr.pub ?_)))
  all_goals (try (conv => whnf))
  ((refine FCall.give [] [] (cb1) rfl rfl True.intro ⟨Ln.A, Ln.A, Ln.A, Ln.A, True.intro⟩ ?_); rintro _ _ ⟨rfl, rfl⟩; (refine ⟨by first | exact Nat.le_of_ble_eq_true rfl | omega, .inl rfl, ?_⟩))
  (repeat' ((try (conv => whnf)); first | (with_reducible first | refine FCond.tA ?_ | refine FCond.fA ?_) | ((with_reducible refine FCond.i (fun hq => ?_) (fun hq => ?_)) <;> (try simp only [zA, zE, zD, zJ, zB, zI, Int.not_le, Int.not_lt] at hq)) | (with_reducible first | refine Fits.in64 (by omega) ?_ | refine FIdx.nat (by omega) ?_ | refine FIdx.int (by omega) ?_ | refine FTo.nat (by omega) ?_ | refine FTo.int (by omega) ?_) | ((with_reducible refine Need.mk ?_ ?_); focus exact needA) | (with_reducible refine FApp.grow ?_) | (with_reducible refine FOr.pub ?_)))
  all_goals (try (conv => whnf))
  refine FCall.give [1, 2, 3, 4] [] (push2D f s hs z em m hm r0 c0 hr0 hc0 ho 160000 (by decide) hR) rfl rfl ⟨⟨_, rfl, trivial, LnB.boxN ⟨⟨⟨⟨⟨True.intro, Ln.A⟩, Ln.ownE rfl rfl⟩, Ln.A⟩, Ln.A⟩, Ln.A⟩⟩, ⟨_, rfl, trivial, LnB.rwg2 (Ln.ownE rfl rfl) (Ln.ownE rfl rfl) (Nat.le_refl _)⟩, ⟨_, rfl, trivial, LnB.A⟩, ⟨_, rfl, trivial, LnB.A⟩, True.intro⟩ ⟨Ln.A, Ln.A, True.intro⟩ ?_
  rintro _ _ ⟨y1, d1, rfl, rfl, hP1⟩
  refine ⟨Nat.le_of_ble_eq_true rfl, .inl rfl, ?_⟩
  have e1 := push_lo hr0 hc0 (by omega) hP1
  have b1 := hP1.2.1
  (repeat' ((try (conv => whnf)); first | (with_reducible first | refine FCond.tA ?_ | refine FCond.fA ?_) | ((with_reducible refine FCond.i (fun hq => ?_) (fun hq => ?_)) <;> (try simp only [zA, zE, zD, zJ, zB, zI, Int.not_le, Int.not_lt] at hq)) | (with_reducible first | refine Fits.in64 (by omega) ?_ | refine FIdx.nat (by omega) ?_ | refine FIdx.int (by omega) ?_ | refine FTo.nat (by omega) ?_ | refine FTo.int (by omega) ?_) | ((with_reducible refine Need.mk ?_ ?_); focus exact needA) | (with_reducible refine FApp.grow ?_) | (with_reducible refine FOr.pub ?_)))
  all_goals (try (conv => whnf))
  ((refine FCall.give [] [] (cb2) rfl rfl True.intro ⟨Ln.A, Ln.A, Ln.A, Ln.A, True.intro⟩ ?_); rintro _ _ ⟨rfl, rfl⟩; (refine ⟨by first | exact Nat.le_of_ble_eq_true rfl | omega, .inl rfl, ?_⟩))
  (repeat' ((try (conv => whnf)); first | (with_reducible first | refine FCond.tA ?_ | refine FCond.fA ?_) | ((with_reducible refine FCond.i (fun hq => ?_) (fun hq => ?_)) <;> (try simp only [zA, zE, zD, zJ, zB, zI, Int.not_le, Int.not_lt] at hq)) | (with_reducible first | refine Fits.in64 (by omega) ?_ | refine FIdx.nat (by omega) ?_ | refine FIdx.int (by omega) ?_ | refine FTo.nat (by omega) ?_ | refine FTo.int (by omega) ?_) | ((with_reducible refine Need.mk ?_ ?_); focus exact needA) | (with_reducible refine FApp.grow ?_) | (with_reducible refine FOr.pub ?_)))
  all_goals (try (conv => whnf))
  refine FCall.give [5, 6, 7, 8] [] (push2U f s hs z em m hm r0 c0 hr0 hc0 ho 160000 (by decide) hR) rfl rfl ⟨⟨_, rfl, trivial, LnB.boxN ⟨⟨⟨⟨⟨True.intro, Ln.A⟩, Ln.ownE rfl rfl⟩, Ln.A⟩, Ln.A⟩, Ln.A⟩⟩, ⟨_, rfl, trivial, LnB.rwg2 (Ln.ownE rfl rfl) (Ln.ownE rfl rfl) (Nat.le_refl _)⟩, ⟨_, rfl, trivial, LnB.A⟩, ⟨_, rfl, trivial, LnB.A⟩, True.intro⟩ ⟨Ln.A, Ln.A, True.intro⟩ ?_
  rintro _ _ ⟨y2, d2, rfl, rfl, hP2⟩
  refine ⟨Nat.le_of_ble_eq_true rfl, .inl rfl, ?_⟩
  have e2 := push_hi hs hr0 hc0 (by omega) hP2
  have b2 := hP2.2.1
  (repeat' ((try (conv => whnf)); first | (with_reducible first | refine FCond.tA ?_ | refine FCond.fA ?_) | ((with_reducible refine FCond.i (fun hq => ?_) (fun hq => ?_)) <;> (try simp only [zA, zE, zD, zJ, zB, zI, Int.not_le, Int.not_lt] at hq)) | (with_reducible first | refine Fits.in64 (by omega) ?_ | refine FIdx.nat (by omega) ?_ | refine FIdx.int (by omega) ?_ | refine FTo.nat (by omega) ?_ | refine FTo.int (by omega) ?_) | ((with_reducible refine Need.mk ?_ ?_); focus exact needA) | (with_reducible refine FApp.grow ?_) | (with_reducible refine FOr.pub ?_)))
  all_goals (try (conv => whnf))
  rw [e1, e2]
  (refine ⟨⟨_, [], [], Cut.nil _, Ln.sameB _ rfl, ?_, rfl⟩⟩)
  rfl
theorem span3 (f : ShF) (s : Sheet) (hs : SheetOk s) (z em : Bool) (m : List Int) (hm : MaskOk s m) (r0 c0 : Nat) (hr0 : r0 < s.R) (hc0 : c0 < s.C) (ho : outS m r0 c0 = true) (hR : s.R = 3) : ACall Try.prog 49 [iSt f s z em m, AI r0, AI c0] [] (fun v h => v = spanA (loV s m r0 c0) (hiV s m r0 c0) ∧ h = []) := by
  have c4 := hs.c4
  have hml := hm.len
  have hR' : s.amounts.length = 3 := hR
  have hrow := hs.row r0 hr0
  have hA0 : 0 ≤ (s.amounts.getD r0 []).getD c0 0 ∧ (s.amounts.getD r0 []).getD c0 0 ≤ 10000 := hs.amt r0 c0 hr0 hc0
  have hAA : s.A r0 c0 = (s.amounts.getD r0 []).getD c0 0 := rfl
  have cO := outP_ok f s z em m r0 c0 (by omega) (hm.bd r0 hr0).1 (by omega)
  rw [ho] at cO
  have cb1 := begin_ok f s hs (by omega) z em m r0 c0 (-1)
  have cb2 := begin_ok f s hs (by omega) z em m r0 c0 1
  rw [hR] at cb1 cb2
  (refine fcall_of mixed Try.func49 rfl (by decide) (hs := {}) ?k (ac := ?ac) ?c (rs := ?rs) ?r ?l ?H; (case k => kernel_rfl); (case c => (conv => (lhs; cbv))); (case r => (conv => (lhs; cbv))); (case l => exact Nat.le_of_ble_eq_true rfl))
  (repeat' ((try (conv => whnf)); first | (with_reducible first | refine FCond.tA ?_ | refine FCond.fA ?_) | ((with_reducible refine FCond.i (fun hq => ?_) (fun hq => ?_)) <;> (try simp only [zA, zE, zD, zJ, zB, zI, Int.not_le, Int.not_lt] at hq)) | (with_reducible first | refine Fits.in64 (by omega) ?_ | refine FIdx.nat (by omega) ?_ | refine FIdx.int (by omega) ?_ | refine FTo.nat (by omega) ?_ | refine FTo.int (by omega) ?_) | ((with_reducible refine Need.mk ?_ ?_); focus exact needA) | (with_reducible refine FApp.grow ?_) | (refine FCall.pure (cO) ⟨Ln.sameB _ rfl, Ln.sameB _ rfl, Ln.sameB _ rfl, True.intro⟩ rfl ?_) | (with_reducible refine FOr.pub ?_)))
  all_goals (try (conv => whnf))
  ((refine FCall.give [] [] (cb1) rfl rfl True.intro ⟨Ln.A, Ln.A, Ln.A, Ln.A, True.intro⟩ ?_); rintro _ _ ⟨rfl, rfl⟩; (refine ⟨by first | exact Nat.le_of_ble_eq_true rfl | omega, .inl rfl, ?_⟩))
  (repeat' ((try (conv => whnf)); first | (with_reducible first | refine FCond.tA ?_ | refine FCond.fA ?_) | ((with_reducible refine FCond.i (fun hq => ?_) (fun hq => ?_)) <;> (try simp only [zA, zE, zD, zJ, zB, zI, Int.not_le, Int.not_lt] at hq)) | (with_reducible first | refine Fits.in64 (by omega) ?_ | refine FIdx.nat (by omega) ?_ | refine FIdx.int (by omega) ?_ | refine FTo.nat (by omega) ?_ | refine FTo.int (by omega) ?_) | ((with_reducible refine Need.mk ?_ ?_); focus exact needA) | (with_reducible refine FApp.grow ?_) | (with_reducible refine FOr.pub ?_)))
  all_goals (try (conv => whnf))
  refine FCall.give [1, 2, 3, 4, 5] [] (push3D f s hs z em m hm r0 c0 hr0 hc0 ho 160000 (by decide) hR) rfl rfl ⟨⟨_, rfl, trivial, LnB.boxN ⟨⟨⟨⟨⟨True.intro, Ln.A⟩, Ln.ownE rfl rfl⟩, Ln.A⟩, Ln.A⟩, Ln.A⟩⟩, ⟨_, rfl, trivial, LnB.rwg3 (Ln.ownE rfl rfl) (Ln.ownE rfl rfl) (Ln.ownE rfl rfl) (Nat.le_refl _)⟩, ⟨_, rfl, trivial, LnB.A⟩, ⟨_, rfl, trivial, LnB.A⟩, ⟨_, rfl, trivial, LnB.A⟩, True.intro⟩ ⟨Ln.A, Ln.A, True.intro⟩ ?_
  rintro _ _ ⟨y1, d1, rfl, rfl, hP1⟩
  refine ⟨Nat.le_of_ble_eq_true rfl, .inl rfl, ?_⟩
  have e1 := push_lo hr0 hc0 (by omega) hP1
  have b1 := hP1.2.1
  (repeat' ((try (conv => whnf)); first | (with_reducible first | refine FCond.tA ?_ | refine FCond.fA ?_) | ((with_reducible refine FCond.i (fun hq => ?_) (fun hq => ?_)) <;> (try simp only [zA, zE, zD, zJ, zB, zI, Int.not_le, Int.not_lt] at hq)) | (with_reducible first | refine Fits.in64 (by omega) ?_ | refine FIdx.nat (by omega) ?_ | refine FIdx.int (by omega) ?_ | refine FTo.nat (by omega) ?_ | refine FTo.int (by omega) ?_) | ((with_reducible refine Need.mk ?_ ?_); focus exact needA) | (with_reducible refine FApp.grow ?_) | (with_reducible refine FOr.pub ?_)))
  all_goals (try (conv => whnf))
  ((refine FCall.give [] [] (cb2) rfl rfl True.intro ⟨Ln.A, Ln.A, Ln.A, Ln.A, True.intro⟩ ?_); rintro _ _ ⟨rfl, rfl⟩; (refine ⟨by first | exact Nat.le_of_ble_eq_true rfl | omega, .inl rfl, ?_⟩))
  (repeat' ((try (conv => whnf)); first | (with_reducible first | refine FCond.tA ?_ | refine FCond.fA ?_) | ((with_reducible refine FCond.i (fun hq => ?_) (fun hq => ?_)) <;> (try simp only [zA, zE, zD, zJ, zB, zI, Int.not_le, Int.not_lt] at hq)) | (with_reducible first | refine Fits.in64 (by omega) ?_ | refine FIdx.nat (by omega) ?_ | refine FIdx.int (by omega) ?_ | refine FTo.nat (by omega) ?_ | refine FTo.int (by omega) ?_) | ((with_reducible refine Need.mk ?_ ?_); focus exact needA) | (with_reducible refine FApp.grow ?_) | (with_reducible refine FOr.pub ?_)))
  all_goals (try (conv => whnf))
  refine FCall.give [6, 7, 8, 9, 10] [] (push3U f s hs z em m hm r0 c0 hr0 hc0 ho 160000 (by decide) hR) rfl rfl ⟨⟨_, rfl, trivial, LnB.boxN ⟨⟨⟨⟨⟨True.intro, Ln.A⟩, Ln.ownE rfl rfl⟩, Ln.A⟩, Ln.A⟩, Ln.A⟩⟩, ⟨_, rfl, trivial, LnB.rwg3 (Ln.ownE rfl rfl) (Ln.ownE rfl rfl) (Ln.ownE rfl rfl) (Nat.le_refl _)⟩, ⟨_, rfl, trivial, LnB.A⟩, ⟨_, rfl, trivial, LnB.A⟩, ⟨_, rfl, trivial, LnB.A⟩, True.intro⟩ ⟨Ln.A, Ln.A, True.intro⟩ ?_
  rintro _ _ ⟨y2, d2, rfl, rfl, hP2⟩
  refine ⟨Nat.le_of_ble_eq_true rfl, .inl rfl, ?_⟩
  have e2 := push_hi hs hr0 hc0 (by omega) hP2
  have b2 := hP2.2.1
  (repeat' ((try (conv => whnf)); first | (with_reducible first | refine FCond.tA ?_ | refine FCond.fA ?_) | ((with_reducible refine FCond.i (fun hq => ?_) (fun hq => ?_)) <;> (try simp only [zA, zE, zD, zJ, zB, zI, Int.not_le, Int.not_lt] at hq)) | (with_reducible first | refine Fits.in64 (by omega) ?_ | refine FIdx.nat (by omega) ?_ | refine FIdx.int (by omega) ?_ | refine FTo.nat (by omega) ?_ | refine FTo.int (by omega) ?_) | ((with_reducible refine Need.mk ?_ ?_); focus exact needA) | (with_reducible refine FApp.grow ?_) | (with_reducible refine FOr.pub ?_)))
  all_goals (try (conv => whnf))
  rw [e1, e2]
  (refine ⟨⟨_, [], [], Cut.nil _, Ln.sameB _ rfl, ?_, rfl⟩⟩)
  rfl
theorem span_ok (f : ShF) (s : Sheet) (hs : SheetOk s) (h3 : s.R ≤ 3) (z em : Bool) (m : List Int) (hm : MaskOk s m) (r0 c0 : Nat) (hr0 : r0 < s.R) (hc0 : c0 < s.C) : ACall Try.prog 49 [iSt f s z em m, AI r0, AI c0] [] (fun v h => v = spanA (loV s m r0 c0) (hiV s m r0 c0) ∧ h = []) := by
  have r1 := hs.r1
  have hR : s.R = 1 ∨ s.R = 2 ∨ s.R = 3 := by omega
  cases ho : outS m r0 c0
  · have c4 := hs.c4
    have hml := hm.len
    have hRl : s.R = s.amounts.length := rfl
    have hrow := hs.row r0 hr0
    have cO := outP_ok f s z em m r0 c0 (by omega) (hm.bd r0 hr0).1 (by omega)
    rw [ho] at cO
    have hlo := shown_lo hs m hr0 hc0 ho
    rw [hlo.1, hlo.2]
    (refine fcall_of mixed Try.func49 rfl (by decide) (hs := {}) ?k (ac := ?ac) ?c (rs := ?rs) ?r ?l ?H; (case k => kernel_rfl); (case c => (conv => (lhs; cbv))); (case r => (conv => (lhs; cbv))); (case l => exact Nat.le_of_ble_eq_true rfl))
    (repeat' ((try (conv => whnf)); first | (with_reducible first | refine FCond.tA ?_ | refine FCond.fA ?_) | ((with_reducible refine FCond.i (fun hq => ?_) (fun hq => ?_)) <;> (try simp only [zA, zE, zD, zJ, zB, zI, Int.not_le, Int.not_lt] at hq)) | (with_reducible first | refine Fits.in64 (by omega) ?_ | refine FIdx.nat (by omega) ?_ | refine FIdx.int (by omega) ?_ | refine FTo.nat (by omega) ?_ | refine FTo.int (by omega) ?_) | ((with_reducible refine Need.mk ?_ ?_); focus exact needA) | (with_reducible refine FApp.grow ?_) | (refine FCall.pure (cO) ⟨Ln.sameB _ rfl, Ln.sameB _ rfl, Ln.sameB _ rfl, True.intro⟩ rfl ?_) | (with_reducible refine FOr.pub ?_)))
    all_goals (try (conv => whnf))
    (refine ⟨⟨_, [], [], Cut.nil _, Ln.sameB _ rfl, ?_, rfl⟩⟩)
    rfl
  · rcases hR with h | h | h
    · exact span1 f s hs z em m hm r0 c0 hr0 hc0 ho h
    · exact span2 f s hs z em m hm r0 c0 hr0 hc0 ho h
    · exact span3 f s hs z em m hm r0 c0 hr0 hc0 ho h
theorem pRange_ok (f : ShF) (s : Sheet) (hn : Near s) (h3 : s.ok = true → s.R ≤ 3) (z e : Bool) (m : List Int) (hm : m.length ≤ 1000) (r c : Int) : ACall Try.prog 20 [aSh f s, aInts z e m, AI r, AI c] [] (fun v h => v = rangeV s m r c ∧ h = []) := by
  have cP := spot_ok f s hn z e m hm r c
  (refine fcall_of mixed Try.func20 rfl (by decide) (hs := {}) ?k (ac := ?ac) ?c (rs := ?rs) ?r ?l ?H; (case k => kernel_rfl); (case c => (conv => (lhs; cbv))); (case r => (conv => (lhs; cbv))); (case l => exact Nat.le_of_ble_eq_true rfl))
  by_cases h0 : checkP s m r c = 0
  · have hp := checkP_0 h0
    have hM0 : checkM s m = 0 := by unfold checkM; rw [hp.ok, if_pos rfl, if_pos]; unfold checkP at h0; by_cases hm0 : checkM s m = 0; exact (checkM_0 hm0).2; rw [if_neg hm0] at h0; exact (hm0 h0).elim
    obtain ⟨r', rfl⟩ := Int.eq_ofNat_of_zero_le hp.r.1
    obtain ⟨c', rfl⟩ := Int.eq_ofNat_of_zero_le hp.c.1
    have cS := span_ok f s hp.sh (h3 hp.ok) z e m hp.m r' c' (by have := hp.r; omega) (by have := hp.c; omega)
    rw [show rangeV s m r' c' = .tup 2 (ofL [spanA (loV s m r' c') (hiV s m r' c'), AI 0]) from by unfold rangeV; rw [if_pos h0, h0]; rfl]
    rw [show spotV f s z e m r' c' = .tup 2 (ofL [iSt f s z e m, AI 0]) from by unfold spotV; rw [if_pos hM0, h0]] at cP
    (repeat' ((try (conv => whnf)); first | (with_reducible first | refine FCond.tA ?_ | refine FCond.fA ?_) | ((with_reducible refine FCond.i (fun hq => ?_) (fun hq => ?_)) <;> (try simp only [zA, zE, zD, zJ, zB, zI, Int.not_le, Int.not_lt] at hq)) | (with_reducible first | refine Fits.in64 (by omega) ?_ | refine FIdx.nat (by omega) ?_ | refine FIdx.int (by omega) ?_ | refine FTo.nat (by omega) ?_ | refine FTo.int (by omega) ?_) | ((with_reducible refine Need.mk ?_ ?_); focus exact needA) | (with_reducible refine FApp.grow ?_) | (refine FCall.pure (cP) ⟨Ln.sameB _ rfl, Ln.sameB _ rfl, Ln.sameB _ rfl, Ln.sameB _ rfl, True.intro⟩ rfl ?_) | (refine FCall.pure (cS) ⟨Ln.sameB _ rfl, Ln.sameB _ rfl, Ln.sameB _ rfl, True.intro⟩ rfl ?_) | (with_reducible refine FOr.pub ?_)))
    all_goals (try (conv => whnf))
    all_goals ((refine ⟨⟨_, [], [], Cut.nil _, Ln.sameB _ rfl, ?_, rfl⟩⟩); rfl)
  · rw [show rangeV s m r c = .tup 2 (ofL [spanA 0 0, AI (checkP s m r c)]) from by unfold rangeV; rw [if_neg h0]]
    by_cases hM0 : checkM s m = 0
    · rw [show spotV f s z e m r c = .tup 2 (ofL [iSt f s z e m, AI (checkP s m r c)]) from by unfold spotV; rw [if_pos hM0]] at cP
      (repeat' ((try (conv => whnf)); first | (with_reducible first | refine FCond.tA ?_ | refine FCond.fA ?_) | ((with_reducible refine FCond.i (fun hq => ?_) (fun hq => ?_)) <;> (try simp only [zA, zE, zD, zJ, zB, zI, Int.not_le, Int.not_lt] at hq)) | (with_reducible first | refine Fits.in64 (by omega) ?_ | refine FIdx.nat (by omega) ?_ | refine FIdx.int (by omega) ?_ | refine FTo.nat (by omega) ?_ | refine FTo.int (by omega) ?_) | ((with_reducible refine Need.mk ?_ ?_); focus exact needA) | (with_reducible refine FApp.grow ?_) | (refine FCall.pure (cP) ⟨Ln.sameB _ rfl, Ln.sameB _ rfl, Ln.sameB _ rfl, Ln.sameB _ rfl, True.intro⟩ rfl ?_) | (with_reducible refine FOr.pub ?_)))
      all_goals (try (conv => whnf))
      all_goals ((refine ⟨⟨_, [], [], Cut.nil _, Ln.sameB _ rfl, ?_, rfl⟩⟩); rfl)
    · rw [show spotV f s z e m r c = .tup 2 (ofL [.nilp, AI (checkP s m r c)]) from by unfold spotV; rw [if_neg hM0]] at cP
      (repeat' ((try (conv => whnf)); first | (with_reducible first | refine FCond.tA ?_ | refine FCond.fA ?_) | ((with_reducible refine FCond.i (fun hq => ?_) (fun hq => ?_)) <;> (try simp only [zA, zE, zD, zJ, zB, zI, Int.not_le, Int.not_lt] at hq)) | (with_reducible first | refine Fits.in64 (by omega) ?_ | refine FIdx.nat (by omega) ?_ | refine FIdx.int (by omega) ?_ | refine FTo.nat (by omega) ?_ | refine FTo.int (by omega) ?_) | ((with_reducible refine Need.mk ?_ ?_); focus exact needA) | (with_reducible refine FApp.grow ?_) | (refine FCall.pure (cP) ⟨Ln.sameB _ rfl, Ln.sameB _ rfl, Ln.sameB _ rfl, Ln.sameB _ rfl, True.intro⟩ rfl ?_) | (with_reducible refine FOr.pub ?_)))
      all_goals (try (conv => whnf))
      all_goals ((refine ⟨⟨_, [], [], Cut.nil _, Ln.sameB _ rfl, ?_, rfl⟩⟩); rfl)
theorem safeP_ok (f : ShF) (s : Sheet) (hs : SheetOk s) (h3 : s.R ≤ 3) (z e : Bool) (m : List Int) (hm : MaskOk s m) : ACall Try.prog 52 [iSt f s z e m] [] (fun v h => v = .bool (safeS s m) ∧ h = []) := by
  have r4 := hs.r4
  have c4 := hs.c4
  have hR : s.R = s.amounts.length := rfl
  have hml := hm.len
  have hsl := hs.sec.len
  have gap := hs.gap
  have cC := colsP_ok f s (by have := hs.r1; omega) z e m
  (refine fcall_of mixed Try.func52 rfl (by decide) (hs := {}) ?k (ac := ?ac) ?c (rs := ?rs) ?r ?l ?H; (case k => kernel_rfl); (case c => (conv => (lhs; cbv))); (case r => (conv => (lhs; cbv))); (case l => exact Nat.le_of_ble_eq_true rfl))
  (repeat' ((try (conv => whnf)); first | (with_reducible first | refine FCond.tA ?_ | refine FCond.fA ?_) | ((with_reducible refine FCond.i (fun hq => ?_) (fun hq => ?_)) <;> (try simp only [zA, zE, zD, zJ, zB, zI, Int.not_le, Int.not_lt] at hq)) | (with_reducible first | refine Fits.in64 (by omega) ?_ | refine FIdx.nat (by omega) ?_ | refine FIdx.int (by omega) ?_ | refine FTo.nat (by omega) ?_ | refine FTo.int (by omega) ?_) | ((with_reducible refine Need.mk ?_ ?_); focus exact needA) | (with_reducible refine FApp.grow ?_) | (with_reducible refine FOr.pub ?_)))
  all_goals (try (conv => whnf))
  refine FLoop.of (ACalls.mono _) (X := Nat) (fun r => [(0, iSt f s z e m), (11, aInts f.zs f.es s.secret), (12, AI s.secret.length), (13, AI r)]) (fun _ => []) (fun r => r ≤ s.R ∧ ∀ k, k < r → rowSafe s m k = true) (fun r => s.R - r) 0 ⟨⟨Nat.zero_le _, fun k hk => absurd hk (Nat.not_lt_zero k)⟩, [], Cut.A, allA⟩ ?_
  rintro r ⟨hr, hup⟩
  by_cases hlt : r < s.R
  · have hsb := hs.sec.bd r hlt
    obtain ⟨k, hk⟩ : ∃ k : Nat, s.secret.getD r 0 = k := ⟨(s.secret.getD r 0).toNat, by omega⟩
    (repeat' ((try (conv => whnf)); first | (with_reducible first | refine FCond.tA ?_ | refine FCond.fA ?_) | ((with_reducible refine FCond.i (fun hq => ?_) (fun hq => ?_)) <;> (try simp only [zA, zE, zD, zJ, zB, zI, Int.not_le, Int.not_lt] at hq)) | (with_reducible first | refine Fits.in64 (by omega) ?_ | refine FIdx.nat (by omega) ?_ | refine FIdx.int (by omega) ?_ | refine FTo.nat (by omega) ?_ | refine FTo.int (by omega) ?_) | ((with_reducible refine Need.mk ?_ ?_); focus exact needA) | (with_reducible refine FApp.grow ?_) | (refine FCall.pure (cC) ⟨Ln.sameB _ rfl, True.intro⟩ rfl ?_) | (with_reducible refine FOr.pub ?_)))
    all_goals (try (conv => whnf))
    refine FLoop.of (ACalls.mono _) (X := Nat) (fun c => [(0, iSt f s z e m), (3, AI r), (4, AI (s.secret.getD r 0)), (11, aInts f.zs f.es s.secret), (12, AI s.secret.length), (13, AI r), (19, AI s.C), (20, AI c)]) (fun _ => []) (fun c => c ≤ s.C ∧ ∀ k, k < c → cellSafe s m r k = true) (fun c => s.C - c) 0 ⟨⟨Nat.zero_le _, fun k hk => absurd hk (Nat.not_lt_zero k)⟩, [], Cut.A, allA⟩ ?_
    rintro c ⟨hc, hupc⟩
    by_cases hltc : c < s.C
    · have noc : cellSafe s m r c = false → safeS s m = false := fun hx => by unfold safeS; exact rall_no hlt (by unfold rowSafe; exact rall_no hltc hx)
      have cO := outP_ok f s z e m r c (by omega) (hm.bd r hlt).1 (by omega)
      have cP := span_ok f s hs h3 z e m hm r c hlt hltc
      have hle := lo_le hs m hlt hltc
      have eo : outS s.secret r c = k.testBit c := by unfold outS; rw [hk]; rfl
      cases hq7 : k.testBit c
      · rw [hq7] at eo
        (repeat' ((try (conv => whnf)); first | (with_reducible first | refine FCond.tA ?_ | refine FCond.fA ?_) | ((with_reducible refine FCond.i (fun hq => ?_) (fun hq => ?_)) <;> (try simp only [zA, zE, zD, zJ, zB, zI, Int.not_le, Int.not_lt] at hq)) | (with_reducible first | refine Fits.in64 (by omega) ?_ | refine FIdx.nat (by omega) ?_ | refine FIdx.int (by omega) ?_ | refine FTo.nat (by omega) ?_ | refine FTo.int (by omega) ?_) | ((with_reducible refine Need.mk ?_ ?_); focus exact needA) | (with_reducible refine FApp.grow ?_) | (rw [hk]; refine FBit.shrN rfl (by omega) ?_) | (refine FBit.hasF rfl hq7 ?_) | (with_reducible refine FOr.pub ?_)))
        all_goals (try (conv => whnf))
        all_goals exact ⟨⟨c + 1, ⟨hltc, below_step hupc (by unfold cellSafe; rw [eo]; rfl)⟩, by show s.C - (c + 1) < s.C - c; omega, [], Cut.nil _, allA⟩⟩
      · rw [hq7] at eo
        cases o2 : outS m r c
        · rw [o2] at cO
          rw [noc (by unfold cellSafe; rw [eo, o2]; rfl)]
          (repeat' ((try (conv => whnf)); first | (with_reducible first | refine FCond.tA ?_ | refine FCond.fA ?_) | ((with_reducible refine FCond.i (fun hq => ?_) (fun hq => ?_)) <;> (try simp only [zA, zE, zD, zJ, zB, zI, Int.not_le, Int.not_lt] at hq)) | (with_reducible first | refine Fits.in64 (by omega) ?_ | refine FIdx.nat (by omega) ?_ | refine FIdx.int (by omega) ?_ | refine FTo.nat (by omega) ?_ | refine FTo.int (by omega) ?_) | ((with_reducible refine Need.mk ?_ ?_); focus exact needA) | (with_reducible refine FApp.grow ?_) | (rw [hk]; refine FBit.shrN rfl (by omega) ?_) | (refine FBit.hasT rfl hq7 ?_) | (refine FCall.pure (cP) ⟨Ln.sameB _ rfl, Ln.sameB _ rfl, Ln.sameB _ rfl, True.intro⟩ rfl ?_) | (refine FCall.pure (cO) ⟨Ln.sameB _ rfl, Ln.sameB _ rfl, Ln.sameB _ rfl, True.intro⟩ rfl ?_) | (with_reducible refine FOr.pub ?_)))
          all_goals (try (conv => whnf))
          all_goals ((refine ⟨⟨_, [], [], Cut.nil _, Ln.sameB _ rfl, ?_, rfl⟩⟩); rfl)
        · rw [o2] at cO
          by_cases hg : s.gap ≤ hiV s m r c - loV s m r c
          · (repeat' ((try (conv => whnf)); first | (with_reducible first | refine FCond.tA ?_ | refine FCond.fA ?_) | ((with_reducible refine FCond.i (fun hq => ?_) (fun hq => ?_)) <;> (try simp only [zA, zE, zD, zJ, zB, zI, Int.not_le, Int.not_lt] at hq)) | (with_reducible first | refine Fits.in64 (by omega) ?_ | refine FIdx.nat (by omega) ?_ | refine FIdx.int (by omega) ?_ | refine FTo.nat (by omega) ?_ | refine FTo.int (by omega) ?_) | ((with_reducible refine Need.mk ?_ ?_); focus exact needA) | (with_reducible refine FApp.grow ?_) | (rw [hk]; refine FBit.shrN rfl (by omega) ?_) | (refine FBit.hasT rfl hq7 ?_) | (refine FCall.pure (cP) ⟨Ln.sameB _ rfl, Ln.sameB _ rfl, Ln.sameB _ rfl, True.intro⟩ rfl ?_) | (refine FCall.pure (cO) ⟨Ln.sameB _ rfl, Ln.sameB _ rfl, Ln.sameB _ rfl, True.intro⟩ rfl ?_) | (with_reducible refine FOr.pub ?_)))
            all_goals (try (conv => whnf))
            all_goals exact ⟨⟨c + 1, ⟨hltc, below_step hupc (by unfold cellSafe; rw [eo, o2, decide_eq_true hg]; rfl)⟩, by show s.C - (c + 1) < s.C - c; omega, [], Cut.nil _, allA⟩⟩
          · rw [noc (by unfold cellSafe; rw [eo, o2, decide_eq_false hg]; rfl)]
            (repeat' ((try (conv => whnf)); first | (with_reducible first | refine FCond.tA ?_ | refine FCond.fA ?_) | ((with_reducible refine FCond.i (fun hq => ?_) (fun hq => ?_)) <;> (try simp only [zA, zE, zD, zJ, zB, zI, Int.not_le, Int.not_lt] at hq)) | (with_reducible first | refine Fits.in64 (by omega) ?_ | refine FIdx.nat (by omega) ?_ | refine FIdx.int (by omega) ?_ | refine FTo.nat (by omega) ?_ | refine FTo.int (by omega) ?_) | ((with_reducible refine Need.mk ?_ ?_); focus exact needA) | (with_reducible refine FApp.grow ?_) | (rw [hk]; refine FBit.shrN rfl (by omega) ?_) | (refine FBit.hasT rfl hq7 ?_) | (refine FCall.pure (cP) ⟨Ln.sameB _ rfl, Ln.sameB _ rfl, Ln.sameB _ rfl, True.intro⟩ rfl ?_) | (refine FCall.pure (cO) ⟨Ln.sameB _ rfl, Ln.sameB _ rfl, Ln.sameB _ rfl, True.intro⟩ rfl ?_) | (with_reducible refine FOr.pub ?_)))
            all_goals (try (conv => whnf))
            all_goals ((refine ⟨⟨_, [], [], Cut.nil _, Ln.sameB _ rfl, ?_, rfl⟩⟩); rfl)
    · have hcE : s.C = c := by omega
      (repeat' ((try (conv => whnf)); first | (with_reducible first | refine FCond.tA ?_ | refine FCond.fA ?_) | ((with_reducible refine FCond.i (fun hq => ?_) (fun hq => ?_)) <;> (try simp only [zA, zE, zD, zJ, zB, zI, Int.not_le, Int.not_lt] at hq)) | (with_reducible first | refine Fits.in64 (by omega) ?_ | refine FIdx.nat (by omega) ?_ | refine FIdx.int (by omega) ?_ | refine FTo.nat (by omega) ?_ | refine FTo.int (by omega) ?_) | ((with_reducible refine Need.mk ?_ ?_); focus exact needA) | (with_reducible refine FApp.grow ?_) | (with_reducible refine FOr.pub ?_)))
      all_goals (try (conv => whnf))
      all_goals exact ⟨⟨r + 1, ⟨hlt, below_step hup (by unfold rowSafe; rw [hcE]; exact rall_yes hupc)⟩, by show s.R - (r + 1) < s.R - r; omega, [], Cut.nil _, allA⟩⟩
  · have hrE : s.R = r := by omega
    rw [show safeS s m = true from by unfold safeS; rw [hrE]; exact rall_yes hup]
    (repeat' ((try (conv => whnf)); first | (with_reducible first | refine FCond.tA ?_ | refine FCond.fA ?_) | ((with_reducible refine FCond.i (fun hq => ?_) (fun hq => ?_)) <;> (try simp only [zA, zE, zD, zJ, zB, zI, Int.not_le, Int.not_lt] at hq)) | (with_reducible first | refine Fits.in64 (by omega) ?_ | refine FIdx.nat (by omega) ?_ | refine FIdx.int (by omega) ?_ | refine FTo.nat (by omega) ?_ | refine FTo.int (by omega) ?_) | ((with_reducible refine Need.mk ?_ ?_); focus exact needA) | (with_reducible refine FApp.grow ?_) | (with_reducible refine FOr.pub ?_)))
    all_goals (try (conv => whnf))
    all_goals ((refine ⟨⟨_, [], [], Cut.nil _, Ln.sameB _ rfl, ?_, rfl⟩⟩); rfl)
end Go.Proofs.Ytlffjnmbpoemnaa

namespace Go.Proofs.Ytlffjnmbpoemnaa
open Go.RowKit

theorem FBit.lit {op : BinOp} {k : IntKind} {x y : Int} {K : Int → Prop} (r : Int) (h : rawBit op k x y = r) (hK : K r) : FBit op k x y K := ⟨h ▸ hK⟩
/-- How many elements a set of at most four has. -/
def pop (x : Nat) : Nat := x % 2 + x / 2 % 2 + x / 4 % 2 + x / 8 % 2
set_option maxHeartbeats 16000000
set_option maxRecDepth 100000
theorem ones64_ok (x : Nat) (hx : x < 16) : ACall Try.prog 85 [AU x] [] (fun r h => r = AI (pop x : Nat) ∧ h = []) := by
  (refine fcall_of mixed Try.func85 rfl (by decide) (hs := {}) ?k (ac := ?ac) ?c (rs := ?rs) ?r ?l ?H; (case k => kernel_rfl); (case c => (conv => (lhs; cbv))); (case r => (conv => (lhs; cbv))); (case l => exact Nat.le_of_ble_eq_true rfl))
  have hc : x = 0 ∨ x = 1 ∨ x = 2 ∨ x = 3 ∨ x = 4 ∨ x = 5 ∨ x = 6 ∨ x = 7 ∨ x = 8 ∨ x = 9 ∨ x = 10 ∨ x = 11 ∨ x = 12 ∨ x = 13 ∨ x = 14 ∨ x = 15 := by omega
  rcases hc with rfl | rfl | rfl | rfl | rfl | rfl | rfl | rfl | rfl | rfl | rfl | rfl | rfl | rfl | rfl | rfl
  all_goals
    (repeat' ((try (conv => whnf)); first | (with_reducible first | refine FCond.tA ?_ | refine FCond.fA ?_) | ((with_reducible refine FCond.i (fun hq => ?_) (fun hq => ?_)) <;> (try simp only [zA, zE, zD, zJ, zB, zI, Int.not_le, Int.not_lt] at hq)) | (with_reducible first | refine Fits.in64 (by omega) ?_ | refine FIdx.nat (by omega) ?_ | refine FIdx.int (by omega) ?_ | refine FTo.nat (by omega) ?_ | refine FTo.int (by omega) ?_) | ((with_reducible refine Need.mk ?_ ?_); focus exact needA) | (with_reducible refine FApp.grow ?_) | (refine Fits.inU (by decide) ?_) | (refine FBit.lit 0 (by decide +kernel) ?_) | (refine FBit.lit 1 (by decide +kernel) ?_) | (refine FBit.lit 2 (by decide +kernel) ?_) | (refine FBit.lit 3 (by decide +kernel) ?_) | (refine FBit.lit 4 (by decide +kernel) ?_) | (refine FBit.lit 5 (by decide +kernel) ?_) | (refine FBit.lit 6 (by decide +kernel) ?_) | (refine FBit.lit 7 (by decide +kernel) ?_) | (with_reducible refine FOr.pub ?_)))
    (try (conv => whnf))
    (refine ⟨⟨_, [], [], Cut.nil _, Ln.sameB _ rfl, ?_, rfl⟩⟩)
    rfl
theorem ones_ok (x : Nat) (hx : x < 16) : ACall Try.prog 78 [AU x] [] (fun r h => r = AI (pop x : Nat) ∧ h = []) := by
  have c1 := ones64_ok x hx
  (refine fcall_of mixed Try.func78 rfl (by decide) (hs := {}) ?k (ac := ?ac) ?c (rs := ?rs) ?r ?l ?H; (case k => kernel_rfl); (case c => (conv => (lhs; cbv))); (case r => (conv => (lhs; cbv))); (case l => exact Nat.le_of_ble_eq_true rfl))
  (repeat' ((try (conv => whnf)); first | (with_reducible first | refine FCond.tA ?_ | refine FCond.fA ?_) | ((with_reducible refine FCond.i (fun hq => ?_) (fun hq => ?_)) <;> (try simp only [zA, zE, zD, zJ, zB, zI, Int.not_le, Int.not_lt] at hq)) | (with_reducible first | refine Fits.in64 (by omega) ?_ | refine FIdx.nat (by omega) ?_ | refine FIdx.int (by omega) ?_ | refine FTo.nat (by omega) ?_ | refine FTo.int (by omega) ?_) | ((with_reducible refine Need.mk ?_ ?_); focus exact needA) | (with_reducible refine FApp.grow ?_) | (refine FCall.pure (c1) ⟨Ln.sameB _ rfl, True.intro⟩ rfl ?_) | (with_reducible refine FOr.pub ?_)))
  all_goals (try (conv => whnf))
  (refine ⟨⟨_, [], [], Cut.nil _, Ln.sameB _ rfl, ?_, rfl⟩⟩)
  rfl
/-- The first number that is not 0. -/
def orI (a b : Int) : Int := if a = 0 then b else a
def orL (a b : Int) : Nat → Int
  | 0 => a
  | _ => b
theorem or2_ok (a b : Int) : ACall Try.prog 46 [.sl false true 2 1 (fun k _ => AI (orL a b k))] [] (fun r h => r = AI (orI a b) ∧ h = []) := by
  unfold orI
  (refine fcall_of mixed Try.func46 rfl (by decide) (hs := {}) ?k (ac := ?ac) ?c (rs := ?rs) ?r ?l ?H; (case k => kernel_rfl); (case c => (conv => (lhs; cbv))); (case r => (conv => (lhs; cbv))); (case l => exact Nat.le_of_ble_eq_true rfl))
  (repeat' ((try (conv => whnf)); first | (with_reducible first | refine FCond.tA ?_ | refine FCond.fA ?_) | ((with_reducible refine FCond.i (fun hq => ?_) (fun hq => ?_)) <;> (try simp only [zA, zE, zD, zJ, zB, zI, Int.not_le, Int.not_lt] at hq)) | (with_reducible first | refine Fits.in64 (by omega) ?_ | refine FIdx.nat (by omega) ?_ | refine FIdx.int (by omega) ?_ | refine FTo.nat (by omega) ?_ | refine FTo.int (by omega) ?_) | ((with_reducible refine Need.mk ?_ ?_); focus exact needA) | (with_reducible refine FApp.grow ?_) | (with_reducible refine FOr.pub ?_)))
  all_goals (try (conv => whnf))
  refine FLoop.of (ACalls.mono _) (X := Nat) (fun k => [(3, AI 0), (6, .sl false true 2 1 (fun k _ => AI (orL a b k))), (7, AI 2), (8, AI k)]) (fun _ => []) (fun k => k ≤ 2 ∧ (1 ≤ k → a = 0) ∧ (2 ≤ k → b = 0)) (fun k => 2 - k) 0 ⟨⟨Nat.zero_le _, fun h => absurd h (by decide), fun h => absurd h (by decide)⟩, [], Cut.A, allA⟩ ?_
  rintro k ⟨hk, ha, hb⟩
  have k3 : k = 0 ∨ k = 1 ∨ k = 2 := by omega
  rcases k3 with rfl | rfl | rfl
  · by_cases h : a = 0
    · have h' : orL a b 0 = 0 := h
      (repeat' ((try (conv => whnf)); first | (with_reducible first | refine FCond.tA ?_ | refine FCond.fA ?_) | ((with_reducible refine FCond.i (fun hq => ?_) (fun hq => ?_)) <;> (try simp only [zA, zE, zD, zJ, zB, zI, Int.not_le, Int.not_lt] at hq)) | (with_reducible first | refine Fits.in64 (by omega) ?_ | refine FIdx.nat (by omega) ?_ | refine FIdx.int (by omega) ?_ | refine FTo.nat (by omega) ?_ | refine FTo.int (by omega) ?_) | ((with_reducible refine Need.mk ?_ ?_); focus exact needA) | (with_reducible refine FApp.grow ?_) | (with_reducible refine FOr.pub ?_)))
      all_goals (try (conv => whnf))
      exact ⟨⟨1, ⟨by decide, fun _ => h, fun h => absurd h (by decide)⟩, by decide, [], Cut.nil _, allA⟩⟩
    · have h' : ¬ orL a b 0 = 0 := h
      rw [if_neg h]
      (repeat' ((try (conv => whnf)); first | (with_reducible first | refine FCond.tA ?_ | refine FCond.fA ?_) | ((with_reducible refine FCond.i (fun hq => ?_) (fun hq => ?_)) <;> (try simp only [zA, zE, zD, zJ, zB, zI, Int.not_le, Int.not_lt] at hq)) | (with_reducible first | refine Fits.in64 (by omega) ?_ | refine FIdx.nat (by omega) ?_ | refine FIdx.int (by omega) ?_ | refine FTo.nat (by omega) ?_ | refine FTo.int (by omega) ?_) | ((with_reducible refine Need.mk ?_ ?_); focus exact needA) | (with_reducible refine FApp.grow ?_) | (with_reducible refine FOr.pub ?_)))
      all_goals (try (conv => whnf))
      (refine ⟨⟨_, [], [], Cut.nil _, Ln.sameB _ rfl, ?_, rfl⟩⟩)
      rfl
  · rw [if_pos (ha (by decide))]
    by_cases h : b = 0
    · have h' : orL a b 1 = 0 := h
      (repeat' ((try (conv => whnf)); first | (with_reducible first | refine FCond.tA ?_ | refine FCond.fA ?_) | ((with_reducible refine FCond.i (fun hq => ?_) (fun hq => ?_)) <;> (try simp only [zA, zE, zD, zJ, zB, zI, Int.not_le, Int.not_lt] at hq)) | (with_reducible first | refine Fits.in64 (by omega) ?_ | refine FIdx.nat (by omega) ?_ | refine FIdx.int (by omega) ?_ | refine FTo.nat (by omega) ?_ | refine FTo.int (by omega) ?_) | ((with_reducible refine Need.mk ?_ ?_); focus exact needA) | (with_reducible refine FApp.grow ?_) | (with_reducible refine FOr.pub ?_)))
      all_goals (try (conv => whnf))
      exact ⟨⟨2, ⟨by decide, fun _ => ha (by decide), fun _ => h⟩, by decide, [], Cut.nil _, allA⟩⟩
    · have h' : ¬ orL a b 1 = 0 := h
      (repeat' ((try (conv => whnf)); first | (with_reducible first | refine FCond.tA ?_ | refine FCond.fA ?_) | ((with_reducible refine FCond.i (fun hq => ?_) (fun hq => ?_)) <;> (try simp only [zA, zE, zD, zJ, zB, zI, Int.not_le, Int.not_lt] at hq)) | (with_reducible first | refine Fits.in64 (by omega) ?_ | refine FIdx.nat (by omega) ?_ | refine FIdx.int (by omega) ?_ | refine FTo.nat (by omega) ?_ | refine FTo.int (by omega) ?_) | ((with_reducible refine Need.mk ?_ ?_); focus exact needA) | (with_reducible refine FApp.grow ?_) | (with_reducible refine FOr.pub ?_)))
      all_goals (try (conv => whnf))
      (refine ⟨⟨_, [], [], Cut.nil _, Ln.sameB _ rfl, ?_, rfl⟩⟩)
      rfl
  · rw [if_pos (ha (by decide)), hb (by decide)]
    (repeat' ((try (conv => whnf)); first | (with_reducible first | refine FCond.tA ?_ | refine FCond.fA ?_) | ((with_reducible refine FCond.i (fun hq => ?_) (fun hq => ?_)) <;> (try simp only [zA, zE, zD, zJ, zB, zI, Int.not_le, Int.not_lt] at hq)) | (with_reducible first | refine Fits.in64 (by omega) ?_ | refine FIdx.nat (by omega) ?_ | refine FIdx.int (by omega) ?_ | refine FTo.nat (by omega) ?_ | refine FTo.int (by omega) ?_) | ((with_reducible refine Need.mk ?_ ?_); focus exact needA) | (with_reducible refine FApp.grow ?_) | (with_reducible refine FOr.pub ?_)))
    all_goals (try (conv => whnf))
    (refine ⟨⟨_, [], [], Cut.nil _, Ln.sameB _ rfl, ?_, rfl⟩⟩)
    rfl
theorem nan_ok (x : Int) : ACall Try.prog 87 [AI x] [] (fun r h => r = .bool false ∧ h = []) := by
  (refine fcall_of mixed Try.func87 rfl (by decide) (hs := {}) ?k (ac := ?ac) ?c (rs := ?rs) ?r ?l ?H; (case k => kernel_rfl); (case c => (conv => (lhs; cbv))); (case r => (conv => (lhs; cbv))); (case l => exact Nat.le_of_ble_eq_true rfl))
  (repeat' ((try (conv => whnf)); first | (with_reducible first | refine FCond.tA ?_ | refine FCond.fA ?_) | ((with_reducible refine FCond.i (fun hq => ?_) (fun hq => ?_)) <;> (try simp only [zA, zE, zD, zJ, zB, zI, Int.not_le, Int.not_lt] at hq)) | (with_reducible first | refine Fits.in64 (by omega) ?_ | refine FIdx.nat (by omega) ?_ | refine FIdx.int (by omega) ?_ | refine FTo.nat (by omega) ?_ | refine FTo.int (by omega) ?_) | ((with_reducible refine Need.mk ?_ ?_); focus exact needA) | (with_reducible refine FApp.grow ?_) | (with_reducible refine FOr.pub ?_)))
  all_goals (try (conv => whnf))
  all_goals ((refine ⟨⟨_, [], [], Cut.nil _, Ln.sameB _ rfl, ?_, rfl⟩⟩); first | rfl | simp)
def cmpI (a b : Int) : Int := if a < b then -1 else if b < a then 1 else 0
theorem cmp_ok (a b : Int) : ACall Try.prog 80 [AI a, AI b] [] (fun r h => r = AI (cmpI a b) ∧ h = []) := by
  unfold cmpI
  (refine fcall_of mixed Try.func80 rfl (by decide) (hs := {}) ?k (ac := ?ac) ?c (rs := ?rs) ?r ?l ?H; (case k => kernel_rfl); (case c => (conv => (lhs; cbv))); (case r => (conv => (lhs; cbv))); (case l => exact Nat.le_of_ble_eq_true rfl))
  by_cases h1 : a < b
  · rw [if_pos h1]
    (repeat' ((try (conv => whnf)); first | (with_reducible first | refine FCond.tA ?_ | refine FCond.fA ?_) | ((with_reducible refine FCond.i (fun hq => ?_) (fun hq => ?_)) <;> (try simp only [zA, zE, zD, zJ, zB, zI, Int.not_le, Int.not_lt] at hq)) | (with_reducible first | refine Fits.in64 (by omega) ?_ | refine FIdx.nat (by omega) ?_ | refine FIdx.int (by omega) ?_ | refine FTo.nat (by omega) ?_ | refine FTo.int (by omega) ?_) | ((with_reducible refine Need.mk ?_ ?_); focus exact needA) | (with_reducible refine FApp.grow ?_) | (refine FCall.pure ((nan_ok a)) ⟨Ln.sameB _ rfl, True.intro⟩ rfl ?_) | (refine FCall.pure ((nan_ok b)) ⟨Ln.sameB _ rfl, True.intro⟩ rfl ?_) | (with_reducible refine FOr.pub ?_)))
    all_goals (try (conv => whnf))
    all_goals ((refine ⟨⟨_, [], [], Cut.nil _, Ln.sameB _ rfl, ?_, rfl⟩⟩); rfl)
  · rw [if_neg h1]
    by_cases h2 : b < a
    · rw [if_pos h2]
      (repeat' ((try (conv => whnf)); first | (with_reducible first | refine FCond.tA ?_ | refine FCond.fA ?_) | ((with_reducible refine FCond.i (fun hq => ?_) (fun hq => ?_)) <;> (try simp only [zA, zE, zD, zJ, zB, zI, Int.not_le, Int.not_lt] at hq)) | (with_reducible first | refine Fits.in64 (by omega) ?_ | refine FIdx.nat (by omega) ?_ | refine FIdx.int (by omega) ?_ | refine FTo.nat (by omega) ?_ | refine FTo.int (by omega) ?_) | ((with_reducible refine Need.mk ?_ ?_); focus exact needA) | (with_reducible refine FApp.grow ?_) | (refine FCall.pure ((nan_ok a)) ⟨Ln.sameB _ rfl, True.intro⟩ rfl ?_) | (refine FCall.pure ((nan_ok b)) ⟨Ln.sameB _ rfl, True.intro⟩ rfl ?_) | (with_reducible refine FOr.pub ?_)))
      all_goals (try (conv => whnf))
      all_goals ((refine ⟨⟨_, [], [], Cut.nil _, Ln.sameB _ rfl, ?_, rfl⟩⟩); rfl)
    · rw [if_neg h2]
      (repeat' ((try (conv => whnf)); first | (with_reducible first | refine FCond.tA ?_ | refine FCond.fA ?_) | ((with_reducible refine FCond.i (fun hq => ?_) (fun hq => ?_)) <;> (try simp only [zA, zE, zD, zJ, zB, zI, Int.not_le, Int.not_lt] at hq)) | (with_reducible first | refine Fits.in64 (by omega) ?_ | refine FIdx.nat (by omega) ?_ | refine FIdx.int (by omega) ?_ | refine FTo.nat (by omega) ?_ | refine FTo.int (by omega) ?_) | ((with_reducible refine Need.mk ?_ ?_); focus exact needA) | (with_reducible refine FApp.grow ?_) | (refine FCall.pure ((nan_ok a)) ⟨Ln.sameB _ rfl, True.intro⟩ rfl ?_) | (refine FCall.pure ((nan_ok b)) ⟨Ln.sameB _ rfl, True.intro⟩ rfl ?_) | (with_reducible refine FOr.pub ?_)))
      all_goals (try (conv => whnf))
      all_goals ((refine ⟨⟨_, [], [], Cut.nil _, Ln.sameB _ rfl, ?_, rfl⟩⟩); rfl)
/-- How two lists of one length compare, from their k-th elements on. -/
def lexK (l1 l2 : List Int) : Nat → Nat → Int
  | 0, _ => 0
  | n + 1, k => if l1.getD k 0 = l2.getD k 0 then lexK l1 l2 n (k + 1) else cmpI (l1.getD k 0) (l2.getD k 0)
theorem compare_ok (z e z2 e2 : Bool) (l1 l2 : List Int) (hl : l1.length = l2.length) (h1 : l1.length ≤ 1000) : ACall Try.prog 70 [aInts z e l1, aInts z2 e2 l2] [] (fun r h => r = AI (lexK l1 l2 l1.length 0) ∧ h = []) := by
  (refine fcall_of mixed Try.func70 rfl (by decide) (hs := {}) ?k (ac := ?ac) ?c (rs := ?rs) ?r ?l ?H; (case k => kernel_rfl); (case c => (conv => (lhs; cbv))); (case r => (conv => (lhs; cbv))); (case l => exact Nat.le_of_ble_eq_true rfl))
  (repeat' ((try (conv => whnf)); first | (with_reducible first | refine FCond.tA ?_ | refine FCond.fA ?_) | ((with_reducible refine FCond.i (fun hq => ?_) (fun hq => ?_)) <;> (try simp only [zA, zE, zD, zJ, zB, zI, Int.not_le, Int.not_lt] at hq)) | (with_reducible first | refine Fits.in64 (by omega) ?_ | refine FIdx.nat (by omega) ?_ | refine FIdx.int (by omega) ?_ | refine FTo.nat (by omega) ?_ | refine FTo.int (by omega) ?_) | ((with_reducible refine Need.mk ?_ ?_); focus exact needA) | (with_reducible refine FApp.grow ?_) | (with_reducible refine FOr.pub ?_)))
  all_goals (try (conv => whnf))
  refine FLoop.of (ACalls.mono _) (X := Nat) (fun k => [(0, aInts z e l1), (1, aInts z2 e2 l2), (9, aInts z e l1), (10, AI l1.length), (11, AI k)]) (fun _ => []) (fun k => k ≤ l1.length ∧ lexK l1 l2 l1.length 0 = lexK l1 l2 (l1.length - k) k) (fun k => l1.length - k) 0 ⟨⟨Nat.zero_le _, rfl⟩, [], Cut.A, allA⟩ ?_
  rintro k ⟨hk, hL⟩
  by_cases hlt : k < l1.length
  · obtain ⟨m, hm⟩ : ∃ m, l1.length - k = m + 1 := ⟨l1.length - k - 1, by omega⟩
    rw [hm, lexK] at hL
    have cC := cmp_ok (l1.getD k 0) (l2.getD k 0)
    by_cases he : l1.getD k 0 = l2.getD k 0
    · rw [if_pos he] at hL
      have hz : cmpI (l1.getD k 0) (l2.getD k 0) = 0 := by unfold cmpI; rw [if_neg (by omega), if_neg (by omega)]
      rw [hz] at cC
      (repeat' ((try (conv => whnf)); first | (with_reducible first | refine FCond.tA ?_ | refine FCond.fA ?_) | ((with_reducible refine FCond.i (fun hq => ?_) (fun hq => ?_)) <;> (try simp only [zA, zE, zD, zJ, zB, zI, Int.not_le, Int.not_lt] at hq)) | (with_reducible first | refine Fits.in64 (by omega) ?_ | refine FIdx.nat (by omega) ?_ | refine FIdx.int (by omega) ?_ | refine FTo.nat (by omega) ?_ | refine FTo.int (by omega) ?_) | ((with_reducible refine Need.mk ?_ ?_); focus exact needA) | (with_reducible refine FApp.grow ?_) | (refine FCall.pure (cC) ⟨Ln.sameB _ rfl, Ln.sameB _ rfl, True.intro⟩ rfl ?_) | (with_reducible refine FOr.pub ?_)))
      all_goals (try (conv => whnf))
      exact ⟨⟨k + 1, ⟨hlt, by rw [hL, show l1.length - (k + 1) = m by omega]⟩, by show _ - (k + 1) < _ - k; omega, [], Cut.nil _, allA⟩⟩
    · rw [if_neg he] at hL
      rw [hL]
      have hz : ¬ cmpI (l1.getD k 0) (l2.getD k 0) = 0 := by unfold cmpI; split <;> (try split) <;> omega
      (repeat' ((try (conv => whnf)); first | (with_reducible first | refine FCond.tA ?_ | refine FCond.fA ?_) | ((with_reducible refine FCond.i (fun hq => ?_) (fun hq => ?_)) <;> (try simp only [zA, zE, zD, zJ, zB, zI, Int.not_le, Int.not_lt] at hq)) | (with_reducible first | refine Fits.in64 (by omega) ?_ | refine FIdx.nat (by omega) ?_ | refine FIdx.int (by omega) ?_ | refine FTo.nat (by omega) ?_ | refine FTo.int (by omega) ?_) | ((with_reducible refine Need.mk ?_ ?_); focus exact needA) | (with_reducible refine FApp.grow ?_) | (refine FCall.pure (cC) ⟨Ln.sameB _ rfl, Ln.sameB _ rfl, True.intro⟩ rfl ?_) | (with_reducible refine FOr.pub ?_)))
      all_goals (try (conv => whnf))
      (refine ⟨⟨_, [], [], Cut.nil _, Ln.sameB _ rfl, ?_, rfl⟩⟩)
      rfl
  · rw [show l1.length - k = 0 by omega, lexK] at hL
    rw [hL]
    (repeat' ((try (conv => whnf)); first | (with_reducible first | refine FCond.tA ?_ | refine FCond.fA ?_) | ((with_reducible refine FCond.i (fun hq => ?_) (fun hq => ?_)) <;> (try simp only [zA, zE, zD, zJ, zB, zI, Int.not_le, Int.not_lt] at hq)) | (with_reducible first | refine Fits.in64 (by omega) ?_ | refine FIdx.nat (by omega) ?_ | refine FIdx.int (by omega) ?_ | refine FTo.nat (by omega) ?_ | refine FTo.int (by omega) ?_) | ((with_reducible refine Need.mk ?_ ?_); focus exact needA) | (with_reducible refine FApp.grow ?_) | (with_reducible refine FOr.pub ?_)))
    all_goals (try (conv => whnf))
    (refine ⟨⟨_, [], [], Cut.nil _, Ln.sameB _ rfl, ?_, rfl⟩⟩)
    rfl
end Go.Proofs.Ytlffjnmbpoemnaa

namespace Go.Proofs.Ytlffjnmbpoemnaa
open Go.RowKit

/-- All secret amounts are left out. -/
def coverR (s : Sheet) (m : List Int) (r : Nat) : Bool := decide (sdiff (s.secret.getD r 0).toNat (m.getD r 0).toNat = 0)
def coversS (s : Sheet) (m : List Int) : Bool := (List.range s.R).all (coverR s m)
def manyTo (m : List Int) (r : Nat) : Int := sumTo (fun i => (pop (m.getD i 0).toNat : Nat)) r
def outTo (s : Sheet) (m : List Int) (r c : Nat) : Int := sumTo (fun i => if outS m r i then s.A r i else 0) c
def leftTo (s : Sheet) (m : List Int) (r : Nat) : Int := sumTo (fun i => outTo s m i s.C) r
theorem pop_le (x : Nat) : pop x ≤ 4 := by unfold pop; omega
theorem outTo_bd {s : Sheet} (hs : SheetOk s) (m : List Int) {r c : Nat} (hr : r < s.R) (hc : c ≤ s.C) : 0 ≤ outTo s m r c ∧ outTo s m r c ≤ 40000 := by
  have h1 := sumTo_bd (f := fun i => if outS m r i then s.A r i else 0) (B := 10000) (by decide) (k := c) fun i hi => by
    have := hs.amt r i hr (by omega)
    split <;> omega
  have h2 : 0 ≤ outTo s m r c := sumTo_nn fun i hi => by
    have := hs.amt r i hr (by omega)
    split <;> omega
  have := hs.c4
  unfold outTo at h2 ⊢
  omega
theorem leftTo_bd {s : Sheet} (hs : SheetOk s) (m : List Int) {r : Nat} (hr : r ≤ s.R) : 0 ≤ leftTo s m r ∧ leftTo s m r ≤ 160000 := by
  have h1 := sumTo_bd (f := fun i => outTo s m i s.C) (B := 40000) (by decide) (k := r) fun i hi => by
    have := outTo_bd hs m (show i < s.R by omega) (Nat.le_refl s.C); omega
  have h2 : 0 ≤ leftTo s m r := sumTo_nn fun i hi => (outTo_bd hs m (show i < s.R by omega) (Nat.le_refl s.C)).1
  have := hs.r4
  unfold leftTo at h2 ⊢
  omega
theorem manyTo_bd (m : List Int) {r : Nat} (hr : r ≤ 4) : 0 ≤ manyTo m r ∧ manyTo m r ≤ 16 := by
  have h1 := sumTo_bd (f := fun i => ((pop (m.getD i 0).toNat : Nat) : Int)) (B := 4) (by decide) (k := r) fun i hi => by
    have := pop_le (m.getD i 0).toNat; omega
  have h2 : 0 ≤ manyTo m r := sumTo_nn fun i hi => by omega
  unfold manyTo at h2 ⊢
  omega
theorem mask_16 {s : Sheet} (hs : SheetOk s) {m : List Int} (hm : MaskOk s m) {r : Nat} (hr : r < s.R) : ∃ k : Nat, m.getD r 0 = k ∧ k < 16 ∧ k < 2 ^ s.C := by
  have h := hm.bd r hr
  have := Nat.pow_le_pow_right (show 0 < 2 by decide) hs.c4
  exact ⟨(m.getD r 0).toNat, by omega, by omega, by omega⟩
set_option maxHeartbeats 16000000
set_option maxRecDepth 100000
theorem covers_ok (f : ShF) (s : Sheet) (hs : SheetOk s) (z e : Bool) (m : List Int) (hm : MaskOk s m) : ACall Try.prog 67 [iSt f s z e m] [] (fun v h => v = .bool (coversS s m) ∧ h = []) := by
  have r4 := hs.r4
  have hml := hm.len
  have hsl := hs.sec.len
  (refine fcall_of mixed Try.func67 rfl (by decide) (hs := {}) ?k (ac := ?ac) ?c (rs := ?rs) ?r ?l ?H; (case k => kernel_rfl); (case c => (conv => (lhs; cbv))); (case r => (conv => (lhs; cbv))); (case l => exact Nat.le_of_ble_eq_true rfl))
  (repeat' ((try (conv => whnf)); first | (with_reducible first | refine FCond.tA ?_ | refine FCond.fA ?_) | ((with_reducible refine FCond.i (fun hq => ?_) (fun hq => ?_)) <;> (try simp only [zA, zE, zD, zJ, zB, zI, Int.not_le, Int.not_lt] at hq)) | (with_reducible first | refine Fits.in64 (by omega) ?_ | refine FIdx.nat (by omega) ?_ | refine FIdx.int (by omega) ?_ | refine FTo.nat (by omega) ?_ | refine FTo.int (by omega) ?_) | ((with_reducible refine Need.mk ?_ ?_); focus exact needA) | (with_reducible refine FApp.grow ?_) | (with_reducible refine FOr.pub ?_)))
  all_goals (try (conv => whnf))
  refine FLoop.of (ACalls.mono _) (X := Nat) (fun r => [(0, iSt f s z e m), (9, aInts f.zs f.es s.secret), (10, AI s.secret.length), (11, AI r)]) (fun _ => []) (fun r => r ≤ s.R ∧ ∀ k, k < r → coverR s m k = true) (fun r => s.R - r) 0 ⟨⟨Nat.zero_le _, fun k hk => absurd hk (Nat.not_lt_zero k)⟩, [], Cut.A, allA⟩ ?_
  rintro r ⟨hr, hup⟩
  by_cases hlt : r < s.R
  · obtain ⟨a, ha, ha16, _⟩ := mask_16 hs hs.sec hlt
    obtain ⟨b, hb, hb16, _⟩ := mask_16 hs hm hlt
    have e1 : coverR s m r = decide (sdiff a b = 0) := by unfold coverR; rw [ha, hb]; rfl
    by_cases hz : sdiff a b = 0
    · (repeat' ((try (conv => whnf)); first | (with_reducible first | refine FCond.tA ?_ | refine FCond.fA ?_) | ((with_reducible refine FCond.i (fun hq => ?_) (fun hq => ?_)) <;> (try simp only [zA, zE, zD, zJ, zB, zI, Int.not_le, Int.not_lt] at hq)) | (with_reducible first | refine Fits.in64 (by omega) ?_ | refine FIdx.nat (by omega) ?_ | refine FIdx.int (by omega) ?_ | refine FTo.nat (by omega) ?_ | refine FTo.int (by omega) ?_) | ((with_reducible refine Need.mk ?_ ?_); focus exact needA) | (with_reducible refine FApp.grow ?_) | (rw [ha, hb]; refine FBit.andNotN rfl (by omega) (by omega) ?_) | (with_reducible refine FOr.pub ?_)))
      all_goals (try (conv => whnf))
      all_goals exact ⟨⟨r + 1, ⟨hlt, below_step hup (by rw [e1, decide_eq_true hz])⟩, by show s.R - (r + 1) < s.R - r; omega, [], Cut.nil _, allA⟩⟩
    · rw [show coversS s m = false from rall_no hlt (by rw [e1, decide_eq_false hz])]
      (repeat' ((try (conv => whnf)); first | (with_reducible first | refine FCond.tA ?_ | refine FCond.fA ?_) | ((with_reducible refine FCond.i (fun hq => ?_) (fun hq => ?_)) <;> (try simp only [zA, zE, zD, zJ, zB, zI, Int.not_le, Int.not_lt] at hq)) | (with_reducible first | refine Fits.in64 (by omega) ?_ | refine FIdx.nat (by omega) ?_ | refine FIdx.int (by omega) ?_ | refine FTo.nat (by omega) ?_ | refine FTo.int (by omega) ?_) | ((with_reducible refine Need.mk ?_ ?_); focus exact needA) | (with_reducible refine FApp.grow ?_) | (rw [ha, hb]; refine FBit.andNotN rfl (by omega) (by omega) ?_) | (with_reducible refine FOr.pub ?_)))
      all_goals (try (conv => whnf))
      all_goals ((refine ⟨⟨_, [], [], Cut.nil _, Ln.sameB _ rfl, ?_, rfl⟩⟩); rfl)
  · have hrE : s.R = r := by omega
    rw [show coversS s m = true from by unfold coversS; rw [hrE]; exact rall_yes hup]
    (repeat' ((try (conv => whnf)); first | (with_reducible first | refine FCond.tA ?_ | refine FCond.fA ?_) | ((with_reducible refine FCond.i (fun hq => ?_) (fun hq => ?_)) <;> (try simp only [zA, zE, zD, zJ, zB, zI, Int.not_le, Int.not_lt] at hq)) | (with_reducible first | refine Fits.in64 (by omega) ?_ | refine FIdx.nat (by omega) ?_ | refine FIdx.int (by omega) ?_ | refine FTo.nat (by omega) ?_ | refine FTo.int (by omega) ?_) | ((with_reducible refine Need.mk ?_ ?_); focus exact needA) | (with_reducible refine FApp.grow ?_) | (with_reducible refine FOr.pub ?_)))
    all_goals (try (conv => whnf))
    all_goals ((refine ⟨⟨_, [], [], Cut.nil _, Ln.sameB _ rfl, ?_, rfl⟩⟩); rfl)
theorem price_ok (f : ShF) (s : Sheet) (hs : SheetOk s) (z e : Bool) (m : List Int) (hm : MaskOk s m) : ACall Try.prog 69 [iSt f s z e m] [] (fun v h => v = .agg 2 (ofL [AI (manyTo m s.R), AI (leftTo s m s.R)]) ∧ h = []) := by
  have r4 := hs.r4
  have c4 := hs.c4
  have hR : s.R = s.amounts.length := rfl
  have hml := hm.len
  (refine fcall_of mixed Try.func69 rfl (by decide) (hs := { ord := [(4, [(0, []), (1, []), (2, []), (3, []), (4, []), (5, []), (6, []), (7, []), (8, []), (9, []), (10, [1]), (11, []), (12, []), (13, [])])] }) ?k (ac := ?ac) ?c (rs := ?rs) ?r ?l ?H; (case k => kernel_rfl); (case c => (conv => (lhs; cbv))); (case r => (conv => (lhs; cbv))); (case l => exact Nat.le_of_ble_eq_true rfl))
  (repeat' ((try (conv => whnf)); first | (with_reducible first | refine FCond.tA ?_ | refine FCond.fA ?_) | ((with_reducible refine FCond.i (fun hq => ?_) (fun hq => ?_)) <;> (try simp only [zA, zE, zD, zJ, zB, zI, Int.not_le, Int.not_lt] at hq)) | (with_reducible first | refine Fits.in64 (by omega) ?_ | refine FIdx.nat (by omega) ?_ | refine FIdx.int (by omega) ?_ | refine FTo.nat (by omega) ?_ | refine FTo.int (by omega) ?_) | ((with_reducible refine Need.mk ?_ ?_); focus exact needA) | (with_reducible refine FApp.grow ?_) | (with_reducible refine FOr.pub ?_)))
  all_goals (try (conv => whnf))
  refine FLoop.of (ACalls.mono _) (X := Nat) (fun r => [(0, iSt f s z e m), (2, .ptr 0 0), (11, aRows f.za f.ea f.rz f.re s.amounts), (12, AI s.R), (13, AI r)]) (fun r => [.box 2 (ofL [AI (manyTo m r), AI (leftTo s m r)])]) (fun r => r ≤ s.R) (fun r => s.R - r) 0 ⟨Nat.zero_le _, [0], Cut.A, allA⟩ ?_
  intro r hr
  have b1 := manyTo_bd m (show r ≤ 4 by omega)
  have b2 := leftTo_bd hs m hr
  by_cases hlt : r < s.R
  · obtain ⟨b, hb, hb16, _⟩ := mask_16 hs hm hlt
    have cN := ones_ok b hb16
    have hp := pop_le b
    have hrow := hs.row r hlt
    have hm1 : manyTo m (r + 1) = manyTo m r + (pop b : Nat) := by unfold manyTo; simp only [sumTo]; rw [hb]; rfl
    (repeat' ((try (conv => whnf)); first | (with_reducible first | refine FCond.tA ?_ | refine FCond.fA ?_) | ((with_reducible refine FCond.i (fun hq => ?_) (fun hq => ?_)) <;> (try simp only [zA, zE, zD, zJ, zB, zI, Int.not_le, Int.not_lt] at hq)) | (with_reducible first | refine Fits.in64 (by omega) ?_ | refine FIdx.nat (by omega) ?_ | refine FIdx.int (by omega) ?_ | refine FTo.nat (by omega) ?_ | refine FTo.int (by omega) ?_) | ((with_reducible refine Need.mk ?_ ?_); focus exact needA) | (with_reducible refine FApp.grow ?_) | (rw [hb]; refine Fits.inU (by omega) ?_) | (refine FCall.pure (cN) ⟨Ln.sameB _ rfl, True.intro⟩ rfl ?_) | (with_reducible refine FOr.pub ?_)))
    all_goals (try (conv => whnf))
    refine FLoop.of (ACalls.mono _) (X := Nat) (fun c => [(0, iSt f s z e m), (2, .ptr 0 0), (3, AI r), (11, aRows f.za f.ea f.rz f.re s.amounts), (12, AI s.R), (13, AI r), (31, aInts (f.rz r) (f.re r) (s.amounts.getD r [])), (32, AI s.C), (33, AI c)]) (fun c => [.box 2 (ofL [AI (manyTo m (r + 1)), AI (leftTo s m r + outTo s m r c)])]) (fun c => c ≤ s.C) (fun c => s.C - c) 0
      ⟨Nat.zero_le _, [0], Cut.of (Nat.le_of_ble_eq_true rfl) rfl rfl (CutL.turned rfl (LnB.boxN ⟨⟨True.intro, Ln.int (by rw [hm1])⟩, Ln.int (by show _ = leftTo s m r + 0; omega)⟩) CutL.done), ⟨Ln.A, Ln.A, Ln.A, Ln.A, Ln.A, Ln.A, Ln.A, Ln.int (by rw [hrow]), Ln.A, True.intro⟩⟩ ?_
    intro c hc
    have b3 := outTo_bd hs m hlt hc
    by_cases hltc : c < s.C
    · have hA : 0 ≤ (s.amounts.getD r []).getD c 0 ∧ (s.amounts.getD r []).getD c 0 ≤ 10000 := hs.amt r c hlt hltc
      have cO := outP_ok f s z e m r c (by omega) (by omega) (by omega)
      cases ho : outS m r c
      · rw [ho] at cO
        have e1 : outTo s m r (c + 1) = outTo s m r c := by unfold outTo; simp only [sumTo]; rw [ho]; simp
        (repeat' ((try (conv => whnf)); first | (with_reducible first | refine FCond.tA ?_ | refine FCond.fA ?_) | ((with_reducible refine FCond.i (fun hq => ?_) (fun hq => ?_)) <;> (try simp only [zA, zE, zD, zJ, zB, zI, Int.not_le, Int.not_lt] at hq)) | (with_reducible first | refine Fits.in64 (by omega) ?_ | refine FIdx.nat (by omega) ?_ | refine FIdx.int (by omega) ?_ | refine FTo.nat (by omega) ?_ | refine FTo.int (by omega) ?_) | ((with_reducible refine Need.mk ?_ ?_); focus exact needA) | (with_reducible refine FApp.grow ?_) | (refine FCall.pure (cO) ⟨Ln.sameB _ rfl, Ln.sameB _ rfl, Ln.sameB _ rfl, True.intro⟩ rfl ?_) | (with_reducible refine FOr.pub ?_)))
        all_goals (try (conv => whnf))
        exact ⟨⟨c + 1, hltc, by show s.C - (c + 1) < s.C - c; omega, [0], Cut.of (Nat.le_of_ble_eq_true rfl) rfl rfl (CutL.turned rfl (LnB.boxN ⟨⟨True.intro, Ln.A⟩, Ln.int (by rw [e1])⟩) CutL.done), allA⟩⟩
      · rw [ho] at cO
        have e1 : outTo s m r (c + 1) = outTo s m r c + (s.amounts.getD r []).getD c 0 := by unfold outTo; simp only [sumTo]; rw [ho]; rfl
        (repeat' ((try (conv => whnf)); first | (with_reducible first | refine FCond.tA ?_ | refine FCond.fA ?_) | ((with_reducible refine FCond.i (fun hq => ?_) (fun hq => ?_)) <;> (try simp only [zA, zE, zD, zJ, zB, zI, Int.not_le, Int.not_lt] at hq)) | (with_reducible first | refine Fits.in64 (by omega) ?_ | refine FIdx.nat (by omega) ?_ | refine FIdx.int (by omega) ?_ | refine FTo.nat (by omega) ?_ | refine FTo.int (by omega) ?_) | ((with_reducible refine Need.mk ?_ ?_); focus exact needA) | (with_reducible refine FApp.grow ?_) | (refine FCall.pure (cO) ⟨Ln.sameB _ rfl, Ln.sameB _ rfl, Ln.sameB _ rfl, True.intro⟩ rfl ?_) | (with_reducible refine FOr.pub ?_)))
        all_goals (try (conv => whnf))
        exact ⟨⟨c + 1, hltc, by show s.C - (c + 1) < s.C - c; omega, [0], Cut.of (Nat.le_of_ble_eq_true rfl) rfl rfl (CutL.turned rfl (LnB.boxN ⟨⟨True.intro, Ln.A⟩, Ln.int (by rw [e1]; omega)⟩) CutL.done), allA⟩⟩
    · have hcE : c = s.C := by omega
      subst hcE
      have e1 : leftTo s m (r + 1) = leftTo s m r + outTo s m r s.C := rfl
      (repeat' ((try (conv => whnf)); first | (with_reducible first | refine FCond.tA ?_ | refine FCond.fA ?_) | ((with_reducible refine FCond.i (fun hq => ?_) (fun hq => ?_)) <;> (try simp only [zA, zE, zD, zJ, zB, zI, Int.not_le, Int.not_lt] at hq)) | (with_reducible first | refine Fits.in64 (by omega) ?_ | refine FIdx.nat (by omega) ?_ | refine FIdx.int (by omega) ?_ | refine FTo.nat (by omega) ?_ | refine FTo.int (by omega) ?_) | ((with_reducible refine Need.mk ?_ ?_); focus exact needA) | (with_reducible refine FApp.grow ?_) | (with_reducible refine FOr.pub ?_)))
      all_goals (try (conv => whnf))
      exact ⟨⟨r + 1, hlt, by show s.R - (r + 1) < s.R - r; omega, [0], Cut.of (Nat.le_of_ble_eq_true rfl) rfl rfl (CutL.turned rfl (LnB.boxN ⟨⟨True.intro, Ln.A⟩, Ln.int (by rw [e1])⟩) CutL.done), allA⟩⟩
  · have hrE : r = s.R := by omega
    subst hrE
    (repeat' ((try (conv => whnf)); first | (with_reducible first | refine FCond.tA ?_ | refine FCond.fA ?_) | ((with_reducible refine FCond.i (fun hq => ?_) (fun hq => ?_)) <;> (try simp only [zA, zE, zD, zJ, zB, zI, Int.not_le, Int.not_lt] at hq)) | (with_reducible first | refine Fits.in64 (by omega) ?_ | refine FIdx.nat (by omega) ?_ | refine FIdx.int (by omega) ?_ | refine FTo.nat (by omega) ?_ | refine FTo.int (by omega) ?_) | ((with_reducible refine Need.mk ?_ ?_); focus exact needA) | (with_reducible refine FApp.grow ?_) | (with_reducible refine FOr.pub ?_)))
    all_goals (try (conv => whnf))
    all_goals ((refine ⟨⟨_, [], [], Cut.nil _, Ln.sameB _ rfl, ?_, rfl⟩⟩); rfl)
/-- How many amounts of a column are left out, in the first rows. -/
def cntC (m : List Int) (c r : Nat) : Int := sumTo (fun i => if outS m i c then 1 else 0) r
/-- Some amount is the only one that is left out in its row or column. -/
def loneS (s : Sheet) (m : List Int) : Bool := (List.range s.R).any (fun r => decide (pop (m.getD r 0).toNat = 1)) || (List.range s.C).any (fun c => decide (cntC m c s.R = 1))
theorem cntC_bd (m : List Int) (c : Nat) {r : Nat} (hr : r ≤ 4) : 0 ≤ cntC m c r ∧ cntC m c r ≤ 4 := by
  have h1 := sumTo_bd (f := fun i => if outS m i c then 1 else 0) (B := 1) (by decide) (k := r) fun i hi => by split <;> omega
  have h2 : 0 ≤ cntC m c r := sumTo_nn fun i hi => by split <;> omega
  unfold cntC at h2 ⊢
  omega
theorem index_ok (n : Nat) (g : Nat → Int) (v : Int) (hn : n ≤ 1000) : ACall Try.prog 86 [aFun n g, AI v] [] (fun r h => r = AI (idxP n (fun k => decide (v = g k)) n 0) ∧ h = []) := by
  (refine fcall_of mixed Try.func86 rfl (by decide) (hs := {}) ?k (ac := ?ac) ?c (rs := ?rs) ?r ?l ?H; (case k => kernel_rfl); (case c => (conv => (lhs; cbv))); (case r => (conv => (lhs; cbv))); (case l => exact Nat.le_of_ble_eq_true rfl))
  (repeat' ((try (conv => whnf)); first | (with_reducible first | refine FCond.tA ?_ | refine FCond.fA ?_) | ((with_reducible refine FCond.i (fun hq => ?_) (fun hq => ?_)) <;> (try simp only [zA, zE, zD, zJ, zB, zI, Int.not_le, Int.not_lt] at hq)) | (with_reducible first | refine Fits.in64 (by omega) ?_ | refine FIdx.nat (by omega) ?_ | refine FIdx.int (by omega) ?_ | refine FTo.nat (by omega) ?_ | refine FTo.int (by omega) ?_) | ((with_reducible refine Need.mk ?_ ?_); focus exact needA) | (with_reducible refine FApp.grow ?_) | (with_reducible refine FOr.pub ?_)))
  all_goals (try (conv => whnf))
  refine FLoop.of (ACalls.mono _) (X := Nat) (fun k => [(0, aFun n g), (1, AI v), (7, AI n), (8, AI k)]) (fun _ => []) (fun k => k ≤ n ∧ idxP n (fun k => decide (v = g k)) n 0 = idxP n (fun k => decide (v = g k)) (n - k) k) (fun k => n - k) 0 ⟨⟨Nat.zero_le _, rfl⟩, [], Cut.A, allA⟩ ?_
  rintro k ⟨hk, hL⟩
  by_cases hlt : k < n
  · obtain ⟨m, hm⟩ : ∃ m, n - k = m + 1 := ⟨n - k - 1, by omega⟩
    rw [hm, idxP] at hL
    by_cases he : v = g k
    · rw [if_pos (decide_eq_true he)] at hL
      rw [hL]
      (repeat' ((try (conv => whnf)); first | (with_reducible first | refine FCond.tA ?_ | refine FCond.fA ?_) | ((with_reducible refine FCond.i (fun hq => ?_) (fun hq => ?_)) <;> (try simp only [zA, zE, zD, zJ, zB, zI, Int.not_le, Int.not_lt] at hq)) | (with_reducible first | refine Fits.in64 (by omega) ?_ | refine FIdx.nat (by omega) ?_ | refine FIdx.int (by omega) ?_ | refine FTo.nat (by omega) ?_ | refine FTo.int (by omega) ?_) | ((with_reducible refine Need.mk ?_ ?_); focus exact needA) | (with_reducible refine FApp.grow ?_) | (with_reducible refine FOr.pub ?_)))
      all_goals (try (conv => whnf))
      (refine ⟨⟨_, [], [], Cut.nil _, Ln.sameB _ rfl, ?_, rfl⟩⟩)
      rfl
    · rw [if_neg (by simpa using he)] at hL
      (repeat' ((try (conv => whnf)); first | (with_reducible first | refine FCond.tA ?_ | refine FCond.fA ?_) | ((with_reducible refine FCond.i (fun hq => ?_) (fun hq => ?_)) <;> (try simp only [zA, zE, zD, zJ, zB, zI, Int.not_le, Int.not_lt] at hq)) | (with_reducible first | refine Fits.in64 (by omega) ?_ | refine FIdx.nat (by omega) ?_ | refine FIdx.int (by omega) ?_ | refine FTo.nat (by omega) ?_ | refine FTo.int (by omega) ?_) | ((with_reducible refine Need.mk ?_ ?_); focus exact needA) | (with_reducible refine FApp.grow ?_) | (with_reducible refine FOr.pub ?_)))
      all_goals (try (conv => whnf))
      exact ⟨⟨k + 1, ⟨hlt, by rw [hL, show n - (k + 1) = m by omega]⟩, by show n - (k + 1) < n - k; omega, [], Cut.nil _, allA⟩⟩
  · rw [show n - k = 0 by omega, idxP] at hL
    rw [hL]
    (repeat' ((try (conv => whnf)); first | (with_reducible first | refine FCond.tA ?_ | refine FCond.fA ?_) | ((with_reducible refine FCond.i (fun hq => ?_) (fun hq => ?_)) <;> (try simp only [zA, zE, zD, zJ, zB, zI, Int.not_le, Int.not_lt] at hq)) | (with_reducible first | refine Fits.in64 (by omega) ?_ | refine FIdx.nat (by omega) ?_ | refine FIdx.int (by omega) ?_ | refine FTo.nat (by omega) ?_ | refine FTo.int (by omega) ?_) | ((with_reducible refine Need.mk ?_ ?_); focus exact needA) | (with_reducible refine FApp.grow ?_) | (with_reducible refine FOr.pub ?_)))
    all_goals (try (conv => whnf))
    (refine ⟨⟨_, [], [], Cut.nil _, Ln.sameB _ rfl, ?_, rfl⟩⟩)
    rfl
theorem contains_ok (n : Nat) (g : Nat → Int) (v : Int) (hn : n ≤ 1000) : ACall Try.prog 79 [aFun n g, AI v] [] (fun r h => r = .bool ((List.range n).any fun k => decide (g k = v)) ∧ h = []) := by
  have hI := index_ok n g v hn
  have e1 : decide (0 ≤ idxP n (fun k => decide (v = g k)) n 0) = (List.range n).any fun k => decide (g k = v) := by
    rw [Bool.eq_iff_iff, decide_eq_true_eq, idxP_any, List.any_eq_true]
    constructor
    · rintro ⟨j, _, hj, h⟩
      exact ⟨j, List.mem_range.2 (by omega), decide_eq_true (of_decide_eq_true h).symm⟩
    · rintro ⟨k, hk, h⟩
      exact ⟨k, by omega, by have := List.mem_range.1 hk; omega, decide_eq_true (of_decide_eq_true h).symm⟩
  rw [← e1]
  (refine fcall_of mixed Try.func79 rfl (by decide) (hs := {}) ?k (ac := ?ac) ?c (rs := ?rs) ?r ?l ?H; (case k => kernel_rfl); (case c => (conv => (lhs; cbv))); (case r => (conv => (lhs; cbv))); (case l => exact Nat.le_of_ble_eq_true rfl))
  (repeat' ((try (conv => whnf)); first | (with_reducible first | refine FCond.tA ?_ | refine FCond.fA ?_) | ((with_reducible refine FCond.i (fun hq => ?_) (fun hq => ?_)) <;> (try simp only [zA, zE, zD, zJ, zB, zI, Int.not_le, Int.not_lt] at hq)) | (with_reducible first | refine Fits.in64 (by omega) ?_ | refine FIdx.nat (by omega) ?_ | refine FIdx.int (by omega) ?_ | refine FTo.nat (by omega) ?_ | refine FTo.int (by omega) ?_) | ((with_reducible refine Need.mk ?_ ?_); focus exact needA) | (with_reducible refine FApp.grow ?_) | (refine FCall.pure (hI) ⟨Ln.sameB _ rfl, Ln.sameB _ rfl, True.intro⟩ rfl ?_) | (with_reducible refine FOr.pub ?_)))
  all_goals (try (conv => whnf))
  all_goals ((refine ⟨⟨_, [], [], Cut.nil _, Ln.sameB _ rfl, ?_, rfl⟩⟩); rfl)
def midN (m : List Int) (r c k : Nat) : Int := if k < c then cntC m k (r + 1) else cntC m k r
theorem any_no {p : Nat → Bool} {n : Nat} (h : ∀ i, i < n → p i = false) : (List.range n).any p = false := by
  rw [List.any_eq_false]; exact fun i hi => by rw [h i (List.mem_range.1 hi)]; decide
theorem any_yes {p : Nat → Bool} {n i : Nat} (hi : i < n) (h : p i = true) : (List.range n).any p = true := List.any_eq_true.2 ⟨i, List.mem_range.2 hi, h⟩
theorem lone_ok (f : ShF) (s : Sheet) (hs : SheetOk s) (z e : Bool) (m : List Int) (hm : MaskOk s m) : ACall Try.prog 68 [iSt f s z e m] [] (fun v h => v = .bool (loneS s m) ∧ h = []) := by
  have r4 := hs.r4
  have c4 := hs.c4
  have hml := hm.len
  have cC := colsP_ok f s (by have := hs.r1; omega) z e m
  (refine fcall_of mixed Try.func68 rfl (by decide) (hs := {}) ?k (ac := ?ac) ?c (rs := ?rs) ?r ?l ?H; (case k => kernel_rfl); (case c => (conv => (lhs; cbv))); (case r => (conv => (lhs; cbv))); (case l => exact Nat.le_of_ble_eq_true rfl))
  (repeat' ((try (conv => whnf)); first | (with_reducible first | refine FCond.tA ?_ | refine FCond.fA ?_) | ((with_reducible refine FCond.i (fun hq => ?_) (fun hq => ?_)) <;> (try simp only [zA, zE, zD, zJ, zB, zI, Int.not_le, Int.not_lt] at hq)) | (with_reducible first | refine Fits.in64 (by omega) ?_ | refine FIdx.nat (by omega) ?_ | refine FIdx.int (by omega) ?_ | refine FTo.nat (by omega) ?_ | refine FTo.int (by omega) ?_) | ((with_reducible refine Need.mk ?_ ?_); focus exact needA) | (with_reducible refine FApp.grow ?_) | (refine FCall.pure (cC) ⟨Ln.sameB _ rfl, True.intro⟩ rfl ?_) | (with_reducible refine FOr.pub ?_)))
  all_goals (try (conv => whnf))
  refine FLoop.of (ACalls.mono _) (X := Nat) (fun r => [(3, .own 0 s.C), (13, aInts z e m), (14, AI m.length), (15, AI r)]) (fun r => [rowF s.C (fun c => cntC m c r)]) (fun r => r ≤ s.R ∧ ∀ k, k < r → decide (pop (m.getD k 0).toNat = 1) = false) (fun r => s.R - r) 0
    ⟨⟨Nat.zero_le _, fun k hk => absurd hk (Nat.not_lt_zero k)⟩, [0], Cut.of (Nat.le_of_ble_eq_true rfl) rfl rfl (CutL.turned rfl (LnB.rowE (by simp) fun k hk o ho => by obtain rfl : o = 0 := (by omega); rfl) CutL.done), ⟨Ln.ownE rfl (by simp), Ln.A, Ln.A, Ln.A, True.intro⟩⟩ ?_
  rintro r ⟨hr, hup⟩
  by_cases hlt : r < s.R
  · obtain ⟨b, hb, hb16, _⟩ := mask_16 hs hm hlt
    have cN := ones_ok b hb16
    have hbN : (m.getD r 0).toNat = b := by rw [hb]; rfl
    by_cases h1 : pop b = 1
    · rw [show loneS s m = true from by unfold loneS; rw [any_yes hlt (by rw [hbN]; exact decide_eq_true h1)]; rfl]
      (repeat' ((try (conv => whnf)); first | (with_reducible first | refine FCond.tA ?_ | refine FCond.fA ?_) | ((with_reducible refine FCond.i (fun hq => ?_) (fun hq => ?_)) <;> (try simp only [zA, zE, zD, zJ, zB, zI, Int.not_le, Int.not_lt] at hq)) | (with_reducible first | refine Fits.in64 (by omega) ?_ | refine FIdx.nat (by omega) ?_ | refine FIdx.int (by omega) ?_ | refine FTo.nat (by omega) ?_ | refine FTo.int (by omega) ?_) | ((with_reducible refine Need.mk ?_ ?_); focus exact needA) | (with_reducible refine FApp.grow ?_) | (rw [hb]; refine Fits.inU (by omega) ?_) | (refine FCall.pure (cN) ⟨Ln.sameB _ rfl, True.intro⟩ rfl ?_) | (with_reducible refine FOr.pub ?_)))
      all_goals (try (conv => whnf))
      all_goals ((refine ⟨⟨_, [], [], Cut.nil _, Ln.sameB _ rfl, ?_, rfl⟩⟩); rfl)
    · (repeat' ((try (conv => whnf)); first | (with_reducible first | refine FCond.tA ?_ | refine FCond.fA ?_) | ((with_reducible refine FCond.i (fun hq => ?_) (fun hq => ?_)) <;> (try simp only [zA, zE, zD, zJ, zB, zI, Int.not_le, Int.not_lt] at hq)) | (with_reducible first | refine Fits.in64 (by omega) ?_ | refine FIdx.nat (by omega) ?_ | refine FIdx.int (by omega) ?_ | refine FTo.nat (by omega) ?_ | refine FTo.int (by omega) ?_) | ((with_reducible refine Need.mk ?_ ?_); focus exact needA) | (with_reducible refine FApp.grow ?_) | (rw [hb]; refine Fits.inU (by omega) ?_) | (refine FCall.pure (cN) ⟨Ln.sameB _ rfl, True.intro⟩ rfl ?_) | (with_reducible refine FOr.pub ?_)))
      all_goals (try (conv => whnf))
      refine FLoop.of (ACalls.mono _) (X := Nat) (fun c => [(3, .own 0 s.C), (5, AI (b : Nat)), (13, aInts z e m), (14, AI m.length), (15, AI r), (24, AI s.C), (25, AI c)]) (fun c => [rowF s.C (midN m r c)]) (fun c => c ≤ s.C) (fun c => s.C - c) 0
        ⟨Nat.zero_le _, [0], Cut.of (Nat.le_of_ble_eq_true rfl) rfl rfl (CutL.turned rfl (LnB.rowE (Nat.le_refl _) fun k hk o ho => by show AI (midN m r 0 k) = AI _; unfold midN; rw [if_neg (Nat.not_lt_zero k)]) CutL.done), ⟨Ln.A, Ln.A, Ln.A, Ln.A, Ln.A, Ln.A, Ln.A, True.intro⟩⟩ ?_
      intro c hc
      by_cases hltc : c < s.C
      · have bc := cntC_bd m c (show r ≤ 4 by omega)
        have hmc : midN m r c c = cntC m c r := by unfold midN; rw [if_neg (Nat.lt_irrefl c)]
        have hmb : 0 ≤ midN m r c c ∧ midN m r c c ≤ 4 := by rw [hmc]; exact bc
        have eo : outS m r c = b.testBit c := by unfold outS; rw [hbN]
        cases hq7 : b.testBit c
        · rw [hq7] at eo
          have hst : ∀ j, midN m r (c + 1) j = if j = c then midN m r c c + 0 else midN m r c j := fun j => by
            unfold midN
            by_cases ej : j = c
            · subst ej; rw [if_pos (Nat.lt_succ_self _), if_pos rfl, if_neg (Nat.lt_irrefl _)]; show cntC m j r + (if outS m r j then 1 else 0) = _; rw [eo]; simp
            · rw [if_neg ej]
              by_cases h : j < c
              · rw [if_pos h, if_pos (by omega)]
              · rw [if_neg h, if_neg (by omega)]
          (repeat' ((try (conv => whnf)); first | (with_reducible first | refine FCond.tA ?_ | refine FCond.fA ?_) | ((with_reducible refine FCond.i (fun hq => ?_) (fun hq => ?_)) <;> (try simp only [zA, zE, zD, zJ, zB, zI, Int.not_le, Int.not_lt] at hq)) | (with_reducible first | refine Fits.in64 (by omega) ?_ | refine FIdx.nat (by omega) ?_ | refine FIdx.int (by omega) ?_ | refine FTo.nat (by omega) ?_ | refine FTo.int (by omega) ?_) | ((with_reducible refine Need.mk ?_ ?_); focus exact needA) | (with_reducible refine FApp.grow ?_) | (refine FBit.shrN rfl (by omega) ?_) | (refine FBit.hasF rfl hq7 ?_) | (with_reducible refine FOr.pub ?_)))
          all_goals (try (conv => whnf))
          exact ⟨⟨c + 1, hltc, by show s.C - (c + 1) < s.C - c; omega, [0], Cut.of (Nat.le_of_ble_eq_true rfl) rfl rfl (CutL.turned rfl (LnB.hitR hst) CutL.done), allA⟩⟩
        · rw [hq7] at eo
          have hst : ∀ j, midN m r (c + 1) j = if j = c then midN m r c c + 1 else midN m r c j := fun j => by
            unfold midN
            by_cases ej : j = c
            · subst ej; rw [if_pos (Nat.lt_succ_self _), if_pos rfl, if_neg (Nat.lt_irrefl _)]; show cntC m j r + (if outS m r j then 1 else 0) = _; rw [eo]; simp
            · rw [if_neg ej]
              by_cases h : j < c
              · rw [if_pos h, if_pos (by omega)]
              · rw [if_neg h, if_neg (by omega)]
          (repeat' ((try (conv => whnf)); first | (with_reducible first | refine FCond.tA ?_ | refine FCond.fA ?_) | ((with_reducible refine FCond.i (fun hq => ?_) (fun hq => ?_)) <;> (try simp only [zA, zE, zD, zJ, zB, zI, Int.not_le, Int.not_lt] at hq)) | (with_reducible first | refine Fits.in64 (by omega) ?_ | refine FIdx.nat (by omega) ?_ | refine FIdx.int (by omega) ?_ | refine FTo.nat (by omega) ?_ | refine FTo.int (by omega) ?_) | ((with_reducible refine Need.mk ?_ ?_); focus exact needA) | (with_reducible refine FApp.grow ?_) | (refine FBit.shrN rfl (by omega) ?_) | (refine FBit.hasT rfl hq7 ?_) | (with_reducible refine FOr.pub ?_)))
          all_goals (try (conv => whnf))
          exact ⟨⟨c + 1, hltc, by show s.C - (c + 1) < s.C - c; omega, [0], Cut.of (Nat.le_of_ble_eq_true rfl) rfl rfl (CutL.turned rfl (LnB.hitR hst) CutL.done), allA⟩⟩
      · have hcE : c = s.C := by omega
        subst hcE
        (repeat' ((try (conv => whnf)); first | (with_reducible first | refine FCond.tA ?_ | refine FCond.fA ?_) | ((with_reducible refine FCond.i (fun hq => ?_) (fun hq => ?_)) <;> (try simp only [zA, zE, zD, zJ, zB, zI, Int.not_le, Int.not_lt] at hq)) | (with_reducible first | refine Fits.in64 (by omega) ?_ | refine FIdx.nat (by omega) ?_ | refine FIdx.int (by omega) ?_ | refine FTo.nat (by omega) ?_ | refine FTo.int (by omega) ?_) | ((with_reducible refine Need.mk ?_ ?_); focus exact needA) | (with_reducible refine FApp.grow ?_) | (with_reducible refine FOr.pub ?_)))
        all_goals (try (conv => whnf))
        exact ⟨⟨r + 1, ⟨hlt, below_step hup (by rw [hbN]; exact decide_eq_false h1)⟩, by show s.R - (r + 1) < s.R - r; omega, [0], Cut.of (Nat.le_of_ble_eq_true rfl) rfl rfl (CutL.turned rfl (LnB.rowE (Nat.le_refl _) fun k hk o ho => by show AI (cntC m k (r + 1)) = AI (midN m r s.C k); unfold midN; rw [if_pos hk]) CutL.done), allA⟩⟩
  · have hrE : r = s.R := by omega
    subst hrE
    have cK := contains_ok s.C (fun c => cntC m c s.R) 1 (by omega)
    rw [show loneS s m = (List.range s.C).any (fun c => decide (cntC m c s.R = 1)) from by unfold loneS; rw [any_no hup, Bool.false_or]]
    (repeat' ((try (conv => whnf)); first | (with_reducible first | refine FCond.tA ?_ | refine FCond.fA ?_) | ((with_reducible refine FCond.i (fun hq => ?_) (fun hq => ?_)) <;> (try simp only [zA, zE, zD, zJ, zB, zI, Int.not_le, Int.not_lt] at hq)) | (with_reducible first | refine Fits.in64 (by omega) ?_ | refine FIdx.nat (by omega) ?_ | refine FIdx.int (by omega) ?_ | refine FTo.nat (by omega) ?_ | refine FTo.int (by omega) ?_) | ((with_reducible refine Need.mk ?_ ?_); focus exact needA) | (with_reducible refine FApp.grow ?_) | (refine FCall.pure cK ⟨Ln.pubE (by decide) rfl (Nat.le_refl _) rfl (fun _ _ _ _ => rfl), Ln.A, True.intro⟩ rfl ?_) | (refine FCall.lend [0] cK ⟨Ln.pubE (by decide) rfl (Nat.le_refl _) rfl (fun _ _ _ _ => rfl), Ln.A, True.intro⟩ rfl trivial ?_) | (with_reducible refine FOr.pub ?_)))
    all_goals (try (conv => whnf))
    all_goals ((refine ⟨⟨_, [], [], Cut.nil _, Ln.sameB _ rfl, ?_, rfl⟩⟩); rfl)
end Go.Proofs.Ytlffjnmbpoemnaa
